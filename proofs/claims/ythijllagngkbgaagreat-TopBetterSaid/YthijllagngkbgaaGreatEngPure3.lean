/- The engine, part 6: all operations that touch no memory in one function, and that the model's operations do the same. -/
import Derived.Test.YthijllagngkbgaaGreatEngPure2
namespace Go.Proofs.YthijllagngkbgaaGreat.Eng
open Go
variable {ds : List Deferred}

def intAt : Value → Option Int
  | .int _ n => some n
  | _ => none

theorem intAt_rel {ρ : Where} {v v' : Value} {n : Int} (h : intAt v = some n) (hr : VRel ρ v v') : ∃ k, v = .int k n ∧ v' = .int k n := by
  unfold intAt at h
  split at h
  · obtain rfl := Option.some.inj h; cases hr; exact ⟨_, rfl, rfl⟩
  · cases h

/-- a bound of a slice, none: the one that stands for it -/
def boundAt (x : Option Value) (other : Nat) (most : Nat) : Option Nat :=
  match x with
  | none => some other
  | some v => (intAt v).bind fun i => if 0 ≤ i ∧ i ≤ (most : Int) then some i.toNat else none

def asliceAt (P : Program) (t : TypeId) (x : Value) (lo hi mx : Option Value) : Option Value :=
  if mx.isSome && hi.isNone then none else
  match P.underlying t, x with
  | some (.slice e), .slice (some ⟨i, o, sp⟩) n c =>
    (szOf P e).bind fun s => (boundAt mx c c).bind fun m => (boundAt hi n m).bind fun h => (boundAt lo 0 h).bind fun l =>
      if mx.isSome then some (.slice (some ⟨i, o + l * s, none⟩) (h - l) (m - l))
      else if sp = none ∨ sp = some s then some (.slice (some ⟨i, o + l * s, sp⟩) (h - l) (m - l)) else none
  | some (.slice e), .slice none 0 0 =>
    (szOf P e).bind fun _ => (boundAt mx 0 0).bind fun m => (boundAt hi 0 m).bind fun h => (boundAt lo 0 h).bind fun l => some (.slice none (h - l) (m - l))
  | some (.array n e), .pointer (some ⟨i, o, none⟩) =>
    (szOf P e).bind fun s => (boundAt mx n n).bind fun m => (boundAt hi n m).bind fun h => (boundAt lo 0 h).bind fun l =>
      some (.slice (some ⟨i, o + l * s, none⟩) (h - l) (m - l))
  | _, _ => none

def aindexAddr (P : Program) (t : TypeId) (x ix : Value) : Option Value :=
  match P.underlying t, x with
  | some (.slice e), .slice (some ⟨i, o, _⟩) n _ =>
    (szOf P e).bind fun s => (intAt ix).bind fun k => if 0 ≤ k ∧ k < (n : Int) then some (.pointer (some ⟨i, o + k.toNat * s, none⟩)) else none
  | some (.array n e), .pointer (some ⟨i, o, none⟩) =>
    (szOf P e).bind fun s => (intAt ix).bind fun k => if 0 ≤ k ∧ k < (n : Int) then some (.pointer (some ⟨i, o + k.toNat * s, none⟩)) else none
  | _, _ => none

def aindex (P : Program) (t : TypeId) (x ix : Value) : Option Value :=
  match P.underlying t, x with
  | some (.array n e), .agg cs => (szOf P e).bind fun s => (intAt ix).bind fun k => if 0 ≤ k ∧ k < (n : Int) then apart P e cs (k.toNat * s) else none
  | some .string, .string s => (intAt ix).bind fun k => if 0 ≤ k then (s.data.toList[k.toNat]?).map fun c => .int .u8 (c.toNat : Int) else none
  | _, _ => none

def afieldAddr (P : Program) (t : TypeId) (x : Value) (f : Nat) : Option Value :=
  match P.underlying t, x with
  | some (.struct fs), .pointer (some ⟨i, o, none⟩) => (fs[f]?).bind fun g => (szOf P g.type).bind fun s => if s = 0 then none else some (.pointer (some ⟨i, o + g.offset, none⟩))
  | _, _ => none

def afield (P : Program) (t : TypeId) (x : Value) (f : Nat) : Option Value :=
  match P.underlying t, x with
  | some (.struct fs), .agg cs => (fs[f]?).bind fun g => apart P g.type cs g.offset
  | _, _ => none

/-- parts put into cells -/
def afill (place : Nat → Option (Nat × Nat)) (cells : List Value) : List (Nat × Value) → Option (List Value)
  | [] => some cells
  | (i, v) :: rest =>
    match place i with
    | none => none
    | some (off, size) =>
      let vs := v.cells.toList
      if vs.length = size ∧ off + vs.length ≤ cells.length then afill place (over cells off vs) rest else none

def zeroCellsOf (P : Program) (t : TypeId) : Option (List Value) :=
  (P.info? t).bind fun i => i.zero.bind fun z => if z.cells.toList.all flat then some z.cells.toList else none

def placesOf (P : Program) : List Field → Option (List (Nat × Nat))
  | [] => some []
  | f :: r => (szOf P f.type).bind fun s => (placesOf P r).map ((f.offset, s) :: ·)

def abuild (P : Program) (t : TypeId) (parts : List (Nat × Value)) : Option Value :=
  match P.underlying t with
  | some (.struct fs) => (zeroCellsOf P t).bind fun z => (placesOf P fs.toList).bind fun ps => (afill (fun i => ps[i]?) z parts).map fun cs => .agg cs.toArray
  | some (.array _ e) => (zeroCellsOf P t).bind fun z => (szOf P e).bind fun s => (afill (fun i => some (i * s, s)) z parts).map fun cs => .agg cs.toArray
  | _ => none

def rparts (T : Env) : List (Nat × Operand) → Option (List (Nat × Value))
  | [] => some []
  | (i, x) :: r => (rv T x).bind fun v => (rparts T r).map ((i, v) :: ·)

def rvo (T : Env) : Option Operand → Option (Option Value)
  | none => some none
  | some x => (rv T x).map some

def anil (x : Value) : Option Value :=
  match x with
  | .pointer (some a) => some (.pointer (some a))
  | .func (.func f) x y => some (.func (.func f) x y)
  | _ => none

def aconvert (P : Program) (src dst : TypeId) (x : Value) : Option Value :=
  match P.underlying src, P.underlying dst, x with
  | some _, some (.int k), .int _ n => some (.int k (k.wrap n))
  | some _, some (.int k), .complex .f64 r m => (kindNo k).bind fun j => (findK (m / 4096) (m / 16 % 256) j).map fun o => .complex .f64 r (4096 * (m / 4096) + 16 * o + j)
  | _, _, _ => none

def alen (P : Program) (t : TypeId) (x : Value) : Option Value :=
  match P.underlying t, x with
  | some (.slice _), .slice _ n _ => some (.int .i64 n)
  | some (.array n _), _ => some (.int .i64 n)
  | _, _ => none

def amm (big : Bool) (x : Value) : List Value → Option Value
  | [] => some x
  | y :: r => match x, y with
    | .int k a, .int _ b => amm big (.int k (if big then (if b > a then b else a) else (if b < a then b else a))) r
    | .int k a, .complex .f64 _ m => if big = false ∧ m / 16 % 256 = 100 ∧ a ≤ 10 then amm big (.int k a) r else none
    | _, _ => none

/-- the room of a slice, where it is known -/
def acap (P : Program) (t : TypeId) (v : Value) : Option Value := match P.underlying t, v with
  | some (.slice _), .slice none _ c => some (.int .i64 c)
  | some (.slice _), .slice (some ⟨_, _, none⟩) _ c => some (.int .i64 c)
  | _, _ => none

def apure (P : Program) (T : Env) : Op → Option Value
  | .move x | .assign x => rv T x
  | .pick c a b => match rv T c with
    | some (.bool true) => rv T a
    | some (.bool false) => rv T b
    | _ => none
  | .build t parts => (rparts T parts.toList).bind fun ps => abuild P t ps
  | .nilCheck x => (rv T x).bind anil
  | .binOp op t x y _ => (rv T x).bind fun a => (rv T y).bind fun b => abinT P op t a b
  | .unOp op _ x => (rv T x).bind fun a => aun op a
  | .convert s d x => (rv T x).bind fun a => aconvert P s d a
  | .makeFunc fn x y => (rvs T x.toList).bind fun a => (rvs T y.toList).map fun b => .func fn a.toArray b.toArray
  | .slice t x lo hi mx => (rv T x).bind fun a => (rvo T lo).bind fun l => (rvo T hi).bind fun h => (rvo T mx).bind fun m => asliceAt P t a l h m
  | .fieldAddr t x f => (rv T x).bind fun a => afieldAddr P t a f
  | .field t x f => (rv T x).bind fun a => afield P t a f
  | .indexAddr t x i => (rv T x).bind fun a => (rv T i).bind fun k => aindexAddr P t a k
  | .index t x i => (rv T x).bind fun a => (rv T i).bind fun k => aindex P t a k
  | .extract x i => match rv T x with
    | some (.tuple vs) => vs[i]?
    | _ => none
  | .call { callee := .builtin .len, args, argTypes } => match args.toList, argTypes[0]? with
    | [x], some t => (rv T x).bind fun a => alen P t a
    | _, _ => none
  | .call { callee := .builtin .cap, args, argTypes } => match args.toList, argTypes[0]? with
    | [x], some t => (rv T x).bind fun a => acap P t a
    | _, _ => none
  | .call { callee := .builtin .max, args, .. } => (rvs T args.toList).bind fun
    | [] => none
    | x :: r => amm true x r
  | .call { callee := .builtin .min, args, .. } => (rvs T args.toList).bind fun
    | [] => none
    | x :: r => amm false x r
  | _ => none

variable {P : Program} {ρ : Where}


/-- an option of values, related -/
inductive ORel (ρ : Where) : Option Value → Option Value → Prop
  | none : ORel ρ none none
  | some (v v' : Value) (h : VRel ρ v v') : ORel ρ (some v) (some v')

theorem bound_run {v v' : Value} {other most most' m : Nat} (code : BoundsCode) (h : boundAt (some v) other most = some m) (hr : VRel ρ v v') (hm : most ≤ most') (w : World) :
    (Instr.sliceBound v' most' code).run P w = .ok m w ∧ m ≤ most := by
  simp only [boundAt, Option.bind_eq_some_iff] at h
  obtain ⟨i, hi, h⟩ := h
  obtain ⟨k, rfl, rfl⟩ := intAt_rel hi hr
  split at h
  · rename_i hb
    obtain rfl := Option.some.inj h
    have : 0 ≤ i ∧ i ≤ (most' : Int) := by omega
    exact ⟨by simp [Instr.sliceBound, asIntOf, this], by omega⟩
  · cases h

theorem bounds_run {isSlice : Bool} {n c c' m h l : Nat} {mx hi lo mx' hi' lo' : Option Value} (hc : c ≤ c') (hmx : boundAt mx c c = some m) (hhi : boundAt hi n m = some h) (hlo : boundAt lo 0 h = some l)
    (hno : (mx.isSome && hi.isNone) = false) (r1 : ORel ρ mx mx') (r2 : ORel ρ hi hi') (r3 : ORel ρ lo lo') (w : World) :
    (Instr.sliceBounds isSlice n c' lo' hi' mx').run P w = .ok (l, h, if mx.isSome then m else c') w := by
  unfold Instr.sliceBounds
  cases r1 with
  | none =>
    obtain rfl := Option.some.inj hmx
    cases r2 with
    | none =>
      obtain rfl := Option.some.inj hhi
      cases r3 with
      | none => obtain rfl := Option.some.inj hlo; simp
      | some v v' r => simp [bound_run _ hlo r (Nat.le_refl _) w]
    | some u u' r2 =>
      cases r3 with
      | none => obtain rfl := Option.some.inj hlo; simp [bound_run _ hhi r2 hc w]
      | some v v' r => simp [bound_run _ hhi r2 hc w, bound_run _ hlo r (Nat.le_refl _) w]
  | some y y' r1 =>
    cases r2 with
    | none => simp at hno
    | some u u' r2 =>
      cases r3 with
      | none => obtain rfl := Option.some.inj hlo; simp [bound_run _ hmx r1 hc w, bound_run _ hhi r2 (Nat.le_refl _) w]
      | some v v' r => simp [bound_run _ hmx r1 hc w, bound_run _ hhi r2 (Nat.le_refl _) w, bound_run _ hlo r (Nat.le_refl _) w]

theorem boundAt_le {x : Option Value} {other most m : Nat} (h : boundAt x other most = some m) : m ≤ most ∨ (x = none ∧ m = other) := by
  unfold boundAt at h
  cases x with
  | none => obtain rfl := Option.some.inj h; exact .inr ⟨rfl, rfl⟩
  | some v =>
    simp only [Option.bind_eq_some_iff] at h
    obtain ⟨i, _, h⟩ := h
    split at h
    · obtain rfl := Option.some.inj h; exact .inl (by omega)
    · cases h

theorem asliceAt_run {t : TypeId} {x x' v : Value} {lo hi mx lo' hi' mx' : Option Value} (h : asliceAt P t x lo hi mx = some v) (hx : VRel ρ x x') (r1 : ORel ρ mx mx') (r2 : ORel ρ hi hi') (r3 : ORel ρ lo lo') :
    ∃ v', (∀ w, (Instr.sliceAt t x' lo' hi' mx').run P w = .ok v' w) ∧ VRel ρ v v' := by
  unfold asliceAt at h
  split at h
  · cases h
  rename_i hno
  have hno : (mx.isSome && hi.isNone) = false := by cases e : (mx.isSome && hi.isNone) <;> simp_all
  split at h
  · rename_i e i o sp n c hu
    simp only [Option.bind_eq_some_iff] at h
    obtain ⟨s, hs, m, hm, hh, hhi, l, hl, h⟩ := h
    cases hx with
    | slice _ _ _ _ _ a' c' L hL hn ha hc =>
      have hcc : c ≤ c' := by
        rcases hc with rfl | ⟨_, _, h, _⟩
        · exact Nat.le_refl _
        · exact h
      have hmc : m ≤ c := by rcases boundAt_le hm with h | ⟨_, rfl⟩ <;> omega
      have hhm : hh ≤ m := by
        rcases boundAt_le hhi with h | ⟨e1, rfl⟩
        · exact h
        · cases hmx : mx with
          | some y => rw [hmx, e1] at hno; simp at hno
          | none => rw [hmx] at hm; obtain rfl := Option.some.inj hm; exact hn
      have hlh : l ≤ hh := by rcases boundAt_le hl with h | ⟨_, rfl⟩ <;> omega
      have hrun := fun w => bounds_run (P := P) (isSlice := true) hcc hm hhi hl hno r1 r2 r3 w
      cases hmx : mx with
      | some y =>
        rw [hmx] at h hrun
        simp only [Option.isSome_some, if_true] at h hrun
        obtain rfl := Option.some.inj h
        refine ⟨.slice (if m = l then some a' else (some a').map (·.add (l * s))) (hh - l) (m - l), fun w => ?_, ?_⟩
        · simp [Instr.sliceAt, run_underlying hu, Instr.slice, hrun w, run_size hs]
        · by_cases hml : m = l
          · rw [if_pos hml]
            exact .slice _ _ _ _ _ _ _ L hL (by omega) (by intro h; omega) (.inl rfl)
          · rw [if_neg hml]
            have ea := ha (by omega)
            subst ea
            simp only [Option.map_some, addr_add]
            exact .slice _ _ _ _ _ _ _ L hL (by omega) (by intro _; simp; omega) (.inl rfl)
      | none =>
        rw [hmx] at h hrun hm
        obtain rfl := Option.some.inj hm
        simp only [Option.isSome_none, Bool.false_eq_true, if_false] at h hrun
        split at h
        · rename_i hsp
          obtain rfl := Option.some.inj h
          refine ⟨.slice (if c' = l then some a' else (some a').map (·.add (l * s))) (hh - l) (c' - l), fun w => ?_, ?_⟩
          · simp [Instr.sliceAt, run_underlying hu, Instr.slice, hrun w, run_size hs]
          · have room : Roomy L (o + l * s) sp (c - l) (c' - l) := by
              rcases hc with rfl | ⟨e1, he, h1, h2, h3⟩
              · exact .inl rfl
              · subst he
                rcases hsp with hsp | hsp
                · cases hsp
                · obtain rfl := Option.some.inj hsp
                  refine .inr ⟨e1, rfl, by omega, ?_, ?_⟩
                  · rw [← h2, Nat.add_assoc, ← Nat.add_mul]; congr 2; omega
                  · have : o + l * e1 + (c' - l) * e1 = o + c' * e1 := by rw [Nat.add_assoc, ← Nat.add_mul]; congr 2; omega
                    omega
            by_cases hml : c' = l
            · rw [if_pos hml]
              exact .slice _ _ _ _ _ _ _ L hL (by omega) (by intro h; omega) room
            · rw [if_neg hml]
              have ea := ha (by omega)
              subst ea
              simp only [Option.map_some, addr_add]
              exact .slice _ _ _ _ _ _ _ L hL (by omega) (by intro _; simp; omega) room
        · cases h
  · rename_i e hu
    simp only [Option.bind_eq_some_iff] at h
    obtain ⟨s, hs, m, hm, hh, hhi, l, hl, h⟩ := h
    obtain rfl := Option.some.inj h
    cases hx with
    | sliceNil =>
      have hrun := fun w => bounds_run (P := P) (isSlice := true) (Nat.le_refl 0) hm hhi hl hno r1 r2 r3 w
      have hm0 : m = 0 := by rcases boundAt_le hm with h | ⟨_, rfl⟩ <;> omega
      subst hm0
      have : (if mx.isSome then 0 else 0) = 0 := by split <;> rfl
      refine ⟨.slice none (hh - l) (0 - l), fun w => ?_, ?_⟩
      · simp only [Instr.sliceAt, Sem.run_bind, run_underlying hu, Result.andThen_ok, Instr.slice, hrun w, run_size hs, this, Sem.run_pure]
        simp
      · exact .sliceNil _ _
  · rename_i n e i o hu
    simp only [Option.bind_eq_some_iff] at h
    obtain ⟨s, hs, m, hm, hh, hhi, l, hl, h⟩ := h
    obtain rfl := Option.some.inj h
    cases hx with
    | ptr _ _ L hL =>
      have hmc : m ≤ n := by rcases boundAt_le hm with h | ⟨_, rfl⟩ <;> omega
      have hhm : hh ≤ m := by
        rcases boundAt_le hhi with h | ⟨e1, rfl⟩
        · exact h
        · cases hmx : mx with
          | some y => rw [hmx, e1] at hno; simp at hno
          | none => rw [hmx] at hm; obtain rfl := Option.some.inj hm; exact Nat.le_refl _
      have hlh : l ≤ hh := by rcases boundAt_le hl with h | ⟨_, rfl⟩ <;> omega
      have hrun := fun w => bounds_run (P := P) (isSlice := false) (Nat.le_refl n) hm hhi hl hno r1 r2 r3 w
      have hmm : (if mx.isSome then m else n) = m := by
        cases hmx : mx with
        | some y => rfl
        | none => rw [hmx] at hm; exact Option.some.inj hm
      rw [hmm] at hrun
      refine ⟨.slice (some (if m = l then ⟨L.blk, L.off + o, none⟩ else (⟨L.blk, L.off + o, none⟩ : Addr).add (l * s))) (hh - l) (m - l), fun w => ?_, ?_⟩
      · simp [Instr.sliceAt, run_underlying hu, Instr.sureAddr, hrun w, run_size hs]
      · by_cases hml : m = l
        · rw [if_pos hml]
          exact .slice _ _ _ _ _ _ _ L hL (by omega) (by intro h; omega) (.inl rfl)
        · rw [if_neg hml, addr_add]
          exact .slice _ _ _ _ _ _ _ L hL (by omega) (by intro _; simp; omega) (.inl rfl)
  · cases h

theorem aindexAddr_run {t : TypeId} {x x' ix ix' v : Value} (h : aindexAddr P t x ix = some v) (hx : VRel ρ x x') (hi : VRel ρ ix ix') :
    ∃ v', (∀ w, (Instr.indexAt t x' ix').run P w = .ok v' w) ∧ VRel ρ v v' := by
  unfold aindexAddr at h
  split at h
  · rename_i e i o sp n c hu
    simp only [Option.bind_eq_some_iff] at h
    obtain ⟨s, hs, k, hk, h⟩ := h
    split at h
    · rename_i hb
      obtain rfl := Option.some.inj h
      obtain ⟨kk, rfl, rfl⟩ := intAt_rel hk hi
      cases hx with
      | slice _ _ _ _ _ a' c' L hL hn ha hc =>
        have hcc : c ≤ c' := by
          rcases hc with rfl | ⟨_, _, h, _⟩
          · exact Nat.le_refl _
          · exact h
        have ea := ha (by omega)
        subst ea
        refine ⟨.pointer (some ⟨L.blk, L.off + (o + k.toNat * s), none⟩), fun w => ?_, .ptr _ _ _ hL⟩
        simp [Instr.indexAt, asIntOf, run_underlying hu, hb, run_size hs, addr_add, Nat.add_assoc]
    · cases h
  · rename_i n e i o hu
    simp only [Option.bind_eq_some_iff] at h
    obtain ⟨s, hs, k, hk, h⟩ := h
    split at h
    · rename_i hb
      obtain rfl := Option.some.inj h
      obtain ⟨kk, rfl, rfl⟩ := intAt_rel hk hi
      cases hx with
      | ptr _ _ L hL =>
        refine ⟨.pointer (some ⟨L.blk, L.off + (o + k.toNat * s), none⟩), fun w => ?_, .ptr _ _ _ hL⟩
        simp [Instr.indexAt, asIntOf, run_underlying hu, Instr.sureAddr, hb, run_size hs, addr_add, Nat.add_assoc]
    · cases h
  · cases h

theorem aindex_run {t : TypeId} {x x' ix ix' v : Value} (h : aindex P t x ix = some v) (hx : VRel ρ x x') (hi : VRel ρ ix ix') :
    ∃ v', (∀ w, (Instr.index t x' ix').run P w = .ok v' w) ∧ VRel ρ v v' := by
  unfold aindex at h
  split at h
  · rename_i n e cs hu
    simp only [Option.bind_eq_some_iff] at h
    obtain ⟨s, hs, k, hk, h⟩ := h
    split at h
    · rename_i hb
      obtain ⟨kk, rfl, rfl⟩ := intAt_rel hk hi
      cases hx with
      | agg _ cs' hx =>
        obtain ⟨v', hv', hr⟩ := part_rel h hx
        exact ⟨v', fun w => by simp [Instr.index, asIntOf, run_underlying hu, hb, run_size hs, hv' w], hr⟩
    · cases h
  · rename_i s hu
    simp only [Option.bind_eq_some_iff] at h
    obtain ⟨k, hk, h⟩ := h
    split at h
    · rename_i hb
      obtain ⟨c, hc, rfl⟩ := Option.map_eq_some_iff.mp h
      obtain ⟨kk, rfl, rfl⟩ := intAt_rel hk hi
      cases hx
      refine ⟨_, fun w => ?_, .int _ _⟩
      have e : s[k.toNat]? = some c := by
        obtain ⟨q1, q2⟩ := List.getElem?_eq_some_iff.mp hc
        have hq : k.toNat < s.size := by
          rw [Array.length_toList] at q1
          exact q1
        have h2 : s[k.toNat] = c := by
          rw [← q2, Array.getElem_toList]; rfl
        rw [getElem?_pos s k.toNat hq, h2]
      simp [Instr.index, asIntOf, run_underlying hu, hb, e]
    · cases h
  · cases h

theorem afieldAddr_run {t : TypeId} {x x' v : Value} {f : Nat} (h : afieldAddr P t x f = some v) (hx : VRel ρ x x') : ∃ v', (∀ w, (Instr.fieldAt t x' f).run P w = .ok v' w) ∧ VRel ρ v v' := by
  unfold afieldAddr at h
  split at h
  · rename_i fs i o hu
    simp only [Option.bind_eq_some_iff] at h
    obtain ⟨g, hg, s, hs, h⟩ := h
    split at h
    · cases h
    · rename_i h0
      obtain rfl := Option.some.inj h
      cases hx with
      | ptr _ _ L hL =>
        refine ⟨.pointer (some ⟨L.blk, L.off + (o + g.offset), none⟩), fun w => ?_, .ptr _ _ _ hL⟩
        simp [Instr.fieldAt, run_underlying hu, hg, Instr.sureAddr, fieldPlace, run_size hs, h0, addr_add, Nat.add_assoc]
  · cases h

theorem afield_run {t : TypeId} {x x' v : Value} {f : Nat} (h : afield P t x f = some v) (hx : VRel ρ x x') : ∃ v', (∀ w, (Instr.field t x' f).run P w = .ok v' w) ∧ VRel ρ v v' := by
  unfold afield at h
  split at h
  · rename_i fs cs hu
    simp only [Option.bind_eq_some_iff] at h
    obtain ⟨g, hg, h⟩ := h
    cases hx with
    | agg _ cs' hx =>
      obtain ⟨v', hv', hr⟩ := part_rel h hx
      exact ⟨v', fun w => by simp [Instr.field, run_underlying hu, hg, asAgg, hv' w], hr⟩
  · cases h

/-! ### build -/
theorem foldl_set (off : Nat) : ∀ (vs : List Value) (k : Nat) (cs : Array Value), off + k + vs.length ≤ cs.size →
    ((vs.zipIdx k).foldl (fun (cs : Array Value) (p : Value × Nat) => cs.setIfInBounds (off + p.2) p.1) cs) = splice cs (off + k) vs := by
  intro vs
  induction vs with
  | nil => intro k cs _; simp [splice]
  | cons v vs ih =>
    intro k cs h
    simp only [List.length_cons] at h
    simp only [List.zipIdx_cons, List.foldl_cons]
    rw [ih (k + 1) _ (by simp; omega)]
    apply Array.ext'
    apply List.ext_getElem?
    intro n
    simp only [splice, Array.toList_setIfInBounds, List.length_cons, List.getElem?_append, List.length_take, List.length_append, List.length_set, List.getElem?_take, List.getElem?_set,
      List.getElem?_drop, Array.length_toList]
    by_cases h1 : n < off + k
    · rw [if_pos (by omega), if_pos (by omega), if_pos (by omega), if_neg (by omega), if_pos (by omega), if_pos (by omega), if_pos (by omega)]
    · by_cases h2 : n = off + k
      · subst h2
        rw [if_pos (by omega), if_pos (by omega), if_pos (by omega), if_pos (by omega), if_pos (by omega), if_pos (by omega), if_neg (by omega), show off + k - min (off + k) cs.size = 0 by omega]
        simp
      · by_cases h3 : n < off + k + 1 + vs.length
        · rw [if_pos (by omega), if_neg (by omega), if_pos (by omega), if_neg (by omega)]
          rw [show n - min (off + k) cs.size = (n - min (off + (k + 1)) cs.size) + 1 by omega, List.getElem?_cons_succ]
        · rw [if_neg (by omega), if_neg (by omega), if_neg (by omega)]
          congr 1; omega

theorem vrels_cells {v v' : Value} (h : VRel ρ v v') : VRels ρ v.cells.toList v'.cells.toList := by
  cases h with
  | agg _ _ h => exact h
  | bool b => exact .cons _ _ _ _ (.bool b) .nil
  | int k n => exact .cons _ _ _ _ (.int k n) .nil
  | string s => exact .cons _ _ _ _ (.string s) .nil
  | ptrNil => exact .cons _ _ _ _ .ptrNil .nil
  | ptr i o l h => exact .cons _ _ _ _ (.ptr i o l h) .nil
  | sliceNil n c => exact .cons _ _ _ _ (.sliceNil n c) .nil
  | slice i o spot n c a' c' l h hn ha hc => exact .cons _ _ _ _ (.slice i o spot n c a' c' l h hn ha hc) .nil
  | func fn x y x' y' hx hy => exact .cons _ _ _ _ (.func fn x y x' y' hx hy) .nil
  | nilFunc => exact .cons _ _ _ _ .nilFunc .nil
  | chanNil => exact .cons _ _ _ _ .chanNil .nil
  | chan i cap l h hk => exact .cons _ _ _ _ (.chan i cap l h hk) .nil
  | mapNil => exact .cons _ _ _ _ .mapNil .nil
  | map i l h hk => exact .cons _ _ _ _ (.map i l h hk) .nil
  | nilIface => exact .cons _ _ _ _ .nilIface .nil
  | iface t v v' h => exact .cons _ _ _ _ (.iface t v v' h) .nil
  | tuple x x' h => exact .cons _ _ _ _ (.tuple x x' h) .nil
  | tok i m v' h =>
    obtain ⟨l, p, q, h1, h2, h3, rfl⟩ := h
    exact .cons _ _ _ _ (.tok i m _ ⟨l, p, q, h1, h2, h3, rfl⟩) .nil

theorem over_rels {cs cs' vs vs' : List Value} (o : Nat) (h : VRels ρ cs cs') (hv : VRels ρ vs vs') : VRels ρ (over cs o vs) (over cs' o vs') := by
  unfold over
  rw [hv.length]
  exact ((h.take o).append hv).append (h.drop _)

/-- numbered parts, related -/
inductive PRels (ρ : Where) : List (Nat × Value) → List (Nat × Value) → Prop
  | nil : PRels ρ [] []
  | cons (i : Nat) (v v' : Value) (r r' : List (Nat × Value)) (h : VRel ρ v v') (t : PRels ρ r r') : PRels ρ ((i, v) :: r) ((i, v') :: r')

theorem ERel.rparts {n : Nat} {T : Env} {a : Act} (h : ERel ds ρ n T a) : ∀ {xs : List (Nat × Operand)} {vs : List (Nat × Value)}, rparts T xs = some vs → PRels ρ vs (xs.map fun (i, x) => (i, a.eval x))
  | [], vs, hx => by obtain rfl := Option.some.inj hx; exact .nil
  | (i, x) :: r, vs, hx => by
    simp only [Eng.rparts, Option.bind_eq_some_iff, Option.map_eq_some_iff] at hx
    obtain ⟨v, hv, us, hu, rfl⟩ := hx
    exact .cons _ _ _ _ _ (h.rv hv) (ERel.rparts h hu)

theorem afill_run {place place' : Nat → Option (Nat × Nat)} (hp : ∀ i, place i = place' i) : ∀ {parts parts' : List (Nat × Value)} {cs out : List Value} {ccs : Array Value},
    afill place cs parts = some out → VRels ρ cs ccs.toList → PRels ρ parts parts' → ∃ r, Instr.fill place' ccs parts' = some r ∧ VRels ρ out r.toList
  | [], parts', cs, out, ccs, h, hc, hr => by
    cases hr
    obtain rfl := Option.some.inj h
    exact ⟨ccs, rfl, hc⟩
  | (i, v) :: rest, parts', cs, out, ccs, h, hc, hr => by
    cases hr with
    | cons _ _ v' _ rest' hv ht =>
      unfold afill at h
      cases hpl : place i with
      | none => rw [hpl] at h; cases h
      | some q =>
        obtain ⟨off, size⟩ := q
        rw [hpl] at h
        simp only [] at h
        split at h
        · rename_i hsz
          have hvs := vrels_cells hv
          have hl := hvs.length
          have hcl := hc.length
          simp only [Array.length_toList] at hl hcl hsz
          have e : (v'.cells.zipIdx.foldl (fun (cs : Array Value) (p : Value × Nat) => cs.setIfInBounds (off + p.2) p.1) ccs) = splice ccs off v'.cells.toList := by
            rw [← Array.foldl_toList, Array.toList_zipIdx]
            have := foldl_set off v'.cells.toList 0 ccs (by simp; omega)
            simpa using this
          have hc2 : VRels ρ (over cs off v.cells.toList) (splice ccs off v'.cells.toList).toList := by
            simp only [splice]
            exact over_rels off hc hvs
          obtain ⟨r, h1, h2⟩ := afill_run hp h hc2 ht
          refine ⟨r, ?_, h2⟩
          unfold Instr.fill
          rw [← hp, hpl]
          simp only []
          rw [if_neg (by simp; omega), e]
          exact h1
        · cases h

theorem run_zero {t : TypeId} {z : List Value} (h : zeroCellsOf P t = some z) : ∃ v : Value, (∀ w, (zeroValue t).run P w = .ok v w) ∧ v.cells.toList = z ∧ VRels ρ z v.cells.toList := by
  unfold zeroCellsOf at h
  simp only [Option.bind_eq_some_iff] at h
  obtain ⟨i, hi, v, hv, h⟩ := h
  split at h
  · rename_i hf
    obtain rfl := Option.some.inj h
    exact ⟨v, fun w => by simp [zeroValue, run_typeInfo w hi, hv], rfl, flats_rel ρ hf⟩
  · cases h

theorem run_places (w : World) : ∀ {fs : List Field} {ps : List (Nat × Nat)}, placesOf P fs = some ps → ((fs.mapM fun f => do pure (f.offset, ← sizeOf f.type) : Sem (List (Nat × Nat)))).run P w = .ok ps w
  | [], ps, h => by obtain rfl := Option.some.inj h; simp
  | f :: r, ps, h => by
    simp only [placesOf, Option.bind_eq_some_iff, Option.map_eq_some_iff] at h
    obtain ⟨s, hs, qs, hq, rfl⟩ := h
    have := run_places w hq
    simp only [List.mapM_cons, Sem.run_bind, run_size hs, Result.andThen_ok, Sem.run_pure]
    rw [this]
    simp

theorem abuild_run {t : TypeId} {parts parts' : List (Nat × Value)} {v : Value} (h : abuild P t parts = some v) (hr : PRels ρ parts parts') :
    ∃ v', (∀ w, (Instr.build t parts'.toArray).run P w = .ok v' w) ∧ VRel ρ v v' := by
  unfold abuild at h
  split at h
  · rename_i fs hu
    simp only [Option.bind_eq_some_iff, Option.map_eq_some_iff] at h
    obtain ⟨z, hz, ps, hps, cs, hcs, rfl⟩ := h
    obtain ⟨zv, hzr, rfl, hzz⟩ := run_zero (ρ := ρ) hz
    obtain ⟨r, hf, hrel⟩ := afill_run (place' := fun i => ps.toArray[i]?) (by intro i; simp) hcs hzz hr
    refine ⟨.agg r, fun w => ?_, .agg _ _ (by simpa using hrel)⟩
    have hp := run_places w hps
    simp only [Instr.build, Sem.run_bind, hzr w, Result.andThen_ok, run_underlying hu, Array.mapM_eq_mapM_toList, Sem.run_map, hp, hf, Sem.run_pure]
  · rename_i n e hu
    simp only [Option.bind_eq_some_iff, Option.map_eq_some_iff] at h
    obtain ⟨z, hz, s, hs, cs, hcs, rfl⟩ := h
    obtain ⟨zv, hzr, rfl, hzz⟩ := run_zero (ρ := ρ) hz
    obtain ⟨r, hf, hrel⟩ := afill_run (place' := fun i => some (i * s, s)) (fun _ => rfl) hcs hzz hr
    refine ⟨.agg r, fun w => ?_, .agg _ _ (by simpa using hrel)⟩
    simp only [Instr.build, Sem.run_bind, hzr w, Result.andThen_ok, run_underlying hu, run_size hs, hf, Sem.run_pure]
  · cases h

/-! ### all of them -/
theorem ERel.rvo {n : Nat} {T : Env} {a : Act} (h : ERel ds ρ n T a) {x : Option Operand} {v : Option Value} (hx : rvo T x = some v) : ORel ρ v (x.map a.eval) := by
  cases x with
  | none => obtain rfl := Option.some.inj hx; exact .none
  | some x =>
    obtain ⟨u, hu, rfl⟩ := Option.map_eq_some_iff.mp hx
    exact .some _ _ (h.rv hu)

theorem amm_run (big : Bool) : ∀ {r r' : List Value} {x x' v : Value}, amm big x r = some v → VRel ρ x x' → VRels ρ r r' →
    ∃ v', (∀ w, (r'.foldlM (if big then Builtin.max2 else Builtin.min2) x').run P w = .ok v' w) ∧ VRel ρ v v'
  | [], r', x, x', v, h, hx, hr => by
    cases hr
    obtain rfl := Option.some.inj h
    exact ⟨x', fun w => by simp, hx⟩
  | y :: r, r', x, x', v, h, hx, hr => by
    cases hr with
    | cons _ y' _ r' hy ht =>
      unfold amm at h
      split at h
      · cases hx; cases hy
        obtain ⟨v', h1, h2⟩ := amm_run big h (.int _ _) ht
        refine ⟨v', fun w => ?_, h2⟩
        have := h1 w
        cases big <;> (simp only [List.foldlM_cons, Sem.run_bind]; simpa [Builtin.max2, Builtin.min2] using this)
      · split at h
        · rename_i k a rr m hb
          obtain ⟨rfl, hm, ha⟩ := hb
          cases hx
          cases hy with
          | tok _ _ _ htk =>
            obtain ⟨l, p, q, h1, h2, h3, rfl⟩ := htk
            obtain ⟨v', g1, g2⟩ := amm_run false h (.int _ _) ht
            refine ⟨v', fun w => ?_, g2⟩
            have := g1 w
            rw [hm]
            have e : ¬ (((valN p q 100 : Nat) : Int) < a) := by
              have h4 : 1 ≤ q := h3.2.2.1
              have e1 : ((valN p q 100 : Nat) : Int) = ((10 * q : Nat) : Int) := rfl
              rw [e1]; omega
            simp only [List.foldlM_cons, Sem.run_bind]
            simpa [Builtin.min2, e] using this
        · cases h
      · cases h

theorem apure_run {n : Nat} {T : Env} {a : Act} {o : Oper} {v : Value} (hE : ERel ds ρ n T a) (h : apure P T o.op = some v) :
    ∃ v', (∀ w, (execOp a.eval o).run P w = .ok (.value v') w) ∧ VRel ρ v v' := by
  obtain ⟨dst, op, type, pos, after, guard⟩ := o
  simp only at h
  unfold apure at h
  have fin : ∀ (s : Sem Value), (∃ v', (∀ w, s.run P w = .ok v' w) ∧ VRel ρ v v') → ∃ v', (∀ w, (do pure (Next.value (← s)) : Sem Next).run P w = .ok (.value v') w) ∧ VRel ρ v v' := by
    rintro s ⟨v', h1, h2⟩
    exact ⟨v', fun w => by simp [h1 w], h2⟩
  split at h
  · exact ⟨_, fun w => by simp [execOp], hE.rv h⟩
  · exact ⟨_, fun w => by simp [execOp], hE.rv h⟩
  · rename_i c x y
    split at h
    · rename_i hc
      have := hE.rv hc
      generalize hev : a.eval c = cv at this
      cases this
      exact ⟨a.eval x, fun w => by simp [execOp, hev, asBool], hE.rv h⟩
    · rename_i hc
      have := hE.rv hc
      generalize hev : a.eval c = cv at this
      cases this
      exact ⟨a.eval y, fun w => by simp [execOp, hev, asBool], hE.rv h⟩
    · cases h
  · rename_i t parts
    simp only [Option.bind_eq_some_iff] at h
    obtain ⟨ps, hps, h⟩ := h
    have hr := hE.rparts hps
    have := fin _ (abuild_run h hr)
    have e : (parts.toList.map fun (i, x) => (i, a.eval x)).toArray = parts.map fun (i, x) => (i, a.eval x) := by apply Array.ext'; simp
    rw [e] at this
    exact this
  · rename_i x
    simp only [Option.bind_eq_some_iff] at h
    obtain ⟨xv, hx, h⟩ := h
    have hr := hE.rv hx
    generalize hev : a.eval x = x' at hr
    unfold anil at h
    split at h
    · obtain rfl := Option.some.inj h
      cases hr with
      | ptr i o l hl => exact ⟨_, fun w => by simp [execOp, hev], .ptr i o l hl⟩
    · obtain rfl := Option.some.inj h
      cases hr with
      | func fn x y x' y' hx hy => exact ⟨_, fun w => by simp [execOp, hev], .func _ _ _ _ _ hx hy⟩
    · cases h
  · rename_i op t x y yt
    simp only [Option.bind_eq_some_iff] at h
    obtain ⟨xv, hx, yv, hy, h⟩ := h
    exact fin _ (abinT_run x y h (hE.rv hx) (hE.rv hy))
  · rename_i op t x
    simp only [Option.bind_eq_some_iff] at h
    obtain ⟨xv, hx, h⟩ := h
    have hr := hE.rv hx
    refine fin _ ?_
    generalize hev : a.eval x = x' at hr
    unfold aun at h
    split at h
    · obtain rfl := Option.some.inj h; cases hr; exact ⟨_, fun w => by simp [Op.unary, Op.intArith], .int _ _⟩
    · obtain rfl := Option.some.inj h; cases hr; exact ⟨_, fun w => by simp [Op.unary, intBits_xor], .int _ _⟩
    · obtain rfl := Option.some.inj h; cases hr; exact ⟨_, fun w => by simp [Op.unary], .bool _⟩
    · cases h
  · rename_i s d x
    simp only [Option.bind_eq_some_iff] at h
    obtain ⟨xv, hx, h⟩ := h
    have hr := hE.rv hx
    refine fin _ ?_
    generalize hev : a.eval x = x' at hr
    unfold aconvert at h
    split at h
    · rename_i ds k kk nn hs hd
      obtain rfl := Option.some.inj h
      cases hr
      refine ⟨_, fun w => ?_, .int _ _⟩
      simp only [convert, Sem.run_bind, run_underlying hs, run_underlying hd, Result.andThen_ok]
      simp [Conv.intToInt]
    · rename_i ds k rr m hs hd
      simp only [Option.bind_eq_some_iff, Option.map_eq_some_iff] at h
      obtain ⟨j, hj, o, ho, rfl⟩ := h
      cases hr with
      | tok _ _ _ ht =>
        obtain ⟨l, p, q, h1, h2, h3, rfl⟩ := ht
        obtain ⟨rfl, hj2⟩ := kindNo_eq hj
        obtain ⟨e1, e2⟩ := findK_spec h3 ho
        refine ⟨.int (kOf j) (.ofNat (valN p q o)), fun w => ?_, tok_rel (o := .t j o) h1 h2 h3 (by simp [Od.small, Nat.blt_eq, hj2, e2])⟩
        simp only [convert, Sem.run_bind, run_underlying hs, run_underlying hd, Result.andThen_ok]
        simp [Conv.intToInt]
        exact e1
    · cases h
  · rename_i fn x y
    simp only [Option.bind_eq_some_iff, Option.map_eq_some_iff] at h
    obtain ⟨xs, hx, ys, hy, rfl⟩ := h
    refine fin _ ⟨.func fn (x.map a.eval) (y.map a.eval), fun w => by simp [Instr.makeFunc], ?_⟩
    exact .func _ _ _ _ _ (by simpa using hE.rvs hx) (by simpa using hE.rvs hy)
  · rename_i t x lo hi mx
    simp only [Option.bind_eq_some_iff] at h
    obtain ⟨xv, hx, l, hl, hh, hhi, m, hm, h⟩ := h
    exact fin _ (asliceAt_run h (hE.rv hx) (hE.rvo hm) (hE.rvo hhi) (hE.rvo hl))
  · rename_i t x f
    simp only [Option.bind_eq_some_iff] at h
    obtain ⟨xv, hx, h⟩ := h
    exact fin _ (afieldAddr_run h (hE.rv hx))
  · rename_i t x f
    simp only [Option.bind_eq_some_iff] at h
    obtain ⟨xv, hx, h⟩ := h
    exact fin _ (afield_run h (hE.rv hx))
  · rename_i t x i
    simp only [Option.bind_eq_some_iff] at h
    obtain ⟨xv, hx, k, hk, h⟩ := h
    exact fin _ (aindexAddr_run h (hE.rv hx) (hE.rv hk))
  · rename_i t x i
    simp only [Option.bind_eq_some_iff] at h
    obtain ⟨xv, hx, k, hk, h⟩ := h
    exact fin _ (aindex_run h (hE.rv hx) (hE.rv hk))
  · rename_i x i
    split at h
    · rename_i vs hx
      have hr := hE.rv hx
      refine fin _ ?_
      generalize hev : a.eval x = x' at hr
      cases hr with
      | tuple _ vs' hr =>
        obtain ⟨v', hv', hrel⟩ := hr.get (n := i) (v := v) (by simpa using h)
        have : vs'[i]? = some v' := by simpa using hv'
        exact ⟨v', fun w => by simp [Instr.extract, this], hrel⟩
    · cases h
  · rename_i args argTypes
    split at h
    · rename_i x t ha ht
      simp only [Option.bind_eq_some_iff] at h
      obtain ⟨xv, hx, h⟩ := h
      have hr := hE.rv hx
      have hargs : args = #[x] := by apply Array.ext'; simpa using ha
      subst hargs
      generalize hev : a.eval x = x' at hr
      have core : ∃ v', (∀ w, (Builtin.len_ argTypes type #[x']).run P w = .ok v' w) ∧ VRel ρ v v' := by
        unfold alen at h
        split at h
        · rename_i hu
          obtain rfl := Option.some.inj h
          cases hr <;> exact ⟨_, fun w => by simp [Builtin.len_, ht, run_underlying hu, goInt], .int _ _⟩
        · rename_i hu
          obtain rfl := Option.some.inj h
          exact ⟨_, fun w => by simp [Builtin.len_, ht, run_underlying hu, goInt], .int _ _⟩
        · cases h
      obtain ⟨v', h1, h2⟩ := core
      exact ⟨v', fun w => by simp [execOp, resolve, invoke, builtin, hev, h1 w], h2⟩
    · cases h
  · rename_i args argTypes
    split at h
    · rename_i x t ha ht
      simp only [Option.bind_eq_some_iff] at h
      obtain ⟨xv, hx, h⟩ := h
      have hr := hE.rv hx
      have hargs : args = #[x] := by apply Array.ext'; simpa using ha
      subst hargs
      generalize hev : a.eval x = x' at hr
      have core : ∃ v', (∀ w, (Builtin.cap_ argTypes type #[x']).run P w = .ok v' w) ∧ VRel ρ v v' := by
        unfold acap at h
        split at h
        · rename_i hu
          obtain rfl := Option.some.inj h
          cases hr
          exact ⟨_, fun w => by simp [Builtin.cap_, ht, run_underlying hu, goInt], .int _ _⟩
        · rename_i hu
          obtain rfl := Option.some.inj h
          cases hr with
          | slice _ _ _ _ _ a' c' l hA hn haddr hroom =>
            rcases hroom with h1 | ⟨_, h1, _⟩
            · subst h1
              exact ⟨_, fun w => by simp [Builtin.cap_, ht, run_underlying hu, goInt], .int _ _⟩
            · cases h1
        · cases h
      obtain ⟨v', h1, h2⟩ := core
      exact ⟨v', fun w => by simp [execOp, resolve, invoke, builtin, hev, h1 w], h2⟩
    · cases h
  · rename_i args argTypes
    simp only [Option.bind_eq_some_iff] at h
    obtain ⟨xs, hx, h⟩ := h
    have hr := hE.rvs hx
    cases xs with
    | nil => cases h
    | cons x r =>
      generalize hev : args.toList.map a.eval = l' at hr
      cases hr with
      | cons _ x' _ r' hx' hr' =>
        obtain ⟨v', h1, h2⟩ := amm_run (P := P) true h hx' hr'
        refine ⟨v', fun w => ?_, h2⟩
        have e : (args.map a.eval).toList = x' :: r' := by simpa using hev
        simp only [execOp, resolve, invoke, builtin, Sem.run_bind, Sem.run_pure, Result.andThen_ok, Builtin.max_, e]
        have h1w := h1 w
        rw [show (List.foldlM Builtin.max2 x' r').run P w = .ok v' w from h1w]; rfl
  · rename_i args argTypes
    simp only [Option.bind_eq_some_iff] at h
    obtain ⟨xs, hx, h⟩ := h
    have hr := hE.rvs hx
    cases xs with
    | nil => cases h
    | cons x r =>
      generalize hev : args.toList.map a.eval = l' at hr
      cases hr with
      | cons _ x' _ r' hx' hr' =>
        obtain ⟨v', h1, h2⟩ := amm_run (P := P) false h hx' hr'
        refine ⟨v', fun w => ?_, h2⟩
        have e : (args.map a.eval).toList = x' :: r' := by simpa using hev
        simp only [execOp, resolve, invoke, builtin, Sem.run_bind, Sem.run_pure, Result.andThen_ok, Builtin.min_, e]
        have h1w := h1 w
        rw [show (List.foldlM Builtin.min2 x' r').run P w = .ok v' w from h1w]; rfl
  · cases h
end Go.Proofs.YthijllagngkbgaaGreat.Eng
