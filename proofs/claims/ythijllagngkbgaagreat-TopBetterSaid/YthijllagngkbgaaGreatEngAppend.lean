/- The engine, part 8: append and copy over row numbers, and that the model's do the same, whatever room a slice turns out to have. -/
import Derived.Test.YthijllagngkbgaaGreatEngHeap
namespace Go.Proofs.YthijllagngkbgaaGreat.Eng
open Go

/-- the first cells of a slice -/
def sliceCells (h : Heap) (s : Value) (size n : Nat) : Option (List Value) :=
  match s with
  | .slice none _ _ => if n = 0 then some [] else none
  | .slice (some ⟨i, o, _⟩) _ c => if n ≤ c then readCells h i o (n * size) else none
  | _ => none

def lenAt : Value → Option Nat
  | .slice _ n _ => some n
  | _ => none

/-- no text of numbers: the second argument of an append that is no 'make' -/
def plainSrc (P : Program) (t : Option TypeId) : Bool :=
  match t with
  | some u => match P.underlying u with
    | some (.int _) => false
    | some _ => true
    | none => false
  | none => false

def aappend (P : Program) (h : Heap) (argTypes : Array TypeId) (s x : Value) : Option (Value × Heap) :=
  match (argTypes[0]?).bind P.underlying with
  | some (.slice e) =>
    if plainSrc P argTypes[1]? then
      (zerosOf P e).bind fun z => (lenAt x).bind fun n => (sliceCells h x z.length n).bind fun new =>
        if new.all isCell then
          match s with
          | .slice none 0 0 =>
            if n = 0 then some (.slice none 0 0, h)
            else if (4 * n + 4096) * P.bytesOf e ≤ 281474976710656 ∧ n ≤ 4294967296 then some (.slice (some ⟨h.next, 0, some z.length⟩) n n, h.new (.row new e)) else none
          | .slice (some ⟨i, o, sp⟩) len c =>
            if len + n ≤ c then
              if n * z.length = 0 then some (.slice (some ⟨i, o, sp⟩) (len + n) c, h)
              else (writeCells h i (o + len * z.length) new).map fun h' => (.slice (some ⟨i, o, sp⟩) (len + n) c, h')
            else if (4 * (len + n) + 4096) * P.bytesOf e ≤ 281474976710656 ∧ len + n ≤ 4294967296 ∧ len ≤ c then
              (readCells h i o (len * z.length)).bind fun old =>
                match sp with
                | none => some (.slice (some ⟨h.next, 0, some z.length⟩) (len + n) (len + n), h.new (.row (old ++ new) e))
                | some q =>
                  match h.get i with
                  | some (.row cs re) =>
                    if q = z.length then
                      if o + c * q = cs.length then
                        if re = e then some (.slice (some ⟨h.next, 0, some z.length⟩) (len + n) (len + n), (h.kill i).new (.row (old ++ new) e)) else none
                      else some (.slice (some ⟨h.next, 0, some z.length⟩) (len + n) (len + n), h.new (.row (old ++ new) e))
                    else none
                  | _ => none
            else none
          | _ => none
        else none
    else none
  | _ => none

def acopy (P : Program) (h : Heap) (argTypes : Array TypeId) (d x : Value) : Option (Value × Heap) :=
  match (argTypes[0]?).bind P.underlying, d with
  | some (.slice e), .slice b dn dc =>
    (szOf P e).bind fun s => (lenAt x).bind fun xn => (sliceCells h x s (Nat.min xn dn)).bind fun cs =>
      match b with
      | none => if cs.length = 0 ∧ dn = 0 then some (.int .i64 (Nat.min xn dn), h) else none
      | some ⟨i, o, _⟩ => if Nat.min xn dn * s = 0 ∨ dc = 0 then (if cs.length = 0 then some (.int .i64 (Nat.min xn dn), h) else none) else (writeCells h i o cs).map fun h' => (.int .i64 (Nat.min xn dn), h')
  | _, _ => none

variable {P : Program} {B : Nat} {ρ : Where} {h : Heap} {w : World}

theorem growBy_le (n : Nat) : ∀ (r c : Nat), Builtin.growBy n r c ≤ max c (2 * n + 192)
  | 0, c => by simp [Builtin.growBy]; omega
  | r + 1, c => by
    unfold Builtin.growBy
    split
    · omega
    · have := growBy_le n r (c + (c + 768) / 4)
      omega

theorem nextcap_le (n c : Nat) (hc : c < n) : Builtin.nextslicecap n c ≤ 4 * n + 4096 := by
  unfold Builtin.nextslicecap
  split
  · omega
  · split
    · omega
    · have := growBy_le n 4 c; omega

theorem sliceCells_run {x x' : Value} {size n : Nat} {cs : List Value} (r : HRel B ρ h w) (hs : sliceCells h x size n = some cs) (hx : VRel ρ x x') :
    ∃ cs' : Array Value, (Builtin.firstCells size n x').run P w = .ok cs' w ∧ VRels ρ cs cs'.toList := by
  unfold sliceCells at hs
  split at hs
  · rename_i a b
    split at hs
    · rename_i hn
      obtain rfl := Option.some.inj hs
      cases hx
      exact ⟨#[], by simp [Builtin.firstCells], .nil⟩
    · cases hs
  · rename_i i o sp len c
    split at hs
    · rename_i hnc
      cases hx with
      | slice _ _ _ _ _ a' c' l hl hn ha hc =>
        obtain ⟨cc, e, fr, hcc, hsz, hv⟩ := r.lies hl hs
        have hc' : c ≤ c' := by
          rcases hc with rfl | ⟨_, _, h, _⟩
          · exact Nat.le_refl _
          · exact h
        by_cases h0 : c' = 0
        · have : n = 0 := by omega
          subst this
          refine ⟨#[], by simp [Builtin.firstCells, loadCells, loadCellsFrom], ?_⟩
          simpa using hv
        · have := ha h0
          subst this
          exact ⟨((cc.toList.drop (l.off + o)).take (n * size)).toArray, by simp [Builtin.firstCells, load_run hcc hsz], by simpa using hv⟩
    · cases hs
  · cases hs

theorem plainSrc_spec {t : Option TypeId} (hp : plainSrc P t = true) : ∃ u d, t = some u ∧ P.underlying u = some d ∧ ∀ k, d ≠ .int k := by
  cases t with
  | none => simp [plainSrc] at hp
  | some u =>
    simp only [plainSrc] at hp
    cases hu : P.underlying u with
    | none => rw [hu] at hp; simp at hp
    | some d =>
      refine ⟨u, d, rfl, hu, ?_⟩
      rw [hu] at hp
      intro k e; subst e; simp at hp

theorem lenOf_run {x x' : Value} {n : Nat} (hl : lenAt x = some n) (hx : VRel ρ x x') (w : World) : (Builtin.lenOf x').run P w = .ok n w := by
  unfold lenAt at hl
  split at hl
  · obtain rfl := Option.some.inj hl
    cases hx <;> simp [Builtin.lenOf]
  · cases hl

/-- an append where there is room -/
theorem append_in {at_ : Array TypeId} {st e : TypeId} {ty : TypeId} {z : List Value} {base : Option Addr} {sLen sCap n : Nat} {x' : Value} {new : Array Value} {w w' : World}
    (h0 : at_[0]? = some st) (hu : P.underlying st = some (.slice e)) (hp : plainSrc P at_[1]? = true) (hz : zerosOf P e = some z) (hn : (Builtin.lenOf x').run P w = .ok n w)
    (hnew : (Builtin.firstCells z.length n x').run P w = .ok new w) (hle : sLen + n ≤ sCap)
    (hst : (match base with
      | some a => storeCells (a.add (sLen * z.length)) new.toList
      | none => pure () : Sem Unit).run P w = .ok () w') :
    (Builtin.append_ at_ ty #[.slice base sLen sCap, x']).run P w = .ok (.slice base (sLen + n) sCap) w' := by
  obtain ⟨hs, _, zv, h1, h2⟩ := zerosOf_run hz
  obtain ⟨u, d, h1t, hd, hdi⟩ := plainSrc_spec hp
  unfold Builtin.append_
  simp only [h0]
  have g0 : (#[Value.slice base sLen sCap, x'] : Array Value)[0]? = some (Value.slice base sLen sCap) := rfl
  have g1 : (#[Value.slice base sLen sCap, x'] : Array Value)[1]? = some x' := rfl
  simp only [g0, g1, h1t]
  rw [Sem.run_bind, run_underlying hu, Result.andThen_ok]
  simp only []
  rw [Sem.run_bind, run_size hs, Result.andThen_ok, Sem.run_bind, run_underlying hd, Result.andThen_ok, Sem.run_bind, Sem.run_pure, Result.andThen_ok]
  cases d <;> first
    | (exfalso; exact hdi _ rfl)
    | skip
  all_goals
    simp only [Result.andThen_ok, Bool.false_eq_true, if_false, hn, Bool.not_false, if_true, hle, Sem.run_bind, hnew, Sem.run_ite]
    cases base with
    | none =>
      simp only [Sem.run_pure, Result.ok.injEq, true_and] at hst
      simp [hst]
    | some a =>
      simp only [] at hst
      simp [hst]

/-- an append where there is none -/
theorem append_out {at_ : Array TypeId} {st e : TypeId} {ty : TypeId} {z : List Value} {base : Option Addr} {sLen sCap n : Nat} {x' : Value} {new old : Array Value} {w : World}
    (h0 : at_[0]? = some st) (hu : P.underlying st = some (.slice e)) (hp : plainSrc P at_[1]? = true) (hz : zerosOf P e = some z) (hn : ∀ w, (Builtin.lenOf x').run P w = .ok n w)
    (hnew : ∀ k, (Builtin.firstCells z.length n x').run P (drawn w k) = .ok new (drawn w k)) (hold : ∀ k, (Builtin.firstCells z.length sLen (.slice base sLen sCap)).run P (drawn w k) = .ok old (drawn w k))
    (hgt : sCap < sLen + n) (hb : (4 * (sLen + n) + 4096) * P.bytesOf e ≤ 281474976710656) (hm : sLen + n ≤ 4294967296) :
    ∃ cap, sLen + n ≤ cap ∧ (Builtin.append_ at_ ty #[.slice base sLen sCap, x']).run P w =
      .ok (.slice (some ⟨w.heap.size, 0, none⟩) (sLen + n) cap) (newBlk (drawn w 1) (.cells (old ++ new ++ (reps (cap - (sLen + n)) z).toArray) e (0, 0))) := by
  obtain ⟨hs, _, zv, h1, h2⟩ := zerosOf_run hz
  obtain ⟨u, d, h1t, hd, hdi⟩ := plainSrc_spec hp
  obtain ⟨info, hi⟩ : ∃ i, P.info? e = some i := by
    unfold szOf at hs
    obtain ⟨i, hi, _⟩ := Option.map_eq_some_iff.mp hs
    exact ⟨i, hi⟩
  have hbytes : P.bytesOf e = info.bytes := by simp [Program.bytesOf, hi]
  rw [hbytes] at hb
  refine ⟨(Question.appendCap (sLen + n) sCap e).cut (w.tape w.drawn (.appendCap (sLen + n) sCap e)), by simp [Question.cut], ?_⟩
  generalize hcap : (Question.appendCap (sLen + n) sCap e).cut (w.tape w.drawn (.appendCap (sLen + n) sCap e)) = cap
  have hnext := nextcap_le (sLen + n) sCap hgt
  have c1 : ¬ (Builtin.nextslicecap (sLen + n) sCap * info.bytes > 2 ^ 48) := by
    have := Nat.mul_le_mul_right info.bytes hnext
    omega
  have c2 : ¬ (((sLen + n : Nat) : Int) > IntKind.i64.max ∧ (False ∨ info.bytes = 0)) := by
    intro ⟨q, _⟩
    rw [IntKind.max_i64] at q
    omega
  have hd1 : ({ w with drawn := w.drawn + 1 } : World) = drawn w 1 := rfl
  have hd0 : drawn w 0 = w := rfl
  unfold Builtin.append_
  simp only [h0]
  have g0 : (#[Value.slice base sLen sCap, x'] : Array Value)[0]? = some (Value.slice base sLen sCap) := rfl
  have g1 : (#[Value.slice base sLen sCap, x'] : Array Value)[1]? = some x' := rfl
  have c3 : ¬ (sLen + n ≤ sCap) := by omega
  simp only [g0, g1, h1t]
  rw [Sem.run_bind, run_underlying hu, Result.andThen_ok]
  simp only []
  rw [Sem.run_bind, run_size hs, Result.andThen_ok, Sem.run_bind, run_underlying hd, Result.andThen_ok, Sem.run_bind, Sem.run_pure, Result.andThen_ok]
  cases d <;> first
    | (exfalso; exact hdi _ rfl)
    | skip
  all_goals
    simp only [Bool.false_eq_true, if_false, hn, Bool.not_false, if_true, c3, Sem.run_bind, run_typeInfo _ hi, c1, c2, Result.andThen_ok, Sem.run_ite]
    simp only [run_choose, Question.forced, Bool.false_eq_true, if_false, hcap, hd1, Result.andThen_ok, run_askRoom, hold, hnew, h1, newRow, run_newObj, Sem.run_pure, Sem.run_bind]
    have e1 : Builtin.zeroCells zv.cells (cap - (sLen + n)) = (reps (cap - (sLen + n)) z).toArray := by
      apply Array.ext'
      rw [Builtin.zeroCells, range_reps, h2]
    rw [e1]
    rfl

theorem lies_split {c : Array Value} {o n k : Nat} : (((c.toList.drop o).take n) ++ (c.toList.drop (o + n)).take k) = (c.toList.drop o).take (n + k) := by
  rw [List.take_add, List.drop_drop]

theorem sliceCells_any {x x' : Value} {size n : Nat} {cs : List Value} (r : HRel B ρ h w) (hs : sliceCells h x size n = some cs) (hx : VRel ρ x x') :
    ∃ cs' : Array Value, (∀ k, (Builtin.firstCells size n x').run P (drawn w k) = .ok cs' (drawn w k)) ∧ VRels ρ cs cs'.toList := by
  obtain ⟨c0, h0, hv⟩ := sliceCells_run (P := P) (r.draw 0) hs hx
  refine ⟨c0, fun k => ?_, hv⟩
  obtain ⟨c1, h1, _⟩ := sliceCells_run (P := P) (r.draw k) hs hx
  have : c1 = c0 := by
    unfold sliceCells at hs
    split at hs
    · cases hx
      simp [Builtin.firstCells] at h0 h1
      rw [h0, h1]
    · rename_i i o sp len c
      cases hx with
      | slice _ _ _ _ _ a' c' l hl hn ha hc =>
        split at hs
        · obtain ⟨cc, e, fr, hcc, hsz, _⟩ := r.lies hl hs
          have hc' : c ≤ c' := by
            rcases hc with rfl | ⟨_, _, h, _⟩
            · exact Nat.le_refl _
            · exact h
          by_cases z : c' = 0
          · have : n = 0 := by omega
            subst this
            simp [Builtin.firstCells, loadCells, loadCellsFrom] at h0 h1
            rw [h0, h1]
          · have := ha z
            subst this
            have q : ∀ k, (drawn w k).heap[l.blk]? = some (.cells cc e fr) := fun _ => hcc
            simp only [Builtin.firstCells, load_run (q _) hsz, Result.ok.injEq] at h0 h1
            rw [← h0.1, ← h1.1]
        · cases hs
    · cases hs
  rw [this] at h1
  exact h1

theorem read_append {i o n : Nat} {cs : List Value} {e : TypeId} {old : List Value} (hg : h.get i = some (.row cs e)) (hr : readCells h i o n = some old) : old = (cs.drop o).take n ∧ o + n ≤ cs.length := by
  unfold readCells at hr
  rw [hg] at hr
  simp only [] at hr
  split at hr
  · rename_i hb
    exact ⟨(Option.some.inj hr).symm, hb⟩
  · cases hr

theorem aappend_run {at_ : Array TypeId} {ty : TypeId} {s s' x x' v : Value} {h' : Heap} (r : HRel B ρ h w) (ha : aappend P h at_ s x = some (v, h')) (hs : VRel ρ s s') (hx : VRel ρ x x') :
    ∃ ρ' v' w', (Builtin.append_ at_ ty #[s', x']).run P w = .ok v' w' ∧ VRel ρ' v v' ∧ HRel B ρ' h' w' ∧ Step ρ h w ρ' h' w' := by
  unfold aappend at ha
  split at ha
  · rename_i e hu0
    obtain ⟨st, h0, hu⟩ := Option.bind_eq_some_iff.mp hu0
    split at ha
    · rename_i hp
      simp only [Option.bind_eq_some_iff] at ha
      obtain ⟨z, hz, n, hn, new, hnew, ha⟩ := ha
      split at ha
      · rename_i hcell
        obtain ⟨new', hnew', hnr⟩ := sliceCells_any (P := P) r hnew hx
        have hnl := hnr.length
        have hlen := fun w => lenOf_run (P := P) hn hx w
        have hn0 := hnew' 0
        -- how a new row comes to lie
        have grow : ∀ (old : List Value) (old' : Array Value) (base' : Option Addr) (sLen sCap : Nat), VRels ρ old old'.toList → old.length = sLen * z.length → new.length = n * z.length →
            (∀ k, (Builtin.firstCells z.length sLen (.slice base' sLen sCap)).run P (drawn w k) = .ok old' (drawn w k)) → sCap < sLen + n →
            (4 * (sLen + n) + 4096) * P.bytesOf e ≤ 281474976710656 → sLen + n ≤ 4294967296 → ∀ (g : Heap) (w1 : World), w1 = w → HRel B ρ g w1 → Step ρ h w ρ g w1 →
            ∃ ρ' v' w', (Builtin.append_ at_ ty #[.slice base' sLen sCap, x']).run P w = .ok v' w' ∧ VRel ρ' (.slice (some ⟨g.next, 0, some z.length⟩) (sLen + n) (sLen + n)) v' ∧
              HRel B ρ' (g.new (.row (old ++ new) e)) w' ∧ Step ρ h w ρ' (g.new (.row (old ++ new) e)) w' := by
          intro old old' base' sLen sCap hold ho1 hn1 hrun hgt hb hm g w1 hw1 rg sg
          subst hw1
          obtain ⟨cap, hcap, hrun2⟩ := append_out (ty := ty) h0 hu hp hz hlen hnew' hrun hgt hb hm
          have hall := hold.append hnr
          have hal := hall.length
          simp only [List.length_append] at hal
          have hsz : (old' ++ new' ++ (reps (cap - (sLen + n)) z).toArray).size = cap * z.length := by
            have q : cap * z.length = sLen * z.length + n * z.length + (cap - (sLen + n)) * z.length := by rw [← Nat.add_mul, ← Nat.add_mul]; congr 1; omega
            simp only [Array.size_append, List.size_toArray, reps_length]
            simp only [Array.length_toList] at hal
            omega
          obtain ⟨q1, q2⟩ := (rg.draw 1).new (old ++ new) e (old' ++ new' ++ (reps (cap - (sLen + n)) z).toArray) (by
              rw [hsz, List.length_append, ho1, hn1, ← Nat.add_mul]; exact Nat.mul_le_mul_right _ hcap) (by
              have : (old' ++ new' ++ (reps (cap - (sLen + n)) z).toArray).toList.take (old ++ new).length = old'.toList ++ new'.toList := by
                simp only [Array.toList_append, List.length_append]
                rw [List.take_append_of_le_length (by simp only [List.length_append]; omega), List.take_of_length_le (by simp only [List.length_append]; omega)]
              rw [this]; exact hall)
          refine ⟨_, _, _, hrun2, ?_, q1, (sg.trans (Step.draw ρ g w1 1)).trans q2⟩
          refine .slice _ _ _ _ _ _ _ _ (Where.add_at _ _ _ rfl) (Nat.le_refl _) (fun _ => rfl) (.inr ⟨z.length, rfl, hcap, ?_, ?_⟩)
          · simp only [List.length_append, ho1, hn1, Nat.zero_add, Nat.add_mul]
          · simp only [Nat.zero_add, hsz]; exact Nat.le_refl _
        have hnewlen : new.length = n * z.length ∨ (n = 0 ∧ new = []) := by
          unfold sliceCells at hnew
          split at hnew
          · split at hnew
            · rename_i e0
              obtain rfl := Option.some.inj hnew
              exact .inr ⟨e0, rfl⟩
            · cases hnew
          · split at hnew
            · left
              unfold readCells at hnew
              split at hnew <;> first
                | (split at hnew
                   · obtain rfl := Option.some.inj hnew; simp; omega
                   · cases hnew)
                | cases hnew
            · cases hnew
          · cases hnew
        have hnewlen : new.length = n * z.length := by
          rcases hnewlen with h | ⟨rfl, rfl⟩
          · exact h
          · simp
        split at ha
        · cases hs
          split at ha
          · rename_i e0
            subst e0
            obtain ⟨rfl, rfl⟩ := Prod.mk.inj (Option.some.inj ha)
            refine ⟨ρ, .slice none 0 0, w, ?_, .sliceNil _ _, r, Step.refl _ _ _⟩
            have := append_in (ty := ty) (base := none) (sLen := 0) (sCap := 0) (w' := w) h0 hu hp hz (hlen w) (by simpa [drawn] using hn0) (Nat.le_refl _) rfl
            simpa using this
          · rename_i e0
            split at ha
            · rename_i hb
              obtain ⟨rfl, rfl⟩ := Prod.mk.inj (Option.some.inj ha)
              have := grow [] #[] none 0 0 .nil (by simp) hnewlen (by intro k; simp [Builtin.firstCells]) (by omega) (by simpa using hb.1) (by simpa using hb.2) h w rfl r (Step.refl _ _ _)
              simpa using this
            · cases ha
        · rename_i i o sp len c
          cases hs with
          | slice _ _ _ _ _ a' c' l hl hlc haa hc =>
            have hcc : c ≤ c' := by
              rcases hc with rfl | ⟨_, _, h, _⟩
              · exact Nat.le_refl _
              · exact h
            split at ha
            · rename_i hle
              split at ha
              · rename_i h0n
                obtain ⟨rfl, rfl⟩ := Prod.mk.inj (Option.some.inj ha)
                refine ⟨ρ, .slice (some a') (len + n) c', w, ?_, .slice _ _ _ _ _ _ _ l hl hle haa hc, r, Step.refl _ _ _⟩
                refine append_in (ty := ty) h0 hu hp hz (hlen w) (by simpa [drawn] using hn0) (by omega) ?_
                have : new'.toList = [] := by
                  apply List.eq_nil_of_length_eq_zero
                  omega
                simp [this, storeCells]
              · rename_i h0n
                obtain ⟨g, hg, ha⟩ := Option.map_eq_some_iff.mp ha
                obtain ⟨rfl, rfl⟩ := Prod.mk.inj ha
                have hnpos : 0 < n := by
                  rcases Nat.eq_zero_or_pos n with q | q
                  · subst q; simp at h0n
                  · exact q
                have ea := haa (by omega)
                subst ea
                obtain ⟨w', hst, q1, q2⟩ := writeCells_run (P := P) r hg hl hnr
                refine ⟨ρ, .slice (some ⟨l.blk, l.off + o, none⟩) (len + n) c', w', ?_, .slice _ _ _ _ _ _ _ l hl hle haa hc, q1, q2⟩
                refine append_in (ty := ty) h0 hu hp hz (hlen w) (by simpa [drawn] using hn0) (by omega) ?_
                simp only [addr_add]
                rw [Nat.add_assoc]
                exact hst
            · rename_i hgt
              split at ha
              · rename_i hb
                simp only [Option.bind_eq_some_iff] at ha
                obtain ⟨old, hold, ha⟩ := ha
                have hsl : sliceCells h (.slice (some ⟨i, o, sp⟩) len c) z.length len = some old := by
                  simp only [sliceCells]; rw [if_pos hb.2.2]; exact hold
                have hsrel : VRel ρ (.slice (some ⟨i, o, sp⟩) len c) (.slice (some a') len c') := .slice _ _ _ _ _ _ _ l hl hlc haa hc
                obtain ⟨old', hold', hor⟩ := sliceCells_any (P := P) r hsl hsrel
                have holen : old.length = len * z.length := by
                  unfold readCells at hold
                  split at hold <;> first
                    | (split at hold
                       · obtain rfl := Option.some.inj hold; simp; omega
                       · cases hold)
                    | cases hold
                split at ha
                · obtain ⟨rfl, rfl⟩ := Prod.mk.inj (Option.some.inj ha)
                  have e1 : c' = c := by
                    rcases hc with h | ⟨_, h, _⟩
                    · exact h
                    · cases h
                  subst e1
                  exact grow old old' (some a') len c' hor holen hnewlen hold' (by omega) hb.1 hb.2.1 h w rfl r (Step.refl _ _ _)
                · rename_i q
                  split at ha
                  · rename_i cs re hg
                    split at ha
                    · rename_i hq
                      subst hq
                      obtain ⟨_, _, _, _, _, _, hk, _, _⟩ := r.cells hl hg
                      split at ha
                      · rename_i hend
                        split at ha
                        · rename_i hre
                          subst hre
                          obtain ⟨rfl, rfl⟩ := Prod.mk.inj (Option.some.inj ha)
                          obtain ⟨eold, hob⟩ := read_append hg hold
                          by_cases hroom : len + n ≤ c'
                          · -- in place
                            have ea := haa (by omega)
                            subst ea
                            have hsz2 : o + c' * z.length ≤ l.size := by
                              rcases hc with h | ⟨q2, hq2, _, _, h⟩
                              · omega
                              · obtain rfl := Option.some.inj hq2; exact h
                            have hmul : (len + n) * z.length ≤ c' * z.length := Nat.mul_le_mul_right _ hroom
                            rw [Nat.add_mul] at hmul
                            obtain ⟨cc, hcc2, hin, q1, q2⟩ := r.move hl hg (o := o) (k := len * z.length) hnr hob (by omega)
                            have hst := store_run (P := P) new'.toList 0 hcc2 (by simpa using hin) (by rw [isCells_rel hnr]; exact hcell)
                            subst eold
                            refine ⟨_, .slice (some ⟨l.blk, l.off + o, none⟩) (len + n) c', _, ?_, ?_, q1, q2⟩
                            · refine append_in (ty := ty) h0 hu hp hz (hlen w) (by simpa [drawn] using hn0) hroom ?_
                              simp only [addr_add]
                              simpa using hst
                            · refine .slice _ _ _ _ _ _ _ _ (Where.add_at _ _ _ rfl) (Nat.le_refl _) (fun _ => by simp) (.inr ⟨z.length, rfl, hroom, ?_, ?_⟩)
                              · simp only [Nat.zero_add, hnewlen, Nat.add_mul]
                              · simp only [Nat.zero_add]; omega
                          · obtain ⟨k1, k2⟩ := r.kill hl.1
                            have := grow old old' (some a') len c' hor holen hnewlen hold' (by omega) hb.1 hb.2.1 (h.kill i) w rfl k1 k2
                            exact this
                        · cases ha
                      · rename_i hend
                        obtain ⟨rfl, rfl⟩ := Prod.mk.inj (Option.some.inj ha)
                        have e1 : c' = c := by
                          rcases hc with h | ⟨q2, hq2, _, h, _⟩
                          · exact h
                          · obtain rfl := Option.some.inj hq2; omega
                        subst e1
                        exact grow old old' (some a') len c' hor holen hnewlen hold' (by omega) hb.1 hb.2.1 h w rfl r (Step.refl _ _ _)
                    · cases ha
                  · cases ha
              · cases ha
        · cases ha
      · cases ha
    · cases ha
  · cases ha

theorem acopy_run {at_ : Array TypeId} {ty : TypeId} {d d' x x' v : Value} {h' : Heap} (r : HRel B ρ h w) (ha : acopy P h at_ d x = some (v, h')) (hd : VRel ρ d d') (hx : VRel ρ x x') :
    ∃ v' w', (Builtin.copy_ at_ ty #[d', x']).run P w = .ok v' w' ∧ VRel ρ v v' ∧ HRel B ρ h' w' ∧ Step ρ h w ρ h' w' := by
  unfold acopy at ha
  split at ha
  · rename_i e b dn dc hu0
    obtain ⟨st, h0, hu⟩ := Option.bind_eq_some_iff.mp hu0
    simp only [Option.bind_eq_some_iff] at ha
    obtain ⟨s, hs, xn, hn, cs, hcs, ha⟩ := ha
    obtain ⟨cs', hrun, hrel⟩ := sliceCells_any (P := P) r hcs hx
    have hrun0 : (Builtin.firstCells s (Nat.min xn dn) x').run P w = .ok cs' w := hrun 0
    have hlen := lenOf_run (P := P) hn hx w
    have hcl := hrel.length
    have core : ∀ (b' : Option Addr) (dc' : Nat) (w' : World), (match b' with
        | some a => storeCells a cs'.toList
        | none => pure () : Sem Unit).run P w = .ok () w' → (Builtin.copy_ at_ ty #[.slice b' dn dc', x']).run P w = .ok (.int .i64 (Nat.min xn dn)) w' := by
      intro b' dc' w' hst
      unfold Builtin.copy_
      have g0 : (#[Value.slice b' dn dc', x'] : Array Value)[0]? = some (Value.slice b' dn dc') := rfl
      have g1 : (#[Value.slice b' dn dc', x'] : Array Value)[1]? = some x' := rfl
      simp only [h0, g0, g1, Sem.run_bind, run_underlying hu, Result.andThen_ok, hlen, run_size hs, hrun0]
      cases b' with
      | none =>
        simp only [Sem.run_pure, Result.ok.injEq, true_and] at hst
        simp [hst, goInt]
      | some a =>
        simp only [] at hst
        simp [hst, goInt]
    split at ha
    · split at ha
      · obtain ⟨rfl, rfl⟩ := Prod.mk.inj (Option.some.inj ha)
        cases hd
        exact ⟨_, w, core none _ w rfl, .int _ _, r, Step.refl _ _ _⟩
      · cases ha
    · rename_i i o sp
      cases hd with
      | slice _ _ _ _ _ a' c' l hl hlc haa hc =>
        split at ha
        · split at ha
          · rename_i hz
            obtain ⟨rfl, rfl⟩ := Prod.mk.inj (Option.some.inj ha)
            have : cs'.toList = [] := List.eq_nil_of_length_eq_zero (by omega)
            exact ⟨_, w, core _ _ w (by simp [this, storeCells]), .int _ _, r, Step.refl _ _ _⟩
          · cases ha
        · rename_i hz
          obtain ⟨g, hg, ha⟩ := Option.map_eq_some_iff.mp ha
          obtain ⟨rfl, rfl⟩ := Prod.mk.inj ha
          have hcc : dc ≤ c' := by
            rcases hc with rfl | ⟨_, _, h, _⟩
            · exact Nat.le_refl _
            · exact h
          have ea := haa (by omega)
          subst ea
          obtain ⟨w', hst, q1, q2⟩ := writeCells_run (P := P) r hg hl hrel
          exact ⟨_, w', core _ _ w' hst, .int _ _, q1, q2⟩
  · cases ha
end Go.Proofs.YthijllagngkbgaaGreat.Eng
