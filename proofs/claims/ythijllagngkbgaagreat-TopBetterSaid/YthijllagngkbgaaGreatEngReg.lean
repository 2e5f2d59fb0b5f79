/- The engine, part 27: a region gone through by answers: what its operations come to where it can not be computed is told, and is to be shown. -/
import Derived.Test.YthijllagngkbgaaGreatEngLoop
namespace Go.Proofs.YthijllagngkbgaaGreat.Eng
open Go

/-- what is said of an operation: computed; its value told; computed, in other words; value and memory told -/
inductive Ans where
  | c
  | v (v : Value)
  | s (v : Value)
  | m (v : Value) (h : Heap)

def AllP : List Prop → Prop
  | [] => True
  | p :: r => p ∧ AllP r
theorem allp0 : AllP [] := trivial
theorem allp {p : Prop} {r : List Prop} (hp : p) (hr : AllP r) : AllP (p :: r) := ⟨hp, hr⟩
theorem AllP.append : ∀ {a b : List Prop}, AllP (a ++ b) ↔ AllP a ∧ AllP b
  | [], _ => by simp [AllP]
  | p :: a, b => by
    have := AllP.append (a := a) (b := b)
    simp only [List.cons_append, AllP, this, and_assoc]

def amakeS (P : Program) (t : TypeId) (lv cv : Value) : Option (List Value × TypeId × Shape) :=
  match P.underlying t with
  | some (.slice e) => (zerosOf P e).bind fun z => (intAt lv).bind fun n => (intAt cv).bind fun m =>
    if 0 ≤ n ∧ n ≤ m ∧ m ≤ 1099511627776 ∧ P.bytesOf e * m.toNat ≤ 281474976710656 then some (reps m.toNat z, e, .sl n.toNat m.toNat) else none
  | _ => none

section
variable (P : Program) (X : Ext)

/-- what is to be shown of a value that is told -/
def toldV (T : Env) (h : Heap) (v : Value) : Op → Option Prop
  | .load t x => (rv T x).map fun a => aload P h t a = some v
  | .binOp op t x y _ => (rv T x).bind fun a => (rv T y).map fun b => abin P op t a b = some v
  | .unOp op _ x => (rv T x).map fun a => aun op a = some v
  | .convert s d x => (rv T x).map fun a => aconvert P s d a = some v
  | .nilCheck x => (rv T x).map fun a => anil a = some v
  | .slice t x lo hi mx => (rv T x).bind fun a => (rvo T lo).bind fun l => (rvo T hi).bind fun k => (rvo T mx).map fun m => asliceAt P t a l k m = some v
  | .fieldAddr t x f => (rv T x).map fun a => afieldAddr P t a f = some v
  | .field t x f => (rv T x).map fun a => afield P t a f = some v
  | .indexAddr t x i => (rv T x).bind fun a => (rv T i).map fun k => aindexAddr P t a k = some v
  | .index t x i => (rv T x).bind fun a => (rv T i).map fun k => aindex P t a k = some v
  | .call { callee := .builtin .len, args, argTypes } => match args.toList, argTypes[0]? with
    | [x], some t => (rv T x).map fun a => alen P t a = some v
    | _, _ => none
  | .call { callee := .builtin .max, args, .. } => (rvs T args.toList).bind fun
    | [] => none
    | x :: r => some (amm true x r = some v)
  | .call { callee := .builtin .min, args, .. } => (rvs T args.toList).bind fun
    | [] => none
    | x :: r => some (amm false x r = some v)
  | .call { callee := .value f, args, .. } => (rv T f).bind fun fv => (rvs T args.toList).bind fun as => match fv with
    | .func (.func k) first captured => if noBody P k then some (X k (first.toList ++ as ++ captured.toList) = some v) else none
    | _ => none
  | _ => none

/-- .. of a value and a memory -/
def toldM (T : Env) (h : Heap) (v : Value) (h' : Heap) : Op → Option Prop
  | .store t a x => (rv T a).bind fun av => (rv T x).map fun xv => v = undef ∧ astore P h t av xv = some h'
  | .call { callee := .builtin .append, args, argTypes } => (rvs T args.toList).bind fun
    | [s, x] => some (aappend P h argTypes s x = some (v, h'))
    | _ => none
  | .call { callee := .builtin .copy, args, argTypes } => (rvs T args.toList).bind fun
    | [d, x] => some (acopy P h argTypes d x = some (v, h'))
    | _ => none
  | .call { callee := .value f, args, .. } => (rv T f).bind fun fv => (rvs T args.toList).bind fun as => match fv with
    | .func (.func k) first captured => if hasBody P k then some (DoesOk P k (first.toList ++ as ++ captured.toList) h v h') else none
    | _ => none
  | .makeSlice t l c => (rv T l).bind fun lv => (rv T c).map fun cv => ∃ cs e sh, amakeS P t lv cv = some (cs, e, sh) ∧ v = sh.val h.next ∧ h' = h.new (.row cs e)
  | _ => none

def stepA (ops : Array Oper) (T : Env) (h : Heap) (o : Oper) : Ans → Option (Value × Heap × List Prop)
  | .c => (aval P X noSum ops T h o).map fun r => (r.1, r.2, [])
  | .s v => (aval P X noSum ops T h o).map fun r => (v, r.2, [r.1 = v])
  | .v v => match awant ops T o with
    | some true => (toldV P X T h v o.op).map fun p => (v, h, [p])
    | _ => none
  | .m v h' => match awant ops T o with
    | some true => (toldM P T h v h' o.op).map fun p => (v, h', [p])
    | _ => none

/-- the answer for the next operation, and the others -/
def nextA : List (Nat × Ans) → Ans × List (Nat × Ans)
  | [] => (.c, [])
  | (0, a) :: r => (a, r)
  | (k + 1, a) :: r => (.c, (k, a) :: r)

def runA (n : Nat) (ops : Array Oper) : List Oper → Nat → List (Nat × Ans) → Env → Heap → Option (List Ent × Env × Heap × List Prop)
  | [], _, _, T, h => some ([], T, h, [])
  | o :: r, i, A, T, h => (stepA P X ops T h o (nextA A).1).bind fun (v, h1, ps) => (fillSlot n T o.dst v).bind fun T1 =>
    (runA n ops r (i + 1) (nextA A).2 T1 h1).map fun (l, T2, h2, qs) => (⟨o, i, T, h, h1, v⟩ :: l, T2, h2, ps ++ qs)

/-- what a load is to read in another memory -/
def loadP (x : Ent) (h : Heap) : Prop := match x.o.op with
  | .load t a => match rv x.T a with
    | some av => aload P h t av = some x.v
    | none => False
  | _ => False
def dynProps (ops : Array Oper) (ms : List Nat) : List Ent → List Ent → List Prop
  | _, [] => []
  | prev, y :: r => (prev.flatMap fun x => if (ms.getD y.i 0).testBit x.i then [] else
      (if isLoad ops x && isHeavy y.o then [loadP P x y.h'] else []) ++ (if isHeavy x.o && isLoad ops y then [loadP P y x.h] else [])) ++ dynProps ops ms (y :: prev) r
end

section
variable {P : Program} {X : Ext} {n : Nat}

theorem toldV_aval {ops : Array Oper} {T : Env} {h : Heap} {o : Oper} {v : Value} {p : Prop} (hw : awant ops T o = some true) (ht : toldV P X T h v o.op = some p) (hp : p) : aval P X noSum ops T h o = some (v, h) := by
  obtain ⟨dst, op, type, pos, after, guard⟩ := o
  simp only at ht
  unfold aval
  rw [hw]
  simp only []
  unfold toldV at ht
  split at ht
  · obtain ⟨a, h1, rfl⟩ := Option.map_eq_some_iff.mp ht
    simp [kindOf, aloadOp, h1, hp]
  · simp only [Option.bind_eq_some_iff, Option.map_eq_some_iff] at ht
    obtain ⟨a, h1, b, h2, rfl⟩ := ht
    simp [kindOf, apure, h1, h2, abinT_of hp]
  · obtain ⟨a, h1, rfl⟩ := Option.map_eq_some_iff.mp ht
    simp [kindOf, apure, h1, hp]
  · obtain ⟨a, h1, rfl⟩ := Option.map_eq_some_iff.mp ht
    simp [kindOf, apure, h1, hp]
  · obtain ⟨a, h1, rfl⟩ := Option.map_eq_some_iff.mp ht
    simp [kindOf, apure, h1, hp]
  · simp only [Option.bind_eq_some_iff, Option.map_eq_some_iff] at ht
    obtain ⟨a, h1, l, h2, k, h3, m, h4, rfl⟩ := ht
    simp [kindOf, apure, h1, h2, h3, h4, hp]
  · obtain ⟨a, h1, rfl⟩ := Option.map_eq_some_iff.mp ht
    simp [kindOf, apure, h1, hp]
  · obtain ⟨a, h1, rfl⟩ := Option.map_eq_some_iff.mp ht
    simp [kindOf, apure, h1, hp]
  · simp only [Option.bind_eq_some_iff, Option.map_eq_some_iff] at ht
    obtain ⟨a, h1, b, h2, rfl⟩ := ht
    simp [kindOf, apure, h1, h2, hp]
  · simp only [Option.bind_eq_some_iff, Option.map_eq_some_iff] at ht
    obtain ⟨a, h1, b, h2, rfl⟩ := ht
    simp [kindOf, apure, h1, h2, hp]
  · split at ht
    · rename_i x t hx ht2
      obtain ⟨a, h1, rfl⟩ := Option.map_eq_some_iff.mp ht
      simp [kindOf, apure, hx, ht2, h1, hp]
    · cases ht
  · obtain ⟨l, h1, h2⟩ := Option.bind_eq_some_iff.mp ht
    split at h2
    · cases h2
    · obtain rfl := Option.some.inj h2
      simp [kindOf, apure, h1, hp]
  · obtain ⟨l, h1, h2⟩ := Option.bind_eq_some_iff.mp ht
    split at h2
    · cases h2
    · obtain rfl := Option.some.inj h2
      simp [kindOf, apure, h1, hp]
  · rename_i f as ts
    simp only [Option.bind_eq_some_iff] at ht
    obtain ⟨fv, h1, vs, h2, ht⟩ := ht
    split at ht
    · rename_i k first captured
      split at ht
      · rename_i hnb
        obtain rfl := Option.some.inj ht
        unfold noBody at hnb
        cases hk : P.funcs[k]? with
        | none => rw [hk] at hnb; simp at hnb
        | some fn =>
          rw [hk] at hnb
          simp only [Bool.and_eq_true, Bool.not_eq_true'] at hnb
          simp only [kindOf, aheavy, h1, h2, Option.bind_some, acall, hk, hnb.1, hnb.2, Bool.false_eq_true, if_false, if_true]
          rw [hp]; rfl
      · cases ht
    · cases ht
  · cases ht

theorem toldM_step {ops : Array Oper} {T : Env} {h h' : Heap} {o : Oper} {v : Value} {p : Prop} (hw : awant ops T o = some true) (ht : toldM P T h v h' o.op = some p) (hp : p) : StepOk P X ops T h o v h' := by
  obtain ⟨dst, op, type, pos, after, guard⟩ := o
  simp only at ht
  unfold toldM at ht
  split at ht
  · simp only [Option.bind_eq_some_iff, Option.map_eq_some_iff] at ht
    obtain ⟨a, h1, b, h2, rfl⟩ := ht
    obtain ⟨rfl, hp⟩ := hp
    refine .plain ?_
    unfold aval
    rw [hw]
    simp [kindOf, aheavy, h1, h2, hp]
  · obtain ⟨l, h1, h2⟩ := Option.bind_eq_some_iff.mp ht
    split at h2
    · obtain rfl := Option.some.inj h2
      refine .plain ?_
      unfold aval
      rw [hw]
      simp [kindOf, aheavy, h1, aappendZ_of hp]
    · cases h2
  · obtain ⟨l, h1, h2⟩ := Option.bind_eq_some_iff.mp ht
    split at h2
    · obtain rfl := Option.some.inj h2
      refine .plain ?_
      unfold aval
      rw [hw]
      simp [kindOf, aheavy, h1, hp]
    · cases h2
  · simp only [Option.bind_eq_some_iff] at ht
    obtain ⟨fv, h1, vs, h2, ht⟩ := ht
    split at ht
    · rename_i k first captured
      split at ht
      · rename_i hb
        obtain rfl := Option.some.inj ht
        unfold hasBody at hb
        cases hk : P.funcs[k]? with
        | none => rw [hk] at hb; simp at hb
        | some fn =>
          rw [hk] at hb
          simp only [Bool.and_eq_true, Bool.not_eq_true'] at hb
          exact StepOk.call rfl hw h1 h2 hk hb.1 hb.2 hp
      · cases ht
    · cases ht
  · simp only [Option.bind_eq_some_iff, Option.map_eq_some_iff] at ht
    obtain ⟨lv, h1, cv, h2, rfl⟩ := ht
    obtain ⟨cs, e, sh, h3, rfl, rfl⟩ := hp
    refine .plain ?_
    unfold aval
    rw [hw]
    unfold amakeS at h3
    split at h3
    · rename_i e' hu
      simp only [kindOf, afreshRow, h1, h2, hu, Option.bind_some]
      rw [h3]; rfl
    · cases h3
  · cases ht

theorem runA_run {ops : Array Oper} : ∀ (rest : List Oper) (i : Nat) (A : List (Nat × Ans)) {T T' : Env} {h h' : Heap} {l : List Ent} {ps : List Prop}, runA P X n ops rest i A T h = some (l, T', h', ps) → AllP ps → OpsRun P X n ops rest i T h l T' h'
  | [], i, A, T, T', h, h', l, ps, hr, _ => by
    simp only [runA, Option.some.injEq, Prod.mk.injEq] at hr
    obtain ⟨rfl, rfl, rfl, rfl⟩ := hr
    exact .nil _ _ _
  | o :: r, i, A, T, T', h, h', l, ps, hr, hp => by
    simp only [runA, Option.bind_eq_some_iff, Option.map_eq_some_iff] at hr
    obtain ⟨⟨v, h1, p1⟩, hs, T1, hT, ⟨l2, T2, h2, q2⟩, hr, he⟩ := hr
    simp only [Prod.mk.injEq] at he
    obtain ⟨rfl, rfl, rfl, rfl⟩ := he
    obtain ⟨hp1, hp2⟩ := AllP.append.1 hp
    refine .cons ?_ hT (runA_run r (i + 1) _ hr hp2)
    generalize (nextA A).1 = a at hs
    cases a with
    | c =>
      simp only [stepA, Option.map_eq_some_iff, Prod.mk.injEq] at hs
      obtain ⟨⟨v', h1'⟩, ha, rfl, rfl, rfl⟩ := hs
      exact .plain ha
    | s v2 =>
      simp only [stepA, Option.map_eq_some_iff, Prod.mk.injEq] at hs
      obtain ⟨⟨v', h1'⟩, ha, rfl, rfl, rfl⟩ := hs
      obtain rfl : v' = v2 := hp1.1
      exact .plain ha
    | v v2 =>
      simp only [stepA] at hs
      split at hs
      · rename_i hw
        simp only [Option.map_eq_some_iff, Prod.mk.injEq] at hs
        obtain ⟨p, ht, rfl, rfl, rfl⟩ := hs
        exact .plain (toldV_aval hw ht hp1.1)
      · cases hs
    | m v2 h2 =>
      simp only [stepA] at hs
      split at hs
      · rename_i hw
        simp only [Option.map_eq_some_iff, Prod.mk.injEq] at hs
        obtain ⟨p, ht, rfl, rfl, rfl⟩ := hs
        exact toldM_step hw ht hp1.1
      · cases hs

theorem loadP_spec {x : Ent} {h : Heap} (hp : loadP P x h) : aloadOp P x.T h x.o.op = some x.v := by
  unfold loadP at hp
  split at hp
  · rename_i t a hop
    split at hp
    · rename_i av hav
      rw [hop]
      simp [aloadOp, hav, hp]
    · exact hp.elim
  · exact hp.elim
theorem AllP.mem : ∀ {l : List Prop}, AllP l → ∀ p ∈ l, p
  | [], _, p, hp => by cases hp
  | q :: l, h, p, hp => by
    rcases List.mem_cons.1 hp with rfl | hp
    · exact h.1
    · exact h.2.mem p hp
theorem dynProps_in {ops : Array Oper} {ms : List Nat} : ∀ (l prev : List Ent), (∀ p ∈ dynProps P ops ms prev l, p) → ∀ (x y : Ent) (k : Nat), l[k]? = some y → (x ∈ prev ∨ ∃ j, j < k ∧ l[j]? = some x) →
    (ms.getD y.i 0).testBit x.i = true ∨ ((isLoad ops x = true → isHeavy y.o = true → aloadOp P x.T y.h' x.o.op = some x.v) ∧ (isHeavy x.o = true → isLoad ops y = true → aloadOp P y.T x.h y.o.op = some y.v))
  | [], _, _, x, y, k, hy, _ => by simp at hy
  | z :: r, prev, hd, x, y, k, hy, hx => by
    simp only [dynProps, List.mem_append, List.mem_flatMap] at hd
    cases k with
    | zero =>
      simp only [List.getElem?_cons_zero, Option.some.injEq] at hy
      subst hy
      rcases hx with hx | ⟨j, hj, _⟩
      · by_cases hb : (ms.getD z.i 0).testBit x.i = true
        · exact .inl hb
        · right
          refine ⟨fun p q => loadP_spec ?_, fun p q => loadP_spec ?_⟩
          · exact hd _ (.inl ⟨x, hx, by rw [if_neg hb]; simp [p, q]⟩)
          · exact hd _ (.inl ⟨x, hx, by rw [if_neg hb]; simp [p, q]⟩)
      · omega
    | succ k =>
      simp only [List.getElem?_cons_succ] at hy
      refine dynProps_in r (z :: prev) (fun p hp => hd p (.inr hp)) x y k hy ?_
      rcases hx with hx | ⟨j, hj, hx⟩
      · exact .inl (List.mem_cons_of_mem _ hx)
      · cases j with
        | zero => simp only [List.getElem?_cons_zero, Option.some.injEq] at hx; subst hx; exact .inl (by simp)
        | succ j => exact .inr ⟨j, by omega, by simpa using hx⟩
theorem dynProps_spec {ops : Array Oper} {ms : List Nat} {l : List Ent} (h : AllP (dynProps P ops ms [] l)) : DynP P ops ms l :=
  fun x y j k hjk hx hy => dynProps_in l [] h.mem x y k hy (.inr ⟨j, hjk, hx⟩)

theorem RunsOk.less {c : Code} {T T' : Env} {h h' : Heap} {e : AExit} {L : List (Nat × Value)} (r : RunsOk P n c T h e T' h') (hL : (L.map fun q => T'.get q.1) = (L.map fun q => some q.2)) : RunsOk P n c T h e (slots L) h' :=
  ⟨r.runs.weaken (fun _ _ h => h) (slots_sub hL), r.nx⟩

section
variable {root : Code} {p : List Nat} {T : Env} {h : Heap} {Φ : AExit → Env → Heap → Prop}
/-- A region by answers. -/
theorem Det.reg (A : List (Nat × Ans)) (L : List (Nat × Value)) (h' : Heap) (ps : List Prop) (hs : isOps (sub root p) = true) (hX : ExtOk P X)
    (hr : (runA P X n (opsIn (sub root p)) (opsIn (sub root p)).toList 0 A T h).map (fun r => (L.map fun q => r.2.1.get q.1, r.2.2.1, r.2.2.2)) = some (L.map fun q => some q.2, h', ps))
    (hp : AllP ps) (d : Φ .normal (slots L) h') : Det P n (sub root p) T h Φ := by
  generalize sub root p = c at *
  cases c with
  | region id ops b =>
    cases b with
    | true => cases hs
    | false =>
      obtain ⟨⟨l, T', h2, qs⟩, hr2, he⟩ := Option.map_eq_some_iff.mp hr
      simp only [Prod.mk.injEq] at he
      obtain ⟨e1, rfl, rfl⟩ := he
      have R := runA_run _ 0 _ hr2 hp
      refine ⟨.normal, slots L, h2, RunsOk.less (T' := T') ⟨?_, R.nx⟩ e1, d⟩
      intro ds B ρ a w Q hE hH hQ
      refine wp_region ?_
      have := R.wp hX (Q := Q) (a := a) rfl hE hH hQ
      simpa [opsIn, List.range_eq_range'] using this
  | _ => cases hs
/-- .. that draws its order -/
theorem Det.regD (A : List (Nat × Ans)) (L : List (Nat × Value)) (h' : Heap) (ps qs : List Prop) (hs : isDraw (sub root p) = true) (hmix : P.follows .mixedOrders = true) (hX : ExtOk P X) (hst : staticOk (opsIn (sub root p)) = true)
    (hr : (runA P X n (opsIn (sub root p)) (opsIn (sub root p)).toList 0 A T h).map (fun r => (L.map fun q => r.2.1.get q.1, r.2.2.1, r.2.2.2, dynProps P (opsIn (sub root p)) (masks (opsIn (sub root p)).toList []) [] r.1)) = some (L.map fun q => some q.2, h', ps, qs))
    (hp : AllP ps) (hq : AllP qs) (d : Φ .normal (slots L) h') : Det P n (sub root p) T h Φ := by
  generalize sub root p = c at *
  cases c with
  | region id ops b =>
    cases b with
    | false => cases hs
    | true =>
      obtain ⟨⟨l, T', h2, qs'⟩, hr2, he⟩ := Option.map_eq_some_iff.mp hr
      simp only [Prod.mk.injEq] at he
      obtain ⟨e1, rfl, rfl, e4⟩ := he
      have R := runA_run _ 0 _ hr2 hp
      refine ⟨.normal, slots L, h2, RunsOk.less (T' := T') (R.draw hmix hX hst (dynProps_spec ?_)) e1, d⟩
      simp only [opsIn] at e4 ⊢
      rw [e4]
      exact hq
  | _ => cases hs
/-- .. ahead of other code -/
theorem Det.sreg (A : List (Nat × Ans)) (L : List (Nat × Value)) (h' : Heap) (ps : List Prop) (hs : isSeq (sub root p) = true) (hs1 : isOps (sub root (0 :: p)) = true) (hX : ExtOk P X)
    (hr : (runA P X n (opsIn (sub root (0 :: p))) (opsIn (sub root (0 :: p))).toList 0 A T h).map (fun r => (L.map fun q => r.2.1.get q.1, r.2.2.1, r.2.2.2)) = some (L.map fun q => some q.2, h', ps))
    (hp : AllP ps) (d : Det P n (sub root (1 :: p)) (slots L) h' Φ) : Det P n (sub root p) T h Φ :=
  Det.seqA hs (Det.reg A L h' ps hs1 hX hr hp d)
theorem Det.sregD (A : List (Nat × Ans)) (L : List (Nat × Value)) (h' : Heap) (ps qs : List Prop) (hs : isSeq (sub root p) = true) (hs1 : isDraw (sub root (0 :: p)) = true) (hmix : P.follows .mixedOrders = true) (hX : ExtOk P X) (hst : staticOk (opsIn (sub root (0 :: p))) = true)
    (hr : (runA P X n (opsIn (sub root (0 :: p))) (opsIn (sub root (0 :: p))).toList 0 A T h).map (fun r => (L.map fun q => r.2.1.get q.1, r.2.2.1, r.2.2.2, dynProps P (opsIn (sub root (0 :: p))) (masks (opsIn (sub root (0 :: p))).toList []) [] r.1)) = some (L.map fun q => some q.2, h', ps, qs))
    (hp : AllP ps) (hq : AllP qs) (d : Det P n (sub root (1 :: p)) (slots L) h' Φ) : Det P n (sub root p) T h Φ :=
  Det.seqA hs (Det.regD A L h' ps qs hs1 hmix hX hst hr hp hq d)
end

/-! ### what a call does, known -/
theorem DetFn.known {f : FuncId} {args : List Value} {h h' : Heap} {v : Value} (d : DetFn P f args h fun u g => u = v ∧ g = h') : DoesOk P f args h v h' := by
  obtain ⟨u, g, r, rfl, rfl⟩ := d
  exact r
theorem DoesOk.det {f : FuncId} {args : List Value} {h h' : Heap} {v : Value} {Ψ : Value → Heap → Prop} (d : DoesOk P f args h v h') (hp : Ψ v h') : DetFn P f args h Ψ := ⟨v, h', d, hp⟩
/-- the state at a function's head -/
theorem Det.enterS {f : FuncId} {args : List Value} {h : Heap} (fn : Func) (L : List (Nat × Value)) {Ψ : Value → Heap → Prop} (hf : P.funcs[f]? = some fn) (hb : fn.body.isSome = true) (hl : args.length ≤ fn.ntmps)
    (hL : (L.map fun q => (initEnv args).get q.1) = (L.map fun q => some q.2)) (d : Det P fn.ntmps (sub (bodyOf fn) []) (slots L) h fun e T h' => Fin P fn.results.toList Ψ e T h') : DetFn P f args h Ψ :=
  Det.enter hf hb hl (Det.weaken (slots_sub hL) d)

/-! ### rows in a memory that grew -/
theorem Heap.look_new {h : Heap} {t : Thing} {r : Nat} (hr : r = h.next) : (h.new t).get r = some t := by rw [Heap.get_new, if_pos hr]
theorem Heap.look_skip {h : Heap} {t : Thing} {r : Nat} {x : Option Thing} (hr : r < h.next) (hx : h.get r = x) : (h.new t).get r = x := by rw [Heap.get_new, if_neg (by omega), hx]
theorem Heap.get_new_lt {h : Heap} {t : Thing} {i : Nat} (hi : i < h.next) : (h.new t).get i = h.get i := by rw [Heap.get_new, if_neg (by omega)]
theorem Heap.look_put {h : Heap} {t : Thing} {r : Nat} : (h.put r t).get r = some t := by rw [Heap.get_put, if_pos rfl]
theorem Heap.look_over {h : Heap} {t : Thing} {i r : Nat} {x : Option Thing} (hr : r ≠ i) (hx : h.get r = x) : (h.put i t).get r = x := by rw [Heap.get_put, if_neg hr, hx]
theorem Heap.look_kill {h : Heap} {i r : Nat} {x : Option Thing} (hr : r ≠ i) (hx : h.get r = x) : (h.kill i).get r = x := by rw [Heap.get_kill, if_neg hr, hx]

theorem aindex_at {t e : TypeId} {r o len c w : Nat} {sp : Option Nat} {k : IntKind} {j : Int} {q : Nat} (hu : P.underlying t = some (.slice e)) (hs : szOf P e = some w) (h0 : 0 ≤ j) (h1 : j < (len : Int)) (hq : q = o + j.toNat * w) :
    aindexAddr P t (.slice (some ⟨r, o, sp⟩) len c) (.int k j) = some (.pointer (some ⟨r, q, none⟩)) := by rw [hq]; exact aindex_slice hu hs h0 h1
theorem astore_to {h : Heap} {t e : TypeId} {r o w : Nat} {cs cs' : List Value} {v : Value} (hg : h.get r = some (.row cs e)) (ht : szOf P t = some w) (hv : v.cells.toList.length = w) (hi : v.cells.toList.all isCell = true) (ho : o + w ≤ cs.length) (hc : over cs o v.cells.toList = cs') :
    undef = undef ∧ astore P h t (.pointer (some ⟨r, o, none⟩)) v = some (h.put r (.row cs' e)) := by
  refine ⟨rfl, ?_⟩
  subst hc
  simp only [astore, ht, Option.bind_some, hv, if_true, writeCells, hg]
  rw [if_pos ⟨by omega, hi⟩]

theorem astore_ints_to {h : Heap} {t e : TypeId} {r o : Nat} {k : IntKind} {xs : List Int} {x : Int} (hg : h.get r = some (.row (ints k xs) e)) (ht : szOf P t = some 1) (ho : o < xs.length) :
    undef = undef ∧ astore P h t (.pointer (some ⟨r, o, none⟩)) (.int k x) = some (h.put r (.row (ints k (xs.set o x)) e)) := ⟨rfl, astore_ints hg ht ho⟩

/-! ### rows that were made are dropped -/
mutual
theorem VRel.ren {ρ : Where} {N : Nat} (hd : ∀ i l, ρ i = some l → i < N) {v v' : Value} : VRel ρ v v' → RRel (under N) v v
  | .bool b => .bool b
  | .int k n => .int k n
  | .string s => .string s
  | .ptrNil => .ptrNil
  | .ptr i o l h => .ptr i o i (under_some.2 ⟨hd i l h.1, rfl⟩)
  | .sliceNil n c => .sliceNil n c
  | .slice i o spot n c a' c' l h _ _ _ => .slice i o spot n c i (under_some.2 ⟨hd i l h.1, rfl⟩)
  | .func fn x y x' y' hx hy => .func fn x y x y (VRels.ren hd hx) (VRels.ren hd hy)
  | .nilFunc => .nilFunc
  | .chanNil => .chanNil
  | .chan i _ l h _ => .chan i i (under_some.2 ⟨hd i l h, rfl⟩)
  | .mapNil => .mapNil
  | .map i l h _ => .map i i (under_some.2 ⟨hd i l h, rfl⟩)
  | .tok i m v' h => .tok i i m (by obtain ⟨l, p, q, h1, h2⟩ := h; exact under_some.2 ⟨hd i l h1, rfl⟩)
  | .nilIface => .nilIface
  | .iface t v v' h => .iface t v v (VRel.ren hd h)
  | .agg x x' h => .agg x x (VRels.ren hd h)
  | .tuple x x' h => .tuple x x (VRels.ren hd h)
theorem VRels.ren {ρ : Where} {N : Nat} (hd : ∀ i l, ρ i = some l → i < N) {vs vs' : List Value} : VRels ρ vs vs' → RRels (under N) vs vs
  | .nil => .nil
  | .cons v v' r r' h t => .cons v v r r (VRel.ren hd h) (VRels.ren hd t)
end
theorem ObjRel.ren {ρ : Where} {N : Nat} (hd : ∀ i l, ρ i = some l → i < N) {l : Loc} {cs : List Value} {e : TypeId} {o : Obj} (h : ObjRel ρ l cs e o) : RRels (under N) cs cs := by
  unfold ObjRel at h
  split at h
  · obtain ⟨_, c, _, _, _, _, v⟩ := h; exact v.ren hd
  · obtain ⟨_, _, _, _, _, v⟩ := h; exact v.ren hd
  · obtain ⟨_, _, _, v⟩ := h; exact v.ren hd
  · exact h.elim

/-- What a call made is dropped where nothing that is kept sees it; rows that are as they were see nothing that is new. -/
theorem DoesOk.drop {f : FuncId} {args : List Value} {h h' h₁ : Heap} {v : Value} (r : DoesOk P f args h v h') (hv : RRel (under h.next) v v)
    (hn : h₁.next = h.next) (hr : ∀ i, i < h.next → h₁.get i = h'.get i ∧ (h'.get i = h.get i ∨ TRel (under h.next) (h'.get i) (h'.get i))) (hz : h.ok → h₁.ok) : DoesOk P f args h v h₁ := by
  refine ⟨?_, fun hk => ⟨by omega, hz hk⟩⟩
  intro B ρ w args' hH ha
  refine (r.does B ρ w args' hH ha).mono ?_
  rintro e w' ⟨v', ρ', rfl, q1, q2, q3⟩
  have hz' := hz hH.fresh
  have up : ∀ i j l, under h.next i = some j → ρ' i = some l → ρ'.below h.next j = some l := fun i j l hi hl => by
    obtain ⟨h1, rfl⟩ := under_some.1 hi
    exact Where.below_some.2 ⟨h1, hl⟩
  have hb : ∀ i l, ρ'.below h.next i = some l → i < h.next ∧ ρ' i = some l := fun i l hi => Where.below_some.1 hi
  have le : ρ.le (ρ'.below h.next) := fun i l hi => Where.below_some.2 ⟨hH.dom i l hi, q3.le i l hi⟩
  have closed : ∀ i l, i < h.next → ρ' i = some l → TRel (under h.next) (h'.get i) (h'.get i) := by
    intro i l h1 h2
    rcases (hr i h1).2 with g2 | g2
    · have h3 := q3.old i l h2 h1
      rw [g2]
      generalize hx : h.get i = x
      cases x with
      | none => exact .none
      | some t =>
        cases t with
        | row cs e =>
          obtain ⟨_, _, o, _, v0⟩ := hH.row i l cs e h3 hx
          exact .row _ _ _ (v0.ren hH.dom)
        | ro cs =>
          obtain ⟨_, c0, _, _, _, _, _, v0⟩ := hH.ro i l cs h3 hx
          exact .ro _ _ (v0.ren hH.dom)
    · exact g2
  refine ⟨v', ρ'.below h.next, rfl, hv.out up _ q1, ⟨q2.size, ?_, hz', ?_, ?_, ?_⟩, ⟨le, by omega, ?_, ?_, ?_, ?_, q3.frame, q3.size, q3.os, q3.tape, q3.output⟩⟩
  · intro i l hi; have := (hb i l hi).1; omega
  · intro i l cs e hi hg
    obtain ⟨h1, h2⟩ := hb i l hi
    rw [(hr i h1).1] at hg
    obtain ⟨p1, p2, o, p4, p5⟩ := q2.row i l cs e h2 hg
    have g2 := closed i l h1 h2
    rw [hg] at g2
    cases g2 with
    | row _ _ _ k => exact ⟨p1, p2, o, p4, p5.out up k⟩
  · intro i l cs hi hg
    obtain ⟨h1, h2⟩ := hb i l hi
    rw [(hr i h1).1] at hg
    obtain ⟨p1, c, e, fr, p4, p6, p7, p8⟩ := q2.ro i l cs h2 hg
    have g2 := closed i l h1 h2
    rw [hg] at g2
    cases g2 with
    | ro _ _ k => exact ⟨p1, c, e, fr, p4, p6, p7, k.out up _ p8⟩
  · intro i j l m cs e ds g hi hj hg hg' hbl
    obtain ⟨h1, h2⟩ := hb i l hi
    obtain ⟨h3, h4⟩ := hb j m hj
    rw [(hr i h1).1] at hg
    rw [(hr j h3).1] at hg'
    exact q2.inj i j l m cs e ds g h2 h4 hg hg' hbl
  · intro i l hi h1; exact q3.old i l (hb i l hi).2 h1
  · intro i cs e hi hg
    rw [(hr i hi).1] at hg
    exact q3.live i cs e hi hg
  · intro i hi hn'
    rw [(hr i hi).1]
    exact q3.ghost i hi hn'
  · intro i l cs e hi h1
    have := (hb i l hi).1; omega

/-- g is what is kept of g', which came of h: new rows are let go -/
def Keep (h g g' : Heap) : Prop := h.next ≤ g'.next ∧ ∀ i, i < h.next → g.get i = g'.get i ∧ (g'.get i = h.get i ∨ TRel (under h.next) (g'.get i) (g'.get i))
theorem Keep.refl (h : Heap) : Keep h h h := ⟨Nat.le_refl _, fun _ _ => ⟨rfl, .inl rfl⟩⟩
theorem Keep.new {h g g' : Heap} {t : Thing} (k : Keep h g g') : Keep h g (g'.new t) :=
  ⟨Nat.le_succ_of_le k.1, fun i hi => by rw [Heap.get_new_lt (Nat.lt_of_lt_of_le hi k.1)]; exact k.2 i hi⟩
theorem Keep.own {h g g' : Heap} {r : Nat} {t : Thing} (hr : h.next ≤ r) (k : Keep h g g') : Keep h g (g'.put r t) :=
  ⟨k.1, fun i hi => by rw [Heap.get_put, if_neg (by omega)]; exact k.2 i hi⟩
theorem Keep.dead {h g g' : Heap} {r : Nat} (hr : h.next ≤ r) (k : Keep h g g') : Keep h g (g'.kill r) :=
  ⟨k.1, fun i hi => by rw [Heap.get_kill, if_neg (by omega)]; exact k.2 i hi⟩
theorem Keep.put {h g g' : Heap} {r : Nat} {t : Thing} (ht : TRel (under h.next) (some t) (some t)) (k : Keep h g g') : Keep h (g.put r t) (g'.put r t) :=
  ⟨k.1, fun i hi => by
    rw [Heap.get_put, Heap.get_put]
    by_cases e : i = r
    · rw [if_pos e, if_pos e]; exact ⟨rfl, .inr ht⟩
    · rw [if_neg e, if_neg e]; exact k.2 i hi⟩
theorem Keep.twice {h g g' : Heap} {r : Nat} {t u : Thing} (ht : TRel (under h.next) (some t) (some t)) (k : Keep h g g') : Keep h (g.put r t) ((g'.put r u).put r t) :=
  ⟨k.1, fun i hi => by
    rw [Heap.get_put, Heap.get_put, Heap.get_put]
    by_cases e : i = r
    · rw [if_pos e, if_pos e]; exact ⟨rfl, .inr ht⟩
    · rw [if_neg e, if_neg e, if_neg e]; exact k.2 i hi⟩
/-- a call that leaves memory as it was, but for what it made -/
theorem DetFn.quiet {f : FuncId} {args : List Value} {h : Heap} {v : Value} (hv : RRel (under h.next) v v) (d : DetFn P f args h fun u h' => u = v ∧ Keep h h h') : DetFn P f args h fun u h' => u = v ∧ h' = h := by
  obtain ⟨u, h', r, rfl, hg⟩ := d
  exact ⟨u, h, r.drop hv rfl hg.2 id, rfl, rfl⟩
/-- a call of which a part of the memory is kept -/
theorem DetFn.keep {f : FuncId} {args : List Value} {h h₁ : Heap} {v : Value} (hv : RRel (under h.next) v v) (hn : h₁.next = h.next) (hz : h.ok → h₁.ok)
    (d : DetFn P f args h fun u h' => u = v ∧ Keep h h₁ h') : DetFn P f args h fun u h' => u = v ∧ h' = h₁ := by
  obtain ⟨u, h', r, rfl, hg⟩ := d
  exact ⟨u, h₁, r.drop hv hn hg.2 hz, rfl, rfl⟩
theorem trel_ints {N : Nat} {k : IntKind} {xs : List Int} {e : TypeId} : TRel (under N) (some (.row (ints k xs) e)) (some (.row (ints k xs) e)) := .row _ _ _ (RRels.flats (ints_flat _ _))
theorem trel_flat {N : Nat} {cs : List Value} {e : TypeId} (h : cs.all Eng.flat = true) : TRel (under N) (some (.row cs e)) (some (.row cs e)) := .row _ _ _ (RRels.flats h)
theorem Heap.ok_put {h : Heap} (hk : h.ok) {i : Nat} (hi : i < h.next) (t : Thing) : (h.put i t).ok := by
  intro j hj
  rw [Heap.next_put] at hj
  rw [Heap.get_put, if_neg (by omega)]
  exact hk j hj
theorem rrel_flat {N : Nat} {v : Value} (h : flat v = true) : RRel (under N) v v := RRel.flat h
theorem bares_any {π : Ren} {d : Nat} (ih : ∀ {v : Value}, Eng.bare d v = true → RRel π v v) : ∀ {vs : List Value}, vs.all (Eng.bare d) = true → RRels π vs vs
  | [], _ => .nil
  | v :: vs, h => by
    simp only [List.all_cons, Bool.and_eq_true] at h
    exact .cons _ _ _ _ (ih h.1) (bares_any ih h.2)
theorem bare_any {π : Ren} : ∀ {d : Nat} {v : Value}, Eng.bare d v = true → RRel π v v
  | 0, _, h => by cases h
  | d + 1, v, h => by
    unfold Eng.bare at h
    split at h
    · cases ‹_ + 1 = 0›
    · rename_i he; obtain rfl := Nat.succ.inj he; exact .agg _ _ (bares_any bare_any h)
    · rename_i he; obtain rfl := Nat.succ.inj he; exact .tuple _ _ (bares_any bare_any h)
    · exact RRel.flat h
end
end Go.Proofs.YthijllagngkbgaaGreat.Eng
