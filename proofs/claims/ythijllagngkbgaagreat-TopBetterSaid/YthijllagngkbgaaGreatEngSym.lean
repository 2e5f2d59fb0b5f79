/- The engine, part 22: more rules for printed proofs: calls that answer and leave memory alone, loads, stores, appends and indices over rows of which only some is known. -/
import Derived.Test.YthijllagngkbgaaGreatEngFrame
namespace Go.Proofs.YthijllagngkbgaaGreat.Eng
open Go

section
variable {P : Program} {X : Ext} {n : Nat} {ops : Array Oper} {i : Nat} {s : St} {Φ : List Ent → St → Prop}

/-- what a call is given -/
def callAt (T : Env) (o : Oper) : Option (FuncId × List Value) := match o.op with
  | .call { callee := .value f, args := as, .. } => (rv T f).bind fun fv => (rvs T as.toList).bind fun vs => match fv with
    | .func (.func k) first captured => some (k, first.toList ++ vs ++ captured.toList)
    | _ => none
  | _ => none

def hasBody (P : Program) (k : FuncId) : Bool := match P.funcs[k]? with | some fn => !(fn.name == "runtime.NumGoroutine") && !fn.body.isNone | none => false
def slotOk (n : Nat) (o : Oper) : Bool := match o.dst with | some d => decide (d < n) | none => true

theorem putH_keep (v : Value) : putH ops i s v s.2 = put ops i s v := by unfold putH put; split <;> rfl

theorem OD.callK (k : FuncId) (args : List Value) {Ψ : Value → Heap → Prop} (D : DetFn P k args s.2 Ψ) (hc : callAt s.1 (opAt ops i) = some (k, args)) (hi : i < ops.size) (hd : slotOk n (opAt ops i) = true) (hw : awant ops s.1 (opAt ops i) = some true)
    (hfn : hasBody P k = true) (c : ∀ v h1, Ψ v h1 → OD P X n ops (i + 1) (putH ops i s v h1) (fun l => Φ (⟨opAt ops i, i, s.1, s.2, h1, v⟩ :: l))) : OD P X n ops i s Φ := OD.call k args D hc hi hd hw hfn c

/-- a call that answers v and leaves memory alone -/
theorem OD.callEq (k : FuncId) (args : List Value) {v : Value} (D : DetFn P k args s.2 fun u h1 => u = v ∧ h1 = s.2) (hc : callAt s.1 (opAt ops i) = some (k, args)) (hi : i < ops.size) (hd : slotOk n (opAt ops i) = true)
    (hw : awant ops s.1 (opAt ops i) = some true) (hfn : hasBody P k = true) (c : OD P X n ops (i + 1) (put ops i s v) (fun l => Φ (⟨opAt ops i, i, s.1, s.2, s.2, v⟩ :: l))) : OD P X n ops i s Φ :=
  OD.call k args D hc hi hd hw hfn (by
    intro u h2 hu
    rw [hu.1, hu.2, putH_keep]
    exact c)

/-- a call that answers v and leaves memory h1 -/
theorem OD.callTo (k : FuncId) (args : List Value) {v : Value} {h1 : Heap} (D : DetFn P k args s.2 fun u h2 => u = v ∧ h2 = h1) (hc : callAt s.1 (opAt ops i) = some (k, args)) (hi : i < ops.size) (hd : slotOk n (opAt ops i) = true)
    (hw : awant ops s.1 (opAt ops i) = some true) (hfn : hasBody P k = true) (c : OD P X n ops (i + 1) (putH ops i s v h1) (fun l => Φ (⟨opAt ops i, i, s.1, s.2, h1, v⟩ :: l))) : OD P X n ops i s Φ :=
  OD.call k args D hc hi hd hw hfn (by rintro _ _ ⟨rfl, rfl⟩; exact c)

/-- a call, gone through in place -/
theorem OD.callIn (k : FuncId) (args : List Value) (hc : callAt s.1 (opAt ops i) = some (k, args)) (hi : i < ops.size) (hd : slotOk n (opAt ops i) = true) (hw : awant ops s.1 (opAt ops i) = some true) (hfn : hasBody P k = true)
    (D : DetFn P k args s.2 fun v h1 => OD P X n ops (i + 1) (putH ops i s v h1) (fun l => Φ (⟨opAt ops i, i, s.1, s.2, h1, v⟩ :: l))) : OD P X n ops i s Φ := OD.call k args D hc hi hd hw hfn fun _ _ h => h

/-- a call of a function without a Go body -/
def noBody (P : Program) (k : FuncId) : Bool := match P.funcs[k]? with | some fn => !(fn.name == "runtime.NumGoroutine") && fn.body.isNone | none => false
theorem OD.ext (k : FuncId) (args : List Value) {v : Value} (hx : X k args = some v) (hc : callAt s.1 (opAt ops i) = some (k, args)) (hi : i < ops.size) (hd : slotOk n (opAt ops i) = true) (hw : awant ops s.1 (opAt ops i) = some true)
    (hfn : noBody P k = true) (c : OD P X n ops (i + 1) (put ops i s v) (fun l => Φ (⟨opAt ops i, i, s.1, s.2, s.2, v⟩ :: l))) : OD P X n ops i s Φ := by
  have ho : ops[i]? = some (opAt ops i) := by simp [opAt, hi]
  refine OD.keep ho hd (.plain ?_) c
  unfold noBody at hfn
  cases hk : P.funcs[k]? with
  | none => rw [hk] at hfn; simp at hfn
  | some fn =>
    rw [hk] at hfn
    simp only [Bool.and_eq_true, Bool.not_eq_true'] at hfn
    unfold callAt at hc
    split at hc
    · rename_i f as ts hop
      simp only [Option.bind_eq_some_iff] at hc
      obtain ⟨fv, hfv, vs, hvs, hc⟩ := hc
      split at hc
      · simp only [Option.some.injEq, Prod.mk.injEq] at hc
        obtain ⟨rfl, rfl⟩ := hc
        unfold aval
        rw [hw, hop]
        simp only [kindOf, aheavy, hfv, hvs, Option.bind_some, acall, hk, hfn.1, hfn.2, Bool.false_eq_true, if_false, if_true]
        rw [hx]; rfl
      · cases hc
    · cases hc

/-- any operation, told -/
theorem OD.at (v : Value) (h1 : Heap) (hv : aval P X noSum ops s.1 s.2 (opAt ops i) = some (v, h1)) (hi : i < ops.size) (hd : slotOk n (opAt ops i) = true) (k : OD P X n ops (i + 1) (putH ops i s v h1) (fun l => Φ (⟨opAt ops i, i, s.1, s.2, h1, v⟩ :: l))) : OD P X n ops i s Φ := by
  have ho : ops[i]? = some (opAt ops i) := by simp [opAt, hi]
  exact OD.step ho hd (.plain hv) k
/-- any operation that leaves memory alone, told -/
theorem OD.atK (v : Value) (hv : aval P X noSum ops s.1 s.2 (opAt ops i) = some (v, s.2)) (hi : i < ops.size) (hd : slotOk n (opAt ops i) = true) (k : OD P X n ops (i + 1) (put ops i s v) (fun l => Φ (⟨opAt ops i, i, s.1, s.2, s.2, v⟩ :: l))) : OD P X n ops i s Φ := by
  have ho : ops[i]? = some (opAt ops i) := by simp [opAt, hi]
  exact OD.keep ho hd (.plain hv) k

/-! ### loads -/
def loadAt (T : Env) (o : Oper) : Option (TypeId × Value) := match o.op with
  | .load t x => (rv T x).map fun a => (t, a)
  | _ => none
theorem OD.load (t : TypeId) (a : Value) {v : Value} (hl : aload P s.2 t a = some v) (ho : loadAt s.1 (opAt ops i) = some (t, a)) (hi : i < ops.size) (hd : slotOk n (opAt ops i) = true) (hw : awant ops s.1 (opAt ops i) = some true)
    (k : OD P X n ops (i + 1) (put ops i s v) (fun l => Φ (⟨opAt ops i, i, s.1, s.2, s.2, v⟩ :: l))) : OD P X n ops i s Φ := by
  refine OD.atK v ?_ hi hd k
  unfold loadAt at ho
  split at ho
  · rename_i t' x hop
    obtain ⟨a', h1, h2⟩ := Option.map_eq_some_iff.mp ho
    obtain ⟨rfl, rfl⟩ := Prod.mk.inj h2
    unfold aval
    rw [hw, hop]
    simp [kindOf, aloadOp, h1, hl]
  · cases ho

/-! ### stores -/
def storeAt (T : Env) (o : Oper) : Option (TypeId × Value × Value) := match o.op with
  | .store t a x => (rv T a).bind fun av => (rv T x).map fun xv => (t, av, xv)
  | _ => none
theorem OD.store (t : TypeId) (a x : Value) {h1 : Heap} (hs : astore P s.2 t a x = some h1) (ho : storeAt s.1 (opAt ops i) = some (t, a, x)) (hi : i < ops.size) (hd : slotOk n (opAt ops i) = true) (hw : awant ops s.1 (opAt ops i) = some true)
    (k : OD P X n ops (i + 1) (putH ops i s undef h1) (fun l => Φ (⟨opAt ops i, i, s.1, s.2, h1, undef⟩ :: l))) : OD P X n ops i s Φ := by
  refine OD.at undef h1 ?_ hi hd k
  unfold storeAt at ho
  split at ho
  · rename_i t' y z hop
    simp only [Option.bind_eq_some_iff, Option.map_eq_some_iff, Prod.mk.injEq] at ho
    obtain ⟨av, e1, xv, e2, rfl, rfl, rfl⟩ := ho
    unfold aval
    rw [hw, hop]
    simp [kindOf, aheavy, e1, e2, hs]
  · cases ho

/-! ### appends -/
def appendAt (T : Env) (o : Oper) : Option (Array TypeId × Value × Value) := match o.op with
  | .call { callee := .builtin .append, args, argTypes } => (rvs T args.toList).bind fun
    | [s, x] => some (argTypes, s, x)
    | _ => none
  | _ => none
theorem OD.append (ts : Array TypeId) (a x : Value) {v : Value} {h1 : Heap} (hs : aappend P s.2 ts a x = some (v, h1)) (ho : appendAt s.1 (opAt ops i) = some (ts, a, x)) (hi : i < ops.size) (hd : slotOk n (opAt ops i) = true)
    (hw : awant ops s.1 (opAt ops i) = some true) (k : OD P X n ops (i + 1) (putH ops i s v h1) (fun l => Φ (⟨opAt ops i, i, s.1, s.2, h1, v⟩ :: l))) : OD P X n ops i s Φ := by
  refine OD.at v h1 ?_ hi hd k
  unfold appendAt at ho
  split at ho
  · rename_i args ts' hop
    rw [Option.bind_eq_some_iff] at ho
    obtain ⟨l, e1, e2⟩ := ho
    split at e2
    · obtain ⟨rfl, rfl, rfl⟩ : _ = _ ∧ _ = _ ∧ _ = _ := by simpa using e2
      unfold aval
      rw [hw, hop]
      simp [kindOf, aheavy, e1, aappendZ_of hs]
    · cases e2
  · cases ho

/-! ### indices, slices, new rows -/
def indexAt (T : Env) (o : Oper) : Option (TypeId × Value × Value) := match o.op with
  | .indexAddr t x i => (rv T x).bind fun a => (rv T i).map fun k => (t, a, k)
  | _ => none
theorem OD.index (t : TypeId) (a x : Value) {v : Value} (hs : aindexAddr P t a x = some v) (ho : indexAt s.1 (opAt ops i) = some (t, a, x)) (hi : i < ops.size) (hd : slotOk n (opAt ops i) = true) (hw : awant ops s.1 (opAt ops i) = some true)
    (k : OD P X n ops (i + 1) (put ops i s v) (fun l => Φ (⟨opAt ops i, i, s.1, s.2, s.2, v⟩ :: l))) : OD P X n ops i s Φ := by
  refine OD.atK v ?_ hi hd k
  unfold indexAt at ho
  split at ho
  · rename_i t' y z hop
    simp only [Option.bind_eq_some_iff, Option.map_eq_some_iff, Prod.mk.injEq] at ho
    obtain ⟨av, e1, xv, e2, rfl, rfl, rfl⟩ := ho
    unfold aval
    rw [hw, hop]
    simp [kindOf, apure, e1, e2, hs]
  · cases ho

def sliceAt (T : Env) (o : Oper) : Option (TypeId × Value × Option Value × Option Value × Option Value) := match o.op with
  | .slice t x lo hi mx => (rv T x).bind fun a => (rvo T lo).bind fun l => (rvo T hi).bind fun h => (rvo T mx).map fun m => (t, a, l, h, m)
  | _ => none
theorem OD.slice (t : TypeId) (a : Value) (l h m : Option Value) {v : Value} (hs : asliceAt P t a l h m = some v) (ho : sliceAt s.1 (opAt ops i) = some (t, a, l, h, m)) (hi : i < ops.size) (hd : slotOk n (opAt ops i) = true)
    (hw : awant ops s.1 (opAt ops i) = some true) (k : OD P X n ops (i + 1) (put ops i s v) (fun l => Φ (⟨opAt ops i, i, s.1, s.2, s.2, v⟩ :: l))) : OD P X n ops i s Φ := by
  refine OD.atK v ?_ hi hd k
  unfold sliceAt at ho
  split at ho
  · rename_i t' x lo hi' mx hop
    simp only [Option.bind_eq_some_iff, Option.map_eq_some_iff, Prod.mk.injEq] at ho
    obtain ⟨av, e1, l', e2, h', e3, m', e4, rfl, rfl, rfl, rfl, rfl⟩ := ho
    unfold aval
    rw [hw, hop]
    simp [kindOf, apure, e1, e2, e3, e4, hs]
  · cases ho

/-- a new row, of cells that are told -/
theorem OD.fresh (cs : List Value) (e : TypeId) (sh : Shape) (hk : kindOf (opAt ops i).op = .fresh) (hs : afreshRow P s.1 (opAt ops i).op = some (cs, e, sh)) (hi : i < ops.size) (hd : slotOk n (opAt ops i) = true)
    (hw : awant ops s.1 (opAt ops i) = some true) (k : OD P X n ops (i + 1) (putH ops i s (sh.val s.2.next) (s.2.new (.row cs e))) (fun l => Φ (⟨opAt ops i, i, s.1, s.2, s.2.new (.row cs e), sh.val s.2.next⟩ :: l))) : OD P X n ops i s Φ := by
  refine OD.at _ _ ?_ hi hd k
  unfold aval
  rw [hw, hk]
  simp [hs]

/-! ### what lies in rows -/
theorem aload_cell {h : Heap} {t e : TypeId} {r o : Nat} {cs : List Value} {v : Value} (hg : h.get r = some (.row cs e)) (ht : aggT P t = some false) (hc : cs[o]? = some v) : aload P h t (.pointer (some ⟨r, o, none⟩)) = some v := by
  have ho : o < cs.length := by
    rcases Nat.lt_or_ge o cs.length with h1 | h1
    · exact h1
    · rw [List.getElem?_eq_none h1] at hc; cases hc
  have e1 : readCells h r o 1 = some [v] := by
    unfold readCells
    rw [hg]
    simp only []
    rw [if_pos (by omega), List.drop_eq_getElem_cons ho]
    rw [List.getElem?_eq_getElem ho] at hc
    simp [Option.some.inj hc]
  simp [aload, ht, e1]
theorem aload_cell_ro {h : Heap} {t : TypeId} {r o : Nat} {cs : List Value} {v : Value} (hg : h.get r = some (.ro cs)) (ht : aggT P t = some false) (hc : cs[o]? = some v) : aload P h t (.pointer (some ⟨r, o, none⟩)) = some v := by
  have ho : o < cs.length := by
    rcases Nat.lt_or_ge o cs.length with h1 | h1
    · exact h1
    · rw [List.getElem?_eq_none h1] at hc; cases hc
  have e1 : readCells h r o 1 = some [v] := by
    unfold readCells
    rw [hg]
    simp only []
    rw [if_pos (by omega), List.drop_eq_getElem_cons ho]
    rw [List.getElem?_eq_getElem ho] at hc
    simp [Option.some.inj hc]
  simp [aload, ht, e1]
theorem aload_agg {h : Heap} {t e : TypeId} {r o k : Nat} {cs vs : List Value} (hg : h.get r = some (.row cs e)) (ht : aggT P t = some true) (hs : szOf P t = some k) (hl : vs.length = k) (ho : o + k ≤ cs.length) (hc : (cs.drop o).take k = vs) :
    aload P h t (.pointer (some ⟨r, o, none⟩)) = some (.agg vs.toArray) := by
  subst hc
  simp [aload, ht, hs, readCells, hg, ho]
theorem aload_agg_ro {h : Heap} {t : TypeId} {r o k : Nat} {cs vs : List Value} (hg : h.get r = some (.ro cs)) (ht : aggT P t = some true) (hs : szOf P t = some k) (hl : vs.length = k) (ho : o + k ≤ cs.length) (hc : (cs.drop o).take k = vs) :
    aload P h t (.pointer (some ⟨r, o, none⟩)) = some (.agg vs.toArray) := by
  subst hc
  simp [aload, ht, hs, readCells, hg, ho]

theorem aindex_slice {t e : TypeId} {r o len c w : Nat} {sp : Option Nat} {k : IntKind} {j : Int} (hu : P.underlying t = some (.slice e)) (hs : szOf P e = some w) (h0 : 0 ≤ j) (h1 : j < (len : Int)) :
    aindexAddr P t (.slice (some ⟨r, o, sp⟩) len c) (.int k j) = some (.pointer (some ⟨r, o + j.toNat * w, none⟩)) := by
  simp [aindexAddr, hu, hs, intAt, h0, h1]

/-- numbers as cells -/
def ints (k : IntKind) (xs : List Int) : List Value := xs.map (.int k)
theorem ints_length (k : IntKind) (xs : List Int) : (ints k xs).length = xs.length := by simp [ints]
theorem ints_get {k : IntKind} {xs : List Int} {o : Nat} (h : o < xs.length) : (ints k xs)[o]? = some (.int k (xs.getD o 0)) := by simp [ints, h]
theorem ints_flat (k : IntKind) (xs : List Int) : (ints k xs).all flat = true := by
  induction xs with
  | nil => rfl
  | cons x xs ih => simp only [ints, List.map_cons, List.all_cons] at ih ⊢; rw [ih]; rfl

theorem astore_cell {h : Heap} {t e : TypeId} {r o : Nat} {cs : List Value} {v : Value} (hg : h.get r = some (.row cs e)) (ht : szOf P t = some 1) (hv : v.cells.toList = [v]) (hi : isCell v = true) (ho : o < cs.length) :
    astore P h t (.pointer (some ⟨r, o, none⟩)) v = some (h.put r (.row (cs.set o v) e)) := by
  simp only [astore, ht, Option.bind_some, hv, List.length_singleton, if_true, writeCells, hg, List.all_cons, List.all_nil, hi, Bool.and_true]
  rw [if_pos ⟨by omega, trivial⟩]
  congr 3
  unfold over
  rw [List.set_eq_take_append_cons_drop, if_pos ho]
  simp
theorem ints_set (k : IntKind) (xs : List Int) (o : Nat) (x : Int) : (ints k xs).set o (.int k x) = ints k (xs.set o x) := by
  simp [ints, List.map_set]
theorem astore_ints {h : Heap} {t e : TypeId} {r o : Nat} {k : IntKind} {xs : List Int} {x : Int} (hg : h.get r = some (.row (ints k xs) e)) (ht : szOf P t = some 1) (ho : o < xs.length) :
    astore P h t (.pointer (some ⟨r, o, none⟩)) (.int k x) = some (h.put r (.row (ints k (xs.set o x)) e)) := by
  rw [astore_cell hg ht rfl rfl (by rw [ints_length]; exact ho), ints_set]
theorem aload_ints {h : Heap} {t e : TypeId} {r o : Nat} {k : IntKind} {xs : List Int} (hg : h.get r = some (.row (ints k xs) e)) (ht : aggT P t = some false) (ho : o < xs.length) :
    aload P h t (.pointer (some ⟨r, o, none⟩)) = some (.int k (xs.getD o 0)) := aload_cell hg ht (ints_get ho)

/-! ### slots of a loop -/
def slots (L : List (Nat × Value)) : Env := L.foldr (fun p T => T.put p.1 (some p.2)) .leaf
theorem slots_sub {T : Env} : ∀ {L : List (Nat × Value)}, (L.map fun p => T.get p.1) = (L.map fun p => some p.2) → Env.sub (slots L) T
  | [], _ => fun t v h => by simp [slots, Tree.get_leaf] at h
  | p :: L, h => by
    simp only [List.map_cons, List.cons.injEq] at h
    intro t v hv
    simp only [slots, List.foldr_cons] at hv
    rw [Tree.get_put] at hv
    by_cases e : t = p.1
    · subst e; rw [if_pos rfl] at hv; rw [h.1, hv]
    · rw [if_neg e] at hv
      exact slots_sub h.2 t v hv
end
end Go.Proofs.YthijllagngkbgaaGreat.Eng
