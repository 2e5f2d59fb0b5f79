/- Slices of numbers and truths as a law's arguments: rows that are only read. No program. -/
import Derived.Test.YthijllagngkbgaaGreatEngLoop
import Derived.Test.YthijllagngkbgaaGreatEngOpen
namespace Go.Proofs.YthijllagngkbgaaGreat.Eng
open Go Go.ChangeShapes Go.WideShapes Go.RowKit

section
variable {H : Type} {enc : TypeId × Value → H} {P : Program} {W : World}

theorem cells_block {a : Addr} {v : Value} (h : W.cell? a = some v) : a.spot = none ∧ ∃ c e fr, W.heap[a.block]? = some (.cells c e fr) ∧ c[a.off]? = some v := by
  unfold World.cell? at h
  split at h
  · rename_i c e fr hb
    split at h
    · cases h
    · rename_i hs
      exact ⟨by cases hq : a.spot with | none => rfl | some x => rw [hq] at hs; simp at hs, c, e, fr, hb, h⟩
  · cases h

theorem add_off (b o k : Nat) : (⟨b, o, none⟩ : Addr).add k = ⟨b, o + k, none⟩ := addr_add b o k

/-- A slice of elements of numbers and truths. -/
theorem arg_slice {r : Reach} {b0 : Nat} {t e : TypeId} {ks : List SK} {v : Value} {dt : DataW H} {ps : List MemPlace} (d : Nat) (ht : P.underlying t = some (.slice e)) (hk : scal P d e = some ks) (hC : P.cellsOf e = ks.length) (h0 : 0 < ks.length)
    (hval : Value.okWide P W r b0 t v) (hd : DataW.Trod enc P W 0 (fun _ => true) true t v dt ps) :
    v = .slice none 0 0 ∨ ∃ (a : Addr) (len cap : Nat) (cells : List Value), v = .slice (some a) len cap ∧ len ≤ cap ∧ (cap ≠ 0 → a = ⟨a.block, a.off, none⟩) ∧ cells.length = len * ks.length ∧ (∀ i, i < len → Fits ks ((cells.drop (i * ks.length)).take ks.length)) ∧
      (0 < len → ∃ c e' fr, W.heap[a.block]? = some (.cells c e' fr) ∧ a = ⟨a.block, a.off, none⟩ ∧ a.off + len * ks.length ≤ c.size ∧ (c.toList.drop a.off).take (len * ks.length) = cells) := by
  obtain ⟨a0, len0, cap0, rfl⟩ := okWide_slice ht hval
  obtain ⟨fuel, hf⟩ := hd
  rcases Go.Deep.open_slice ht hf with ⟨hcs, _⟩ | ⟨a, len, cap, m, n, D, Pl, hcs, _, hl, _, hm, _, hi⟩
  · left
    simp [Value.cells] at hcs
    obtain ⟨rfl, rfl, rfl⟩ := hcs
    rfl
  · right
    simp [Value.cells] at hcs
    obtain ⟨rfl, rfl, rfl⟩ := hcs
    have hm' : m = cap0 := by simpa using hm
    subst hm'
    rw [hC] at hi
    have spotless : m ≠ 0 → a = ⟨a.block, a.off, none⟩ := by
      intro hm0
      obtain ⟨cs0, h1, _⟩ := hi 0 (by omega)
      obtain ⟨_, hl0, hg0⟩ := World.cells?_some h1
      have hc0 := hg0 0 h0
      have hcs0 : cs0[0]? = some (cs0[0]'(by omega)) := List.getElem?_eq_getElem (by omega)
      have hadd : (a.add (0 * ks.length)).add 0 = a := by simp [Addr.add]
      rw [hadd, hcs0] at hc0
      obtain ⟨hs, _⟩ := cells_block hc0
      cases a; simp at hs; simp [hs]
    by_cases hz : 0 < len0
    · -- the block
      obtain ⟨cs0, h1, _⟩ := hi 0 (by omega)
      obtain ⟨_, hl0, hg0⟩ := World.cells?_some h1
      have hc0 := hg0 0 h0
      have hcs0 : cs0[0]? = some (cs0[0]'(by omega)) := List.getElem?_eq_getElem (by omega)
      have hadd : (a.add (0 * ks.length)).add 0 = a := by simp [Addr.add]
      rw [hadd, hcs0] at hc0
      obtain ⟨hs, c, e', fr, hb, _⟩ := cells_block hc0
      have ha : a = ⟨a.block, a.off, none⟩ := by cases a; simp at hs; simp [hs]
      have cell : ∀ i, i < len0 → ∃ cs' x, DataW.trod enc P W 0 (fun _ => true) true n e cs' = some x ∧ cs'.length = ks.length ∧ ∀ j, j < ks.length → c[a.off + (i * ks.length + j)]? = cs'[j]? := by
        intro i hlt
        obtain ⟨cs', h1, h2⟩ := hi i (by omega)
        obtain ⟨_, hl', hg'⟩ := World.cells?_some h1
        refine ⟨cs', _, h2, hl', fun j hj => ?_⟩
        have hc := hg' j hj
        rw [Go.Deep.add_add, ha, add_off] at hc
        have hx : cs'[j]? = some (cs'[j]'(by omega)) := List.getElem?_eq_getElem (by omega)
        rw [hx] at hc ⊢
        obtain ⟨_, c2, e2, fr2, hb2, hv⟩ := cells_block hc
        simp only [] at hb2 hv
        rw [hb] at hb2
        obtain ⟨rfl, rfl, rfl⟩ := Obj.cells.inj (Option.some.inj hb2)
        exact hv
      have hsz : a.off + len0 * ks.length ≤ c.size := by
        obtain ⟨cs', x, _, hl', hg⟩ := cell (len0 - 1) (by omega)
        have := hg (ks.length - 1) (by omega)
        have hx : cs'[ks.length - 1]? = some (cs'[ks.length - 1]'(by omega)) := List.getElem?_eq_getElem (by omega)
        rw [hx] at this
        have hlt : a.off + ((len0 - 1) * ks.length + (ks.length - 1)) < c.size := by
          rcases Nat.lt_or_ge (a.off + ((len0 - 1) * ks.length + (ks.length - 1))) c.size with h | h
          · exact h
          · rw [Array.getElem?_eq_none h] at this; cases this
        have e3 : (len0 - 1) * ks.length + ks.length = len0 * ks.length := by
          have : len0 = (len0 - 1) + 1 := by omega
          conv => rhs; rw [this, Nat.add_mul]
          omega
        omega
      refine ⟨a, len0, m, (c.toList.drop a.off).take (len0 * ks.length), rfl, hl, spotless, by simp; omega, ?_, fun _ => ⟨c, e', fr, hb, ha, hsz, rfl⟩⟩
      intro i hlt
      obtain ⟨cs', x, h2, hl', hg⟩ := cell i hlt
      have hmul : i * ks.length + ks.length ≤ len0 * ks.length := by
        have := Nat.mul_le_mul_right ks.length (show i + 1 ≤ len0 by omega)
        rw [Nat.add_mul] at this; omega
      have heq : ((((c.toList.drop a.off).take (len0 * ks.length)).drop (i * ks.length)).take ks.length) = cs' := by
        apply List.ext_getElem?
        intro j
        by_cases hj : j < ks.length
        · rw [List.getElem?_take, if_pos hj, List.getElem?_drop, List.getElem?_take, if_pos (by omega), List.getElem?_drop, ← hg j hj]
          simp
        · rw [List.getElem?_eq_none (by simp; omega), List.getElem?_eq_none (by omega)]
      rw [heq]
      exact trod_fits d hk h2
    · refine ⟨a, len0, m, [], rfl, hl, spotless, ?_, fun i hlt => by omega, fun h => by omega⟩
      rw [show len0 = 0 by omega]; simp

/-! ### rows that are only read -/
/-- where a row of an argument lies -/
def argLoc (a : Addr) (cells : List Value) : Loc := { blk := a.block, off := a.off, size := cells.length, known := cells.length, own := false }
/-- the row itself; without cells there is none -/
def argRow (cells : List Value) : Option Thing := if cells = [] then none else some (.ro cells)
def argWhere (l : List (Addr × List Value)) : Where := fun i => (l[i]?).map fun p => argLoc p.1 p.2
def argHeap (l : List (Addr × List Value)) : Heap := heapL (l.map fun p => argRow p.2)

theorem HRel.args (l : List (Addr × List Value)) (hl : ∀ p ∈ l, p.2.all flat = true ∧ (p.2 ≠ [] → ∃ c e fr, W.heap[p.1.block]? = some (.cells c e fr) ∧ p.1.off + p.2.length ≤ c.size ∧ (c.toList.drop p.1.off).take p.2.length = p.2)) :
    HRel W.heap.size (argWhere l) (argHeap l) W := by
  have get : ∀ i t, (argHeap l).get i = some t → ∃ p, l[i]? = some p ∧ argRow p.2 = some t := by
    intro i t h
    unfold argHeap at h
    rw [heapL_get, List.getElem?_map] at h
    cases hp : l[i]? with
    | none => rw [hp] at h; simp at h
    | some p => rw [hp] at h; exact ⟨p, rfl, by simpa using h⟩
  have noRow : ∀ i cs e, (argHeap l).get i ≠ some (.row cs e) := by
    intro i cs e h
    obtain ⟨p, _, hr⟩ := get i _ h
    unfold argRow at hr
    split at hr <;> cases hr
  refine ⟨Nat.le_refl _, ?_, heapL_ok _, fun i lc cs e _ hg => absurd hg (noRow i cs e), ?_, fun i j lc m cs e ds f _ _ hg => absurd hg (noRow i cs e)⟩
  · intro i lc hi
    unfold argWhere at hi
    obtain ⟨p, hp, _⟩ := Option.map_eq_some_iff.mp hi
    have : i < l.length := by
      rcases Nat.lt_or_ge i l.length with h | h
      · exact h
      · rw [List.getElem?_eq_none h] at hp; cases hp
    show i < (l.map _).length
    simpa using this
  · intro i lc cs hi hg
    obtain ⟨p, hp, hr⟩ := get i _ hg
    unfold argWhere at hi
    rw [hp] at hi
    obtain rfl := Option.some.inj hi
    unfold argRow at hr
    split at hr
    · cases hr
    · rename_i hne
      obtain rfl := Thing.ro.inj (Option.some.inj hr)
      obtain ⟨hfl, hc⟩ := hl p (List.mem_of_getElem? hp)
      obtain ⟨c, e, fr, hb, hsz, heq⟩ := hc hne
      refine ⟨?_, c, e, fr, hb, rfl, hsz, ?_⟩
      · rcases Nat.lt_or_ge p.1.block W.heap.size with h | h
        · exact h
        · rw [Array.getElem?_eq_none h] at hb; cases hb
      · show VRels _ p.2 ((c.toList.drop p.1.off).take p.2.length)
        rw [heq]
        exact flats_rel _ hfl

/-- An argument's slice, over the rows. -/
theorem VRel.arg {l : List (Addr × List Value)} {i len cap : Nat} {a : Addr} {cells : List Value} (hi : l[i]? = some (a, cells)) (hl : len ≤ cap) (ha : cap ≠ 0 → a = ⟨a.block, a.off, none⟩) : VRel (argWhere l) (.slice (some ⟨i, 0, none⟩) len cap) (.slice (some a) len cap) :=
  .slice _ _ _ _ _ _ _ (argLoc a cells) ⟨by simp [argWhere, hi], rfl⟩ hl (fun h => by rw [ha h]; simp [argLoc]) (.inl rfl)

/-! ### a slice of an argument, in a law -/
/-- the slice a, len, cap lies in row i, of elements ks -/
structure SArg (i : Nat) (ks : List SK) (a : Option Addr) (len cap : Nat) (cells : List Value) : Prop where
  form : (a = none ∧ len = 0 ∧ cap = 0) ∨ a = some ⟨i, 0, none⟩
  le : len ≤ cap
  size : cells.length = len * ks.length
  fits : ∀ j, j < len → Fits ks ((cells.drop (j * ks.length)).take ks.length)
/-- the number in a cell -/
def nAt (cells : List Value) (k : Nat) : Int := match cells[k]? with
  | some (.int _ n) => n
  | _ => 0
/-- the truth in a cell -/
def bAt (cells : List Value) (k : Nat) : Bool := match cells[k]? with
  | some (.bool b) => b
  | _ => false
def SK.val (cells : List Value) (k : Nat) : SK → Value
  | .int i => .int i (nAt cells k)
  | .bool => .bool (bAt cells k)
def valsAt (cells : List Value) : Nat → List SK → List Value
  | _, [] => []
  | k, s :: r => s.val cells k :: valsAt cells (k + 1) r
theorem valsAt_fits : ∀ {ks : List SK} {cells : List Value} {k : Nat}, Fits ks ((cells.drop k).take ks.length) → (cells.drop k).take ks.length = valsAt cells k ks
  | [], cells, k, _ => by simp [valsAt]
  | s :: r, cells, k, h => by
    cases hc : cells.drop k with
    | nil => rw [hc] at h; exact h.elim
    | cons v t =>
      rw [hc] at h
      simp only [List.length_cons, List.take_succ_cons] at h ⊢
      have ht : t = cells.drop (k + 1) := by rw [← List.drop_drop, hc]; rfl
      have hv : cells[k]? = some v := by
        have := congrArg (·[0]?) hc
        simpa using this
      have h2 := h.2
      rw [ht] at h2 ⊢
      rw [valsAt_fits h2]
      simp only [valsAt]
      congr 1
      cases s with
      | int i => obtain ⟨n, rfl, _⟩ := h.1; simp [SK.val, nAt, hv]
      | bool => obtain ⟨b, rfl⟩ := h.1; simp [SK.val, bAt, hv]
theorem nAt_wf : ∀ {ks : List SK} {cells : List Value} {k j : Nat} {i : IntKind}, Fits ks ((cells.drop k).take ks.length) → ks[j]? = some (.int i) → (Lit.int i (nAt cells (k + j))).wf = true
  | [], _, _, j, _, _, h => by simp at h
  | s :: r, cells, k, j, i, h, hj => by
    cases hc : cells.drop k with
    | nil => rw [hc] at h; exact h.elim
    | cons v t =>
      rw [hc] at h
      simp only [List.length_cons, List.take_succ_cons] at h
      have ht : t = cells.drop (k + 1) := by rw [← List.drop_drop, hc]; rfl
      have hv : cells[k]? = some v := by
        have := congrArg (·[0]?) hc
        simpa using this
      cases j with
      | zero =>
        simp only [List.getElem?_cons_zero, Option.some.injEq] at hj
        subst hj
        obtain ⟨n, rfl, hw⟩ := h.1
        simpa [nAt, hv] using hw
      | succ j =>
        have h2 := h.2
        rw [ht] at h2
        have := nAt_wf h2 (show r[j]? = some (.int i) by simpa using hj)
        rwa [show k + (j + 1) = k + 1 + j by omega]

theorem SArg.flats {i : Nat} {ks : List SK} {a : Option Addr} {len cap : Nat} {cells : List Value} (h : SArg i ks a len cap cells) (hk : 0 < ks.length) : cells.all flat = true := by
  rw [List.all_eq_true]
  intro v hv
  obtain ⟨k, hk2, rfl⟩ := List.getElem_of_mem hv
  have hs := h.size
  have hj : k / ks.length < len := Nat.div_lt_of_lt_mul (by rw [Nat.mul_comm]; omega)
  have hf := (h.fits _ hj).flats
  rw [List.all_eq_true] at hf
  refine hf _ ?_
  have hm := Nat.mod_lt k hk
  have hd : k / ks.length * ks.length + k % ks.length = k := by rw [Nat.mul_comm]; exact Nat.div_add_mod k ks.length
  refine List.mem_of_getElem? (i := k % ks.length) ?_
  rw [List.getElem?_take, if_pos hm, List.getElem?_drop, hd, List.getElem?_eq_getElem hk2]
theorem argRow_closed {N : Nat} {cells : List Value} (h : cells.all flat = true) : closedT N (argRow cells) = true := by
  unfold argRow
  split
  · rfl
  · exact flats_closed h
theorem SArg.closed {i N d : Nat} {ks : List SK} {a : Option Addr} {len cap : Nat} {cells : List Value} (h : SArg i ks a len cap cells) (hi : i < N) : closedV N (d + 1) (.slice a len cap) = true := by
  rcases h.form with ⟨rfl, _, _⟩ | rfl
  · rfl
  · simp [closedV, hi]
theorem SArg.index {i : Nat} {ks : List SK} {a : Option Addr} {len cap w : Nat} {cells : List Value} {t e : TypeId} {k : IntKind} {j : Int} (h : SArg i ks a len cap cells) (hu : P.underlying t = some (.slice e)) (hs : szOf P e = some w) (h0 : 0 ≤ j) (h1 : j < (len : Int)) :
    aindexAddr P t (.slice a len cap) (.int k j) = some (.pointer (some ⟨i, j.toNat * w, none⟩)) := by
  rcases h.form with ⟨_, h2, _⟩ | rfl
  · omega
  · rw [aindex_slice hu hs h0 h1]; simp
theorem SArg.load {i : Nat} {ks : List SK} {a : Option Addr} {len cap : Nat} {cells : List Value} {hp : Heap} {t : TypeId} {j : Nat} (h : SArg i ks a len cap cells) (hg : hp.get i = argRow cells) (ht : aggT P t = some true) (hs : szOf P t = some ks.length) (hk : 0 < ks.length) (hj : j < len) :
    aload P hp t (.pointer (some ⟨i, j * ks.length, none⟩)) = some (.agg (valsAt cells (j * ks.length) ks).toArray) := by
  have hm : j * ks.length + ks.length ≤ cells.length := by
    have := Nat.mul_le_mul_right ks.length (show j + 1 ≤ len by omega)
    rw [Nat.add_mul] at this
    rw [h.size]; omega
  have hne : cells ≠ [] := by
    intro e
    rw [e, List.length_nil] at hm
    omega
  unfold argRow at hg
  rw [if_neg hne] at hg
  have hf := valsAt_fits (h.fits j hj)
  refine aload_agg_ro hg ht hs ?_ hm hf
  rw [← hf, List.length_take, List.length_drop]; omega

/-- a number of an element -/
theorem SArg.cell {i : Nat} {ks : List SK} {a : Option Addr} {len cap : Nat} {cells : List Value} {j q : Nat} {k : IntKind} (h : SArg i ks a len cap cells) (hj : j < len) (hk : ks[q]? = some (.int k)) :
    cells[j * ks.length + q]? = some (.int k (nAt cells (j * ks.length + q))) := by
  have hf := valsAt_fits (h.fits j hj)
  have hq : q < ks.length := by
    rcases Nat.lt_or_ge q ks.length with h1 | h1
    · exact h1
    · rw [List.getElem?_eq_none h1] at hk; cases hk
  have hc : cells[j * ks.length + q]? = (valsAt cells (j * ks.length) ks)[q]? := by
    rw [← hf, List.getElem?_take, if_pos hq, List.getElem?_drop]
  have key : ∀ (ks : List SK) (o q : Nat), ks[q]? = some (.int k) → (valsAt cells o ks)[q]? = some (.int k (nAt cells (o + q))) := by
    intro ks
    induction ks with
    | nil => intro o q h; simp at h
    | cons s r ih =>
      intro o q h
      cases q with
      | zero =>
        simp only [List.getElem?_cons_zero, Option.some.injEq] at h
        subst h
        rfl
      | succ q =>
        simp only [List.getElem?_cons_succ] at h
        simp only [valsAt, List.getElem?_cons_succ]
        rw [ih (o + 1) q h, show o + 1 + q = o + (q + 1) by omega]
  rw [hc]
  exact key ks _ q hk
theorem SArg.row {i : Nat} {ks : List SK} {a : Option Addr} {len cap : Nat} {cells : List Value} {h : Heap} {j : Nat} (hA : SArg i ks a len cap cells) (hg : h.get i = argRow cells) (hk : 0 < ks.length) (hj : j < len) : h.get i = some (.ro cells) := by
  have hm : j * ks.length + ks.length ≤ cells.length := by
    have := Nat.mul_le_mul_right ks.length (show j + 1 ≤ len by omega)
    rw [Nat.add_mul] at this
    rw [hA.size]; omega
  rw [hg]
  unfold argRow
  rw [if_neg]
  intro e
  rw [e, List.length_nil] at hm
  omega

theorem argHeap_get {l : List (Addr × List Value)} {i : Nat} {a : Addr} {cells : List Value} (h : l[i]? = some (a, cells)) : (argHeap l).get i = argRow cells := by
  unfold argHeap
  rw [heapL_get, List.getElem?_map, h]; rfl
theorem argHeap_next (l : List (Addr × List Value)) : (argHeap l).next = l.length := by simp [argHeap, heapL]

/-- an argument's slice, opened: row i is its own -/
theorem arg_open (i : Nat) {r : Reach} {b0 : Nat} {t e : TypeId} {ks : List SK} {v : Value} {dt : DataW H} {ps : List MemPlace} (d : Nat) (ht : P.underlying t = some (.slice e)) (hk : scal P d e = some ks) (hC : P.cellsOf e = ks.length) (h0 : 0 < ks.length)
    (hval : Value.okWide P W r b0 t v) (hd : DataW.Trod enc P W 0 (fun _ => true) true t v dt ps) :
    ∃ (o : Option Addr) (len cap : Nat) (cells : List Value) (A : Addr), SArg i ks o len cap cells ∧ (cells.all flat = true ∧ (cells ≠ [] → ∃ c e fr, W.heap[A.block]? = some (.cells c e fr) ∧ A.off + cells.length ≤ c.size ∧ (c.toList.drop A.off).take cells.length = cells)) ∧
      ∀ l : List (Addr × List Value), l[i]? = some (A, cells) → VRel (argWhere l) (.slice o len cap) v := by
  rcases arg_slice d ht hk hC h0 hval hd with rfl | ⟨a, len, cap, cells, rfl, h1, h2, h3, h4, h5⟩
  · refine ⟨none, 0, 0, [], ⟨0, 0, none⟩, ⟨.inl ⟨rfl, rfl, rfl⟩, Nat.le_refl _, by simp, fun j hj => by omega⟩, ⟨rfl, fun h => absurd rfl h⟩, fun l _ => .sliceNil 0 0⟩
  · have S : SArg i ks (some ⟨i, 0, none⟩) len cap cells := ⟨.inr rfl, h1, h3, h4⟩
    refine ⟨some ⟨i, 0, none⟩, len, cap, cells, a, S, ⟨S.flats h0, fun hne => ?_⟩, fun l hl => VRel.arg hl h1 h2⟩
    have hlen : 0 < len := by
      rcases Nat.eq_zero_or_pos len with h | h
      · subst h; exact absurd (List.length_eq_zero_iff.1 (by omega)) hne
      · exact h
    obtain ⟨c, e', fr, hb, ha, hsz, heq⟩ := h5 hlen
    exact ⟨c, e', fr, hb, by omega, by rw [h3]; exact heq⟩

/-- A law's call over the rows of its arguments. -/
theorem DetFn.callsR {f : FuncId} {args args' : List Value} {b : Bool} {ρ : Where} {h : Heap} (hH : HRel W.heap.size ρ h W) (ha : VRels ρ args args') (d : DetFn P f args h fun u _ => u = .bool b) :
    Calls P f args'.toArray W fun e w' => e = .returned (.bool b) ∧ RowKit.Below W.heap.size W w' := by
  obtain ⟨u, h', r, rfl⟩ := d
  refine (r.does W.heap.size ρ W args' hH ha).mono ?_
  rintro e w' ⟨v', ρ', rfl, h1, _, h3⟩
  cases h1
  exact ⟨rfl, h3.below hH⟩
end
end Go.Proofs.YthijllagngkbgaaGreat.Eng
