/- Slices that lie in a struct, as a law's argument. No program. -/
import Derived.Test.YtmpendenaflonaaEngArgs
namespace Go.Proofs.Ytmpendenaflonaa.Eng
open Go Go.ChangeShapes Go.WideShapes Go.RowKit

section
variable {H : Type} {enc : TypeId × Value → H} {P : Program} {W : World}

/-- A slice of elements of numbers and truths, by its cell. -/
theorem arg_sliceT {t e : TypeId} {ks : List SK} {fuel : Nat} {cs : List Value} {x : DataW H × List MemPlace} (d : Nat) (ht : P.underlying t = some (.slice e)) (hk : scal P d e = some ks) (hC : P.cellsOf e = ks.length) (h0 : 0 < ks.length)
    (hf : DataW.trod enc P W 0 (fun _ => true) true fuel t cs = some x) :
    cs = [.slice none 0 0] ∨ ∃ (a : Addr) (len cap : Nat) (cells : List Value), cs = [.slice (some a) len cap] ∧ len ≤ cap ∧ (cap ≠ 0 → a = ⟨a.block, a.off, none⟩) ∧ cells.length = len * ks.length ∧ (∀ i, i < len → Fits ks ((cells.drop (i * ks.length)).take ks.length)) ∧
      (0 < len → ∃ c e' fr, W.heap[a.block]? = some (.cells c e' fr) ∧ a = ⟨a.block, a.off, none⟩ ∧ a.off + len * ks.length ≤ c.size ∧ (c.toList.drop a.off).take (len * ks.length) = cells) := by
  rcases Go.Deep.open_slice ht hf with ⟨hcs, _⟩ | ⟨a, len0, cap0, m, n, D, Pl, hcs, _, hl, _, hm, _, hi⟩
  · left
    exact hcs
  · right
    subst hcs
    have hm' : m = cap0 := by simpa using hm
    subst hm'
    rw [hC] at hi
    have spotless : m ≠ 0 → a = ⟨a.block, a.off, none⟩ := by
      intro hm0
      obtain ⟨cs0, h1, _⟩ := hi 0 (by omega)
      obtain ⟨_, hl0, hg0⟩ := World.cells?_some h1
      have hc0 := hg0 0 h0
      have hcs0 : cs0[0]? = some (cs0[0]'(by omega)) := List.getElem?_eq_getElem (by omega)
      have hadd : (a.add (0 * ks.length)).add 0 = a := by simp [Addr.add]
      rw [hadd, hcs0] at hc0
      obtain ⟨hs, _⟩ := cells_block hc0
      cases a; simp at hs; simp [hs]
    by_cases hz : 0 < len0
    · -- the block
      obtain ⟨cs0, h1, _⟩ := hi 0 (by omega)
      obtain ⟨_, hl0, hg0⟩ := World.cells?_some h1
      have hc0 := hg0 0 h0
      have hcs0 : cs0[0]? = some (cs0[0]'(by omega)) := List.getElem?_eq_getElem (by omega)
      have hadd : (a.add (0 * ks.length)).add 0 = a := by simp [Addr.add]
      rw [hadd, hcs0] at hc0
      obtain ⟨hs, c, e', fr, hb, _⟩ := cells_block hc0
      have ha : a = ⟨a.block, a.off, none⟩ := by cases a; simp at hs; simp [hs]
      have cell : ∀ i, i < len0 → ∃ cs' x, DataW.trod enc P W 0 (fun _ => true) true n e cs' = some x ∧ cs'.length = ks.length ∧ ∀ j, j < ks.length → c[a.off + (i * ks.length + j)]? = cs'[j]? := by
        intro i hlt
        obtain ⟨cs', h1, h2⟩ := hi i (by omega)
        obtain ⟨_, hl', hg'⟩ := World.cells?_some h1
        refine ⟨cs', _, h2, hl', fun j hj => ?_⟩
        have hc := hg' j hj
        rw [Go.Deep.add_add, ha, add_off] at hc
        have hx : cs'[j]? = some (cs'[j]'(by omega)) := List.getElem?_eq_getElem (by omega)
        rw [hx] at hc ⊢
        obtain ⟨_, c2, e2, fr2, hb2, hv⟩ := cells_block hc
        simp only [] at hb2 hv
        rw [hb] at hb2
        obtain ⟨rfl, rfl, rfl⟩ := Obj.cells.inj (Option.some.inj hb2)
        exact hv
      have hsz : a.off + len0 * ks.length ≤ c.size := by
        obtain ⟨cs', x, _, hl', hg⟩ := cell (len0 - 1) (by omega)
        have := hg (ks.length - 1) (by omega)
        have hx : cs'[ks.length - 1]? = some (cs'[ks.length - 1]'(by omega)) := List.getElem?_eq_getElem (by omega)
        rw [hx] at this
        have hlt : a.off + ((len0 - 1) * ks.length + (ks.length - 1)) < c.size := by
          rcases Nat.lt_or_ge (a.off + ((len0 - 1) * ks.length + (ks.length - 1))) c.size with h | h
          · exact h
          · rw [Array.getElem?_eq_none h] at this; cases this
        have e3 : (len0 - 1) * ks.length + ks.length = len0 * ks.length := by
          have : len0 = (len0 - 1) + 1 := by omega
          conv => rhs; rw [this, Nat.add_mul]
          omega
        omega
      refine ⟨a, len0, m, (c.toList.drop a.off).take (len0 * ks.length), rfl, hl, spotless, by simp; omega, ?_, fun _ => ⟨c, e', fr, hb, ha, hsz, rfl⟩⟩
      intro i hlt
      obtain ⟨cs', x, h2, hl', hg⟩ := cell i hlt
      have hmul : i * ks.length + ks.length ≤ len0 * ks.length := by
        have := Nat.mul_le_mul_right ks.length (show i + 1 ≤ len0 by omega)
        rw [Nat.add_mul] at this; omega
      have heq : ((((c.toList.drop a.off).take (len0 * ks.length)).drop (i * ks.length)).take ks.length) = cs' := by
        apply List.ext_getElem?
        intro j
        by_cases hj : j < ks.length
        · rw [List.getElem?_take, if_pos hj, List.getElem?_drop, List.getElem?_take, if_pos (by omega), List.getElem?_drop, ← hg j hj]
          simp
        · rw [List.getElem?_eq_none (by simp; omega), List.getElem?_eq_none (by omega)]
      rw [heq]
      exact trod_fits d hk h2
    · refine ⟨a, len0, m, [], rfl, hl, spotless, ?_, fun i hlt => by omega, fun h => by omega⟩
      rw [show len0 = 0 by omega]; simp

theorem arg_openT (i : Nat) {t e : TypeId} {ks : List SK} {fuel : Nat} {cs : List Value} {x : DataW H × List MemPlace} (d : Nat) (ht : P.underlying t = some (.slice e)) (hk : scal P d e = some ks) (hC : P.cellsOf e = ks.length) (h0 : 0 < ks.length)
    (hf : DataW.trod enc P W 0 (fun _ => true) true fuel t cs = some x) :
    ∃ (o : Option Addr) (len cap : Nat) (cells : List Value) (A : Addr) (v : Value), cs = [v] ∧ SArg i ks o len cap cells ∧ (cells.all flat = true ∧ (cells ≠ [] → ∃ c e fr, W.heap[A.block]? = some (.cells c e fr) ∧ A.off + cells.length ≤ c.size ∧ (c.toList.drop A.off).take cells.length = cells)) ∧
      ∀ l : List (Addr × List Value), l[i]? = some (A, cells) → VRel (argWhere l) (.slice o len cap) v := by
  rcases arg_sliceT d ht hk hC h0 hf with rfl | ⟨a, len, cap, cells, rfl, h1, h2, h3, h4, h5⟩
  · refine ⟨none, 0, 0, [], ⟨0, 0, none⟩, _, rfl, ⟨.inl ⟨rfl, rfl, rfl⟩, Nat.le_refl _, by simp, fun j hj => by omega⟩, ⟨rfl, fun h => absurd rfl h⟩, fun l _ => .sliceNil 0 0⟩
  · have S : SArg i ks (some ⟨i, 0, none⟩) len cap cells := ⟨.inr rfl, h1, h3, h4⟩
    refine ⟨some ⟨i, 0, none⟩, len, cap, cells, a, _, rfl, S, ⟨S.flats h0, fun hne => ?_⟩, fun l hl => VRel.arg hl h1 h2⟩
    have hlen : 0 < len := by
      rcases Nat.eq_zero_or_pos len with h | h
      · subst h; exact absurd (List.length_eq_zero_iff.1 (by omega)) hne
      · exact h
    obtain ⟨c, e', fr, hb, ha, hsz, heq⟩ := h5 hlen
    exact ⟨c, e', fr, hb, by omega, by rw [h3]; exact heq⟩

/-- A struct, by its fields. -/
theorem open_agg {r : Reach} {b0 : Nat} {t : TypeId} {fs : Array Field} {v : Value} {dt : DataW H} {ps : List MemPlace} (hu : P.underlying t = some (.struct fs))
    (hval : Value.okWide P W r b0 t v) (hd : DataW.Trod enc P W 0 (fun _ => true) true t v dt ps) : ∃ cs : List Value, v = .agg cs.toArray ∧ cs.length = P.cellsOf t ∧
      ∀ (i : Nat) (f : Field), fs[i]? = some f → ∃ n x, DataW.trod enc P W 0 (fun _ => true) true n f.type ((cs.drop f.offset).take (P.cellsOf f.type)) = some x := by
  obtain ⟨cs, rfl, hs⟩ := okWide_struct hu hval
  obtain ⟨fuel, hf⟩ := hd
  have hf' : DataW.trod enc P W 0 (fun _ => true) true fuel t cs.toList = some (dt, ps) := by simpa [Value.cells] using hf
  obtain ⟨xs, n, _, _, hcl, hxl, hff⟩ := DataW.trod_struct hu hf'
  refine ⟨cs.toList, by simp, hcl, fun i f hi => ?_⟩
  have e := hff i f hi
  have hlt : i < fs.size := by
    rcases Nat.lt_or_ge i fs.size with h | h
    · exact h
    · rw [Array.getElem?_eq_none h] at hi; cases hi
  rw [List.getElem?_eq_getElem (by omega)] at e
  exact ⟨n, _, e⟩
theorem drop_one {cs : List Value} {o w : Nat} {v : Value} (h : (cs.drop o).take w = [v]) : cs.drop o = v :: cs.drop (o + 1) := by
  rw [← List.drop_drop]
  cases hc : cs.drop o with
  | nil => rw [hc] at h; simp at h
  | cons a t =>
    rw [hc] at h
    cases w with
    | zero => simp at h
    | succ w => simp at h; rw [h.1]; rfl
end
end Go.Proofs.Ytmpendenaflonaa.Eng
