/- The engine, part 29: slices of numbers and truths as views of rows; slices that a function owns; results that lie in cells. -/
import Derived.Test.YthijllagngkbgaaGreatEngArgs
import Derived.Test.YthijllagngkbgaaGreatEngShift
namespace Go.Proofs.YthijllagngkbgaaGreat.Eng
open Go

/-! ### elements in cells -/
structure Els (ks : List SK) (cells : List Value) (n : Nat) : Prop where
  size : cells.length = n * ks.length
  fits : ∀ j, j < n → Fits ks ((cells.drop (j * ks.length)).take ks.length)
theorem SArg.els {i : Nat} {ks : List SK} {a : Option Addr} {len cap : Nat} {cells : List Value} (h : SArg i ks a len cap cells) : Els ks cells len := ⟨h.size, h.fits⟩
theorem Els.nil (ks : List SK) : Els ks [] 0 := ⟨by simp, fun j hj => by omega⟩
theorem Els.one {ks : List SK} {cells : List Value} (h : Fits ks cells) : Els ks cells 1 := by
  have hl := h.length
  refine ⟨by omega, fun j hj => ?_⟩
  obtain rfl : j = 0 := by omega
  rw [Nat.zero_mul, List.drop_zero, List.take_of_length_le (by omega)]
  exact h
theorem Els.append {ks : List SK} {c1 c2 : List Value} {n m : Nat} (h1 : Els ks c1 n) (h2 : Els ks c2 m) : Els ks (c1 ++ c2) (n + m) := by
  refine ⟨by rw [List.length_append, h1.size, h2.size, Nat.add_mul], fun j hj => ?_⟩
  by_cases h : j < n
  · have hm : j * ks.length + ks.length ≤ c1.length := by
      have := Nat.mul_le_mul_right ks.length (show j + 1 ≤ n by omega)
      rw [Nat.add_mul] at this
      rw [h1.size]; omega
    rw [List.drop_append_of_le_length (by omega), List.take_append_of_le_length (by rw [List.length_drop]; omega)]
    exact h1.fits j h
  · have e : j * ks.length = c1.length + (j - n) * ks.length := by
      rw [h1.size, ← Nat.add_mul]; congr 1; omega
    rw [e, ← List.drop_drop, List.drop_left]
    exact h2.fits (j - n) (by omega)
theorem Els.flats {ks : List SK} {cells : List Value} {n : Nat} (h : Els ks cells n) (hk : 0 < ks.length) : cells.all flat = true :=
  SArg.flats (i := 0) (a := some ⟨0, 0, none⟩) (len := n) (cap := n) ⟨.inr rfl, Nat.le_refl _, h.size, h.fits⟩ hk
theorem Els.vals {ks : List SK} {cells : List Value} {n j : Nat} (h : Els ks cells n) (hj : j < n) : (cells.drop (j * ks.length)).take ks.length = valsAt cells (j * ks.length) ks := valsAt_fits (h.fits j hj)
theorem Els.wf {ks : List SK} {cells : List Value} {n j q : Nat} {k : IntKind} (h : Els ks cells n) (hj : j < n) (hq : ks[q]? = some (.int k)) : (Lit.int k (nAt cells (j * ks.length + q))).wf = true := nAt_wf (h.fits j hj) hq
theorem Els.cell {ks : List SK} {cells : List Value} {n j q : Nat} {k : IntKind} (h : Els ks cells n) (hj : j < n) (hq : ks[q]? = some (.int k)) : cells[j * ks.length + q]? = some (.int k (nAt cells (j * ks.length + q))) :=
  SArg.cell (i := 0) (a := some ⟨0, 0, none⟩) (len := n) (cap := n) ⟨.inr rfl, Nat.le_refl _, h.size, h.fits⟩ hj hq
theorem Els.fitsL {ks : List SK} {cells : List Value} {n j : Nat} (h : Els ks cells n) (hj : j < n) : Fits ks (valsAt cells (j * ks.length) ks) := by rw [← h.vals hj]; exact h.fits j hj
theorem nAt_app_left {c1 c2 : List Value} {k : Nat} (h : k < c1.length) : nAt (c1 ++ c2) k = nAt c1 k := by unfold nAt; rw [List.getElem?_append_left h]
theorem nAt_app_right {c1 c2 : List Value} {k : Nat} : nAt (c1 ++ c2) (c1.length + k) = nAt c2 k := by unfold nAt; rw [List.getElem?_append_right (by omega)]; congr 2; omega

/-! ### a slice as a view of a row -/
structure View (h : Heap) (ks : List SK) (a : Option Addr) (n c r o : Nat) (cells : List Value) : Prop where
  le : n ≤ c
  els : Els ks cells n
  form : n ≠ 0 → ∃ sp, a = some ⟨r, o, sp⟩
  row : n ≠ 0 → ∃ cs, ((∃ e, h.get r = some (.row cs e)) ∨ h.get r = some (.ro cs)) ∧ o + n * ks.length ≤ cs.length ∧ (cs.drop o).take (n * ks.length) = cells
theorem View.mono {h h' : Heap} {ks : List SK} {a : Option Addr} {n c r o : Nat} {cells : List Value} (v : View h ks a n c r o cells) (hg : n ≠ 0 → h'.get r = h.get r) : View h' ks a n c r o cells :=
  ⟨v.le, v.els, v.form, fun hn => by rw [hg hn]; exact v.row hn⟩
theorem View.nil (h : Heap) (ks : List SK) (a : Option Addr) (c r o : Nat) : View h ks a 0 c r o [] := ⟨Nat.zero_le _, Els.nil _, fun h => absurd rfl h, fun h => absurd rfl h⟩
theorem SArg.view {i : Nat} {ks : List SK} {a : Option Addr} {len cap : Nat} {cells : List Value} {h : Heap} (hA : SArg i ks a len cap cells) (hg : h.get i = argRow cells) (hk : 0 < ks.length) : View h ks a len cap i 0 cells where
  le := hA.le
  els := hA.els
  form := fun hn => by
    rcases hA.form with ⟨_, h1, _⟩ | h1
    · exact absurd h1 hn
    · exact ⟨none, h1⟩
  row := fun hn => ⟨cells, .inr (hA.row hg hk (j := 0) (by omega)), by rw [hA.size]; omega, by rw [List.drop_zero, List.take_of_length_le (by rw [hA.size]; exact Nat.le_refl _)]⟩
theorem View.of_row {h : Heap} {ks : List SK} {n r e : Nat} {sp : Option Nat} {cells : List Value} (hg : h.get r = some (.row cells e)) (he : Els ks cells n) : View h ks (some ⟨r, 0, sp⟩) n n r 0 cells where
  le := Nat.le_refl _
  els := he
  form := fun _ => ⟨sp, rfl⟩
  row := fun _ => ⟨cells, .inl ⟨e, hg⟩, by rw [he.size]; omega, by rw [List.drop_zero, List.take_of_length_le (by rw [he.size]; exact Nat.le_refl _)]⟩

section
variable {P : Program}
theorem View.index {h : Heap} {ks : List SK} {a : Option Addr} {n c r o w q : Nat} {cells : List Value} {t e : TypeId} {k : IntKind} {j : Int} (v : View h ks a n c r o cells) (hu : P.underlying t = some (.slice e)) (hs : szOf P e = some w) (h0 : 0 ≤ j) (h1 : j < (n : Int)) (hq : q = o + j.toNat * w) :
    aindexAddr P t (.slice a n c) (.int k j) = some (.pointer (some ⟨r, q, none⟩)) := by
  obtain ⟨sp, rfl⟩ := v.form (by omega)
  exact aindex_at hu hs h0 h1 hq
theorem View.part {h : Heap} {ks : List SK} {a : Option Addr} {n c r o j : Nat} {cells cs : List Value} (v : View h ks a n c r o cells) (hj : j < n) (hlen : o + n * ks.length ≤ cs.length) (heq : (cs.drop o).take (n * ks.length) = cells) :
    o + j * ks.length + ks.length ≤ cs.length ∧ (cs.drop (o + j * ks.length)).take ks.length = valsAt cells (j * ks.length) ks := by
  have hm : j * ks.length + ks.length ≤ n * ks.length := by
    have := Nat.mul_le_mul_right ks.length (show j + 1 ≤ n by omega)
    rw [Nat.add_mul] at this; omega
  refine ⟨by omega, ?_⟩
  rw [← v.els.vals hj, ← heq, List.drop_take, List.take_take, List.drop_drop]
  congr 1; omega
theorem View.load {h : Heap} {ks : List SK} {a : Option Addr} {n c r o j q : Nat} {cells : List Value} {t : TypeId} (v : View h ks a n c r o cells) (ht : aggT P t = some true) (hs : szOf P t = some ks.length) (hj : j < n) (hq : q = o + j * ks.length) :
    aload P h t (.pointer (some ⟨r, q, none⟩)) = some (.agg (valsAt cells (j * ks.length) ks).toArray) := by
  subst hq
  obtain ⟨cs, hg, hlen, heq⟩ := v.row (by omega)
  obtain ⟨h1, h2⟩ := v.part hj hlen heq
  have hl : (valsAt cells (j * ks.length) ks).length = ks.length := by rw [← h2, List.length_take, List.length_drop]; omega
  rcases hg with ⟨e, hg⟩ | hg
  · exact aload_agg hg ht hs hl h1 h2
  · exact aload_agg_ro hg ht hs hl h1 h2
theorem View.cell {h : Heap} {ks : List SK} {a : Option Addr} {n c r o j q p : Nat} {k : IntKind} {cells : List Value} {t : TypeId} (v : View h ks a n c r o cells) (ht : aggT P t = some false) (hj : j < n) (hk : ks[p]? = some (.int k)) (hq : q = o + j * ks.length + p) :
    aload P h t (.pointer (some ⟨r, q, none⟩)) = some (.int k (nAt cells (j * ks.length + p))) := by
  subst hq
  obtain ⟨cs, hg, hlen, heq⟩ := v.row (by omega)
  have hp : p < ks.length := by
    rcases Nat.lt_or_ge p ks.length with h1 | h1
    · exact h1
    · rw [List.getElem?_eq_none h1] at hk; cases hk
  have hm : j * ks.length + ks.length ≤ n * ks.length := by
    have := Nat.mul_le_mul_right ks.length (show j + 1 ≤ n by omega)
    rw [Nat.add_mul] at this; omega
  have hc : cs[o + j * ks.length + p]? = some (.int k (nAt cells (j * ks.length + p))) := by
    have h1 := v.els.cell hj hk
    rw [← heq, List.getElem?_take, if_pos (by omega), List.getElem?_drop, ← Nat.add_assoc] at h1
    rw [h1, heq]
  rcases hg with ⟨e, hg⟩ | hg
  · exact aload_cell hg ht hc
  · exact aload_cell_ro hg ht hc

/-! ### slices that are a function's own: their row holds just them -/
def ownA (n r w : Nat) : Option Addr := if n = 0 then none else some ⟨r, 0, some w⟩
def ownH (n r : Nat) (h : Heap) : Heap := { next := h.next, tree := if n = 0 then h.tree else h.tree.put r none }
theorem ownH_eq (n r : Nat) (h : Heap) : ownH n r h = if n = 0 then h else h.kill r := by unfold ownH; split <;> rfl
theorem ownH_next (n r : Nat) (h : Heap) : (ownH n r h).next = h.next := rfl
theorem ownH_get {n r : Nat} {h : Heap} {i : Nat} (hi : n ≠ 0 → i ≠ r) : (ownH n r h).get i = h.get i := by
  rw [ownH_eq]
  split
  · rfl
  · rename_i h1; rw [Heap.get_kill, if_neg (hi h1)]
theorem Heap.look_own {h : Heap} {n r i : Nat} {x : Option Thing} (hi : n ≠ 0 → i ≠ r) (hx : h.get i = x) : (ownH n r h).get i = x := by rw [ownH_get hi, hx]
/-- the row of a slice that is a function's own -/
def OwnRow (h : Heap) (n r e : Nat) (cells : List Value) : Prop := n ≠ 0 → h.get r = some (.row cells e)
theorem OwnRow.view {h : Heap} {ks : List SK} {n r e w : Nat} {cells : List Value} (ho : OwnRow h n r e cells) (he : Els ks cells n) : View h ks (ownA n r w) n n r 0 cells where
  le := Nat.le_refl _
  els := he
  form := fun hn => ⟨some w, by unfold ownA; rw [if_neg hn]⟩
  row := fun hn => ⟨cells, .inl ⟨e, ho hn⟩, by rw [he.size]; omega, by rw [List.drop_zero, List.take_of_length_le (by rw [he.size]; exact Nat.le_refl _)]⟩
theorem own_append {h : Heap} {ts : Array TypeId} {e n r w x o k c m : Nat} {sp : Option Nat} {cells new z : List Value} (hu : (ts[0]?).bind P.underlying = some (.slice e)) (hp : plainSrc P ts[1]? = true) (hz : zerosOf P e = some z) (hw : z.length = w)
    (hr : OwnRow h n r e cells) (hl : cells.length = n * w) (hk : 0 < k) (hkc : k ≤ c) (hx : readCells h x o (k * w) = some new) (hc : new.all isCell = true) (hb : (4 * (n + k) + 4096) * P.bytesOf e ≤ 281474976710656) (hm : n + k ≤ 4294967296) (hmk : m = n + k) :
    aappend P h ts (.slice (ownA n r w) n n) (.slice (some ⟨x, o, sp⟩) k c) = some (.slice (ownA m h.next w) m m, (ownH n r h).new (.row (cells ++ new) e)) := by
  subst hmk
  have e2 : ownA (n + k) h.next w = some ⟨h.next, 0, some w⟩ := by unfold ownA; rw [if_neg (by omega)]
  have hs : sliceCells h (.slice (some ⟨x, o, sp⟩) k c) z.length k = some new := by
    show (if k ≤ c then readCells h x o (k * z.length) else none) = _
    rw [if_pos hkc, hw, hx]
  rw [e2]
  unfold aappend
  simp only [hu, hp, if_true, hz, Option.bind_some, lenAt, hs, hc]
  by_cases hD : n = 0
  · subst hD
    have : cells = [] := List.length_eq_zero_iff.1 (by omega)
    subst this
    simp only [ownA, ownH_eq, if_true, Nat.zero_add] at hb hm ⊢
    rw [if_neg (by omega), if_pos ⟨hb, hm⟩, hw]; simp
  · have hr' := hr hD
    have hA : ownA n r w = some ⟨r, 0, some w⟩ := by unfold ownA; rw [if_neg hD]
    have hrd : readCells h r 0 (n * w) = some cells := by
      unfold readCells
      rw [hr']
      simp only [Nat.zero_add, hl]
      rw [if_pos (Nat.le_refl _), List.drop_zero, List.take_of_length_le (by omega)]
    rw [hA]
    simp only []
    rw [if_neg (by omega), if_pos ⟨hb, hm, Nat.le_refl _⟩, hw]
    simp only [hrd, Option.bind_some, hr', if_true, Nat.zero_add, hl, ownH_eq, if_neg hD]
/-- a row read whole -/
theorem read_row {h : Heap} {x e k : Nat} {cells : List Value} (hx : h.get x = some (.row cells e)) (hk : cells.length = k) : readCells h x 0 k = some cells := by
  unfold readCells
  rw [hx]
  simp only [Nat.zero_add]
  rw [if_pos (by omega), List.drop_zero, List.take_of_length_le (by omega)]

theorem View.read {h : Heap} {ks : List SK} {a : Option Addr} {n c r o : Nat} {cells : List Value} (v : View h ks a n c r o cells) (hn : n ≠ 0) : readCells h r o (n * ks.length) = some cells := by
  obtain ⟨cs, hg, hlen, heq⟩ := v.row hn
  unfold readCells
  rcases hg with ⟨e, hg⟩ | hg <;> rw [hg] <;> simp only [] <;> rw [if_pos hlen, heq]
/-- a part of a view -/
theorem View.sub {h : Heap} {ks : List SK} {n c r o lo m : Nat} {sp sp' : Option Nat} {cells : List Value} (v : View h ks (some ⟨r, o, sp⟩) n c r o cells) (hm : lo + m ≤ n) (hn : n ≠ 0) (c' : Nat) (hc : m ≤ c') :
    View h ks (some ⟨r, o + lo * ks.length, sp'⟩) m c' r (o + lo * ks.length) ((cells.drop (lo * ks.length)).take (m * ks.length)) where
  le := hc
  els := by
    have hmul : lo * ks.length + m * ks.length ≤ n * ks.length := by rw [← Nat.add_mul]; exact Nat.mul_le_mul_right _ hm
    refine ⟨by rw [List.length_take, List.length_drop, v.els.size]; omega, fun j hj => ?_⟩
    have hj2 : j * ks.length + ks.length ≤ m * ks.length := by
      have := Nat.mul_le_mul_right ks.length (show j + 1 ≤ m by omega)
      rw [Nat.add_mul] at this; omega
    have := v.els.fits (lo + j) (by omega)
    rw [List.drop_take, List.take_take, List.drop_drop, ← Nat.add_mul]
    rw [show min ks.length (m * ks.length - j * ks.length) = ks.length by omega]
    exact this
  form := fun _ => ⟨sp', rfl⟩
  row := fun _ => by
    have hmul : lo * ks.length + m * ks.length ≤ n * ks.length := by rw [← Nat.add_mul]; exact Nat.mul_le_mul_right _ hm
    obtain ⟨cs, hg, hlen, heq⟩ := v.row hn
    refine ⟨cs, hg, by omega, ?_⟩
    rw [← heq, List.drop_take, List.take_take, List.drop_drop]
    congr 1; omega
theorem aslice_hi {P : Program} {t e : TypeId} {r o n c w m : Nat} {sp : Option Nat} {k : IntKind} {hi : Int} (hu : P.underlying t = some (.slice e)) (hs : szOf P e = some w) (hsp : sp = none ∨ sp = some w) (h0 : hi = (m : Int)) (h1 : m ≤ c) :
    asliceAt P t (.slice (some ⟨r, o, sp⟩) n c) none (some (.int k hi)) none = some (.slice (some ⟨r, o, sp⟩) m c) := by
  subst h0
  simp [asliceAt, hu, hs, boundAt, intAt, hsp, h1]
theorem aslice_lo {P : Program} {t e : TypeId} {r o n c w l q : Nat} {sp : Option Nat} {k : IntKind} {lo : Int} (hu : P.underlying t = some (.slice e)) (hs : szOf P e = some w) (hsp : sp = none ∨ sp = some w) (h0 : lo = (l : Int)) (h1 : l ≤ n) (hq : q = o + l * w) :
    asliceAt P t (.slice (some ⟨r, o, sp⟩) n c) (some (.int k lo)) none none = some (.slice (some ⟨r, q, sp⟩) (n - l) (c - l)) := by
  subst h0
  subst hq
  simp [asliceAt, hu, hs, boundAt, intAt, hsp, h1]
/-- an append to an empty slice whose row is at hand -/
theorem fresh_append {P : Program} {h : Heap} {ts : Array TypeId} {e e' re w x o k c : Nat} {sp : Option Nat} {a : Option Addr} {new z : List Value} (hu : (ts[0]?).bind P.underlying = some (.slice e)) (hp : plainSrc P ts[1]? = true) (hz : zerosOf P e = some z) (hw : z.length = w)
    (hr : h.get re = some (.row [] e')) (ha : a = some ⟨x, o, sp⟩) (hk : 0 < k) (hkc : k ≤ c) (hx : readCells h x o (k * w) = some new) (hc : new.all isCell = true) (hb : (4 * k + 4096) * P.bytesOf e ≤ 281474976710656) (hm : k ≤ 4294967296) :
    aappend P h ts (.slice (some ⟨re, 0, none⟩) 0 0) (.slice a k c) = some (.slice (some ⟨h.next, 0, some w⟩) k k, h.new (.row new e)) := by
  subst ha
  have hs : sliceCells h (.slice (some ⟨x, o, sp⟩) k c) z.length k = some new := by
    show (if k ≤ c then readCells h x o (k * z.length) else none) = _
    rw [if_pos hkc, hw, hx]
  have hrd : readCells h re 0 (0 * z.length) = some [] := by
    unfold readCells
    rw [hr]; simp
  unfold aappend
  simp only [hu, hp, if_true, hz, Option.bind_some, lenAt, hs, hc]
  rw [if_neg (by omega), if_pos ⟨by simpa using hb, by omega, Nat.le_refl _⟩]
  rw [hrd]
  simp [hw]
/-- an append of nothing -/
theorem none_append {P : Program} {h : Heap} {ts : Array TypeId} {e re len cap x o c : Nat} {sp sp2 : Option Nat} {a : Option Addr} {cs z : List Value} {e2 : TypeId} (hu : (ts[0]?).bind P.underlying = some (.slice e)) (hp : plainSrc P ts[1]? = true) (hz : zerosOf P e = some z) (hl : len ≤ cap)
    (ha : a = some ⟨x, o, sp⟩) (hx : h.get x = some (.row cs e2)) (ho : o ≤ cs.length) : aappend P h ts (.slice (some ⟨re, 0, sp2⟩) len cap) (.slice a 0 c) = some (.slice (some ⟨re, 0, sp2⟩) len cap, h) := by
  subst ha
  have hs : sliceCells h (.slice (some ⟨x, o, sp⟩) 0 c) z.length 0 = some [] := by
    show (if 0 ≤ c then readCells h x o (0 * z.length) else none) = _
    rw [if_pos (Nat.zero_le _)]
    unfold readCells
    rw [hx]
    simp only [Nat.zero_mul, Nat.add_zero]
    rw [if_pos ho]; simp
  unfold aappend
  simp only [hu, hp, if_true, hz, Option.bind_some, lenAt, hs, List.all_nil]
  rw [if_pos (by omega)]
  simp
theorem astore_set {P : Program} {h : Heap} {t e : TypeId} {r o : Nat} {cs : List Value} {v : Value} (hg : h.get r = some (.row cs e)) (ht : szOf P t = some 1) (hv : v.cells.toList = [v]) (hi : isCell v = true) (ho : o < cs.length) :
    undef = undef ∧ astore P h t (.pointer (some ⟨r, o, none⟩)) v = some (h.put r (.row (cs.set o v) e)) := ⟨rfl, astore_cell hg ht hv hi ho⟩

/-! ### results -/
def resP (P : Program) (T : Env) (h : Heap) : List ResultVar → List Value → Option (List Prop)
  | [], [] => some []
  | .tmp t :: r, v :: vs => (resP P T h r vs).map ((T.get t = some v) :: ·)
  | .cell a t :: r, v :: vs => (T.get a).bind fun x => (resP P T h r vs).map ((aload P h t x = some v) :: ·)
  | _, _ => none
theorem resP_spec {T : Env} {h : Heap} : ∀ {rs : List ResultVar} {vs : List Value} {ps : List Prop}, resP P T h rs vs = some ps → AllP ps → aresults P T h rs = some vs
  | [], [], _, _, _ => rfl
  | [], _ :: _, _, h, _ => by simp [resP] at h
  | .tmp t :: r, [], _, h, _ => by simp [resP] at h
  | .cell a t :: r, [], _, h, _ => by simp [resP] at h
  | .tmp t :: r, v :: vs, ps, hr, hp => by
    simp only [resP, Option.map_eq_some_iff] at hr
    obtain ⟨qs, hq, rfl⟩ := hr
    simp [aresults, hp.1, resP_spec hq hp.2]
  | .cell a t :: r, v :: vs, ps, hr, hp => by
    simp only [resP, Option.bind_eq_some_iff, Option.map_eq_some_iff] at hr
    obtain ⟨x, hx, qs, hq, rfl⟩ := hr
    simp [aresults, hx, hp.1, resP_spec hq hp.2]
theorem fin_t {e : AExit} {T : Env} {h : Heap} {rs : List ResultVar} {Ψ : Value → Heap → Prop} (vs : List Value) (v : Value) (ps : List Prop) (hr : resP P T h rs vs = some ps) (hp : AllP ps) (hv : asOne vs = v) (he : e = .normal ∨ e = .ret) (hΨ : Ψ v h) : Fin P rs Ψ e T h := by
  subst hv
  exact ⟨he, vs, resP_spec hr hp, hΨ⟩
/-- a call that leaves memory as it was, of whose answer something is known -/
theorem DetFn.quietP {f : FuncId} {args : List Value} {h : Heap} {Ψ : Value → Prop} (d : DetFn P f args h fun u h' => (RRel (under h.next) u u ∧ Ψ u) ∧ Keep h h h') : DetFn P f args h fun u h' => Ψ u ∧ h' = h := by
  obtain ⟨u, h', r, ⟨hv, hp⟩, hg⟩ := d
  exact ⟨u, h, r.drop hv rfl hg.2 id, hp, rfl⟩
theorem DetFn.same {f : FuncId} {args : List Value} {h : Heap} {Ψ : Value → Prop} (d : DetFn P f args h fun u g => Ψ u ∧ g = h) : ∃ u, DoesOk P f args h u h ∧ Ψ u := by
  obtain ⟨u, g, r, hp, rfl⟩ := d
  exact ⟨u, r, hp⟩
theorem Keep.get {h g : Heap} (k : Keep h h g) {i : Nat} (hi : i < h.next) : g.get i = h.get i := (k.2 i hi).1.symm
theorem Keep.ownH {h g g' : Heap} {n r : Nat} (hr : n ≠ 0 → h.next ≤ r) (k : Keep h g g') : Keep h g (ownH n r g') := by
  rw [ownH_eq]
  split
  · exact k
  · rename_i hn; exact k.dead (hr hn)
end
end Go.Proofs.YthijllagngkbgaaGreat.Eng
