/- The engine, part 2: loads and stores in the model's memory; how a memory of rows lies in it. -/
import Derived.Test.YthijllagngkbgaaGreatEngBase
namespace Go.Proofs.YthijllagngkbgaaGreat.Eng
open Go

/-! ### the model's memory -/
theorem addr_add (b o k : Nat) : (⟨b, o, none⟩ : Addr).add k = ⟨b, o + k, none⟩ := by
  unfold Addr.add
  split
  · rename_i h; subst h; rfl
  · rfl

theorem cell_at {w : World} {b o : Nat} {c : Array Value} {e : TypeId} {fr : Nat × Nat} (h : w.heap[b]? = some (.cells c e fr)) : w.cell? ⟨b, o, none⟩ = c[o]? := by
  simp [World.cell?, h]

/-- a block in place of another -/
def setBlk (w : World) (b : Nat) (o : Obj) : World := { w with heap := w.heap.setIfInBounds b o }
/-- a new block -/
def newBlk (w : World) (o : Obj) : World := { w with heap := w.heap.push o }

def splice (c : Array Value) (o : Nat) (vs : List Value) : Array Value := (c.toList.take o ++ vs ++ c.toList.drop (o + vs.length)).toArray

theorem splice_size (c : Array Value) (o : Nat) (vs : List Value) (h : o + vs.length ≤ c.size) : (splice c o vs).size = c.size := by
  simp [splice]; omega

def isCell : Value → Bool
  | .agg _ | .tuple _ => false
  | _ => true

variable {P : Program}

theorem loadFrom_run {w : World} {b o : Nat} {c : Array Value} {e : TypeId} {fr : Nat × Nat} (hb : w.heap[b]? = some (.cells c e fr)) :
    ∀ (n i : Nat) (acc : Array Value), o + i + n ≤ c.size → (loadCellsFrom ⟨b, o, none⟩ i n acc).run P w = .ok (acc ++ ((c.toList.drop (o + i)).take n).toArray) w := by
  intro n
  induction n with
  | zero => intro i acc _; simp [loadCellsFrom, pure]
  | succ n ih =>
    intro i acc hs
    have hlt : o + i < c.size := by omega
    have hc : w.cell? ((⟨b, o, none⟩ : Addr).add i) = some c[o + i] := by rw [addr_add, cell_at hb]; simp [hlt]
    have hd : c.toList.drop (o + i) = c[o + i] :: c.toList.drop (o + (i + 1)) := by
      rw [show o + (i + 1) = o + i + 1 from rfl, List.drop_eq_getElem_cons (by simpa using hlt)]
      simp
    simp only [loadCellsFrom, load, bind, Sem.bind, Sem.run, hc]
    rw [ih (i + 1) _ (by omega), hd]
    simp

theorem load_run {w : World} {b o n : Nat} {c : Array Value} {e : TypeId} {fr : Nat × Nat} (hb : w.heap[b]? = some (.cells c e fr)) (hs : o + n ≤ c.size) :
    (loadCells ⟨b, o, none⟩ n).run P w = .ok ((c.toList.drop o).take n).toArray w := by
  unfold loadCells
  rw [loadFrom_run hb n 0 #[] (by omega)]
  simp

theorem setBlk_get {w : World} {b : Nat} {o : Obj} (k : Nat) (h : b < w.heap.size) : (setBlk w b o).heap[k]? = if k = b then some o else w.heap[k]? := by
  simp only [setBlk, Array.getElem?_setIfInBounds]
  by_cases e : k = b
  · subst e; simp [h]
  · rw [if_neg (fun x => e x.symm), if_neg e]

theorem setBlk_setBlk (w : World) (b : Nat) (o u : Obj) : setBlk (setBlk w b o) b u = setBlk w b u := by
  simp [setBlk]

theorem modify_eq_set (h : Array Obj) (b : Nat) (f : Obj → Obj) (x : Obj) (hx : h[b]? = some x) : h.modify b f = h.setIfInBounds b (f x) := by
  apply Array.ext_getElem?
  intro k
  rw [Array.getElem?_modify, Array.getElem?_setIfInBounds]
  by_cases e : b = k
  · subst e
    have : b < h.size := by
      rcases Nat.lt_or_ge b h.size with hl | hl
      · exact hl
      · rw [Array.getElem?_eq_none hl] at hx; cases hx
    rw [if_pos rfl, if_pos rfl, if_pos this, hx]; rfl
  · rw [if_neg e, if_neg e]

theorem setCell_eq {w : World} {b o : Nat} {v : Value} {c : Array Value} {e : TypeId} {fr : Nat × Nat} (hb : w.heap[b]? = some (.cells c e fr)) :
    w.setCell ⟨b, o, none⟩ v = setBlk w b (.cells (c.setIfInBounds o v) e fr) := by
  unfold World.setCell setBlk
  rw [modify_eq_set _ _ _ _ hb]
  simp

theorem store_run : ∀ (vs : List Value) (i : Nat) {w : World} {b o : Nat} {c : Array Value} {e : TypeId}, w.heap[b]? = some (.cells c e (0, 0)) → o + i + vs.length ≤ c.size →
    vs.all isCell = true → (storeCells ⟨b, o, none⟩ vs i).run P w = .ok () (setBlk w b (.cells (splice c (o + i) vs) e (0, 0))) := by
  intro vs
  induction vs with
  | nil =>
    intro i w b o c e hb _ _
    have hlt : b < w.heap.size := by
      rcases Nat.lt_or_ge b w.heap.size with hl | hl
      · exact hl
      · rw [Array.getElem?_eq_none hl] at hb; cases hb
    have : setBlk w b (.cells (splice c (o + i) []) e (0, 0)) = w := by
      have hs : splice c (o + i) [] = c := by simp [splice]
      rw [hs]
      unfold setBlk
      have : w.heap.setIfInBounds b (.cells c e (0, 0)) = w.heap := by
        apply Array.ext_getElem?
        intro k
        rw [Array.getElem?_setIfInBounds]
        split
        · rename_i e1; subst e1; exact hb.symm
        · rfl
      rw [this]
    simp [storeCells, pure, this]
  | cons v vs ih =>
    intro i w b o c e hb hs hall
    simp only [List.length_cons] at hs
    simp only [List.all_cons, Bool.and_eq_true] at hall
    have hlt : o + i < c.size := by omega
    have hbs : b < w.heap.size := by
      rcases Nat.lt_or_ge b w.heap.size with hl | hl
      · exact hl
      · rw [Array.getElem?_eq_none hl] at hb; cases hb
    have hc : w.cell? ((⟨b, o, none⟩ : Addr).add i) = some c[o + i] := by rw [addr_add, cell_at hb]; simp [hlt]
    have hf : w.frozen? ((⟨b, o, none⟩ : Addr).add i) = false := by rw [addr_add]; simp [World.frozen?, hb]
    have step : (storeCells ⟨b, o, none⟩ (v :: vs) i).run P w = (storeCells ⟨b, o, none⟩ vs (i + 1)).run P (w.setCell ((⟨b, o, none⟩ : Addr).add i) v) := by
      simp only [storeCells, store, bind, Sem.bind]
      cases v <;> first | (simp [isCell] at hall; done) | simp [Sem.run, hc, hf]
    rw [step, addr_add, setCell_eq hb]
    rw [ih (i + 1) (w := setBlk w b (.cells (c.setIfInBounds (o + i) v) e (0, 0))) (c := c.setIfInBounds (o + i) v) (e := e)
      (by rw [setBlk_get _ hbs, if_pos rfl]) (by simp; omega) hall.2, setBlk_setBlk]
    congr 3
    apply Array.ext'
    have hlt' : o + i < c.toList.length := by simpa using hlt
    simp only [splice, Array.toList_setIfInBounds, List.length_cons]
    rw [show o + (i + 1) = o + i + 1 by omega, List.set_eq_take_append_cons_drop, if_pos hlt']
    have h1 : (c.toList.take (o + i)).length = o + i := by simp; omega
    generalize o + i = m at *
    have e1 : (c.toList.take m ++ v :: c.toList.drop (m + 1)).take (m + 1) = c.toList.take m ++ [v] := by
      rw [List.take_append, h1, List.take_of_length_le (by omega)]
      simp
    have e2 : (c.toList.take m ++ v :: c.toList.drop (m + 1)).drop (m + 1 + vs.length) = c.toList.drop (m + (vs.length + 1)) := by
      rw [List.drop_append, h1, List.drop_of_length_le (by omega)]
      simp only [List.nil_append, show m + 1 + vs.length - m = vs.length + 1 by omega, List.drop_succ_cons, List.drop_drop]
      congr 1; omega
    rw [e1, e2]
    simp
end Go.Proofs.YthijllagngkbgaaGreat.Eng
