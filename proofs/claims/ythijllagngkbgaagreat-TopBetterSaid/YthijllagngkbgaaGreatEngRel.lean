/- The engine, part 3: how a memory of rows stands to the model's memory, and what a step does to both. -/
import Derived.Test.YthijllagngkbgaaGreatEngMem
namespace Go.Proofs.YthijllagngkbgaaGreat.Eng
open Go

/-- Cells lie at a place of the model's memory. -/
def Lies (ρ : Where) (c : Array Value) (l : Loc) (cs : List Value) : Prop :=
  l.known = cs.length ∧ l.off + cs.length ≤ c.size ∧ VRels ρ cs ((c.toList.drop l.off).take cs.length)

theorem Lies.mono {ρ ρ' : Where} (hle : ρ.le ρ') {c : Array Value} {l : Loc} {cs : List Value} (h : Lies ρ c l cs) : Lies ρ' c l cs := ⟨h.1, h.2.1, h.2.2.mono hle⟩
/-- a map's entries, one behind the other -/
def flatEnts (es : Array MapEntry) : List Value := es.toList.flatMap fun x => [x.key, x.val]
/-- What lies in a block, by its kind. -/
def ObjRel (ρ : Where) (l : Loc) (cs : List Value) (e : TypeId) (o : Obj) : Prop :=
  match l.kind with
  | .cells => cs.length ≤ l.size ∧ ∃ c, o = .cells c e (0, 0) ∧ c.size = l.off + l.size ∧ Lies ρ c l cs
  | .chan cap => e = cap ∧ ∃ q s r, o = .chan cap q false s r false ∧ VRels ρ cs q.toList
  | .map => ∃ es clock, o = .map es clock ∧ VRels ρ cs (flatEnts es)
  | .vals _ _ => False
theorem ObjRel.mono {ρ ρ' : Where} (hle : ρ.le ρ') {l : Loc} {cs : List Value} {e : TypeId} {o : Obj} (h : ObjRel ρ l cs e o) : ObjRel ρ' l cs e o := by
  unfold ObjRel at h ⊢
  split at h
  · obtain ⟨h1, c, h2, h3, h4⟩ := h; exact ⟨h1, c, h2, h3, h4.mono hle⟩
  · obtain ⟨h0, q, s, r, h1, h2⟩ := h; exact ⟨h0, q, s, r, h1, h2.mono hle⟩
  · obtain ⟨es, c, h1, h2⟩ := h; exact ⟨es, c, h1, h2.mono hle⟩
  · exact h.elim
theorem ObjRel.of_cells {ρ : Where} {l : Loc} {cs : List Value} {e : TypeId} {c : Array Value} (hk : l.kind = .cells) (h1 : cs.length ≤ l.size) (h2 : c.size = l.off + l.size) (h3 : Lies ρ c l cs) : ObjRel ρ l cs e (.cells c e (0, 0)) := by
  unfold ObjRel; rw [hk]; exact ⟨h1, c, rfl, h2, h3⟩
theorem ObjRel.cells {ρ : Where} {l : Loc} {cs : List Value} {e : TypeId} {o : Obj} (h : ObjRel ρ l cs e o) (hk : l.kind = .cells) : cs.length ≤ l.size ∧ ∃ c, o = .cells c e (0, 0) ∧ c.size = l.off + l.size ∧ Lies ρ c l cs := by
  unfold ObjRel at h; rw [hk] at h; exact h

/-- The memory of rows h lies in the world w: blocks from B on are the call's own. -/
structure HRel (B : Nat) (ρ : Where) (h : Heap) (w : World) : Prop where
  size : B ≤ w.heap.size
  dom : ∀ i l, ρ i = some l → i < h.next
  fresh : ∀ i, h.next ≤ i → h.get i = none
  row : ∀ i l cs e, ρ i = some l → h.get i = some (.row cs e) →
    l.own = true ∧ B ≤ l.blk ∧ ∃ o, w.heap[l.blk]? = some o ∧ ObjRel ρ l cs e o
  ro : ∀ i l cs, ρ i = some l → h.get i = some (.ro cs) → l.blk < B ∧ ∃ c e fr, w.heap[l.blk]? = some (.cells c e fr) ∧ Lies ρ c l cs
  inj : ∀ i j l m cs e ds f, ρ i = some l → ρ j = some m → h.get i = some (.row cs e) → h.get j = some (.row ds f) → l.blk = m.blk → i = j

theorem HRel.cells {B : Nat} {ρ : Where} {h : Heap} {w : World} (r : HRel B ρ h w) {i : Nat} {l : Loc} {cs : List Value} {e : TypeId} (hρ : At ρ i l) (hg : h.get i = some (.row cs e)) :
    l.own = true ∧ B ≤ l.blk ∧ cs.length ≤ l.size ∧ ∃ c, w.heap[l.blk]? = some (.cells c e (0, 0)) ∧ c.size = l.off + l.size ∧ Lies ρ c l cs := by
  obtain ⟨h1, h2, o, ho, hr⟩ := r.row i l cs e hρ.1 hg
  obtain ⟨h3, c, rfl, h4, h5⟩ := hr.cells hρ.2
  exact ⟨h1, h2, h3, c, ho, h4, h5⟩
theorem HRel.far {B : Nat} {ρ : Where} {h : Heap} {w : World} (r : HRel B ρ h w) {i : Nat} {l : Loc} {cs : List Value} {e : TypeId} (hρ : ρ i = some l) (hg : h.get i = some (.row cs e)) : l.blk < w.heap.size := by
  obtain ⟨_, _, o, ho, _⟩ := r.row i l cs e hρ hg
  rcases Nat.lt_or_ge l.blk w.heap.size with hlt | hge
  · exact hlt
  · rw [Array.getElem?_eq_none hge] at ho; cases ho

/-- What a step does. -/
structure Step (ρ : Where) (h : Heap) (w : World) (ρ' : Where) (h' : Heap) (w' : World) : Prop where
  le : ρ.le ρ'
  next : h.next ≤ h'.next
  old : ∀ i l, ρ' i = some l → i < h.next → ρ i = some l
  live : ∀ i cs e, i < h.next → h'.get i = some (.row cs e) → ∃ ds f, h.get i = some (.row ds f)
  ghost : ∀ i, i < h.next → ρ i = none → h'.get i = h.get i
  new : ∀ i l cs e, ρ' i = some l → h.next ≤ i → h'.get i = some (.row cs e) → w.heap.size ≤ l.blk ∨ ∃ j m ds f, ρ j = some m ∧ h.get j = some (.row ds f) ∧ m.blk = l.blk
  frame : ∀ b, b < w.heap.size → (∀ i l cs e, ρ i = some l → h.get i = some (.row cs e) → l.blk ≠ b) → w'.heap[b]? = w.heap[b]?
  size : w.heap.size ≤ w'.heap.size
  os : w'.os = w.os
  tape : w'.tape = w.tape
  output : w'.output = w.output

theorem Step.refl (ρ : Where) (h : Heap) (w : World) : Step ρ h w ρ h w where
  le := Where.le_refl ρ
  next := Nat.le_refl _
  old := fun _ _ h _ => h
  live := fun _ cs e _ h => ⟨cs, e, h⟩
  ghost := fun _ _ _ => rfl
  new := fun i l cs e hρ _ hg => .inr ⟨i, l, cs, e, hρ, hg, rfl⟩
  frame := fun _ _ _ => rfl
  size := Nat.le_refl _
  os := rfl
  tape := rfl
  output := rfl

theorem Step.trans {ρ₁ ρ₂ ρ₃ : Where} {h₁ h₂ h₃ : Heap} {w₁ w₂ w₃ : World} (a : Step ρ₁ h₁ w₁ ρ₂ h₂ w₂) (b : Step ρ₂ h₂ w₂ ρ₃ h₃ w₃) :
    Step ρ₁ h₁ w₁ ρ₃ h₃ w₃ where
  le := Where.le_trans a.le b.le
  next := Nat.le_trans a.next b.next
  old := fun i l h hi => a.old i l (b.old i l h (Nat.lt_of_lt_of_le hi a.next)) hi
  live := fun i cs e hi h => by
    obtain ⟨ds, f, h2⟩ := b.live i cs e (Nat.lt_of_lt_of_le hi a.next) h
    exact a.live i ds f hi h2
  ghost := fun i hi hn => by
    have h2 : ρ₂ i = none := by
      cases h : ρ₂ i with
      | none => rfl
      | some l => have := a.old i l h hi; rw [hn] at this; cases this
    rw [b.ghost i (Nat.lt_of_lt_of_le hi a.next) h2, a.ghost i hi hn]
  new := fun i l cs e hρ hi hg => by
    by_cases h2 : i < h₂.next
    · obtain ⟨ds, f, hg2⟩ := b.live i cs e h2 hg
      exact a.new i l ds f (b.old i l hρ h2) hi hg2
    · rcases b.new i l cs e hρ (by omega) hg with hs | ⟨j, m, ds, f, hj, hgj, hb⟩
      · exact .inl (Nat.le_trans a.size hs)
      · by_cases hj1 : j < h₁.next
        · obtain ⟨ds', f', hg1⟩ := a.live j ds f hj1 hgj
          exact .inr ⟨j, m, ds', f', a.old j m hj hj1, hg1, hb⟩
        · rw [← hb]; exact a.new j m ds f hj (by omega) hgj
  frame := fun b' hb' hn => by
    rw [b.frame b' (Nat.lt_of_lt_of_le hb' a.size), a.frame b' hb' hn]
    intro i l cs e hρ hg hbl
    by_cases h1 : i < h₁.next
    · obtain ⟨ds, f, hg1⟩ := a.live i cs e h1 hg
      exact hn i l ds f (a.old i l hρ h1) hg1 hbl
    · rcases a.new i l cs e hρ (by omega) hg with hs | ⟨j, m, ds, f, hj, hgj, hb⟩
      · omega
      · exact hn j m ds f hj hgj (hb.trans hbl)
  size := Nat.le_trans a.size b.size
  os := b.os.trans a.os
  tape := b.tape.trans a.tape
  output := b.output.trans a.output

/-- From what the call may write on: below B nothing has turned. -/
theorem Step.below {B : Nat} {ρ ρ' : Where} {h h' : Heap} {w w' : World} (s : Step ρ h w ρ' h' w') (r : HRel B ρ h w) : RowKit.Below B w w' where
  os := s.os
  tape := s.tape
  output := s.output
  size := s.size
  block := fun b hb => s.frame b (Nat.lt_of_lt_of_le hb r.size) fun i l cs e hρ hg => by
    have := (r.row i l cs e hρ hg).2.1
    omega

/-! ### a draw -/
def drawn (w : World) (n : Nat) : World := { w with drawn := w.drawn + n }
theorem HRel.draw {B : Nat} {ρ : Where} {h : Heap} {w : World} (r : HRel B ρ h w) (n : Nat) : HRel B ρ h (drawn w n) := ⟨r.size, r.dom, r.fresh, r.row, r.ro, r.inj⟩
theorem Step.draw (ρ : Where) (h : Heap) (w : World) (n : Nat) : Step ρ h w ρ h (drawn w n) :=
  ⟨Where.le_refl ρ, Nat.le_refl _, fun _ _ h _ => h, fun _ cs e _ h => ⟨cs, e, h⟩, fun _ _ _ => rfl, fun i l cs e hρ _ hg => .inr ⟨i, l, cs, e, hρ, hg, rfl⟩, fun _ _ _ => rfl, Nat.le_refl _, rfl, rfl, rfl⟩

/-! ### reading -/
def readCells (h : Heap) (i o n : Nat) : Option (List Value) :=
  match h.get i with
  | some (.row cs _) | some (.ro cs) => if o + n ≤ cs.length then some ((cs.drop o).take n) else none
  | none => none

theorem HRel.lies {B : Nat} {ρ : Where} {h : Heap} {w : World} (r : HRel B ρ h w) {i : Nat} {l : Loc} (hρ : At ρ i l) {o n : Nat} {vs : List Value} (hr : readCells h i o n = some vs) :
    ∃ c e fr, w.heap[l.blk]? = some (.cells c e fr) ∧ l.off + o + n ≤ c.size ∧ VRels ρ vs ((c.toList.drop (l.off + o)).take n) := by
  have core : ∀ (cs : List Value) (c : Array Value), Lies ρ c l cs → o + n ≤ cs.length → vs = (cs.drop o).take n → l.off + o + n ≤ c.size ∧ VRels ρ vs ((c.toList.drop (l.off + o)).take n) := by
    rintro cs c ⟨_, hs, hv⟩ hn rfl
    refine ⟨by omega, ?_⟩
    have := (hv.drop o).take n
    rw [List.drop_take, List.drop_drop, List.take_take, show min n (cs.length - o) = n by omega] at this
    exact this
  unfold readCells at hr
  split at hr
  · rename_i cs e hg
    split at hr
    · rename_i hn
      obtain ⟨_, _, _, c, hc, _, hl⟩ := r.cells hρ hg
      obtain ⟨h1, h2⟩ := core cs c hl hn (Option.some.inj hr).symm
      exact ⟨c, e, (0, 0), hc, h1, h2⟩
    · cases hr
  · rename_i cs hg
    split at hr
    · rename_i hn
      obtain ⟨_, c, e, fr, hc, hl⟩ := r.ro i l cs hρ.1 hg
      obtain ⟨h1, h2⟩ := core cs c hl hn (Option.some.inj hr).symm
      exact ⟨c, e, fr, hc, h1, h2⟩
    · cases hr
  · cases hr

/-! ### a new row -/
def Where.add (ρ : Where) (i : Nat) (l : Loc) : Where := fun j => if j = i then some l else ρ j
theorem Where.add_le (ρ : Where) (i : Nat) (l : Loc) (h : ρ i = none) : ρ.le (ρ.add i l) := by
  intro j m hj
  unfold Where.add
  split
  · rename_i e; subst e; rw [h] at hj; cases hj
  · exact hj
theorem Where.add_self (ρ : Where) (i : Nat) (l : Loc) : ρ.add i l i = some l := by simp [Where.add]

theorem Where.add_at (ρ : Where) (i : Nat) (l : Loc) (hk : l.kind = .cells) : At (ρ.add i l) i l := ⟨Where.add_self ρ i l, hk⟩
theorem newBlk_get (w : World) (o : Obj) (k : Nat) : (newBlk w o).heap[k]? = if k = w.heap.size then some o else w.heap[k]? := by
  simp only [newBlk, Array.getElem?_push]

theorem HRel.none_next {B : Nat} {ρ : Where} {h : Heap} {w : World} (r : HRel B ρ h w) {i : Nat} (hi : h.next ≤ i) : ρ i = none := by
  cases e : ρ i with
  | none => rfl
  | some l => have := r.dom i l e; omega

/-- A new block with a row at its head. -/
theorem HRel.new {B : Nat} {ρ : Where} {h : Heap} {w : World} (r : HRel B ρ h w) (cs : List Value) (e : TypeId) (c : Array Value) (hl : cs.length ≤ c.size)
    (hv : VRels ρ cs (c.toList.take cs.length)) :
    let l : Loc := { blk := w.heap.size, off := 0, size := c.size, known := cs.length, own := true }
    HRel B (ρ.add h.next l) (h.new (.row cs e)) (newBlk w (.cells c e (0, 0))) ∧ Step ρ h w (ρ.add h.next l) (h.new (.row cs e)) (newBlk w (.cells c e (0, 0))) := by
  intro l
  have hn : ρ h.next = none := r.none_next (Nat.le_refl _)
  have hle := Where.add_le ρ h.next l hn
  have hblk : ∀ (b : Nat) (o : Obj), w.heap[b]? = some o → (newBlk w (.cells c e (0, 0))).heap[b]? = some o := by
    intro b o hb
    rw [newBlk_get, if_neg, hb]
    intro e1
    rw [e1, Array.getElem?_eq_none (Nat.le_refl _)] at hb
    cases hb
  have old : ∀ i m, ρ.add h.next l i = some m → i ≠ h.next → ρ i = some m := by
    intro i m hi ne
    unfold Where.add at hi
    rwa [if_neg ne] at hi
  have at_new : ∀ m, ρ.add h.next l h.next = some m → m = l := by
    intro m hm
    rw [Where.add_self] at hm
    exact (Option.some.inj hm).symm
  refine ⟨⟨?_, ?_, ?_, ?_, ?_, ?_⟩, ⟨hle, by simp [Heap.next_new], ?_, ?_, ?_, ?_, ?_, by simp [newBlk], rfl, rfl, rfl⟩⟩
  · have := r.size; simp [newBlk]; omega
  · intro i m hi
    rw [Heap.next_new]
    by_cases ne : i = h.next
    · omega
    · have := r.dom i m (old i m hi ne); omega
  · intro i hi
    rw [Heap.next_new] at hi
    rw [Heap.get_new, if_neg (by omega)]
    exact r.fresh i (by omega)
  · intro i m ds f hi hg
    rw [Heap.get_new] at hg
    by_cases ne : i = h.next
    · subst ne
      rw [if_pos rfl] at hg
      obtain ⟨rfl, rfl⟩ := Thing.row.inj (Option.some.inj hg)
      obtain rfl := at_new m hi
      refine ⟨rfl, r.size, _, by rw [newBlk_get, if_pos rfl], .of_cells rfl hl (by simp [l]) ⟨rfl, by simpa [l] using hl, ?_⟩⟩
      simpa [l] using hv.mono hle
    · rw [if_neg ne] at hg
      obtain ⟨h1, h2, o, hc, hr⟩ := r.row i m ds f (old i m hi ne) hg
      exact ⟨h1, h2, o, hblk _ _ hc, hr.mono hle⟩
  · intro i m ds hi hg
    rw [Heap.get_new] at hg
    by_cases ne : i = h.next
    · subst ne; rw [if_pos rfl] at hg; cases hg
    · rw [if_neg ne] at hg
      obtain ⟨h1, c', e', fr, hc, hk, ho, hv'⟩ := r.ro i m ds (old i m hi ne) hg
      exact ⟨h1, c', e', fr, hblk _ _ hc, hk, ho, hv'.mono hle⟩
  · intro i j m n ds f gs g hi hj hgi hgj hb
    rw [Heap.get_new] at hgi hgj
    have far : ∀ k x ys y, ρ k = some x → h.get k = some (.row ys y) → x.blk < w.heap.size := by
      intro k x ys y hk hgk
      exact r.far hk hgk
    by_cases ni : i = h.next
    · by_cases nj : j = h.next
      · omega
      · subst ni
        obtain rfl := at_new m hi
        rw [if_neg nj] at hgj
        have := far j n gs g (old j n hj nj) hgj
        simp only [l] at hb; omega
    · rw [if_neg ni] at hgi
      by_cases nj : j = h.next
      · subst nj
        obtain rfl := at_new n hj
        have := far i m ds f (old i m hi ni) hgi
        simp only [l] at hb; omega
      · rw [if_neg nj] at hgj
        exact r.inj i j m n ds f gs g (old i m hi ni) (old j n hj nj) hgi hgj hb
  · intro i m hi hlt
    exact old i m hi (by omega)
  · intro i ds f hi hg
    rw [Heap.get_new, if_neg (by omega)] at hg
    exact ⟨ds, f, hg⟩
  · intro i hi _
    rw [Heap.get_new, if_neg (by omega)]
  · intro i m ds f hi hge hg
    by_cases ne : i = h.next
    · subst ne; obtain rfl := at_new m hi; exact .inl (Nat.le_refl _)
    · have := r.dom i m (old i m hi ne); omega
  · intro b hb _
    rw [newBlk_get, if_neg (by omega)]

/-- A new block of another kind. -/
theorem HRel.newO {B : Nat} {ρ : Where} {h : Heap} {w : World} (r : HRel B ρ h w) (cs : List Value) (e : TypeId) (o : Obj) (l : Loc) (hb : l.blk = w.heap.size) (hw : l.own = true) (hr : ObjRel ρ l cs e o) :
    HRel B (ρ.add h.next l) (h.new (.row cs e)) (newBlk w o) ∧ Step ρ h w (ρ.add h.next l) (h.new (.row cs e)) (newBlk w o) := by
  have hn : ρ h.next = none := r.none_next (Nat.le_refl _)
  have hle := Where.add_le ρ h.next l hn
  have hblk : ∀ (b : Nat) (x : Obj), w.heap[b]? = some x → (newBlk w o).heap[b]? = some x := by
    intro b x hb
    rw [newBlk_get, if_neg, hb]
    intro e1
    rw [e1, Array.getElem?_eq_none (Nat.le_refl _)] at hb
    cases hb
  have old : ∀ i m, ρ.add h.next l i = some m → i ≠ h.next → ρ i = some m := by
    intro i m hi ne
    unfold Where.add at hi
    rwa [if_neg ne] at hi
  have at_new : ∀ m, ρ.add h.next l h.next = some m → m = l := by
    intro m hm
    rw [Where.add_self] at hm
    exact (Option.some.inj hm).symm
  refine ⟨⟨?_, ?_, ?_, ?_, ?_, ?_⟩, ⟨hle, by simp [Heap.next_new], ?_, ?_, ?_, ?_, ?_, by simp [newBlk], rfl, rfl, rfl⟩⟩
  · have := r.size; simp [newBlk]; omega
  · intro i m hi
    rw [Heap.next_new]
    by_cases ne : i = h.next
    · omega
    · have := r.dom i m (old i m hi ne); omega
  · intro i hi
    rw [Heap.next_new] at hi
    rw [Heap.get_new, if_neg (by omega)]
    exact r.fresh i (by omega)
  · intro i m ds f hi hg
    rw [Heap.get_new] at hg
    by_cases ne : i = h.next
    · subst ne
      rw [if_pos rfl] at hg
      obtain ⟨rfl, rfl⟩ := Thing.row.inj (Option.some.inj hg)
      obtain rfl := at_new m hi
      exact ⟨hw, by rw [hb]; exact r.size, _, by rw [newBlk_get, if_pos hb], hr.mono hle⟩
    · rw [if_neg ne] at hg
      obtain ⟨h1, h2, x, hc, hx⟩ := r.row i m ds f (old i m hi ne) hg
      exact ⟨h1, h2, x, hblk _ _ hc, hx.mono hle⟩
  · intro i m ds hi hg
    rw [Heap.get_new] at hg
    by_cases ne : i = h.next
    · subst ne; rw [if_pos rfl] at hg; cases hg
    · rw [if_neg ne] at hg
      obtain ⟨h1, c', e', fr, hc, hk, ho, hv'⟩ := r.ro i m ds (old i m hi ne) hg
      exact ⟨h1, c', e', fr, hblk _ _ hc, hk, ho, hv'.mono hle⟩
  · intro i j m n ds f gs g hi hj hgi hgj hbb
    rw [Heap.get_new] at hgi hgj
    have far : ∀ k x ys y, ρ k = some x → h.get k = some (.row ys y) → x.blk < w.heap.size := by
      intro k x ys y hk hgk
      exact r.far hk hgk
    by_cases ni : i = h.next
    · by_cases nj : j = h.next
      · omega
      · subst ni
        obtain rfl := at_new m hi
        rw [if_neg nj] at hgj
        have := far j n gs g (old j n hj nj) hgj
        omega
    · rw [if_neg ni] at hgi
      by_cases nj : j = h.next
      · subst nj
        obtain rfl := at_new n hj
        have := far i m ds f (old i m hi ni) hgi
        omega
      · rw [if_neg nj] at hgj
        exact r.inj i j m n ds f gs g (old i m hi ni) (old j n hj nj) hgi hgj hbb
  · intro i m hi hlt
    exact old i m hi (by omega)
  · intro i ds f hi hg
    rw [Heap.get_new, if_neg (by omega)] at hg
    exact ⟨ds, f, hg⟩
  · intro i hi _
    rw [Heap.get_new, if_neg (by omega)]
  · intro i m ds f hi hge hg
    by_cases ne : i = h.next
    · subst ne; obtain rfl := at_new m hi; exact .inl (by omega)
    · have := r.dom i m (old i m hi ne); omega
  · intro b hlt _
    rw [newBlk_get, if_neg (by omega)]

/-! ### writing -/
def over (cs : List Value) (o : Nat) (vs : List Value) : List Value := cs.take o ++ vs ++ cs.drop (o + vs.length)
theorem over_length (cs : List Value) (o : Nat) (vs : List Value) (h : o + vs.length ≤ cs.length) : (over cs o vs).length = cs.length := by
  simp [over]; omega

theorem lies_over {ρ : Where} {c : Array Value} {l : Loc} {cs : List Value} (h : Lies ρ c l cs) {o : Nat} {vs vs' : List Value} (hv : VRels ρ vs vs') (ho : o + vs.length ≤ cs.length) :
    Lies ρ (splice c (l.off + o) vs') l (over cs o vs) := by
  obtain ⟨hk, hs, hc⟩ := h
  have hlen := hv.length
  refine ⟨by rw [over_length _ _ _ ho]; exact hk, by rw [over_length _ _ _ ho, splice_size _ _ _ (by omega)]; exact hs, ?_⟩
  rw [over_length _ _ _ ho]
  have e : ((splice c (l.off + o) vs').toList.drop l.off).take cs.length = ((c.toList.drop l.off).take o) ++ vs' ++ ((c.toList.drop l.off).take cs.length).drop (o + vs.length) := by
    have hcs : l.off + cs.length ≤ c.toList.length := by simpa using hs
    apply List.ext_getElem?
    intro n
    simp only [splice, List.getElem?_take, List.getElem?_drop, List.getElem?_append, List.length_take, List.length_drop, List.length_append]
    by_cases h1 : n < cs.length
    · rw [if_pos h1]
      by_cases h2 : n < o
      · rw [if_pos (by omega), if_pos (by omega), if_pos (by omega), if_pos (by omega), if_pos (by omega), if_pos (by omega)]
      · by_cases h3 : n < o + vs'.length
        · rw [if_pos (by omega), if_neg (by omega), if_pos (by omega), if_neg (by omega)]
          congr 1; omega
        · rw [if_neg (by omega), if_neg (by omega), if_pos (by omega)]
          congr 1; omega
    · rw [if_neg h1, if_neg (by omega), if_neg (by omega)]
  rw [e]
  unfold over
  refine (VRels.append ?_ hv).append ?_
  · have := hc.take o
    rwa [List.take_take, show min o cs.length = o by omega] at this
  · exact hc.drop _

theorem HRel.write {B : Nat} {ρ : Where} {h : Heap} {w : World} (r : HRel B ρ h w) {i : Nat} {l : Loc} {cs : List Value} {e : TypeId} (hA : At ρ i l) (hg : h.get i = some (.row cs e))
    {o : Nat} {vs vs' : List Value} (hv : VRels ρ vs vs') (ho : o + vs.length ≤ cs.length) :
    ∃ c, w.heap[l.blk]? = some (.cells c e (0, 0)) ∧ l.off + o + vs'.length ≤ c.size ∧
      HRel B ρ (h.put i (.row (over cs o vs) e)) (setBlk w l.blk (.cells (splice c (l.off + o) vs') e (0, 0))) ∧
      Step ρ h w ρ (h.put i (.row (over cs o vs) e)) (setBlk w l.blk (.cells (splice c (l.off + o) vs') e (0, 0))) := by
  obtain ⟨h1, h2, h3, c, hc, hsz, hl⟩ := r.cells hA hg
  have hρ := hA.1
  have hlen := hv.length
  have hb : l.blk < w.heap.size := by
    rcases Nat.lt_or_ge l.blk w.heap.size with hlt | hge
    · exact hlt
    · rw [Array.getElem?_eq_none hge] at hc; cases hc
  have hin : l.off + o + vs'.length ≤ c.size := by have := hl.2.1; omega
  have hni : i < h.next := r.dom i l hρ
  refine ⟨c, hc, hin, ⟨?_, ?_, ?_, ?_, ?_, ?_⟩, ⟨Where.le_refl ρ, Nat.le_refl _, fun _ _ h _ => h, ?_, ?_, ?_, ?_, by simp [setBlk], rfl, rfl, rfl⟩⟩
  · simpa [setBlk] using r.size
  · exact r.dom
  · intro j hj
    rw [Heap.next_put] at hj
    rw [Heap.get_put, if_neg (by omega)]
    exact r.fresh j hj
  · intro j m ds f hj hgj
    rw [Heap.get_put] at hgj
    by_cases ne : j = i
    · subst ne
      rw [if_pos rfl] at hgj
      obtain ⟨rfl, rfl⟩ := Thing.row.inj (Option.some.inj hgj)
      rw [hρ] at hj
      obtain rfl := Option.some.inj hj
      refine ⟨h1, h2, _, by rw [setBlk_get _ hb, if_pos rfl], .of_cells hA.2 (by rw [over_length _ _ _ ho]; exact h3) ?_ (lies_over hl hv ho)⟩
      rw [splice_size _ _ _ hin]; exact hsz
    · rw [if_neg ne] at hgj
      obtain ⟨g1, g2, d, hd, hdl⟩ := r.row j m ds f hj hgj
      refine ⟨g1, g2, d, ?_, hdl⟩
      rw [setBlk_get _ hb, if_neg, hd]
      intro e1
      exact ne (r.inj j i m l ds f cs e hj hρ hgj hg e1)
  · intro j m ds hj hgj
    rw [Heap.get_put] at hgj
    by_cases ne : j = i
    · subst ne; rw [if_pos rfl] at hgj; cases hgj
    · rw [if_neg ne] at hgj
      obtain ⟨g1, d, f, fr, hd, hdl⟩ := r.ro j m ds hj hgj
      refine ⟨g1, d, f, fr, ?_, hdl⟩
      rw [setBlk_get _ hb, if_neg (by omega), hd]
  · intro j k m n ds f gs g hj hk hgj hgk hbl
    rw [Heap.get_put] at hgj hgk
    have key : ∀ x ys y, (if x = i then some (Thing.row (over cs o vs) e) else h.get x) = some (.row ys y) → ∃ zs z, h.get x = some (.row zs z) := by
      intro x ys y hx
      by_cases ne : x = i
      · subst ne; exact ⟨_, _, hg⟩
      · rw [if_neg ne] at hx; exact ⟨_, _, hx⟩
    obtain ⟨_, _, e1⟩ := key _ _ _ hgj
    obtain ⟨_, _, e2⟩ := key _ _ _ hgk
    exact r.inj j k m n _ _ _ _ hj hk e1 e2 hbl
  · intro j ds f hj hgj
    rw [Heap.get_put] at hgj
    by_cases ne : j = i
    · subst ne; exact ⟨_, _, hg⟩
    · rw [if_neg ne] at hgj; exact ⟨_, _, hgj⟩
  · intro j hj hn
    rw [Heap.get_put, if_neg]
    intro e1; subst e1; rw [hρ] at hn; cases hn
  · intro j m ds f hj hge _
    have := r.dom j m hj; omega
  · intro b hbl hno
    rw [setBlk_get _ hb, if_neg]
    exact fun e1 => hno i l cs e hρ hg e1.symm

/-- A block of another kind is turned. -/
theorem HRel.writeO {B : Nat} {ρ : Where} {h : Heap} {w : World} (r : HRel B ρ h w) {i : Nat} {l : Loc} {cs cs' : List Value} {e : TypeId} {o : Obj} (hρ : ρ i = some l) (hg : h.get i = some (.row cs e)) (hr : ObjRel ρ l cs' e o) :
    HRel B ρ (h.put i (.row cs' e)) (setBlk w l.blk o) ∧ Step ρ h w ρ (h.put i (.row cs' e)) (setBlk w l.blk o) := by
  obtain ⟨h1, h2, x, hc, _⟩ := r.row i l cs e hρ hg
  have hb : l.blk < w.heap.size := by
    rcases Nat.lt_or_ge l.blk w.heap.size with hlt | hge
    · exact hlt
    · rw [Array.getElem?_eq_none hge] at hc; cases hc
  have hni : i < h.next := r.dom i l hρ
  refine ⟨⟨?_, ?_, ?_, ?_, ?_, ?_⟩, ⟨Where.le_refl ρ, Nat.le_refl _, fun _ _ h _ => h, ?_, ?_, ?_, ?_, by simp [setBlk], rfl, rfl, rfl⟩⟩
  · simpa [setBlk] using r.size
  · exact r.dom
  · intro j hj
    rw [Heap.next_put] at hj
    rw [Heap.get_put, if_neg (by omega)]
    exact r.fresh j hj
  · intro j m ds f hj hgj
    rw [Heap.get_put] at hgj
    by_cases ne : j = i
    · subst ne
      rw [if_pos rfl] at hgj
      obtain ⟨rfl, rfl⟩ := Thing.row.inj (Option.some.inj hgj)
      rw [hρ] at hj
      obtain rfl := Option.some.inj hj
      exact ⟨h1, h2, _, by rw [setBlk_get _ hb, if_pos rfl], hr⟩
    · rw [if_neg ne] at hgj
      obtain ⟨g1, g2, d, hd, hdl⟩ := r.row j m ds f hj hgj
      refine ⟨g1, g2, d, ?_, hdl⟩
      rw [setBlk_get _ hb, if_neg, hd]
      intro e1
      exact ne (r.inj j i m l ds f cs e hj hρ hgj hg e1)
  · intro j m ds hj hgj
    rw [Heap.get_put] at hgj
    by_cases ne : j = i
    · subst ne; rw [if_pos rfl] at hgj; cases hgj
    · rw [if_neg ne] at hgj
      obtain ⟨g1, d, f, fr, hd, hdl⟩ := r.ro j m ds hj hgj
      refine ⟨g1, d, f, fr, ?_, hdl⟩
      rw [setBlk_get _ hb, if_neg (by omega), hd]
  · intro j k m n ds f gs g hj hk hgj hgk hbl
    rw [Heap.get_put] at hgj hgk
    have key : ∀ x ys y, (if x = i then some (Thing.row cs' e) else h.get x) = some (.row ys y) → ∃ zs z, h.get x = some (.row zs z) := by
      intro x ys y hx
      by_cases ne : x = i
      · subst ne; exact ⟨_, _, hg⟩
      · rw [if_neg ne] at hx; exact ⟨_, _, hx⟩
    obtain ⟨_, _, e1⟩ := key _ _ _ hgj
    obtain ⟨_, _, e2⟩ := key _ _ _ hgk
    exact r.inj j k m n _ _ _ _ hj hk e1 e2 hbl
  · intro j ds f hj hgj
    rw [Heap.get_put] at hgj
    by_cases ne : j = i
    · subst ne; exact ⟨_, _, hg⟩
    · rw [if_neg ne] at hgj; exact ⟨_, _, hgj⟩
  · intro j hj hn
    rw [Heap.get_put, if_neg]
    intro e1; subst e1; rw [hρ] at hn; cases hn
  · intro j m ds f hj hge _
    have := r.dom j m hj; omega
  · intro b hbl hno
    rw [setBlk_get _ hb, if_neg]
    exact fun e1 => hno i l cs e hρ hg e1.symm

/-! ### a row whose room is used in place: it lives on under a new number -/
theorem HRel.move {B : Nat} {ρ : Where} {h : Heap} {w : World} (r : HRel B ρ h w) {i : Nat} {l : Loc} {cs : List Value} {e : TypeId} (hA : At ρ i l) (hg : h.get i = some (.row cs e))
    {o k : Nat} {vs vs' : List Value} (hv : VRels ρ vs vs') (ho : o + k ≤ cs.length) (hroom : o + k + vs.length ≤ l.size) :
    let m : Loc := { blk := l.blk, off := l.off + o, size := l.size - o, known := k + vs.length, own := true }
    ∃ c, w.heap[l.blk]? = some (.cells c e (0, 0)) ∧ l.off + o + k + vs'.length ≤ c.size ∧
      HRel B (ρ.add h.next m) ((h.kill i).new (.row ((cs.drop o).take k ++ vs) e)) (setBlk w l.blk (.cells (splice c (l.off + o + k) vs') e (0, 0))) ∧
      Step ρ h w (ρ.add h.next m) ((h.kill i).new (.row ((cs.drop o).take k ++ vs) e)) (setBlk w l.blk (.cells (splice c (l.off + o + k) vs') e (0, 0))) := by
  intro m
  obtain ⟨h1, h2, h3, c, hc, hsz, hl⟩ := r.cells hA hg
  have hρ := hA.1
  have hlen := hv.length
  have hb : l.blk < w.heap.size := by
    rcases Nat.lt_or_ge l.blk w.heap.size with hlt | hge
    · exact hlt
    · rw [Array.getElem?_eq_none hge] at hc; cases hc
  have hin : l.off + o + k + vs'.length ≤ c.size := by omega
  have hni : i < h.next := r.dom i l hρ
  have hn : ρ h.next = none := r.none_next (Nat.le_refl _)
  have hle := Where.add_le ρ h.next m hn
  have old : ∀ j n, ρ.add h.next m j = some n → j ≠ h.next → ρ j = some n := by
    intro j n hj ne
    unfold Where.add at hj
    rwa [if_neg ne] at hj
  have at_new : ∀ n, ρ.add h.next m h.next = some n → n = m := by
    intro n hn
    rw [Where.add_self] at hn
    exact (Option.some.inj hn).symm
  have get_old : ∀ j x, ((h.kill i).new (.row ((cs.drop o).take k ++ vs) e)).get j = some x → j ≠ h.next → j ≠ i ∧ h.get j = some x := by
    intro j x hx ne
    rw [Heap.get_new, Heap.next_kill, if_neg ne, Heap.get_kill] at hx
    by_cases e1 : j = i
    · rw [if_pos e1] at hx; cases hx
    · rw [if_neg e1] at hx; exact ⟨e1, hx⟩
  have get_at : ∀ x, ((h.kill i).new (.row ((cs.drop o).take k ++ vs) e)).get h.next = some x → x = .row ((cs.drop o).take k ++ vs) e := by
    intro x hx
    rw [Heap.get_new, Heap.next_kill, if_pos rfl] at hx
    exact (Option.some.inj hx).symm
  have hlen2 : ((cs.drop o).take k ++ vs).length = k + vs.length := by simp; omega
  refine ⟨c, hc, hin, ⟨?_, ?_, ?_, ?_, ?_, ?_⟩, ⟨hle, by simp [Heap.next_new, Heap.next_kill], ?_, ?_, ?_, ?_, ?_, by simp [setBlk], rfl, rfl, rfl⟩⟩
  · simpa [setBlk] using r.size
  · intro j n hj
    rw [Heap.next_new, Heap.next_kill]
    by_cases ne : j = h.next
    · omega
    · have := r.dom j n (old j n hj ne); omega
  · intro j hj
    rw [Heap.next_new, Heap.next_kill] at hj
    rw [Heap.get_new, Heap.next_kill, if_neg (by omega), Heap.get_kill]
    split
    · rfl
    · exact r.fresh j (by omega)
  · intro j n ds f hj hgj
    by_cases ne : j = h.next
    · subst ne
      obtain rfl := at_new n hj
      obtain ⟨rfl, rfl⟩ := Thing.row.inj (get_at _ hgj)
      refine ⟨rfl, h2, _, by rw [setBlk_get _ hb, if_pos rfl], .of_cells rfl ?_ ?_ ⟨?_, ?_, ?_⟩⟩
      · rw [hlen2]; simp only [m]; omega
      · rw [splice_size _ _ _ hin]; simp only [m]; omega
      · rw [hlen2]
      · rw [hlen2, splice_size _ _ _ hin]; simp only [m]; omega
      · rw [hlen2]
        have e1 : ((splice c (l.off + o + k) vs').toList.drop m.off).take (k + vs.length) = ((c.toList.drop l.off).take cs.length |>.drop o |>.take k) ++ vs' := by
          have hcs : l.off + cs.length ≤ c.toList.length := by simpa using hl.2.1
          have hcc : l.off + o + k + vs'.length ≤ c.toList.length := by simpa using hin
          apply List.ext_getElem?
          intro n
          simp only [splice, m, List.getElem?_take, List.getElem?_drop, List.getElem?_append, List.length_take, List.length_drop, List.length_append]
          by_cases q1 : n < k
          · rw [if_pos (by omega), if_pos (by omega), if_pos (by omega), if_pos (by omega), if_pos (by omega), if_pos q1, if_pos (by omega)]
            congr 1; omega
          · by_cases q2 : n < k + vs.length
            · rw [if_pos q2, if_pos (by omega), if_neg (by omega), if_neg (by omega)]
              congr 1; omega
            · rw [if_neg q2, if_neg (by omega)]
              rw [List.getElem?_eq_none (by omega)]
        rw [e1]
        refine VRels.append ?_ (hv.mono hle)
        exact ((hl.2.2.drop o).take k).mono hle
    · obtain ⟨ni, hg'⟩ := get_old j _ hgj ne
      obtain ⟨g1, g2, d, hd, hdl⟩ := r.row j n ds f (old j n hj ne) hg'
      refine ⟨g1, g2, d, ?_, hdl.mono hle⟩
      rw [setBlk_get _ hb, if_neg, hd]
      intro e1
      exact ni (r.inj j i n l ds f cs e (old j n hj ne) hρ hg' hg e1)
  · intro j n ds hj hgj
    by_cases ne : j = h.next
    · subst ne; cases get_at _ hgj
    · obtain ⟨ni, hg'⟩ := get_old j _ hgj ne
      obtain ⟨g1, d, f, fr, hd, hk, hs, hdl⟩ := r.ro j n ds (old j n hj ne) hg'
      refine ⟨g1, d, f, fr, ?_, hk, hs, hdl.mono hle⟩
      rw [setBlk_get _ hb, if_neg (by omega), hd]
  · intro j k' n n' ds f gs g hj hk hgj hgk hbl
    by_cases nj : j = h.next
    · by_cases nk : k' = h.next
      · omega
      · subst nj
        obtain rfl := at_new n hj
        obtain ⟨ni, hg'⟩ := get_old k' _ hgk nk
        exact absurd (r.inj k' i n' l gs g cs e (old k' n' hk nk) hρ hg' hg hbl.symm) ni
    · obtain ⟨ni, hg'⟩ := get_old j _ hgj nj
      by_cases nk : k' = h.next
      · subst nk
        obtain rfl := at_new n' hk
        exact absurd (r.inj j i n l ds f cs e (old j n hj nj) hρ hg' hg hbl) ni
      · obtain ⟨ni2, hg2⟩ := get_old k' _ hgk nk
        exact r.inj j k' n n' ds f gs g (old j n hj nj) (old k' n' hk nk) hg' hg2 hbl
  · intro j n hj hlt
    exact old j n hj (by omega)
  · intro j ds f hj hgj
    exact ⟨ds, f, (get_old j _ hgj (by omega)).2⟩
  · intro j hj hnone
    rw [Heap.get_new, Heap.next_kill, if_neg (by omega), Heap.get_kill, if_neg]
    intro e1; subst e1; rw [hρ] at hnone; cases hnone
  · intro j n ds f hj hge hgj
    by_cases ne : j = h.next
    · subst ne; obtain rfl := at_new n hj; exact .inr ⟨i, l, cs, e, hρ, hg, rfl⟩
    · have := r.dom j n (old j n hj ne); omega
  · intro b hbl hno
    rw [setBlk_get _ hb, if_neg]
    exact fun e1 => hno i l cs e hρ hg e1.symm

/-- A row may be let go. -/
theorem HRel.kill {B : Nat} {ρ : Where} {h : Heap} {w : World} (r : HRel B ρ h w) {i : Nat} {l : Loc} (hρ : ρ i = some l) : HRel B ρ (h.kill i) w ∧ Step ρ h w ρ (h.kill i) w := by
  have get_old : ∀ j x, (h.kill i).get j = some x → h.get j = some x := by
    intro j x hx
    rw [Heap.get_kill] at hx
    by_cases e1 : j = i
    · rw [if_pos e1] at hx; cases hx
    · rwa [if_neg e1] at hx
  refine ⟨⟨r.size, r.dom, ?_, ?_, ?_, ?_⟩, ⟨Where.le_refl ρ, Nat.le_refl _, fun _ _ h _ => h, ?_, ?_, ?_, fun _ _ _ => rfl, Nat.le_refl _, rfl, rfl, rfl⟩⟩
  · intro j hj
    rw [Heap.get_kill]
    split
    · rfl
    · exact r.fresh j hj
  · intro j m ds f hj hgj; exact r.row j m ds f hj (get_old _ _ hgj)
  · intro j m ds hj hgj; exact r.ro j m ds hj (get_old _ _ hgj)
  · intro j k m n ds f gs g hj hk hgj hgk hb; exact r.inj j k m n ds f gs g hj hk (get_old _ _ hgj) (get_old _ _ hgk) hb
  · intro j ds f _ hgj; exact ⟨ds, f, get_old _ _ hgj⟩
  · intro j _ hn
    rw [Heap.get_kill, if_neg]
    intro e1; subst e1; rw [hρ] at hn; cases hn
  · intro j m ds f hj hge hgj; have := r.dom j m hj; omega
end Go.Proofs.YthijllagngkbgaaGreat.Eng
