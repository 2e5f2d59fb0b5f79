/- The engine, part 25: loops whose rounds leave rows behind; memories written out as a list of rows. -/
import Derived.Test.YthijllagngkbgaaGreatEngEq
namespace Go.Proofs.YthijllagngkbgaaGreat.Eng
open Go

/-! ### a memory as a list -/
def putsL : List (Option Thing) → Nat → Tree Thing → Tree Thing
  | [], _, t => t
  | r :: rs, i, t => putsL rs (i + 1) (t.put i r)
def heapL (rs : List (Option Thing)) : Heap := { next := rs.length, tree := putsL rs 0 .leaf }
def rw' (cs : List Value) (e : TypeId) : Option Thing := some (.row cs e)

theorem putsL_get : ∀ (rs : List (Option Thing)) (i : Nat) (t : Tree Thing) (j : Nat), (putsL rs i t).get j = if i ≤ j ∧ j < i + rs.length then (rs[j - i]?).join else t.get j
  | [], i, t, j => by simp [putsL]; omega
  | r :: rs, i, t, j => by
    simp only [putsL, List.length_cons]
    rw [putsL_get rs (i + 1) _ j, Tree.get_put]
    by_cases h : j = i
    · subst h
      rw [if_neg (by omega), if_pos rfl, if_pos (by omega)]
      simp
    · by_cases h2 : i ≤ j ∧ j < i + (rs.length + 1)
      · rw [if_pos (by omega), if_pos h2, show j - i = (j - (i + 1)) + 1 by omega, List.getElem?_cons_succ]
      · rw [if_neg (by omega), if_neg h, if_neg h2]
theorem heapL_get (rs : List (Option Thing)) (j : Nat) : (heapL rs).get j = (rs[j]?).join := by
  unfold heapL Heap.get
  simp only []
  rw [putsL_get]
  by_cases h : j < rs.length
  · rw [if_pos (by omega)]; simp
  · rw [if_neg (by omega), List.getElem?_eq_none (by omega)]; rfl
theorem heapL_ok (rs : List (Option Thing)) : (heapL rs).ok := by
  intro i hi
  have : rs.length ≤ i := hi
  rw [heapL_get, List.getElem?_eq_none this]; rfl
def rowsTo (h : Heap) : Nat → List (Option Thing)
  | 0 => []
  | k + 1 => rowsTo h k ++ [h.get k]
theorem rowsTo_length (h : Heap) : ∀ k, (rowsTo h k).length = k
  | 0 => rfl
  | k + 1 => by simp [rowsTo, rowsTo_length h k]
theorem rowsTo_get (h : Heap) : ∀ (k i : Nat), i < k → (rowsTo h k)[i]? = some (h.get i)
  | k + 1, i, hi => by
    simp only [rowsTo]
    by_cases e : i < k
    · rw [List.getElem?_append_left (by rw [rowsTo_length]; exact e)]; exact rowsTo_get h k i e
    · obtain rfl : i = k := by omega
      rw [List.getElem?_append_right (by rw [rowsTo_length]; exact Nat.le_refl _), rowsTo_length]; simp
theorem rowsTo_eq {h : Heap} {rs : List (Option Thing)} (hr : rowsTo h rs.length = rs) {i : Nat} (hi : i < rs.length) : h.get i = (heapL rs).get i := by
  have := rowsTo_get h rs.length i hi
  rw [hr] at this
  rw [heapL_get, this]; rfl

/-! ### what is seen of the rows below N alone -/
def closedV (N : Nat) : Nat → Value → Bool
  | 0, _ => false
  | d + 1, .agg x => x.toList.all (closedV N d)
  | d + 1, .tuple x => x.toList.all (closedV N d)
  | d + 1, .func _ x y => x.toList.all (closedV N d) && y.toList.all (closedV N d)
  | _ + 1, .pointer (some ⟨i, _, none⟩) => decide (i < N)
  | _ + 1, .slice (some ⟨i, _, _⟩) _ _ => decide (i < N)
  | _ + 1, .chan (some i) => decide (i < N)
  | _ + 1, .map (some i) => decide (i < N)
  | _ + 1, v => flat v
theorem closeds_rel {N d : Nat} (ih : ∀ {v : Value}, closedV N d v = true → RRel (under N) v v) : ∀ {vs : List Value}, vs.all (closedV N d) = true → RRels (under N) vs vs
  | [], _ => .nil
  | v :: vs, h => by
    simp only [List.all_cons, Bool.and_eq_true] at h
    exact .cons _ _ _ _ (ih h.1) (closeds_rel ih h.2)
theorem closedV_rel {N : Nat} : ∀ {d : Nat} {v : Value}, closedV N d v = true → RRel (under N) v v
  | 0, _, h => by cases h
  | d + 1, v, h => by
    unfold closedV at h
    split at h
    · rename_i he; cases he
    · rename_i he; obtain rfl := Nat.succ.inj he; exact .agg _ _ (closeds_rel closedV_rel h)
    · rename_i he; obtain rfl := Nat.succ.inj he; exact .tuple _ _ (closeds_rel closedV_rel h)
    · rename_i he
      obtain rfl := Nat.succ.inj he
      simp only [Bool.and_eq_true] at h
      exact .func _ _ _ _ _ (closeds_rel closedV_rel h.1) (closeds_rel closedV_rel h.2)
    · exact .ptr _ _ _ (under_some.2 ⟨by simpa using h, rfl⟩)
    · exact .slice _ _ _ _ _ _ (under_some.2 ⟨by simpa using h, rfl⟩)
    · exact .chan _ _ (under_some.2 ⟨by simpa using h, rfl⟩)
    · exact .map _ _ (under_some.2 ⟨by simpa using h, rfl⟩)
    · exact RRel.flat h
def closedT (N : Nat) : Option Thing → Bool
  | some (.row cs _) => cs.all (closedV N 4)
  | some (.ro cs) => cs.all (closedV N 4)
  | none => true
theorem closedT_rel {N : Nat} {t : Option Thing} (h : closedT N t = true) : TRel (under N) t t := by
  unfold closedT at h
  split at h
  · exact .row _ _ _ (closeds_rel closedV_rel h)
  · exact .ro _ _ (closeds_rel closedV_rel h)
  · exact .none
theorem flats_closed {N : Nat} {cs : List Value} (h : cs.all flat = true) : cs.all (closedV N 4) = true := by
  rw [List.all_eq_true] at h ⊢
  intro v hv
  have := h v hv
  unfold flat at this
  split at this <;> first | rfl | cases this

/-! ### states that look the same -/
section
variable {P : Program}
theorem HRel.ext {B : Nat} {ρ : Where} {h h' : Heap} {w : World} (r : HRel B ρ h w) (hn : h'.next = h.next) (hg : ∀ i, i < h.next → h'.get i = h.get i) (hz : h'.ok) : HRel B ρ h' w := by
  have all : ∀ i, h'.get i = h.get i := fun i => by
    rcases Nat.lt_or_ge i h.next with h1 | h1
    · exact hg i h1
    · rw [hz i (by omega), r.fresh i h1]
  refine ⟨r.size, fun i l hi => by rw [hn]; exact r.dom i l hi, fun i hi => hz i hi, ?_, ?_, ?_⟩
  · intro i l cs e hi hg; rw [all] at hg; exact r.row i l cs e hi hg
  · intro i l cs hi hg; rw [all] at hg; exact r.ro i l cs hi hg
  · intro i j l m cs e ds f hi hj hg hg'; rw [all] at hg hg'; exact r.inj i j l m cs e ds f hi hj hg hg'
theorem Step.extL {ρ ρ' : Where} {h h₀ h' : Heap} {w w' : World} (s : Step ρ h₀ w ρ' h' w') (hn : h₀.next = h.next) (all : ∀ i, h₀.get i = h.get i) : Step ρ h w ρ' h' w' where
  le := s.le
  next := by rw [← hn]; exact s.next
  old := fun i l hi h1 => s.old i l hi (by omega)
  live := fun i cs e hi hg => by rw [← all]; exact s.live i cs e (by omega) hg
  ghost := fun i hi h1 => by rw [← all]; exact s.ghost i (by omega) h1
  new := fun i l cs e hi h1 hg => by
    rcases s.new i l cs e hi (by omega) hg with h2 | ⟨j, m, ds, f, a, b, c⟩
    · exact .inl h2
    · exact .inr ⟨j, m, ds, f, a, by rw [← all]; exact b, c⟩
  frame := fun b hb hno => s.frame b hb fun i l cs e hi hg => hno i l cs e hi (by rw [← all]; exact hg)
  size := s.size
  os := s.os
  tape := s.tape
  output := s.output

theorem RunsOk.extL {n : Nat} {c : Code} {T T₀ T' : Env} {h h₀ h' : Heap} {e : AExit} (r : RunsOk P n c T₀ h₀ e T' h') (hT : Env.sub T₀ T) (hn : h₀.next = h.next) (hg : ∀ i, i < h.next → h₀.get i = h.get i) (hz : h₀.ok) : RunsOk P n c T h e T' h' := by
  refine ⟨?_, fun hk => ?_⟩
  · intro ds B ρ a w Q hE hH hQ
    have all : ∀ i, h₀.get i = h.get i := fun i => by
      rcases Nat.lt_or_ge i h.next with h1 | h1
      · exact hg i h1
      · rw [hz i (by omega), hH.fresh i h1]
    exact r.runs ds B ρ a w Q (hE.less hT) (hH.ext hn hg hz) fun a' w' ρ' q1 q2 q3 => hQ a' w' ρ' q1 q2 (q3.extL hn all)
  · have := r.nx hz
    exact ⟨by omega, this.2⟩

/-- the same memory, written in another way -/
theorem Det.ext {n : Nat} {c : Code} {T : Env} {h : Heap} {Φ : AExit → Env → Heap → Prop} (rs : List (Option Thing)) (hn : h.next = rs.length) (hg : ∀ i, i < rs.length → h.get i = (rs[i]?).join) (d : Det P n c T (heapL rs) Φ) : Det P n c T h Φ := by
  obtain ⟨e, T', h', r, hp⟩ := d
  exact ⟨e, T', h', r.extL (fun _ _ h => h) hn.symm (fun i hi => by rw [heapL_get, hg i (by omega)]) (heapL_ok rs), hp⟩

/-- A loop; its rounds may leave rows behind. -/
theorem Det.loopD {n : Nat} {root : Code} {p : List Nat} {T : Env} {h : Heap} {Φ : AExit → Env → Heap → Prop} {α : Type} (N : Nat) (m : α → Nat) (ok : α → Prop) (L : α → List (Nat × Value)) (R : α → List (Option Thing)) (hs : isLoop (sub root p) = true)
    (hN : ∀ x, (R x).length = N) (hc : ∀ x, ok x → (∀ r ∈ R x, closedT N r = true)) (hcl : ∀ x, ok x → (L x).all (fun q => closedV N 4 q.2) = true) (x₀ : α) (hx : ok x₀) (hT : ((L x₀).map fun q => T.get q.1) = ((L x₀).map fun q => some q.2))
    (hn : h.next = N) (hr : rowsTo h N = R x₀)
    (body : ∀ x, ok x → Det P n (sub root (0 :: p)) (slots (L x)) (heapL (R x)) fun e T' h' => e.then (∃ y, ok y ∧ m y < m x ∧ ((L y).map fun q => T'.get q.1) = ((L y).map fun q => some q.2) ∧ rowsTo h' N = R y) fun e => Φ e T' h') : Det P n (sub root p) T h Φ := by
  have key : ∀ (k : Nat) (x : α), ok x → m x < k → ∃ e T' h', Rounds P n (sub root (0 :: p)) (slots (L x)) (heapL (R x)) e T' h' ∧ ((heapL (R x)).ok → (heapL (R x)).next ≤ h'.next ∧ h'.ok) ∧ Φ e T' h' := by
    intro k
    induction k with
    | zero => intro x _ hk; omega
    | succ k ih =>
      intro x ox hk
      obtain ⟨e, T1, h1, r, hp⟩ := body x ox
      cases e with
      | normal =>
        obtain ⟨y, oy, hy, hT1, hR1⟩ := hp
        have hnx : (heapL (R x)).next = N := hN x
        have d : RunsOk P n (sub root (0 :: p)) (slots (L x)) (heapL (R x)) .normal (slots (L y)) (heapL (R y)) := by
          refine r.drop ?_ (by rw [hnx]; exact hN y) ?_ ?_
          · intro t v hv
            rw [hnx]
            refine ⟨slots_sub hT1 t v hv, ?_⟩
            have hall := hcl y oy
            have hin : ∃ q ∈ L y, q.2 = v := by
              clear hT1 hall
              generalize L y = l at hv
              induction l with
              | nil => simp [slots, Tree.get_leaf] at hv
              | cons q l ihl =>
                simp only [slots, List.foldr_cons] at hv
                rw [Tree.get_put] at hv
                by_cases e : t = q.1
                · rw [if_pos e] at hv; exact ⟨q, by simp, Option.some.inj hv⟩
                · rw [if_neg e] at hv
                  obtain ⟨q', hq', h2⟩ := ihl hv
                  exact ⟨q', by simp [hq'], h2⟩
            obtain ⟨q, hq, rfl⟩ := hin
            exact closedV_rel (List.all_eq_true.1 hall q hq)
          · intro i hi
            rw [hnx] at hi ⊢
            have e1 : (heapL (R y)).get i = h1.get i := by
              have := rowsTo_get h1 N i hi
              rw [hR1] at this
              rw [heapL_get, this]; rfl
            refine ⟨e1, ?_⟩
            rw [← e1, heapL_get]
            have hi' : i < (R y).length := by rw [hN y]; exact hi
            rw [List.getElem?_eq_getElem hi']
            exact closedT_rel (hc y oy _ (List.getElem_mem hi'))
          · intro i hi
            exact heapL_ok _ i (by rw [hnx] at hi; show (R y).length ≤ i; rw [hN y]; exact hi)
        obtain ⟨e2, T2, h2, r2, n2, hp2⟩ := ih y oy (by omega)
        refine ⟨e2, T2, h2, .more d.runs r2, fun hk => ?_, hp2⟩
        have a := d.nx hk
        have b := n2 a.2
        exact ⟨Nat.le_trans a.1 b.1, b.2⟩
      | exit i => exact ⟨_, _, _, .last r.runs (by simp), r.nx, hp⟩
      | ret => exact ⟨_, _, _, .last r.runs (by simp), r.nx, hp⟩
  obtain ⟨e, T', h', r, hnx, hp⟩ := key (m x₀ + 1) x₀ hx (by omega)
  have code : ∃ c, sub root p = .loop c ∧ sub root (0 :: p) = c := by
    simp only [sub]
    generalize sub root p = c at *
    cases c with
    | loop b => exact ⟨b, rfl, rfl⟩
    | _ => cases hs
  obtain ⟨c, hc1, hc2⟩ := code
  rw [hc2] at r
  refine ⟨e, T', h', ?_, hp⟩
  rw [hc1]
  refine RunsOk.extL (T₀ := slots (L x₀)) (h₀ := heapL (R x₀)) ⟨r.runs, hnx⟩ (slots_sub hT) (by rw [hn]; exact hN x₀) ?_ (heapL_ok _)
  intro i hi
  rw [hn] at hi
  have := rowsTo_get h N i hi
  rw [hr] at this
  rw [heapL_get, this]; rfl
end
end Go.Proofs.YthijllagngkbgaaGreat.Eng
