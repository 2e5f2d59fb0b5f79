/- The engine, part 15: the operation that may change memory; and the whole region, in whatever order. -/
import Derived.Test.YthijllagngkbgaaGreatEngMove
namespace Go.Proofs.YthijllagngkbgaaGreat.Eng
open Go
variable {ds : List Deferred}

section
variable {P : Program} {X : Ext} {g : Nat → Caller} {n B : Nat} {ops : Array Oper} {Tf : Nat → Env} {Hf : Nat → Heap} {vf : Nat → Value} {ρ₀ : Where} {w₀ : World}
variable {S : Nat → Prop} {K : Nat} {ρ : Where} {a : Act} {w : World}

theorem next_heavy (ops : Array Oper) : ∀ (d k : Nat), k + d = ops.size → ∃ K, k ≤ K ∧ K ≤ ops.size ∧ (K < ops.size → ∃ o, ops[K]? = some o ∧ kindOf o.op = .heavy) ∧ ∀ j o, k ≤ j → j < K → ops[j]? = some o → kindOf o.op ≠ .heavy
  | 0, k, h => ⟨k, Nat.le_refl _, by omega, fun h => by omega, fun j o h1 h2 => by omega⟩
  | d + 1, k, h => by
    obtain ⟨o, ho⟩ : ∃ o, ops[k]? = some o := ⟨ops[k]'(by omega), by simp⟩
    by_cases hk : kindOf o.op = .heavy
    · exact ⟨k, Nat.le_refl _, by omega, fun _ => ⟨o, ho, hk⟩, fun j o h1 h2 => by omega⟩
    · obtain ⟨K, h1, h2, h3, h4⟩ := next_heavy ops d (k + 1) (by omega)
      refine ⟨K, by omega, h2, h3, fun j p h5 h6 hp => ?_⟩
      by_cases e : j = k
      · subst e; rw [ho] at hp; obtain rfl := Option.some.inj hp; exact hk
      · exact h4 j p (by omega) h6 hp

theorem Inv.heavy (hst : staticOk ops = true) (tr : TextRun P X g n ops Tf Hf vf) (I : Inv P n B ops Tf Hf vf ρ₀ w₀ ds S K ρ a w) {o : Oper} (ho : ops[K]? = some o) (hS : ¬ S K)
    (hr : ∀ e ∈ o.after, Region.binds .any e = true → S e.on) {v' : Value} {w' : World} {ρ1 : Where} (hv : VRel ρ1 (vf K) v') (hmem : HRel B ρ1 (Hf (K + 1)) w') (hstep : Step (ρ.below (Hf K).next) (Hf K) w ρ1 (Hf (K + 1)) w') :
    ∃ K' ρ', Inv P n B ops Tf Hf vf ρ₀ w₀ ds (fun j => S j ∨ j = K) K' ρ' (a.put o.dst v') w' := by
  have hKs : K < ops.size := by
    rcases Nat.lt_or_ge K ops.size with h | h
    · exact h
    · rw [Array.getElem?_eq_none h] at ho; cases ho
  obtain ⟨K', hK1, hK2, hK3, hK4⟩ := next_heavy ops (ops.size - (K + 1)) (K + 1) (by omega)
  let ρ' : Where := fun j => if j < (Hf (K + 1)).next then ρ1 j else ρ j
  have lo : ∀ j, j < (Hf (K + 1)).next → ρ' j = ρ1 j := fun j h => by simp only [ρ']; rw [if_pos h]
  have hi : ∀ j, (Hf (K + 1)).next ≤ j → ρ' j = ρ j := fun j h => by simp only [ρ']; rw [if_neg (by omega)]
  have nxt : (Hf K).next ≤ (Hf (K + 1)).next := tr.mono' (by omega) (by omega)
  -- a number that is known is an old one, or lies behind
  have hρ : ρ.le ρ' := by
    intro j m hj
    rcases I.range j m hj with h | ⟨q, p, cs, e, s, h1, h2, h3, rfl⟩
    · rw [lo j (by omega)]; exact hstep.le j m (Where.below_some.2 ⟨h, hj⟩)
    · rw [hi _ (tr.mono' (show K + 1 ≤ q by omega) (by have := fresh_size h3; omega))]; exact hj
  have hρb : ∀ m, (ρ.below m).le (ρ'.below m) := fun m => Where.below_le_below (Nat.le_refl _) fun j x _ h => hρ j x h
  -- of a row that is there now, and of one that was made ahead
  have apart_ : ∀ q p cs e s l, S q → K < q → Fresh P ops Tf q p cs e s → ρ (Hf q).next = some l →
      (∀ j m, ρ j = some m → j ≠ (Hf q).next → ((∃ ds f, (Hf K).get j = some (.row ds f)) ∨ (Hf K).next ≤ j) → m.blk ≠ l.blk) → l.blk < w.heap.size →
      ∀ j m, ρ' j = some m → j ≠ (Hf q).next → ((j < (Hf (K + 1)).next ∧ ∃ ds f, (Hf (K + 1)).get j = some (.row ds f)) ∨ (Hf (K + 1)).next ≤ j) → m.blk ≠ l.blk := by
    intro q p cs e s l hq hKq hf hl hd hlt j m hj hne hor
    have hqn := tr.mono' (show K + 1 ≤ q by omega) (by have := fresh_size hf; omega)
    rcases hor with ⟨hj1, ds, f, hg⟩ | hj1
    · rw [lo j hj1] at hj
      by_cases hj2 : j < (Hf K).next
      · obtain ⟨ds', f', hg'⟩ := hstep.live j ds f hj2 hg
        have h3 := hstep.old j m hj hj2
        exact hd j m (Where.below_some.1 h3).2 hne (.inl ⟨ds', f', hg'⟩)
      · rcases hstep.new j m ds f hj (by omega) hg with h | ⟨j', m', ds', f', h1, h2, h3⟩
        · omega
        · rw [← h3]
          have h4 := Where.below_some.1 h1
          exact hd j' m' h4.2 (by omega) (.inl ⟨ds', f', h2⟩)
    · rw [hi j hj1] at hj
      exact hd j m hj hne (.inr (by omega))
  -- a block that was made ahead is as it was
  have blk_kept : ∀ q p cs e s l, S q → K < q → Fresh P ops Tf q p cs e s → ρ (Hf q).next = some l →
      (∀ j m, ρ j = some m → j ≠ (Hf q).next → ((∃ ds f, (Hf K).get j = some (.row ds f)) ∨ (Hf K).next ≤ j) → m.blk ≠ l.blk) → l.blk < w.heap.size → w'.heap[l.blk]? = w.heap[l.blk]? := by
    intro q p cs e s l hq hKq hf hl hd hlt
    refine hstep.frame l.blk hlt ?_
    intro j m ds f hj hg
    have h4 := Where.below_some.1 hj
    have hqn := tr.mono' (show K ≤ q by omega) (by have := fresh_size hf; omega)
    exact hd j m h4.2 (by omega) (.inl ⟨ds, f, hg⟩)
  -- memory at the next place
  have mem : ∀ d, K + 1 + d ≤ K' → HRel B (ρ'.below (Hf (K + 1 + d)).next) (Hf (K + 1 + d)) w' ∧ Step ρ₀ (Hf 0) w₀ (ρ'.below (Hf (K + 1 + d)).next) (Hf (K + 1 + d)) w' := by
    intro d
    induction d with
    | zero =>
      intro _
      have e : ρ'.below (Hf (K + 1)).next = ρ1 := by
        funext j
        unfold Where.below
        split
        · rename_i h; exact lo j h
        · cases h : ρ1 j with
          | none => rfl
          | some m => have := hmem.dom j m h; omega
      rw [Nat.add_zero, e]
      exact ⟨hmem, I.step.trans hstep⟩
    | succ d ih =>
      intro hd
      obtain ⟨r1, r2⟩ := ih (by omega)
      have hq : K + 1 + d < ops.size := by omega
      obtain ⟨p, hp⟩ : ∃ p, ops[K + 1 + d]? = some p := ⟨ops[K + 1 + d]'hq, by simp⟩
      rw [show K + 1 + (d + 1) = K + 1 + d + 1 by omega]
      generalize hqq : K + 1 + d = q at *
      rcases tr.still hp (hK4 q p (by omega) (by omega) hp) with e | ⟨cs, e, s, hf, eH⟩
      · rw [e]; exact ⟨r1, r2⟩
      · have hid := tr.mono' (show K + 1 ≤ q by omega) (by omega)
        rw [eH, Heap.next_new]
        have hidn : (ρ'.below (Hf q).next) (Hf q).next = none := by simp [Where.below]
        by_cases hSq : S q
        · obtain ⟨l, c, hl, hw0, hH, hdist⟩ := I.ext q p cs e s hSq (by omega) hf
          have hlt := I.blk_lt hl (.inr (by omega))
          have hkept := blk_kept q p cs e s l hSq (by omega) hf hl hdist hlt
          have hl' : ρ' (Hf q).next = some l := by rw [hi _ hid]; exact hl
          have eb : ρ'.below ((Hf q).next + 1) = (ρ'.below (Hf q).next).add (Hf q).next l := by
            funext j
            by_cases e1 : j = (Hf q).next
            · subst e1; simp [Where.below, Where.add, hl']
            · by_cases e2 : j < (Hf q).next
              · simp [Where.below, Where.add, e1, e2, show j < (Hf q).next + 1 by omega]
              · simp [Where.below, Where.add, e1, e2, show ¬ j < (Hf q).next + 1 by omega]
          rw [eb]
          refine ⟨(r1.ghost _).adopt (c := c) ⟨hH.kind, hH.off, hH.size, hH.known, hH.own, hH.base, by rw [hkept]; exact hH.blk, hH.rel.mono (hρb _)⟩ hidn (by simp [Heap.next_new]) (by rw [Heap.get_new, if_pos rfl]) ?_, ?_⟩
          · intro j m ds f hj hg
            have hj' := Where.below_some.1 hj
            rw [Heap.get_new, if_neg (by omega)] at hg
            refine apart_ q p cs e s l hSq (by omega) hf hl hdist hlt j m hj'.2 (by omega) ?_
            by_cases hj1 : j < (Hf (K + 1)).next
            · left
              refine ⟨hj1, ds, f, ?_⟩
              have := (tr.keep (id := j) (K + 1) (q - (K + 1)) (by omega) (fun j' o' h1 h2 h3 => hK4 j' o' h1 (by omega) h3) hj1).1
              rw [show K + 1 + (q - (K + 1)) = q by omega] at this
              rw [← this]; exact hg
            · exact .inr (by omega)
          · exact (r2.ghostNew r1.dom _).adopt hidn (tr.mono' (Nat.zero_le _) (by omega)) hw0
        · have hnone : ρ' (Hf q).next = none := by
            rw [hi _ hid]
            cases h : ρ (Hf q).next with
            | none => rfl
            | some m =>
              rcases I.range _ m h with h' | ⟨q', p', cs', e', s', h1, h2, h3, h4⟩
              · omega
              · rcases Nat.lt_trichotomy q q' with hq' | hq' | hq'
                · have := fresh_lt tr hf h3 hq'; omega
                · subst hq'; exact absurd h1 hSq
                · have := fresh_lt tr h3 hf hq'; omega
          have eb : ρ'.below ((Hf q).next + 1) = ρ'.below (Hf q).next := by
            funext j
            by_cases e1 : j = (Hf q).next
            · subst e1; simp [Where.below, hnone]
            · by_cases e2 : j < (Hf q).next
              · simp [Where.below, e2, show j < (Hf q).next + 1 by omega]
              · simp [Where.below, e2, show ¬ j < (Hf q).next + 1 by omega]
          rw [eb]
          exact ⟨r1.ghost _, r2.ghostNew r1.dom _⟩
  obtain ⟨m1, m2⟩ := mem (K' - (K + 1)) (by omega)
  rw [show K + 1 + (K' - (K + 1)) = K' by omega] at m1 m2
  have hnK' : (Hf (K + 1)).next ≤ (Hf K').next := tr.mono' hK1 hK2
  have keepK' : ∀ id, id < (Hf (K + 1)).next → (Hf K').get id = (Hf (K + 1)).get id := by
    intro id h
    have := (tr.keep (id := id) (K + 1) (K' - (K + 1)) (by omega) (fun j o h1 h2 h3 => hK4 j o h1 (by omega) h3) h).1
    rwa [show K + 1 + (K' - (K + 1)) = K' by omega] at this
  have hv2 : VRel (ρ'.below (Hf (max K' (K + 1))).next) (vf K) v' := by
    rw [show max K' (K + 1) = K' by omega]
    refine hv.mono ?_
    intro j m hj
    have := hmem.dom j m hj
    exact Where.below_some.2 ⟨by omega, by rw [lo j this]; exact hj⟩
  obtain ⟨s1, s2, s3, s4⟩ := I.slots hst tr (K' := K') (ρ' := ρ') ho hS (by omega) hK2 hρ hv2
  refine ⟨K', ρ', ?_, hK2, hK3, ?_, ?_, s1, s2, s3, s4, m1, m2, ?_, ?_, ?_⟩
  · intro j p hj hp e he hb
    rcases hj with hj | rfl
    · exact .inl (I.closed j p hj hp e he hb)
    · rw [ho] at hp; obtain rfl := Option.some.inj hp; exact .inl (hr e he hb)
  · intro j p hj hp hh
    rcases Nat.lt_trichotomy j K with h | h | h
    · exact .inl (I.done j p h hp hh)
    · exact .inr h
    · exact absurd hh (hK4 j p (by omega) hj hp)
  · intro j p hj hp hh hs
    rcases hs with hs | hs
    · exact I.rest j p (by omega) hp hh hs
    · omega
  · intro j p cs e s hj hKj hf
    have hj : S j := by
      rcases hj with h | h
      · exact h
      · omega
    obtain ⟨l, c, hl, hw0, hH, hdist⟩ := I.ext j p cs e s hj (by omega) hf
    have hjn := tr.mono' (show K + 1 ≤ j by omega) (by have := fresh_size hf; omega)
    have hlt := I.blk_lt hl (.inr (by omega))
    have hkept := blk_kept j p cs e s l hj (by omega) hf hl hdist hlt
    refine ⟨l, c, hρ _ _ hl, hw0, ⟨hH.kind, hH.off, hH.size, hH.known, hH.own, hH.base, by rw [hkept]; exact hH.blk, hH.rel.mono (hρb _)⟩, ?_⟩
    intro j' m hj' hne hor
    refine apart_ j p cs e s l hj (by omega) hf hl hdist hlt j' m hj' hne ?_
    by_cases hj1 : j' < (Hf (K + 1)).next
    · rcases hor with ⟨ds, f, hg⟩ | h
      · rw [keepK' j' hj1] at hg
        exact .inl ⟨hj1, ds, f, hg⟩
      · omega
    · exact .inr (by omega)
  · intro j m hj
    by_cases hj1 : j < (Hf (K + 1)).next
    · exact .inl (by omega)
    · rw [hi j (by omega)] at hj
      rcases I.range j m hj with h | ⟨q, p, cs, e, s, h1, h2, h3, h4⟩
      · omega
      · by_cases hq : K' < q
        · exact .inr ⟨q, p, cs, e, s, .inl h1, hq, h3, h4⟩
        · left
          by_cases e1 : q = K'
          · subst e1
            obtain ⟨p', hp', hh⟩ := hK3 (fresh_size h3)
            have := h3.1
            rw [hp'] at this
            obtain rfl := Option.some.inj this
            rw [h3.2.2.1] at hh; cases hh
          · have h5 := (tr.fresh h3).2
            have h6 := tr.mono' (show q + 1 ≤ K' by omega) hK2
            rw [h5, Heap.next_new] at h6
            omega
  · intro q p cs e s hq hqK hf
    have hSq : ¬ S q := fun h => hq (.inl h)
    have hqK0 : q ≠ K := fun h => hq (.inr h)
    by_cases hlt : q < K
    · obtain ⟨g1, g2⟩ := I.gh q p cs e s hSq hlt hf
      have h5 := (tr.fresh hf).2
      have h6 := tr.mono' (show q + 1 ≤ K by omega) (by omega)
      rw [h5, Heap.next_new] at h6
      have hb : ρ.below (Hf K).next (Hf q).next = none := by simp [Where.below, g1]
      constructor
      · rw [lo _ (by omega)]
        cases h : ρ1 (Hf q).next with
        | none => rfl
        | some m =>
          have := hstep.old _ m h (by omega)
          rw [hb] at this; cases this
      · rw [keepK' _ (by omega), hstep.ghost _ (by omega) hb]; exact g2
    · have hid := tr.mono' (show K + 1 ≤ q by omega) (by omega)
      constructor
      · rw [hi _ hid]
        cases h : ρ (Hf q).next with
        | none => rfl
        | some m =>
          rcases I.range _ m h with h' | ⟨q', p', cs', e', s', h1, h2, h3, h4⟩
          · omega
          · rcases Nat.lt_trichotomy q q' with hq' | hq' | hq'
            · have := fresh_lt tr hf h3 hq'; omega
            · subst hq'; exact absurd h1 hSq
            · have := fresh_lt tr h3 hf hq'; omega
      · have h5 := (tr.fresh hf).2
        have h6 := (tr.keep (id := (Hf q).next) (q + 1) (K' - (q + 1)) (by omega) (fun j o h1 h2 h3 => hK4 j o (by omega) (by omega) h3) (by rw [h5, Heap.next_new]; omega)).1
        rw [show q + 1 + (K' - (q + 1)) = K' by omega] at h6
        rw [h6, h5, Heap.get_new, if_pos rfl]

theorem read_new {h : Heap} {i o k : Nat} {x : Thing} {cs : List Value} (hf : h.get h.next = none) (hr : readCells h i o k = some cs) : readCells (h.new x) i o k = some cs := by
  unfold readCells at hr ⊢
  rw [Heap.get_new]
  by_cases e : i = h.next
  · subst e; rw [hf] at hr; cases hr
  · rw [if_neg e]; exact hr

theorem aload_new {h : Heap} {T : Env} {op : Op} {x : Thing} {v : Value} (hk : h.ok) (hr : aloadOp P T h op = some v) : aloadOp P T (h.new x) op = some v := by
  unfold aloadOp at hr ⊢
  split at hr
  · rename_i t y
    obtain ⟨av, ha, hr⟩ := Option.bind_eq_some_iff.mp hr
    simp only [ha, Option.bind_some]
    unfold aload at hr ⊢
    split at hr
    · rename_i i o
      split at hr
      · rename_i hg
        simp only [Option.bind_eq_some_iff, Option.map_eq_some_iff] at hr
        obtain ⟨m, hm, cs, hcs, rfl⟩ := hr
        simp only [hm, Option.bind_some, read_new (hk _ (Nat.le_refl _)) hcs, Option.map_some]
      · rename_i hg
        simp only [Option.bind_eq_some_iff] at hr
        obtain ⟨cs, hcs, hr⟩ := hr
        simp only [read_new (hk _ (Nat.le_refl _)) hcs, Option.bind_some]
        exact hr
      · cases hr
    · cases hr
  · cases hr

/-! ### all of them, in whatever order -/
theorem count_set : ∀ (l : List Bool) (i : Nat), l[i]? = some false → (l.set i true).count true = l.count true + 1
  | [], i, h => by simp at h
  | b :: l, 0, h => by simp at h; subst h; simp
  | b :: l, i + 1, h => by
    have := count_set l i (by simpa using h)
    simp only [List.set_cons_succ, List.count_cons, this]; omega

theorem count_full : ∀ (l : List Bool), l.count true = l.length → ∀ b ∈ l, b = true
  | [], _, b, h => by simp at h
  | c :: l, hc, b, h => by
    have h1 := List.count_le_length (a := true) (l := l)
    simp only [List.count_cons, List.length_cons] at hc
    cases c with
    | false => simp at hc; omega
    | true =>
      simp at hc
      rcases List.mem_cons.1 h with rfl | h
      · rfl
      · exact count_full l hc b h

theorem draw_any {Q : Exit → Act → World → Prop} (hg : ∀ i, Sim P B (g i)) (hX : ExtOk P X) (hst : staticOk ops = true) (tr : TextRun P X g n ops Tf Hf vf)
    (hQ : ∀ a' w' ρ', ERel ds ρ' n (Tf ops.size) a' → HRel B ρ' (Hf ops.size) w' → Step ρ₀ (Hf 0) w₀ ρ' (Hf ops.size) w' → Q .normal a' w') :
    ∀ (fuel : Nat) (listed : Array Bool) (K : Nat) (ρ : Where) (a : Act) (w : World), listed.size = ops.size → listed.toList.count true + fuel = ops.size →
      Inv P n B ops Tf Hf vf ρ₀ w₀ ds (fun i => listed[i]? = some true) K ρ a w → wpAny P .any ops Q fuel listed a w := by
  intro fuel
  induction fuel with
  | zero =>
    intro listed K ρ a w hsz hc I
    have hall : ∀ i, i < ops.size → listed[i]? = some true := by
      intro i hi
      have h1 : i < listed.size := by omega
      have h2 := count_full listed.toList (by simpa [hsz] using hc) listed[i] (by simp)
      simp [h1, h2]
    have hKN : K = ops.size := by
      rcases Nat.lt_or_ge K ops.size with h | h
      · obtain ⟨o, ho, hh⟩ := I.Kat h
        exact absurd (hall K h) (I.rest K o (Nat.le_refl _) ho hh)
      · have := I.Kle; omega
    subst hKN
    refine ⟨?_, ?_⟩
    · unfold Region.ready
      rw [List.filter_eq_nil_iff]
      intro i hi
      have := hall i (by simpa using hi)
      simp [Array.getD_eq_getD_getElem?, this]
    · refine hQ a w _ ⟨?_, I.size, I.defers⟩ I.mem I.step
      intro t v hv
      rcases tr.slot t ops.size (Nat.le_refl _) v hv with ⟨j, o, h1, h2, h3, rfl, h5⟩ | ⟨h1, h2⟩
      · have := I.env1 j o t (hall j h1) h2 h3 (fun k p hjk hk hp => by
          refine h5 k p hjk ?_ hp
          rcases Nat.lt_or_ge k ops.size with h | h
          · exact h
          · rw [Array.getElem?_eq_none h] at hp; cases hp)
        rwa [show max ops.size (j + 1) = ops.size by omega] at this
      · refine (I.env0 t v ?_ h1).mono I.step.le
        intro k p hk hp
        refine h2 k p ?_ hp
        rcases Nat.lt_or_ge k ops.size with h | h
        · exact h
        · rw [Array.getElem?_eq_none h] at hp; cases hp
  | succ fuel ih =>
    intro listed K ρ a w hsz hc I
    have hready : ∀ i, i ∈ Region.ready .any ops listed ↔ ∃ o, ops[i]? = some o ∧ listed[i]? = some false ∧ ∀ e ∈ o.after, Region.binds .any e = true → listed[e.on]? = some true := by
      intro i
      unfold Region.ready
      rw [List.mem_filter]
      constructor
      · rintro ⟨h1, h2⟩
        have hi : i < ops.size := by simpa using h1
        simp only [Bool.and_eq_true] at h2
        obtain ⟨h2, h3⟩ := h2
        refine ⟨ops[i], by simp [hi], ?_, ?_⟩
        · rw [Array.getD_eq_getD_getElem?] at h2
          have : i < listed.size := by omega
          simp [this] at h2 ⊢
          exact h2
        · have ho : ops[i]? = some ops[i] := by simp [hi]
          rw [ho] at h3
          simp only [Option.map_some, Option.getD_some, Array.all_eq_true] at h3
          intro e he hb
          obtain ⟨k, hk, rfl⟩ := Array.getElem_of_mem he
          have := h3 k hk
          simp only [hb, Bool.not_true, Bool.false_or] at this
          rw [Array.getD_eq_getD_getElem?] at this
          cases hq : listed[((ops[i].after)[k]).on]? with
          | none => rw [hq] at this; simp at this
          | some b => rw [hq] at this; simp at this; rw [this]
      · rintro ⟨o, h1, h2, h3⟩
        have hi : i < ops.size := by
          rcases Nat.lt_or_ge i ops.size with h | h
          · exact h
          · rw [Array.getElem?_eq_none h] at h1; cases h1
        refine ⟨by simpa using hi, ?_⟩
        rw [h1]
        simp only [Bool.and_eq_true, Option.map_some, Option.getD_some, Array.all_eq_true]
        refine ⟨by simp [Array.getD_eq_getD_getElem?, h2], fun k hk => ?_⟩
        by_cases hb : Region.binds .any o.after[k] = true
        · have := h3 _ (Array.getElem_mem hk) hb
          simp [Array.getD_eq_getD_getElem?, this]
        · simp at hb; simp [hb]
    refine ⟨?_, ?_⟩
    · -- something is ready
      intro hnil
      exfalso
      have hex : ∃ i, i < ops.size ∧ listed[i]? = some false := by
        refine Classical.byContradiction fun hno => ?_
        have : ∀ b ∈ listed.toList, b = true := by
          intro b hb
          obtain ⟨i, hi, rfl⟩ := List.getElem_of_mem hb
          cases hbi : listed.toList[i] with
          | true => rfl
          | false =>
            have hi' : i < listed.size := by simpa using hi
            exact absurd ⟨i, by omega, by simp at hbi; simp [hi', hbi]⟩ hno
        have h2 : listed.toList.count true = listed.toList.length := by
          rw [List.count_eq_length]
          intro b hb; exact (this b hb).symm
        rw [Array.length_toList] at h2; omega
      -- the least of them
      obtain ⟨i, hi, hmin⟩ : ∃ i, (i < ops.size ∧ listed[i]? = some false) ∧ ∀ j, j < i → ¬ (j < ops.size ∧ listed[j]? = some false) := by
        obtain ⟨i, hi⟩ := hex
        induction i using Nat.strongRecOn with
        | _ i ihi =>
          by_cases h : ∃ j, j < i ∧ (j < ops.size ∧ listed[j]? = some false)
          · obtain ⟨j, hj, h⟩ := h
            exact ihi j hj h
          · exact ⟨i, hi, fun j hj h' => h ⟨j, hj, h'⟩⟩
      have : i ∈ Region.ready .any ops listed := by
        refine (hready i).2 ⟨ops[i]'hi.1, by simp [hi.1], hi.2, fun e he hb => ?_⟩
        have hlt := static_edge hst (show ops[i]? = some (ops[i]'hi.1) by simp [hi.1]) e he hb
        have h1 := hmin e.on hlt
        have h2 : e.on < listed.size := by omega
        cases hq : listed[e.on]? with
        | none => rw [Array.getElem?_eq_none_iff] at hq; omega
        | some b =>
          cases b with
          | true => rfl
          | false => exact absurd ⟨by omega, hq⟩ h1
      rw [hnil] at this
      simp at this
    · intro i hi
      obtain ⟨o, ho, hun, hpre⟩ := (hready i).1 hi
      have his : i < ops.size := by
        rcases Nat.lt_or_ge i ops.size with h | h
        · exact h
        · rw [Array.getElem?_eq_none h] at ho; cases ho
      have hS : ¬ (fun i => listed[i]? = some true) i := by simp [hun]
      have hE := I.operands hst tr ho his hS hpre
      have hstepi := (tr.step i o ho).1
      -- behind it
      have go : ∀ K' ρ' a' w', Inv P n B ops Tf Hf vf ρ₀ w₀ ds (fun j => listed[j]? = some true ∨ j = i) K' ρ' a' w' → wpAny P .any ops Q fuel (listed.setIfInBounds i true) a' w' := by
        intro K' ρ' a' w' I'
        refine ih (listed.setIfInBounds i true) K' ρ' a' w' (by simp [hsz]) ?_ ?_
        · rw [Array.toList_setIfInBounds, count_set _ _ (by simpa using hun)]; omega
        · have : (fun j => (listed.setIfInBounds i true)[j]? = some true) = (fun j => listed[j]? = some true ∨ j = i) := by
            funext j
            rw [Array.getElem?_setIfInBounds]
            have hil : i < listed.size := by omega
            by_cases e : i = j
            · subst e; simp [hil]
            · rw [if_neg e]
              have : ¬ j = i := fun h => e h.symm
              simp [this]
          rw [this]; exact I'
      have heq : ∀ hp, aval P X (g i) ops (pick (o.looksAt ops) (Tf i)) hp o = aval P X (g i) ops (Tf i) hp o := fun hp => aval_congr fun t ht => by rw [pick_get, if_pos ht]
      have hoperands : ∀ x ∈ o.op.operands.toList, rv (pick (o.looksAt ops) (Tf i)) x = rv (Tf i) x := operands_of fun t ht => by rw [pick_get, if_pos ht]
      have hwantEq : awant ops (pick (o.looksAt ops) (Tf i)) o = awant ops (Tf i) o := awant_congr fun t ht => by rw [pick_get, if_pos ht]
      by_cases hk : kindOf o.op = .heavy
      · -- it is the next one that may change memory
        have hiK : i = K := by
          rcases Nat.lt_trichotomy i K with h | h | h
          · exact absurd (I.done i o h ho hk) hS
          · exact h
          · obtain ⟨p, hp, hh⟩ := I.Kat (by omega)
            rcases static_pre hst h hp ho with ⟨_, h1⟩ | h1
            · exact absurd ⟨hh, hk⟩ h1
            · exact absurd (pre_closed I.closed h1 fun q hq e he hb => hpre e (by rw [ho] at hq; obtain rfl := Option.some.inj hq; exact he) hb) (I.rest K p (Nat.le_refl _) hp hh)
        subst hiK
        rw [Nat.max_self] at hE
        refine aval_sound (hg i) hX ho hE I.mem (by rw [heq]; exact hstepi) ?_
        intro v' w' ρ1 h1 h2 h3
        obtain ⟨K', ρ', I'⟩ := I.heavy hst tr ho hS hpre h1 h2 h3
        exact go K' ρ' _ w' I'
      · rcases aval_cases hstepi with ⟨c1, c2, _⟩ | ⟨c1, c2, c3, _⟩ | ⟨c1, c2, c3, _⟩ | ⟨c1, c2, cs, e, s, c3, _, _⟩ | ⟨_, c2, _⟩
        · refine still_sound ho hE (v := vf i) (.inl ⟨by rw [hwantEq]; exact c1, c2⟩) ?_
          intro v' hv'
          exact go K ρ _ w (I.still hst tr ho hS hpre hk (fun h => by rw [c1] at h; cases h.1) hv')
        · refine still_sound ho hE (v := vf i) (.inr ⟨by rw [hwantEq]; exact c1, by rw [apure_congr hoperands]; exact c3⟩) ?_
          intro v' hv'
          exact go K ρ _ w (I.still hst tr ho hS hpre hk (fun h => by rw [c2] at h; cases h.2) hv')
        · have hl : aloadOp P (Tf i) (Hf K) o.op = some (vf i) := by
            rcases Nat.lt_trichotomy i K with h | h | h
            · -- the last that may change memory ahead of K
              have key : ∀ d, i + d ≤ K → aloadOp P (Tf i) (Hf (i + d)) o.op = some (vf i) := by
                intro d
                induction d with
                | zero => intro _; exact c3
                | succ d ihd =>
                  intro hd
                  have h0 := ihd (by omega)
                  have hKle := I.Kle
                  obtain ⟨p, hp⟩ : ∃ p, ops[i + d]? = some p := ⟨ops[i + d]'(by omega), by simp⟩
                  by_cases hkp : kindOf p.op = .heavy
                  · have hne : i ≠ i + d := by
                      intro e; rw [← e, ho] at hp; obtain rfl := Option.some.inj hp; exact hk hkp
                    rcases tr.after i (i + d) o p ho hp c2 c1 hkp (by omega) with h1 | h1
                    · have := I.done (i + d) p (by omega) hp hkp
                      exact absurd (pre_closed I.closed h1 fun q hq => I.closed _ q this hq) hS
                    · exact h1
                  · rw [show i + (d + 1) = i + d + 1 by omega]
                    rcases tr.still hp hkp with e | ⟨cs, e, s, _, e'⟩
                    · rw [e]; exact h0
                    · rw [e']
                      exact aload_new (tr.okf _ (by omega)) h0
              have := key (K - i) (by omega)
              rwa [show i + (K - i) = K by omega] at this
            · subst h; exact c3
            · obtain ⟨p, hp, hh⟩ := I.Kat (by omega)
              rcases tr.ahead i K o p ho hp c2 c1 hh h with h1 | h1
              · exact absurd (pre_closed I.closed h1 fun q hq e he hb => hpre e (by rw [ho] at hq; obtain rfl := Option.some.inj hq; exact he) hb) (I.rest K p (Nat.le_refl _) hp hh)
              · exact h1
          refine load_sound ho hE I.mem (by rw [hwantEq]; exact c1) (by rw [aloadOp_congr hoperands]; exact hl) ?_
          intro v' hv'
          refine go K ρ _ w (I.still hst tr ho hS hpre hk (fun h => by rw [c2] at h; cases h.2) (hv'.mono (Where.below_mono ρ ?_)))
          exact tr.mono' (by omega) (by have := I.Kle; omega)
        · have hf : Fresh P ops Tf i o cs e s := ⟨ho, c1, c2, c3⟩
          refine fresh_sound ho hE (by rw [hwantEq]; exact c1) (by rw [afreshRow_congr hoperands]; exact c3) ?_
          intro c hc hsh
          obtain ⟨ρ', I'⟩ := I.fresh hst tr hS hpre hf hsh hc
          exact go K ρ' _ _ I'
        · exact absurd c2 hk
end
end Go.Proofs.YthijllagngkbgaaGreat.Eng
