/- The engine, part 14: one operation more of a region whose order is drawn keeps what holds. -/
import Derived.Test.YthijllagngkbgaaGreatEngInv
namespace Go.Proofs.YthijllagngkbgaaGreat.Eng
open Go
variable {ds : List Deferred}

section
variable {P : Program} {X : Ext} {g : Nat → Caller} {n B : Nat} {ops : Array Oper} {Tf : Nat → Env} {Hf : Nat → Heap} {vf : Nat → Value} {ρ₀ : Where} {w₀ : World}
variable {S : Nat → Prop} {K : Nat} {ρ : Where} {a : Act} {w : World}

theorem Inv.still (hst : staticOk ops = true) (tr : TextRun P X g n ops Tf Hf vf) (I : Inv P n B ops Tf Hf vf ρ₀ w₀ ds S K ρ a w) {i : Nat} {o : Oper} {v' : Value} (ho : ops[i]? = some o) (hS : ¬ S i)
    (hr : ∀ e ∈ o.after, Region.binds .any e = true → S e.on) (hk : kindOf o.op ≠ .heavy) (hnf : ¬ (awant ops (Tf i) o = some true ∧ kindOf o.op = .fresh)) (hv : VRel (ρ.below (Hf (max K i)).next) (vf i) v') :
    Inv P n B ops Tf Hf vf ρ₀ w₀ ds (fun j => S j ∨ j = i) K ρ (a.put o.dst v') w := by
  have hi : i < ops.size := by
    rcases Nat.lt_or_ge i ops.size with h | h
    · exact h
    · rw [Array.getElem?_eq_none h] at ho; cases ho
  have hKle := I.Kle
  obtain ⟨s1, s2, s3, s4⟩ := I.slots hst tr (K' := K) (ρ' := ρ) ho hS (Nat.le_refl _) hKle (Where.le_refl _)
    (hv.mono (Where.below_mono ρ (tr.mono' (by omega) (by omega))))
  refine ⟨?_, hKle, I.Kat, ?_, ?_, s1, s2, s3, s4, I.mem, I.step, ?_, ?_, ?_⟩
  · intro j p hj hp e he hb
    rcases hj with hj | rfl
    · exact .inl (I.closed j p hj hp e he hb)
    · rw [ho] at hp; obtain rfl := Option.some.inj hp; exact .inl (hr e he hb)
  · intro j p hj hp hh; exact .inl (I.done j p hj hp hh)
  · intro j p hj hp hh hs
    rcases hs with hs | rfl
    · exact I.rest j p hj hp hh hs
    · rw [ho] at hp; obtain rfl := Option.some.inj hp; exact hk hh
  · intro j p cs e s hj hKj hf
    rcases hj with hj | rfl
    · exact I.ext j p cs e s hj hKj hf
    · have := hf.1; rw [ho] at this; obtain rfl := Option.some.inj this
      exact absurd ⟨hf.2.1, hf.2.2.1⟩ hnf
  · intro j m hj
    rcases I.range j m hj with h | ⟨q, p, cs, e, s, h1, h2⟩
    · exact .inl h
    · exact .inr ⟨q, p, cs, e, s, .inl h1, h2⟩
  · intro j p cs e s hj hjK hf
    exact I.gh j p cs e s (fun h => hj (.inl h)) hjK hf

theorem Inv.blk_lt (I : Inv P n B ops Tf Hf vf ρ₀ w₀ ds S K ρ a w) {j : Nat} {m : Loc} (hj : ρ j = some m) (h : (∃ ds f, (Hf K).get j = some (.row ds f)) ∨ (Hf K).next ≤ j) : m.blk < w.heap.size := by
  have there : ∀ o, w.heap[m.blk]? = some o → m.blk < w.heap.size := by
    intro o ho
    rcases Nat.lt_or_ge m.blk w.heap.size with hlt | hge
    · exact hlt
    · rw [Array.getElem?_eq_none hge] at ho; cases ho
  by_cases c : j < (Hf K).next
  · rcases h with ⟨ds, f, hg⟩ | h
    · obtain ⟨_, _, c', hc, _⟩ := I.mem.row j m ds f (Where.below_some.2 ⟨c, hj⟩) hg
      exact there _ hc
    · omega
  · rcases I.range j m hj with h' | ⟨q, p, cs, e, s, h1, h2, h3, rfl⟩
    · omega
    · obtain ⟨l, c', hl, _, hd, _⟩ := I.ext q p cs e s h1 h2 h3
      rw [hj] at hl
      obtain rfl := Option.some.inj hl
      exact there _ hd.blk

theorem Inv.fresh (hst : staticOk ops = true) (tr : TextRun P X g n ops Tf Hf vf) (I : Inv P n B ops Tf Hf vf ρ₀ w₀ ds S K ρ a w) {i : Nat} {o : Oper} {cs : List Value} {e : TypeId} {s : Shape} {c : Array Value}
    (hS : ¬ S i) (hr : ∀ e ∈ o.after, Region.binds .any e = true → S e.on) (hf : Fresh P ops Tf i o cs e s) (hsh : ∀ n c, s = .sl n c → n ≤ c) (hc : VRels (ρ.below (Hf (max K i)).next) cs c.toList) :
    ∃ ρ', Inv P n B ops Tf Hf vf ρ₀ w₀ ds (fun j => S j ∨ j = i) K ρ' (a.put o.dst (s.val w.heap.size)) (newBlk w (.cells c e (0, 0))) := by
  have hi := fresh_size hf
  have ho := hf.1
  have hKle := I.Kle
  have hk : kindOf o.op ≠ .heavy := by rw [hf.2.2.1]; decide
  have hKi : K ≠ i := by
    intro e1; subst e1
    obtain ⟨p, hp, hh⟩ := I.Kat hi
    rw [ho] at hp; obtain rfl := Option.some.inj hp
    exact hk hh
  obtain ⟨hvf, hH⟩ := tr.fresh hf
  have hnext : (Hf (i + 1)).next = (Hf i).next + 1 := by rw [hH, Heap.next_new]
  let l : Loc := { blk := w.heap.size, off := 0, size := c.size, known := cs.length, own := true }
  have hnone : ρ (Hf i).next = none := by
    rcases Nat.lt_or_gt_of_ne hKi with hlt | hgt
    · cases h : ρ (Hf i).next with
      | none => rfl
      | some m =>
        have := tr.mono' (show K ≤ i by omega) (by omega)
        rcases I.range _ m h with h' | ⟨q, p, cs', e', s', h1, h2, h3, h4⟩
        · omega
        · rcases Nat.lt_trichotomy i q with hq | hq | hq
          · have := fresh_lt tr hf h3 hq; omega
          · subst hq; exact absurd h1 hS
          · have := fresh_lt tr h3 hf hq; omega
    · exact (I.gh i o cs e s hS hgt hf).1
  have hle := Where.add_le ρ (Hf i).next l hnone
  have hlb : ∀ m, (ρ.below m).le ((ρ.add (Hf i).next l).below m) := fun m => Where.below_le_below (Nat.le_refl _) fun j x _ h => hle j x h
  have old : ∀ j m, ρ.add (Hf i).next l j = some m → j ≠ (Hf i).next → ρ j = some m := by
    intro j m hj ne
    unfold Where.add at hj
    rwa [if_neg ne] at hj
  have hv : VRel ((ρ.add (Hf i).next l).below (Hf (max K (i + 1))).next) (vf i) (s.val w.heap.size) := by
    rw [hvf]
    refine s.rel hsh (l := l) ⟨Where.below_some.2 ⟨?_, Where.add_self _ _ _⟩, rfl⟩ rfl rfl
    have := tr.mono' (show i + 1 ≤ max K (i + 1) by omega) (by omega)
    omega
  obtain ⟨s1, s2, s3, s4⟩ := I.slots hst tr (K' := K) (ρ' := ρ.add (Hf i).next l) ho hS (Nat.le_refl _) hKle hle hv
  have hblk : ∀ (b : Nat) (x : Obj), w.heap[b]? = some x → (newBlk w (.cells c e (0, 0))).heap[b]? = some x := by
    intro b x hb
    rw [newBlk_get, if_neg, hb]
    intro e1
    rw [e1, Array.getElem?_eq_none (Nat.le_refl _)] at hb
    cases hb
  -- the other rows that were made ahead
  have hext : ∀ j p ds f u, S j → K < j → Fresh P ops Tf j p ds f u → ∃ l' c', ρ.add (Hf i).next l (Hf j).next = some l' ∧ w₀.heap.size ≤ l'.blk ∧ Head B ((ρ.add (Hf i).next l).below (Hf j).next) (newBlk w (.cells c e (0, 0))) l' ds f c' ∧
      ∀ j' m, ρ.add (Hf i).next l j' = some m → j' ≠ (Hf j).next → ((∃ ds f, (Hf K).get j' = some (.row ds f)) ∨ (Hf K).next ≤ j') → m.blk ≠ l'.blk := by
    intro j p ds f u hj hKj hfj
    obtain ⟨l', c', h1, h2, h3, h4⟩ := I.ext j p ds f u hj hKj hfj
    have hlt := I.blk_lt h1 (.inr (tr.mono' (show K ≤ j by omega) (by have := fresh_size hfj; omega)))
    refine ⟨l', c', hle _ _ h1, h2, ⟨h3.kind, h3.off, h3.size, h3.known, h3.own, h3.base, hblk _ _ h3.blk, h3.rel.mono (hlb _)⟩, ?_⟩
    intro j' m hj' hne hd
    by_cases e1 : j' = (Hf i).next
    · subst e1
      rw [Where.add_self] at hj'
      obtain rfl := Option.some.inj hj'
      simp only [l]; omega
    · exact h4 j' m (old j' m hj' e1) hne hd
  refine ⟨ρ.add (Hf i).next l, ?_, hKle, I.Kat, ?_, ?_, s1, s2, s3, s4, ?_, ?_, ?_, ?_, ?_⟩
  · intro j p hj hp e' he hb
    rcases hj with hj | rfl
    · exact .inl (I.closed j p hj hp e' he hb)
    · rw [ho] at hp; obtain rfl := Option.some.inj hp; exact .inl (hr e' he hb)
  · intro j p hj hp hh; exact .inl (I.done j p hj hp hh)
  · intro j p hj hp hh hs
    rcases hs with hs | rfl
    · exact I.rest j p hj hp hh hs
    · rw [ho] at hp; obtain rfl := Option.some.inj hp; exact hk hh
  · rcases Nat.lt_or_gt_of_ne hKi with hlt | hgt
    · rw [below_add (tr.mono' (show K ≤ i by omega) (by omega))]
      exact I.mem.pad _
    · have hid : (Hf i).next < (Hf K).next := by have := tr.mono' (show i + 1 ≤ K by omega) (by omega); omega
      rw [below_add' hid]
      obtain ⟨_, hg⟩ := I.gh i o cs e s hS hgt hf
      rw [show max K i = K by omega] at hc
      refine (I.mem.pad _).adopt (c := c) ⟨rfl, rfl, rfl, rfl, rfl, I.mem.size, by rw [newBlk_get, if_pos rfl], hc⟩ (by simp [Where.below, hnone]) hid hg ?_
      intro j m ds f hj hgj
      have := I.blk_lt (Where.below_some.1 hj).2 (.inl ⟨ds, f, hgj⟩)
      simp only [l]; omega
  · rcases Nat.lt_or_gt_of_ne hKi with hlt | hgt
    · rw [below_add (tr.mono' (show K ≤ i by omega) (by omega))]
      exact I.step.pad _
    · have hid : (Hf i).next < (Hf K).next := by have := tr.mono' (show i + 1 ≤ K by omega) (by omega); omega
      rw [below_add' hid]
      exact (I.step.pad _).adopt (by simp [Where.below, hnone]) (tr.mono' (Nat.zero_le _) (by omega)) I.step.size
  · intro j p ds f u hj hKj hfj
    rcases hj with hj | rfl
    · exact hext j p ds f u hj hKj hfj
    · have := hfj.1; rw [ho] at this; obtain rfl := Option.some.inj this
      have h2 := hfj.2.2.2
      rw [hf.2.2.2] at h2
      simp only [Option.some.injEq, Prod.mk.injEq] at h2
      obtain ⟨rfl, rfl, rfl⟩ := h2
      rw [show max K j = j by omega] at hc
      refine ⟨l, c, Where.add_self _ _ _, I.step.size, ⟨rfl, rfl, rfl, rfl, rfl, I.mem.size, by rw [newBlk_get, if_pos rfl], hc.mono (hlb _)⟩, ?_⟩
      intro j' m hj' hne hd
      have := I.blk_lt (old j' m hj' hne) hd
      simp only [l]; omega
  · intro j m hj
    by_cases e1 : j = (Hf i).next
    · subst e1
      rcases Nat.lt_or_gt_of_ne hKi with hlt | hgt
      · exact .inr ⟨i, o, cs, e, s, .inr rfl, hlt, hf, rfl⟩
      · left
        have := tr.mono' (show i + 1 ≤ K by omega) (by omega); omega
    · rcases I.range j m (old j m hj e1) with h | ⟨q, p, cs', e', s', h1, h2⟩
      · exact .inl h
      · exact .inr ⟨q, p, cs', e', s', .inl h1, h2⟩
  · intro j p ds f u hj hjK hfj
    have hji : j ≠ i := fun e1 => hj (.inr e1)
    obtain ⟨g1, g2⟩ := I.gh j p ds f u (fun h => hj (.inl h)) hjK hfj
    refine ⟨?_, g2⟩
    unfold Where.add
    rw [if_neg, g1]
    rcases Nat.lt_or_gt_of_ne hji with hlt | hgt
    · have := fresh_lt tr hfj hf hlt; omega
    · have := fresh_lt tr hf hfj hgt; omega
end
end Go.Proofs.YthijllagngkbgaaGreat.Eng
