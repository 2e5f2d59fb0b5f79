/- The engine, part 13: what holds behind some operations of a region whose order is drawn. -/
import Derived.Test.YthijllagngkbgaaGreatEngAny
namespace Go.Proofs.YthijllagngkbgaaGreat.Eng
open Go
variable {ds : List Deferred}

section
variable (P : Program) (n B : Nat) (ops : Array Oper) (Tf : Nat → Env) (Hf : Nat → Heap) (vf : Nat → Value) (ρ₀ : Where) (w₀ : World)

/-- Some operations (S) have run; K is the next of those that may change memory. -/
structure Inv (ds : List Deferred) (S : Nat → Prop) (K : Nat) (ρ : Where) (a : Act) (w : World) : Prop where
  closed : ∀ j o, S j → ops[j]? = some o → ∀ e ∈ o.after, Region.binds .any e = true → S e.on
  Kle : K ≤ ops.size
  Kat : K < ops.size → ∃ o, ops[K]? = some o ∧ kindOf o.op = .heavy
  done : ∀ j o, j < K → ops[j]? = some o → kindOf o.op = .heavy → S j
  rest : ∀ j o, K ≤ j → ops[j]? = some o → kindOf o.op = .heavy → ¬ S j
  size : a.tmps.size = n
  defers : a.defers = ds
  env1 : ∀ i o d, S i → ops[i]? = some o → o.dst = some d → (∀ j p, i < j → S j → ops[j]? = some p → p.dst ≠ some d) →
    VRel (ρ.below (Hf (max K (i + 1))).next) (vf i) (a.tmps.getD d undef)
  env0 : ∀ t v, (∀ j p, S j → ops[j]? = some p → p.dst ≠ some t) → (Tf 0).get t = some v → VRel ρ₀ v (a.tmps.getD t undef)
  mem : HRel B (ρ.below (Hf K).next) (Hf K) w
  step : Step ρ₀ (Hf 0) w₀ (ρ.below (Hf K).next) (Hf K) w
  ext : ∀ i o cs e s, S i → K < i → Fresh P ops Tf i o cs e s → ∃ l c, ρ (Hf i).next = some l ∧ w₀.heap.size ≤ l.blk ∧ Head B (ρ.below (Hf i).next) w l cs e c ∧
    ∀ j m, ρ j = some m → j ≠ (Hf i).next → ((∃ ds f, (Hf K).get j = some (.row ds f)) ∨ (Hf K).next ≤ j) → m.blk ≠ l.blk
  range : ∀ j m, ρ j = some m → j < (Hf K).next ∨ ∃ i o cs e s, S i ∧ K < i ∧ Fresh P ops Tf i o cs e s ∧ j = (Hf i).next
  gh : ∀ i o cs e s, ¬ S i → i < K → Fresh P ops Tf i o cs e s → ρ (Hf i).next = none ∧ (Hf K).get (Hf i).next = some (.row cs e)
end

section
variable {P : Program} {X : Ext} {g : Nat → Caller} {n B : Nat} {ops : Array Oper} {Tf : Nat → Env} {Hf : Nat → Heap} {vf : Nat → Value} {ρ₀ : Where} {w₀ : World}

theorem conflict_pre {ops : Array Oper} (hst : staticOk ops = true) {i j : Nat} {p o : Oper} {t : Tmp} (hij : i < j) (hp : ops[i]? = some p) (ho : ops[j]? = some o)
    (h : (p.dst = some t ∧ (t ∈ o.looksAt ops ∨ o.dst = some t)) ∨ (o.dst = some t ∧ t ∈ p.looksAt ops)) : Pre ops i j := by
  rcases static_pre hst hij hp ho with ⟨h1, _⟩ | h1
  · obtain ⟨a1, a2, a3⟩ := Oper.apart_spec h1
    rcases h with ⟨hd, h | h⟩ | ⟨hd, h⟩
    · exact absurd h (a1 t hd)
    · exact absurd h (a2 t hd)
    · exact absurd h (a3 t hd)
  · exact h1

/-- what a ready operation looks at is as in the order of the text -/
theorem Inv.operands {S : Nat → Prop} {K : Nat} {ρ : Where} {a : Act} {w : World} (hst : staticOk ops = true) (tr : TextRun P X g n ops Tf Hf vf)
    (I : Inv P n B ops Tf Hf vf ρ₀ w₀ ds S K ρ a w) {i : Nat} {o : Oper} (ho : ops[i]? = some o) (hi : i < ops.size) (hS : ¬ S i) (hr : ∀ e ∈ o.after, Region.binds .any e = true → S e.on) :
    ERel ds (ρ.below (Hf (max K i)).next) n (pick (o.looksAt ops) (Tf i)) a := by
  have hmax : max K i ≤ ops.size := by have := I.Kle; omega
  refine ⟨?_, I.size, I.defers⟩
  intro t v hv
  rw [pick_get] at hv
  split at hv
  · rename_i ht
    have late : ∀ k p, i < k → S k → ops[k]? = some p → p.dst ≠ some t := by
      intro k p hik hk hp hd
      have hpre := conflict_pre hst hik ho hp (.inr ⟨hd, ht⟩)
      exact hS (pre_closed I.closed hpre fun q hq => I.closed k q hk hq)
    rcases tr.slot t i (by omega) v hv with ⟨j, p, h1, h2, h3, h4, h5⟩ | ⟨h1, h2⟩
    · have hpre := conflict_pre hst h1 h2 ho (.inl ⟨h3, .inl ht⟩)
      have hSj : S j := pre_closed I.closed hpre fun q hq e he hb => hr e (by rw [ho] at hq; obtain rfl := Option.some.inj hq; exact he) hb
      subst h4
      refine (I.env1 j p t hSj h2 h3 ?_).mono (Where.below_mono ρ (tr.mono' (by omega) hmax))
      intro k q hjk hk hq
      by_cases e1 : k < i
      · exact h5 k q hjk e1 hq
      · by_cases e2 : k = i
        · subst e2; exact absurd hk hS
        · exact late k q (by omega) hk hq
    · refine (I.env0 t v ?_ h1).mono (Where.le_trans I.step.le (Where.below_mono ρ (tr.mono' (by omega) hmax)))
      intro k q hk hq
      by_cases e1 : k < i
      · exact h2 k q e1 hq
      · by_cases e2 : k = i
        · subst e2; exact absurd hk hS
        · exact late k q (by omega) hk hq
  · cases hv

/-- the slots behind one operation more -/
theorem Inv.slots {S : Nat → Prop} {K K' : Nat} {ρ ρ' : Where} {a : Act} {w : World} (hst : staticOk ops = true) (tr : TextRun P X g n ops Tf Hf vf)
    (I : Inv P n B ops Tf Hf vf ρ₀ w₀ ds S K ρ a w) {i : Nat} {o : Oper} {v' : Value} (ho : ops[i]? = some o) (hS : ¬ S i) (hK : K ≤ K') (hK' : K' ≤ ops.size)
    (hρ : ρ.le ρ') (hv : VRel (ρ'.below (Hf (max K' (i + 1))).next) (vf i) v') :
    (a.put o.dst v').tmps.size = n ∧ (a.put o.dst v').defers = ds ∧
    (∀ j p d, (S j ∨ j = i) → ops[j]? = some p → p.dst = some d → (∀ k q, j < k → (S k ∨ k = i) → ops[k]? = some q → q.dst ≠ some d) →
      VRel (ρ'.below (Hf (max K' (j + 1))).next) (vf j) ((a.put o.dst v').tmps.getD d undef)) ∧
    (∀ t v, (∀ j p, (S j ∨ j = i) → ops[j]? = some p → p.dst ≠ some t) → (Tf 0).get t = some v → VRel ρ₀ v ((a.put o.dst v').tmps.getD t undef)) := by
  have hi : i < ops.size := by
    rcases Nat.lt_or_ge i ops.size with h | h
    · exact h
    · rw [Array.getElem?_eq_none h] at ho; cases ho
  have other : ∀ d, o.dst ≠ some d → (a.put o.dst v').tmps.getD d undef = a.tmps.getD d undef := by
    intro d hd
    cases h : o.dst with
    | none => rfl
    | some u =>
      simp only [Act.put]
      rw [Array.getD_eq_getD_getElem?, Array.getElem?_setIfInBounds_ne (fun e => hd (by rw [h, e])), ← Array.getD_eq_getD_getElem?]
  refine ⟨?_, ?_, ?_, ?_⟩
  · cases o.dst <;> simp [Act.put, I.size]
  · cases o.dst <;> simp [Act.put, I.defers]
  · intro j p d hj hp hd hlast
    by_cases e : j = i
    · subst e
      rw [ho] at hp
      obtain rfl := Option.some.inj hp
      have hf := (tr.step j o ho).2
      rw [hd] at hf
      simp only [fillSlot] at hf
      split at hf
      · rename_i hdn
        have : (a.put o.dst v').tmps.getD d undef = v' := by
          rw [hd]
          have hsz : d < a.tmps.size := by rw [I.size]; exact hdn
          simp [Act.put, Array.getD_eq_getD_getElem?, hsz]
        rw [this]
        exact hv
      · cases hf
    · have hSj : S j := hj.resolve_right e
      have hj : j < ops.size := by
        rcases Nat.lt_or_ge j ops.size with h | h
        · exact h
        · rw [Array.getElem?_eq_none h] at hp; cases hp
      have hne : o.dst ≠ some d := by
        intro hdi
        rcases Nat.lt_or_gt_of_ne e with hlt | hgt
        · exact hlast i o hlt (.inr rfl) ho hdi
        · have hpre := conflict_pre hst hgt ho hp (.inl ⟨hdi, .inr hd⟩)
          exact hS (pre_closed I.closed hpre fun q hq => I.closed j q hSj hq)
      rw [other d hne]
      have h1 := I.env1 j p d hSj hp hd (fun k q hjk hk hq => hlast k q hjk (.inl hk) hq)
      exact h1.mono (Where.below_le_below (tr.mono' (by omega) (by omega)) fun i l _ h => hρ i l h)
  · intro t v hno ht
    rw [other t (hno i o (.inr rfl) ho)]
    exact I.env0 t v (fun j p hj hp => hno j p (.inl hj) hp) ht

/-! ### the three ways of one operation -/
theorem still_sound {ρ : Where} {w : World} {T : Env} {a : Act} {i : Nat} {o : Oper} {v : Value} {Q : Exit → Act → World → Prop} {C : Act → World → Prop} (ho : ops[i]? = some o) (hE : ERel ds ρ n T a)
    (hc : (awant ops T o = some false ∧ v = undef) ∨ (awant ops T o = some true ∧ apure P T o.op = some v)) (hC : ∀ v', VRel ρ v v' → C (a.put o.dst v') w) : wpOp P ops Q i C a w := by
  unfold wpOp
  rw [ho]
  simp only []
  rcases hc with ⟨hw, rfl⟩ | ⟨hw, hp⟩
  · rw [awant_run hE hw]
    simp only [Bool.false_eq_true, if_false]
    exact hC _ (undef_rel ρ)
  · rw [awant_run hE hw]
    simp only [if_true]
    left
    obtain ⟨v', h1, h2⟩ := apure_run hE hp
    unfold Oper.wp
    rw [h1 w, Oper.upon_value]
    exact hC _ h2

theorem aload_wide {ρ : Where} {h : Heap} {w : World} {t : TypeId} {x x' v : Value} (r : HRel B (ρ.below h.next) h w) (ha : aload P h t x = some v) (hx : VRel ρ x x') :
    ∃ v', (Instr.loadAt t x').run P w = .ok v' w ∧ VRel (ρ.below h.next) v v' := by
  refine aload_run (P := P) r ha ?_
  unfold aload at ha
  split at ha
  · rename_i i o
    cases hx with
    | ptr _ _ l hl =>
      refine .ptr _ _ l ⟨Where.below_some.2 ⟨?_, hl.1⟩, hl.2⟩
      have : h.get i ≠ none := by
        intro hn
        have e : ∀ k, readCells h i o k = none := by intro k; unfold readCells; rw [hn]
        simp only [e] at ha
        split at ha
        · simp at ha
        · simp at ha
        · cases ha
      rcases Nat.lt_or_ge i h.next with hlt | hge
      · exact hlt
      · exact absurd (r.fresh i hge) this
  · cases ha

theorem load_sound {ρ : Where} {m : Nat} {h : Heap} {w : World} {T : Env} {a : Act} {i : Nat} {o : Oper} {v : Value} {Q : Exit → Act → World → Prop} {C : Act → World → Prop} (ho : ops[i]? = some o) (hE : ERel ds (ρ.below m) n T a)
    (r : HRel B (ρ.below h.next) h w) (hw : awant ops T o = some true) (hl : aloadOp P T h o.op = some v) (hC : ∀ v', VRel (ρ.below h.next) v v' → C (a.put o.dst v') w) : wpOp P ops Q i C a w := by
  unfold wpOp
  rw [ho]
  simp only []
  rw [awant_run hE hw]
  simp only [if_true]
  left
  unfold aloadOp at hl
  split at hl
  · rename_i t x hop
    obtain ⟨xv, hx, hl⟩ := Option.bind_eq_some_iff.mp hl
    obtain ⟨v', h1, h2⟩ := aload_wide (P := P) r hl ((hE.rv hx).mono (Where.below_le ρ m))
    have : (execOp a.eval o).run P w = .ok (.value v') w := by simp [execOp, hop, h1]
    unfold Oper.wp
    rw [this, Oper.upon_value]
    exact hC _ h2
  · cases hl

theorem fresh_sound {ρ : Where} {w : World} {T : Env} {a : Act} {i : Nat} {o : Oper} {cs : List Value} {e : TypeId} {s : Shape} {Q : Exit → Act → World → Prop} {C : Act → World → Prop} (ho : ops[i]? = some o) (hE : ERel ds ρ n T a)
    (hw : awant ops T o = some true) (hf : afreshRow P T o.op = some (cs, e, s))
    (hC : ∀ c : Array Value, VRels ρ cs c.toList → (∀ n c, s = .sl n c → n ≤ c) → C (a.put o.dst (s.val w.heap.size)) (newBlk w (.cells c e (0, 0)))) : wpOp P ops Q i C a w := by
  unfold wpOp
  rw [ho]
  simp only []
  rw [awant_run hE hw]
  simp only [if_true]
  left
  obtain ⟨hs, c, hc, hrun⟩ := afreshRow_run hE hf
  unfold Oper.wp
  rw [hrun w, Oper.upon_value]
  exact hC c hc hs

theorem below_add {ρ : Where} {id m : Nat} {l : Loc} (h : m ≤ id) : (ρ.add id l).below m = ρ.below m := by
  funext j
  unfold Where.below Where.add
  split
  · rw [if_neg (by omega)]
  · rfl

theorem below_add' {ρ : Where} {id m : Nat} {l : Loc} (h : id < m) : (ρ.add id l).below m = (ρ.below m).add id l := by
  funext j
  unfold Where.below Where.add
  by_cases e : j = id
  · subst e; simp [h]
  · simp [e]

theorem fresh_lt {i j : Nat} {o p : Oper} {cs ds : List Value} {e f : TypeId} {s u : Shape} (tr : TextRun P X g n ops Tf Hf vf) (hi : Fresh P ops Tf i o cs e s) (hj : Fresh P ops Tf j p ds f u) (h : i < j) :
    (Hf i).next < (Hf j).next := by
  have hjs : j < ops.size := by
    rcases Nat.lt_or_ge j ops.size with h | h
    · exact h
    · have := hj.1; rw [Array.getElem?_eq_none h] at this; cases this
  have h1 := (tr.fresh hi).2
  have h2 := tr.mono' (show i + 1 ≤ j by omega) (by omega)
  rw [h1, Heap.next_new] at h2
  omega

theorem fresh_size {i : Nat} {o : Oper} {cs : List Value} {e : TypeId} {s : Shape} (hi : Fresh P ops Tf i o cs e s) : i < ops.size := by
  rcases Nat.lt_or_ge i ops.size with h | h
  · exact h
  · have := hi.1; rw [Array.getElem?_eq_none h] at this; cases this

/-- the memory of the text is as it was between two that may change it, but for new rows -/
theorem TextRun.still (tr : TextRun P X g n ops Tf Hf vf) {i : Nat} {o : Oper} (ho : ops[i]? = some o) (hk : kindOf o.op ≠ .heavy) : Hf (i + 1) = Hf i ∨ ∃ cs e s, Fresh P ops Tf i o cs e s ∧ Hf (i + 1) = (Hf i).new (.row cs e) := by
  rcases aval_cases (tr.step i o ho).1 with ⟨_, _, h⟩ | ⟨_, _, _, h⟩ | ⟨_, _, _, h⟩ | ⟨h1, h2, cs, e, s, h3, _, h⟩ | ⟨_, h, _⟩
  · exact .inl h
  · exact .inl h
  · exact .inl h
  · exact .inr ⟨cs, e, s, ⟨ho, h1, h2, h3⟩, h⟩
  · exact absurd h hk

/-- a row below stays -/
theorem TextRun.keep (tr : TextRun P X g n ops Tf Hf vf) {id : Nat} : ∀ (i k : Nat), i + k ≤ ops.size → (∀ j o, i ≤ j → j < i + k → ops[j]? = some o → kindOf o.op ≠ .heavy) → id < (Hf i).next → (Hf (i + k)).get id = (Hf i).get id ∧ id < (Hf (i + k)).next
  | i, 0, _, _, h => ⟨rfl, h⟩
  | i, k + 1, hs, hk, h => by
    obtain ⟨h1, h2⟩ := TextRun.keep tr i k (by omega) (fun j o a b => hk j o a (by omega)) h
    obtain ⟨o, ho⟩ : ∃ o, ops[i + k]? = some o := ⟨ops[i + k], by simp⟩
    rcases tr.still ho (hk _ o (by omega) (by omega) ho) with e | ⟨cs, e, s, _, e⟩
    · rw [show i + (k + 1) = i + k + 1 from rfl, e]; exact ⟨h1, h2⟩
    · rw [show i + (k + 1) = i + k + 1 from rfl, e, Heap.get_new, if_neg (by omega), Heap.next_new]
      exact ⟨h1, by omega⟩
end
end Go.Proofs.YthijllagngkbgaaGreat.Eng
