/- The engine, part 35: a law of two numbers, left open within their kind. -/
import Derived.Test.YthijllagngkbgaaGreatEngFast2
namespace Go.Proofs.YthijllagngkbgaaGreat.Eng
open Go
section
variable {P : Program}
/-- the i-th open number, as a whole number of a kind -/
def tokAt (c k i : Nat) : Value := .complex .f64 0 (4096 * c + 16 * i + k)
/-- A law that holds of the two open numbers of a kind holds of each two numbers of that kind. -/
theorem DetFn.open2 {f : FuncId} {c p q : Nat} (hc : Cls c p q) (d : DetFn P f [tokAt c 0 9, tokAt c 0 109] ⟨1, .leaf⟩ fun u _ => u = .bool true) :
    DetFn P f [.int .i64 (.ofNat p), .int .i64 (.ofNat q)] Heap.empty fun u _ => u = .bool true := by
  obtain ⟨u, g, d, rfl⟩ := d
  refine ⟨.bool true, g, ⟨?_, ?_⟩, rfl⟩
  · intro B ρ w args' hH ha
    have none_ : ∀ i, ρ i = none := by
      intro i
      cases h : ρ i with
      | none => rfl
      | some l => have := hH.dom i l h; exact absurd this (Nat.not_lt_zero _)
    let l : Loc := { blk := 0, off := 0, size := 0, known := 0, own := true, kind := .vals p q }
    let ρ2 : Where := ρ.add 0 l
    have h0 : ρ2 0 = some l := Where.add_self ρ 0 l
    have hn : ∀ i, i ≠ 0 → ρ2 i = none := fun i hi => by simp only [ρ2, Where.add, if_neg hi]; exact none_ i
    have H2 : HRel B ρ2 ⟨1, .leaf⟩ w := by
      refine ⟨hH.size, ?_, fun i _ => rfl, ?_, ?_, ?_⟩
      · intro i m hi
        by_cases e : i = 0
        · subst e; exact Nat.zero_lt_one
        · rw [hn i e] at hi; cases hi
      · intro i m cs e _ hg; cases hg
      · intro i m cs _ hg; cases hg
      · intro i j m m' cs e ds f' _ _ hg; cases hg
    have tk : ∀ i, i < 256 → VRel ρ2 (tokAt c 0 i) (.int .i64 (.ofNat (valN p q i))) := by
      intro i hi
      exact tok_rel (o := .t 0 i) h0 rfl hc (by simp [Od.small, Nat.blt_eq, hi])
    have ha2 : VRels ρ2 [tokAt c 0 9, tokAt c 0 109] args' := by
      cases ha with
      | cons _ _ _ _ e1 ha =>
        cases ha with
        | cons _ _ _ _ e2 ha =>
          cases ha
          cases e1
          cases e2
          exact .cons _ _ _ _ (tk 9 (by omega)) (.cons _ _ _ _ (tk 109 (by omega)) .nil)
    refine (d.does B ρ2 w args' H2 ha2).mono ?_
    rintro e w' ⟨v', ρ', he, hv, hH', hS⟩
    refine ⟨v', ρ', he, hv, hH', ?_⟩
    have dead : ∀ cs f', g.get 0 ≠ some (.row cs f') := fun cs f' hg => by
      obtain ⟨ds, f2, h⟩ := hS.live 0 cs f' Nat.zero_lt_one hg
      cases h
    refine ⟨(fun i m hi => by rw [none_ i] at hi; cases hi), Nat.zero_le _, fun i m _ hi => absurd hi (Nat.not_lt_zero _), fun i cs f' hi => absurd hi (Nat.not_lt_zero _), fun i hi => absurd hi (Nat.not_lt_zero _), ?_, ?_, hS.size, hS.os, hS.tape, hS.output⟩
    · intro i m cs f' hi _ hg
      by_cases e : i = 0
      · subst e; exact absurd hg (dead cs f')
      · rcases hS.new i m cs f' hi (by show 1 ≤ i; omega) hg with h | ⟨j, m', ds, f2, _, h, _⟩
        · exact .inl h
        · cases h
    · intro b hb _
      exact hS.frame b hb fun i m cs f' _ hg => by cases hg
  · intro _
    have := d.nx (fun i _ => rfl)
    exact ⟨Nat.zero_le _, this.2⟩

/-! ### numbers in place of tokens, and back -/
def dt (p q : Nat) : Value → Value
  | .complex .f64 _ m => .int (kOf (m % 16)) (.ofNat (valN p q (m / 16 % 256)))
  | v => v
def okTok (r c : Nat) : Value → Bool
  | .complex .f64 r' m => Nat.beq r' r && Nat.beq (m / 4096) c
  | .int _ _ => true
  | .bool _ => true
  | _ => false
theorem rel_dt {ρ : Where} {r c p q : Nat} {l : Loc} (hρ : ρ r = some l) (hk : l.kind = .vals p q) (hc : Cls c p q) {v : Value} (hv : okTok r c v = true) (v' : Value) : VRel ρ v v' ↔ VRel ρ (dt p q v) v' := by
  unfold okTok at hv
  split at hv
  · rename_i r' m
    simp only [Bool.and_eq_true] at hv
    obtain rfl := Nat.eq_of_beq_eq_true hv.1
    have hm := Nat.eq_of_beq_eq_true hv.2
    constructor
    · intro h
      cases h with
      | tok _ _ _ ht =>
        obtain ⟨l', p', q', h1, h2, _, rfl⟩ := ht
        rw [hρ] at h1
        obtain rfl := Option.some.inj h1
        rw [hk] at h2
        obtain ⟨rfl, rfl⟩ := LK.vals.inj h2
        exact .int _ _
    · intro h
      cases h
      exact .tok _ _ _ ⟨l, p, q, hρ, hk, by rw [hm]; exact hc, rfl⟩
  · exact Iff.rfl
  · exact Iff.rfl
  · cases hv
theorem rels_dt {ρ : Where} {r c p q : Nat} {l : Loc} (hρ : ρ r = some l) (hk : l.kind = .vals p q) (hc : Cls c p q) : ∀ {L : List Value}, L.all (okTok r c) = true → ∀ l', VRels ρ L l' ↔ VRels ρ (L.map (dt p q)) l'
  | [], _, l' => Iff.rfl
  | v :: L, hL, l' => by
    simp only [List.all_cons, Bool.and_eq_true] at hL
    constructor
    · intro h
      cases h with
      | cons _ v' _ r' h1 h2 => exact .cons _ _ _ _ ((rel_dt hρ hk hc hL.1 v').1 h1) ((rels_dt hρ hk hc hL.2 r').1 h2)
    · intro h
      cases h with
      | cons _ v' _ r' h1 h2 => exact .cons _ _ _ _ ((rel_dt hρ hk hc hL.1 v').2 h1) ((rels_dt hρ hk hc hL.2 r').2 h2)
theorem HRel.retell {B : Nat} {ρ : Where} {h g : Heap} {w : World} (hn : g.next = h.next)
    (hr : ∀ j, g.get j = h.get j ∨ ∃ cs ds e, h.get j = some (.row cs e) ∧ g.get j = some (.row ds e) ∧ ds.length = cs.length ∧ ∀ l', VRels ρ cs l' → VRels ρ ds l') (H : HRel B ρ h w) : HRel B ρ g w := by
  have back : ∀ j ds e, g.get j = some (.row ds e) → ∃ cs, h.get j = some (.row cs e) ∧ ds.length = cs.length ∧ ∀ l', VRels ρ cs l' → VRels ρ ds l' := by
    intro j ds e hg
    rcases hr j with h1 | ⟨cs, ds', e', h1, h2, h3, h4⟩
    · exact ⟨ds, by rw [← h1]; exact hg, rfl, fun _ h => h⟩
    · rw [hg] at h2
      obtain ⟨rfl, rfl⟩ := Thing.row.inj (Option.some.inj h2)
      exact ⟨cs, h1, h3, h4⟩
  refine ⟨H.size, fun i l hi => by rw [hn]; exact H.dom i l hi, ?_, ?_, ?_, ?_⟩
  · intro i hi
    rw [hn] at hi
    rcases hr i with h1 | ⟨cs, ds, e, h1, _⟩
    · rw [h1]; exact H.fresh i hi
    · rw [H.fresh i hi] at h1; cases h1
  · intro i l ds e hi hg
    obtain ⟨cs, h1, h3, h4⟩ := back i ds e hg
    obtain ⟨q1, q2, o, q3, q4⟩ := H.row i l cs e hi h1
    refine ⟨q1, q2, o, q3, ?_⟩
    unfold ObjRel at q4 ⊢
    split at q4
    · obtain ⟨a1, c, a2, a3, a4, a5, a6⟩ := q4
      exact ⟨by omega, c, a2, a3, by omega, by omega, by rw [h3]; exact h4 _ a6⟩
    · obtain ⟨a0, a1, a2, a3, a4, a5⟩ := q4
      exact ⟨a0, a1, a2, a3, a4, h4 _ a5⟩
    · obtain ⟨a1, a2, a3, a4⟩ := q4
      exact ⟨a1, a2, a3, h4 _ a4⟩
    · exact q4.elim
  · intro i l cs hi hg
    rcases hr i with h1 | ⟨_, ds, e, _, h2, _⟩
    · rw [h1] at hg; exact H.ro i l cs hi hg
    · rw [hg] at h2; cases h2
  · intro i j l m cs e ds f hi hj hg hg' hb
    obtain ⟨cs', h1, _⟩ := back i cs e hg
    obtain ⟨ds', h2, _⟩ := back j ds f hg'
    exact H.inj i j l m cs' e ds' f hi hj h1 h2 hb
/-- The one memory with tokens, the other with numbers. -/
structure RT (r c p q : Nat) (h g : Heap) : Prop where
  next : g.next = h.next
  rows : ∀ j, g.get j = h.get j ∨ ∃ cs e, h.get j = some (.row cs e) ∧ cs.all (okTok r c) = true ∧ g.get j = some (.row (cs.map (dt p q)) e)
theorem RT.put {r c p q i : Nat} {h g : Heap} {cs : List Value} {e : TypeId} (R : RT r c p q h g) (hi : g.get i = some (.row cs e)) (ho : h.get i = g.get i) (hc : cs.all (okTok r c) = true) : RT r c p q h (g.put i (.row (cs.map (dt p q)) e)) where
  next := R.next
  rows := fun j => by
    rw [Heap.get_put]
    by_cases hj : j = i
    · subst hj
      rw [if_pos rfl]
      exact .inr ⟨cs, e, by rw [ho]; exact hi, hc, rfl⟩
    · rw [if_neg hj]; exact R.rows j
theorem RT.refl (r c p q : Nat) (h : Heap) : RT r c p q h h := ⟨rfl, fun _ => .inl rfl⟩
theorem RT.to {B r c p q : Nat} {h g : Heap} {ρ : Where} {w : World} {l : Loc} (R : RT r c p q h g) (hρ : ρ r = some l) (hk : l.kind = .vals p q) (hc : Cls c p q) (H : HRel B ρ h w) : HRel B ρ g w := by
  refine H.retell R.next fun j => ?_
  rcases R.rows j with h1 | ⟨cs, e, h1, h2, h3⟩
  · exact .inl h1
  · exact .inr ⟨cs, _, e, h1, h3, by simp, fun l' => (rels_dt hρ hk hc h2 l').1⟩
theorem RT.back {B r c p q : Nat} {h g : Heap} {ρ : Where} {w : World} {l : Loc} (R : RT r c p q h g) (hρ : ρ r = some l) (hk : l.kind = .vals p q) (hc : Cls c p q) (H : HRel B ρ g w) : HRel B ρ h w := by
  refine H.retell R.next.symm fun j => ?_
  rcases R.rows j with h1 | ⟨cs, e, h1, h2, h3⟩
  · exact .inl h1.symm
  · exact .inr ⟨_, cs, e, h3, h1, by simp, fun l' => (rels_dt hρ hk hc h2 l').2⟩
theorem RT.step {r c p q : Nat} {h g : Heap} {ρ ρ' : Where} {w w' : World} (R : RT r c p q h g) (S : Step ρ g w ρ' g w') : Step ρ h w ρ' h w' := by
  have to : ∀ j cs e, h.get j = some (.row cs e) → ∃ ds, g.get j = some (.row ds e) := by
    intro j cs e hj
    rcases R.rows j with h1 | ⟨cs', e', h1, _, h3⟩
    · exact ⟨cs, by rw [h1]; exact hj⟩
    · rw [hj] at h1
      obtain ⟨rfl, rfl⟩ := Thing.row.inj (Option.some.inj h1)
      exact ⟨_, h3⟩
  have back : ∀ j ds e, g.get j = some (.row ds e) → ∃ cs, h.get j = some (.row cs e) := by
    intro j ds e hj
    rcases R.rows j with h1 | ⟨cs', e', h1, _, h3⟩
    · exact ⟨ds, by rw [← h1]; exact hj⟩
    · rw [hj] at h3
      obtain ⟨rfl, rfl⟩ := Thing.row.inj (Option.some.inj h3)
      exact ⟨_, h1⟩
  refine ⟨S.le, Nat.le_refl _, fun i l hi hl => S.old i l hi (by rw [R.next]; exact hl), fun i cs e _ hg => ⟨cs, e, hg⟩, fun _ _ _ => rfl, ?_, ?_, S.size, S.os, S.tape, S.output⟩
  · intro i l cs e hi hn hg
    obtain ⟨ds, hg'⟩ := to i cs e hg
    rcases S.new i l ds e hi (by rw [R.next]; exact hn) hg' with h1 | ⟨j, m, ds', f, h1, h2, h3⟩
    · exact .inl h1
    · obtain ⟨cs', h4⟩ := back j ds' f h2
      exact .inr ⟨j, m, cs', f, h1, h4, h3⟩
  · intro b hb hf
    refine S.frame b hb fun i l ds e hi hg => ?_
    obtain ⟨cs, h4⟩ := back i ds e hg
    exact hf i l cs e hi h4
/-- the first token's row and kind -/
def tokIn : List Value → Option (Nat × Nat)
  | [] => none
  | .complex .f64 r m :: _ => some (r, m / 4096)
  | _ :: L => tokIn L
theorem tokIn_spec {ρ : Where} {r c : Nat} : ∀ {L l' : List Value}, tokIn L = some (r, c) → VRels ρ L l' → ∃ l p q, ρ r = some l ∧ l.kind = .vals p q ∧ Cls c p q
  | [], l', h, _ => by cases h
  | v :: L, l', h, hv => by
    unfold tokIn at h
    cases hv with
    | cons _ v' _ r' h1 h2 =>
      split at h
      · rename_i e; cases e
      · rename_i e
        obtain ⟨rfl, rfl⟩ := List.cons.inj e
        obtain ⟨rfl, rfl⟩ := Prod.mk.inj (Option.some.inj h)
        cases h1 with
        | tok _ _ _ ht =>
          obtain ⟨l, p, q, a1, a2, a3, _⟩ := ht
          exact ⟨l, p, q, a1, a2, a3⟩
      · rename_i e
        obtain ⟨rfl, rfl⟩ := List.cons.inj e
        exact tokIn_spec h h2
/-- A call that leaves memory as it is, known over numbers, is known over tokens. -/
theorem calls_tok {B : Nat} {f : FuncId} {args : List Value} {h : Heap} {v : Value} {i r c : Nat} {cs : List Value} {e : TypeId} {ρ : Where} {w : World} {args' : List Value} (H : HRel B ρ h w) (ha : VRels ρ args args')
    (hi : h.get i = some (.row cs e)) (hl : ∃ l, ρ i = some l) (ht : tokIn cs = some (r, c)) (hv : okTok r c v = true)
    (hd : ∀ p q, Cls c p q → ∃ g, RT r c p q h g ∧ DetFn P f args g fun u g' => u = dt p q v ∧ g' = g) :
    Calls P f args'.toArray w fun e w' => ∃ v' ρ', e = .returned v' ∧ VRel ρ' v v' ∧ HRel B ρ' h w' ∧ Step ρ h w ρ' h w' := by
  obtain ⟨li, hli⟩ := hl
  obtain ⟨_, _, o, _, hobj⟩ := H.row i li cs e hli hi
  have hcells : ∃ l', VRels ρ cs l' := by
    unfold ObjRel at hobj
    split at hobj
    · obtain ⟨_, _, _, _, _, _, h6⟩ := hobj; exact ⟨_, h6⟩
    · obtain ⟨_, _, _, _, _, h6⟩ := hobj; exact ⟨_, h6⟩
    · obtain ⟨_, _, _, h6⟩ := hobj; exact ⟨_, h6⟩
    · exact hobj.elim
  obtain ⟨l', hcells⟩ := hcells
  obtain ⟨l, p, q, h1, h2, h3⟩ := tokIn_spec ht hcells
  obtain ⟨g, R, u, g', d, rfl, rfl⟩ := hd p q h3
  refine (d.does B ρ w args' (R.to h1 h2 h3 H) ha).mono ?_
  rintro e w' ⟨v', ρ', he, hv', hH', hS⟩
  have h1' := hS.le r l h1
  exact ⟨v', ρ', he, (rel_dt h1' h2 h3 hv v').2 hv', R.back h1' h2 h3 hH', R.step hS⟩
end
end Go.Proofs.YthijllagngkbgaaGreat.Eng
