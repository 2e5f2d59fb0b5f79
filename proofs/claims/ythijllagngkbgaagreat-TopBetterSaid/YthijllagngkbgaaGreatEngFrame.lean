/- The engine, part 21: what is known of a call over a few rows holds in any memory that has such rows under other numbers; rows that were made may be dropped. -/
import Derived.Test.YthijllagngkbgaaGreatEngScript
namespace Go.Proofs.YthijllagngkbgaaGreat.Eng
open Go

/-- other numbers for rows; none: there is no such row -/
abbrev Ren := Nat → Option Nat

mutual
/-- A value under other row numbers. -/
inductive RRel (π : Ren) : Value → Value → Prop
  | bool (b : Bool) : RRel π (.bool b) (.bool b)
  | int (k : IntKind) (n : Int) : RRel π (.int k n) (.int k n)
  | string (s : ByteArray) : RRel π (.string s) (.string s)
  | ptrNil : RRel π (.pointer none) (.pointer none)
  | ptr (i o j : Nat) (h : π i = some j) : RRel π (.pointer (some ⟨i, o, none⟩)) (.pointer (some ⟨j, o, none⟩))
  | sliceNil (n c : Nat) : RRel π (.slice none n c) (.slice none n c)
  | slice (i o : Nat) (spot : Option Nat) (n c j : Nat) (h : π i = some j) : RRel π (.slice (some ⟨i, o, spot⟩) n c) (.slice (some ⟨j, o, spot⟩) n c)
  | func (fn : Fn) (x y x' y' : Array Value) (hx : RRels π x.toList x'.toList) (hy : RRels π y.toList y'.toList) : RRel π (.func fn x y) (.func fn x' y')
  | nilFunc : RRel π .nilFunc .nilFunc
  | chanNil : RRel π (.chan none) (.chan none)
  | chan (i j : Nat) (h : π i = some j) : RRel π (.chan (some i)) (.chan (some j))
  | mapNil : RRel π (.map none) (.map none)
  | map (i j : Nat) (h : π i = some j) : RRel π (.map (some i)) (.map (some j))
  | tok (i j m : Nat) (h : π i = some j) : RRel π (.complex .f64 i m) (.complex .f64 j m)
  | nilIface : RRel π .nilIface .nilIface
  | iface (t : TypeId) (v v' : Value) (h : RRel π v v') : RRel π (.iface t v) (.iface t v')
  | agg (x x' : Array Value) (h : RRels π x.toList x'.toList) : RRel π (.agg x) (.agg x')
  | tuple (x x' : Array Value) (h : RRels π x.toList x'.toList) : RRel π (.tuple x) (.tuple x')
inductive RRels (π : Ren) : List Value → List Value → Prop
  | nil : RRels π [] []
  | cons (v v' : Value) (r r' : List Value) (h : RRel π v v') (t : RRels π r r') : RRels π (v :: r) (v' :: r')
end

mutual
/-- what is seen through other numbers, outward -/
theorem RRel.out {π : Ren} {ρ₀ ρ : Where} (hp : ∀ i j l, π i = some j → ρ₀ i = some l → ρ j = some l) {v₀ v : Value} : RRel π v₀ v → ∀ v', VRel ρ₀ v₀ v' → VRel ρ v v'
  | .bool b, _, h => by cases h; exact .bool b
  | .int k n, _, h => by cases h; exact .int k n
  | .string s, _, h => by cases h; exact .string s
  | .ptrNil, _, h => by cases h; exact .ptrNil
  | .ptr i o j hj, _, h => by cases h with | ptr _ _ l hl => exact .ptr j o l ⟨hp i j l hj hl.1, hl.2⟩
  | .sliceNil n c, _, h => by cases h; exact .sliceNil n c
  | .slice i o sp n c j hj, _, h => by cases h with | slice _ _ _ _ _ a' c' l hl hn ha hc => exact .slice j o sp n c a' c' l ⟨hp i j l hj hl.1, hl.2⟩ hn ha hc
  | .func fn x y x' y' hx hy, _, h => by cases h with | func _ _ _ u w hu hw => exact .func _ _ _ _ _ (RRels.out hp hx _ hu) (RRels.out hp hy _ hw)
  | .nilFunc, _, h => by cases h; exact .nilFunc
  | .chanNil, _, h => by cases h; exact .chanNil
  | .chan i j hj, _, h => by cases h with | chan _ cap l hl hk => exact .chan j cap l (hp i j l hj hl) hk
  | .mapNil, _, h => by cases h; exact .mapNil
  | .map i j hj, _, h => by cases h with | map _ l hl hk => exact .map j l (hp i j l hj hl) hk
  | .tok i j m hj, _, h => by cases h with | tok _ _ _ ht => obtain ⟨l, p, q, h1, h2⟩ := ht; exact .tok j m _ ⟨l, p, q, hp i j l hj h1, h2⟩
  | .nilIface, _, h => by cases h; exact .nilIface
  | .iface t v v' hv, _, h => by cases h with | iface _ _ u hu => exact .iface _ _ _ (RRel.out hp hv _ hu)
  | .agg x x' hx, _, h => by cases h with | agg _ u hu => exact .agg _ _ (RRels.out hp hx _ hu)
  | .tuple x x' hx, _, h => by cases h with | tuple _ u hu => exact .tuple _ _ (RRels.out hp hx _ hu)
theorem RRels.out {π : Ren} {ρ₀ ρ : Where} (hp : ∀ i j l, π i = some j → ρ₀ i = some l → ρ j = some l) {vs₀ vs : List Value} : RRels π vs₀ vs → ∀ vs', VRels ρ₀ vs₀ vs' → VRels ρ vs vs'
  | .nil, _, h => by cases h; exact .nil
  | .cons v v' r r' hv ht, _, h => by cases h with | cons _ u _ us hu hus => exact .cons _ _ _ _ (RRel.out hp hv _ hu) (RRels.out hp ht _ hus)
end

mutual
/-- and inward -/
theorem RRel.inw {π : Ren} {ρ₀ ρ : Where} (hp : ∀ i j l, π i = some j → ρ j = some l → ρ₀ i = some l) {v₀ v : Value} : RRel π v₀ v → ∀ v', VRel ρ v v' → VRel ρ₀ v₀ v'
  | .bool b, _, h => by cases h; exact .bool b
  | .int k n, _, h => by cases h; exact .int k n
  | .string s, _, h => by cases h; exact .string s
  | .ptrNil, _, h => by cases h; exact .ptrNil
  | .ptr i o j hj, _, h => by cases h with | ptr _ _ l hl => exact .ptr i o l ⟨hp i j l hj hl.1, hl.2⟩
  | .sliceNil n c, _, h => by cases h; exact .sliceNil n c
  | .slice i o sp n c j hj, _, h => by cases h with | slice _ _ _ _ _ a' c' l hl hn ha hc => exact .slice i o sp n c a' c' l ⟨hp i j l hj hl.1, hl.2⟩ hn ha hc
  | .func fn x y x' y' hx hy, _, h => by cases h with | func _ _ _ u w hu hw => exact .func _ _ _ _ _ (RRels.inw hp hx _ hu) (RRels.inw hp hy _ hw)
  | .nilFunc, _, h => by cases h; exact .nilFunc
  | .chanNil, _, h => by cases h; exact .chanNil
  | .chan i j hj, _, h => by cases h with | chan _ cap l hl hk => exact .chan i cap l (hp i j l hj hl) hk
  | .mapNil, _, h => by cases h; exact .mapNil
  | .map i j hj, _, h => by cases h with | map _ l hl hk => exact .map i l (hp i j l hj hl) hk
  | .tok i j m hj, _, h => by cases h with | tok _ _ _ ht => obtain ⟨l, p, q, h1, h2⟩ := ht; exact .tok i m _ ⟨l, p, q, hp i j l hj h1, h2⟩
  | .nilIface, _, h => by cases h; exact .nilIface
  | .iface t v v' hv, _, h => by cases h with | iface _ _ u hu => exact .iface _ _ _ (RRel.inw hp hv _ hu)
  | .agg x x' hx, _, h => by cases h with | agg _ u hu => exact .agg _ _ (RRels.inw hp hx _ hu)
  | .tuple x x' hx, _, h => by cases h with | tuple _ u hu => exact .tuple _ _ (RRels.inw hp hx _ hu)
theorem RRels.inw {π : Ren} {ρ₀ ρ : Where} (hp : ∀ i j l, π i = some j → ρ j = some l → ρ₀ i = some l) {vs₀ vs : List Value} : RRels π vs₀ vs → ∀ vs', VRels ρ vs vs' → VRels ρ₀ vs₀ vs'
  | .nil, _, h => by cases h; exact .nil
  | .cons v v' r r' hv ht, _, h => by cases h with | cons _ u _ us hu hus => exact .cons _ _ _ _ (RRel.inw hp hv _ hu) (RRels.inw hp ht _ hus)
end

mutual
/-- what a value is under other numbers is one value -/
theorem RRel.one {π π' : Ren} (hp : ∀ i j, π i = some j → π' i = some j) {v₀ v : Value} : RRel π v₀ v → ∀ v', RRel π' v₀ v' → v = v'
  | .bool b, _, h => by cases h; rfl
  | .int k n, _, h => by cases h; rfl
  | .string s, _, h => by cases h; rfl
  | .ptrNil, _, h => by cases h; rfl
  | .ptr i o j hj, _, h => by cases h with | ptr _ _ j' hj' => rw [hp i j hj] at hj'; rw [Option.some.inj hj']
  | .sliceNil n c, _, h => by cases h; rfl
  | .slice i o sp n c j hj, _, h => by cases h with | slice _ _ _ _ _ j' hj' => rw [hp i j hj] at hj'; rw [Option.some.inj hj']
  | .func fn x y x' y' hx hy, _, h => by cases h with | func _ _ _ u w hu hw => rw [Array.toList_inj.1 (RRels.one hp hx _ hu), Array.toList_inj.1 (RRels.one hp hy _ hw)]
  | .nilFunc, _, h => by cases h; rfl
  | .chanNil, _, h => by cases h; rfl
  | .chan i j hj, _, h => by cases h with | chan _ j' hj' => rw [hp i j hj] at hj'; rw [Option.some.inj hj']
  | .mapNil, _, h => by cases h; rfl
  | .map i j hj, _, h => by cases h with | map _ j' hj' => rw [hp i j hj] at hj'; rw [Option.some.inj hj']
  | .tok i j m hj, _, h => by cases h with | tok _ j' _ hj' => rw [hp i j hj] at hj'; rw [Option.some.inj hj']
  | .nilIface, _, h => by cases h; rfl
  | .iface t v v' hv, _, h => by cases h with | iface _ _ u hu => rw [RRel.one hp hv _ hu]
  | .agg x x' hx, _, h => by cases h with | agg _ u hu => rw [Array.toList_inj.1 (RRels.one hp hx _ hu)]
  | .tuple x x' hx, _, h => by cases h with | tuple _ u hu => rw [Array.toList_inj.1 (RRels.one hp hx _ hu)]
theorem RRels.one {π π' : Ren} (hp : ∀ i j, π i = some j → π' i = some j) {vs₀ vs : List Value} : RRels π vs₀ vs → ∀ vs', RRels π' vs₀ vs' → vs = vs'
  | .nil, _, h => by cases h; rfl
  | .cons v v' r r' hv ht, _, h => by cases h with | cons _ u _ us hu hus => rw [RRel.one hp hv _ hu, RRels.one hp ht _ hus]
end

theorem RRels.length {π : Ren} : ∀ {a b : List Value}, RRels π a b → a.length = b.length
  | _, _, .nil => rfl
  | _, _, .cons _ _ _ _ _ t => by simp [RRels.length t]
theorem RRel.flat {π : Ren} {v : Value} (h : flat v = true) : RRel π v v := by
  unfold Eng.flat at h
  split at h <;> first | constructor | cases h
theorem RRels.flats {π : Ren} : ∀ {vs : List Value}, vs.all Eng.flat = true → RRels π vs vs
  | [], _ => .nil
  | v :: vs, h => by
    simp only [List.all_cons, Bool.and_eq_true] at h
    exact .cons _ _ _ _ (RRel.flat h.1) (RRels.flats h.2)
theorem RRels.append {π : Ren} : ∀ {a b c d : List Value}, RRels π a b → RRels π c d → RRels π (a ++ c) (b ++ d)
  | _, _, _, _, .nil, k => k
  | _, _, _, _, .cons _ _ _ _ h t, k => .cons _ _ _ _ h (RRels.append t k)

/-- a row under other numbers -/
inductive TRel (π : Ren) : Option Thing → Option Thing → Prop
  | none : TRel π none none
  | row (cs cs' : List Value) (e : TypeId) (h : RRels π cs cs') : TRel π (some (.row cs e)) (some (.row cs' e))
  | ro (cs cs' : List Value) (h : RRels π cs cs') : TRel π (some (.ro cs)) (some (.ro cs'))

theorem TRel.one {π π' : Ren} (hp : ∀ i j, π i = some j → π' i = some j) {x a b : Option Thing} (h : TRel π x a) (k : TRel π' x b) : a = b := by
  cases h with
  | none => cases k; rfl
  | row cs cs' e h => cases k with | row _ _ _ k => rw [RRels.one hp h _ k]
  | ro cs cs' h => cases k with | ro _ _ k => rw [RRels.one hp h _ k]

theorem Lies.out {π : Ren} {ρ₀ ρ : Where} (hp : ∀ i j l, π i = some j → ρ₀ i = some l → ρ j = some l) {c : Array Value} {l : Loc} {cs₀ cs : List Value} (hr : RRels π cs₀ cs) (h : Lies ρ₀ c l cs₀) : Lies ρ c l cs := by
  obtain ⟨h1, h2, h3⟩ := h
  have := hr.length
  refine ⟨by omega, by omega, ?_⟩
  rw [this] at h3
  exact hr.out hp _ h3
theorem Lies.inw {π : Ren} {ρ₀ ρ : Where} (hp : ∀ i j l, π i = some j → ρ j = some l → ρ₀ i = some l) {c : Array Value} {l : Loc} {cs₀ cs : List Value} (hr : RRels π cs₀ cs) (h : Lies ρ c l cs) : Lies ρ₀ c l cs₀ := by
  obtain ⟨h1, h2, h3⟩ := h
  have := hr.length
  refine ⟨by omega, by omega, ?_⟩
  rw [← this] at h3
  exact hr.inw hp _ h3

theorem ObjRel.out {π : Ren} {ρ₀ ρ : Where} (hp : ∀ i j l, π i = some j → ρ₀ i = some l → ρ j = some l) {o : Obj} {e : TypeId} {l : Loc} {cs₀ cs : List Value} (hr : RRels π cs₀ cs) (h : ObjRel ρ₀ l cs₀ e o) : ObjRel ρ l cs e o := by
  have hl := hr.length
  unfold ObjRel at h ⊢
  split at h
  · obtain ⟨h1, c, h2, h3, h4⟩ := h; exact ⟨by omega, c, h2, h3, h4.out hp hr⟩
  · obtain ⟨h0, q, s, r, h1, h2⟩ := h; exact ⟨h0, q, s, r, h1, hr.out hp _ h2⟩
  · obtain ⟨es, c, h1, h2⟩ := h; exact ⟨es, c, h1, hr.out hp _ h2⟩
  · exact h.elim
theorem ObjRel.inw {π : Ren} {ρ₀ ρ : Where} (hp : ∀ i j l, π i = some j → ρ j = some l → ρ₀ i = some l) {o : Obj} {e : TypeId} {l : Loc} {cs₀ cs : List Value} (hr : RRels π cs₀ cs) (h : ObjRel ρ l cs e o) : ObjRel ρ₀ l cs₀ e o := by
  have hl := hr.length
  unfold ObjRel at h ⊢
  split at h
  · obtain ⟨h1, c, h2, h3, h4⟩ := h; exact ⟨by omega, c, h2, h3, h4.inw hp hr⟩
  · obtain ⟨h0, q, s, r, h1, h2⟩ := h; exact ⟨h0, q, s, r, h1, hr.inw hp _ h2⟩
  · obtain ⟨es, c, h1, h2⟩ := h; exact ⟨es, c, h1, hr.inw hp _ h2⟩
  · exact h.elim

section
variable {P : Program}

open Classical in
/-- A call known over a few rows, in a memory that has such rows. -/
theorem DoesOk.frame {f : FuncId} {args₀ args : List Value} {h₀ h₁ h h' : Heap} {v₀ v : Value} {π π' : Ren} (D : DoesOk P f args₀ h₀ v₀ h₁) (hok : h₀.ok)
    (hπ : ∀ i j, π i = some j → i < h₀.next ∧ j < h.next) (hold : ∀ i j, i < h₀.next → (π' i = some j ↔ π i = some j)) (hnew : ∀ i j, h₀.next ≤ i → π' i = some j → h.next ≤ j)
    (hinj : ∀ i i' j, π' i = some j → π' i' = some j → i = i') (hrows : ∀ i j, π i = some j → TRel π (h₀.get i) (h.get j)) (hargs : RRels π args₀ args) (hv : RRel π' v₀ v)
    (hrows' : ∀ i j, π' i = some j → TRel π' (h₁.get i) (h'.get j)) (hout : ∀ j, j < h.next → (∀ i, π' i ≠ some j) → h'.get j = h.get j) (hnone : ∀ j, h.next ≤ j → (∀ i, π' i ≠ some j) → h'.get j = none)
    (hnext : h.next ≤ h'.next) (hrange : ∀ i j, π' i = some j → j < h'.next) : DoesOk P f args h v h' := by
  have hpp : ∀ i j, π i = some j → π' i = some j := fun i j hi => (hold i j (hπ i j hi).1).2 hi
  refine ⟨?_, ?_⟩
  · intro B ρ w args' hH ha
    let ρ₀ : Where := fun i => (π i).bind ρ
    have e0 : ∀ i j, π i = some j → ρ₀ i = ρ j := fun i j hi => by simp only [ρ₀, hi, Option.bind_some]
    have e1 : ∀ i l, ρ₀ i = some l → ∃ j, π i = some j ∧ ρ j = some l := fun i l hi => by
      obtain ⟨j, h1, h2⟩ := Option.bind_eq_some_iff.mp hi
      exact ⟨j, h1, h2⟩
    have inw : ∀ i j l, π i = some j → ρ j = some l → ρ₀ i = some l := fun i j l hi hl => by rw [e0 i j hi]; exact hl
    have H0 : HRel B ρ₀ h₀ w := by
      refine ⟨hH.size, ?_, hok, ?_, ?_, ?_⟩
      · intro i l hi
        obtain ⟨j, hj, _⟩ := e1 i l hi
        exact (hπ i j hj).1
      · intro i l cs e hi hg
        obtain ⟨j, hj, hl⟩ := e1 i l hi
        have ht := hrows i j hj
        rw [hg] at ht
        generalize hx : h.get j = x at ht
        cases ht with
        | row _ cs' _ hr =>
          obtain ⟨q1, q2, o, q4, q5⟩ := hH.row j l cs' e hl hx
          exact ⟨q1, q2, o, q4, q5.inw inw hr⟩
      · intro i l cs hi hg
        obtain ⟨j, hj, hl⟩ := e1 i l hi
        have ht := hrows i j hj
        rw [hg] at ht
        generalize hx : h.get j = x at ht
        cases ht with
        | ro _ cs' hr =>
          obtain ⟨q1, c, e, fr, q4, q6⟩ := hH.ro j l cs' hl hx
          exact ⟨q1, c, e, fr, q4, q6.inw inw hr⟩
      · intro i i' l m cs e ds g hi hi' hg hg' hb
        obtain ⟨j, hj, hl⟩ := e1 i l hi
        obtain ⟨j', hj', hl'⟩ := e1 i' m hi'
        have ht := hrows i j hj
        have ht' := hrows i' j' hj'
        rw [hg] at ht
        rw [hg'] at ht'
        generalize hx : h.get j = x at ht
        generalize hx' : h.get j' = x' at ht'
        cases ht with
        | row _ cs' _ hr =>
          cases ht' with
          | row _ ds' _ hr' =>
            have := hH.inj j j' l m cs' e ds' g hl hl' hx hx' hb
            subst this
            exact hinj i i' j (hpp _ _ hj) (hpp _ _ hj')
    refine (D.does B ρ₀ w args' H0 (hargs.inw inw _ ha)).mono ?_
    rintro e w' ⟨v', ρ₁, rfl, hv1, H1, S⟩
    let ρ' : Where := fun j => if j < h.next then ρ j else if hj : ∃ i, π' i = some j then ρ₁ hj.choose else none
    have r_old : ∀ j, j < h.next → ρ' j = ρ j := fun j hj => by simp only [ρ', hj, if_true]
    have r_new : ∀ i j, π' i = some j → h.next ≤ j → ρ' j = ρ₁ i := fun i j hi hj => by
      have hx : ∃ i, π' i = some j := ⟨i, hi⟩
      simp only [ρ', show ¬ j < h.next by omega, if_false]
      rw [dif_pos hx, hinj _ _ j hx.choose_spec hi]
    -- a number in range
    have back : ∀ i j, π' i = some j → j < h.next → π i = some j := fun i j hi hj => by
      rcases Nat.lt_or_ge i h₀.next with h2 | h2
      · exact (hold i j h2).1 hi
      · have := hnew i j h2 hi; omega
    have fwd : ∀ i j l, π' i = some j → ρ₁ i = some l → ρ' j = some l := fun i j l hi hl => by
      rcases Nat.lt_or_ge j h.next with h2 | h2
      · have hp := back i j hi h2
        rw [r_old j h2, ← e0 i j hp]
        exact S.old i l hl (hπ i j hp).1
      · rw [r_new i j hi h2]; exact hl
    have bwd : ∀ i j l, π' i = some j → ρ' j = some l → ρ₁ i = some l := fun i j l hi hl => by
      rcases Nat.lt_or_ge j h.next with h2 | h2
      · have hp := back i j hi h2
        rw [r_old j h2, ← e0 i j hp] at hl
        exact S.le i l hl
      · rw [r_new i j hi h2] at hl; exact hl
    have some_in : ∀ j l, ρ' j = some l → h.next ≤ j → ∃ i, π' i = some j := fun j l hl hj => by
      by_cases hx : ∃ i, π' i = some j
      · exact hx
      · simp only [ρ', show ¬ j < h.next by omega, if_false] at hl
        rw [dif_neg hx] at hl
        cases hl
    have le : ρ.le ρ' := fun j l hl => by rw [r_old j (hH.dom j l hl)]; exact hl
    have blk_lt : ∀ {b : Nat} {o : Obj}, w.heap[b]? = some o → b < w.heap.size := by
      intro b o hb
      rcases Nat.lt_or_ge b w.heap.size with hl | hl
      · exact hl
      · rw [Array.getElem?_eq_none hl] at hb; cases hb
    -- a row of the few, seen outside
    have seen : ∀ i m ds g, ρ₀ i = some m → h₀.get i = some (.row ds g) → ∃ j ds', π i = some j ∧ ρ j = some m ∧ h.get j = some (.row ds' g) := fun i m ds g hi hg => by
      obtain ⟨j, hj, hl⟩ := e1 i m hi
      have ht := hrows i j hj
      rw [hg] at ht
      generalize hx : h.get j = x at ht
      cases ht with
      | row _ ds' _ hr => exact ⟨j, ds', hj, hl, hx⟩
    -- a row apart from the few stays
    have stay : ∀ j l cs e, (∀ i, π' i ≠ some j) → ρ j = some l → h.get j = some (.row cs e) → w'.heap[l.blk]? = w.heap[l.blk]? := fun j l cs e hno hl hg => by
      obtain ⟨_, _, c, q4, _⟩ := hH.row j l cs e hl hg
      refine S.frame l.blk (blk_lt q4) fun i m ds g hi hg' hb => ?_
      obtain ⟨j', ds', hj', hl', hx'⟩ := seen i m ds g hi hg'
      have := hH.inj j' j m l ds' g cs e hl' hl hx' hg hb
      subst this
      exact hno i (hpp _ _ hj')
    have inside : ∀ i j t, π' i = some j → h'.get j = some t → TRel π' (h₁.get i) (some t) := fun i j t hi hg => by
      have := hrows' i j hi
      rwa [hg] at this
    have apart : ∀ j l t, ρ' j = some l → h'.get j = some t → (∀ i, π' i ≠ some j) → j < h.next ∧ ρ j = some l ∧ h.get j = some t := fun j l t hl hg hno => by
      have hj : j < h.next := by
        rcases Nat.lt_or_ge j h.next with h2 | h2
        · exact h2
        · rw [hnone j h2 hno] at hg; cases hg
      exact ⟨hj, by rw [← r_old j hj]; exact hl, by rw [← hout j hj hno]; exact hg⟩
    -- a made row lies apart from the rows outside
    have made : ∀ i j l cs e k m ds g, π' i = some j → ρ₁ i = some l → h₁.get i = some (.row cs e) → (∀ i, π' i ≠ some k) → ρ k = some m → h.get k = some (.row ds g) → l.blk ≠ m.blk := by
      intro i j l cs e k m ds g hi hl hg hno hk hgk hb
      have core : ∀ i2 m2 ds2 g2, ρ₀ i2 = some m2 → h₀.get i2 = some (.row ds2 g2) → m2.blk = m.blk → False := by
        intro i2 m2 ds2 g2 a b c
        obtain ⟨j2, ds3, c1, c2, c3⟩ := seen i2 m2 ds2 g2 a b
        have := hH.inj j2 k m2 m ds3 g2 ds g c2 hk c3 hgk c
        subst this
        exact hno i2 (hpp _ _ c1)
      rcases Nat.lt_or_ge i h₀.next with h2 | h2
      · obtain ⟨ds1, g1, hg1⟩ := S.live i cs e h2 hg
        exact core i l ds1 g1 (S.old i l hl h2) hg1 hb
      · rcases S.new i l cs e hl h2 hg with h3 | ⟨i2, m2, ds2, g2, a, b, c⟩
        · obtain ⟨_, _, c, q4, _⟩ := hH.row k m ds g hk hgk
          have := blk_lt q4
          omega
        · exact core i2 m2 ds2 g2 a b (c.trans hb)
    refine ⟨v', ρ', rfl, hv.out fwd _ hv1, ⟨H1.size, ?_, ?_, ?_, ?_, ?_⟩, ⟨le, hnext, ?_, ?_, ?_, ?_, ?_, S.size, S.os, S.tape, S.output⟩⟩
    · intro j l hl
      rcases Nat.lt_or_ge j h.next with h2 | h2
      · omega
      · obtain ⟨i, hi⟩ := some_in j l hl h2
        exact hrange i j hi
    · intro j hj
      refine hnone j (by omega) fun i hi => ?_
      have := hrange i j hi; omega
    · intro j l cs e hl hg
      by_cases hx : ∃ i, π' i = some j
      · obtain ⟨i, hi⟩ := hx
        have ht := inside i j _ hi hg
        generalize hy : h₁.get i = y at ht
        cases ht with
        | row cs0 _ _ hr =>
          obtain ⟨q1, q2, o, q4, q5⟩ := H1.row i l cs0 e (bwd i j l hi hl) hy
          exact ⟨q1, q2, o, q4, q5.out fwd hr⟩
      · have hno : ∀ i, π' i ≠ some j := fun i hi => hx ⟨i, hi⟩
        obtain ⟨_, a2, a3⟩ := apart j l _ hl hg hno
        obtain ⟨q1, q2, o, q4, q5⟩ := hH.row j l cs e a2 a3
        exact ⟨q1, q2, o, by rw [stay j l cs e hno a2 a3]; exact q4, q5.mono le⟩
    · intro j l cs hl hg
      by_cases hx : ∃ i, π' i = some j
      · obtain ⟨i, hi⟩ := hx
        have ht := inside i j _ hi hg
        generalize hy : h₁.get i = y at ht
        cases ht with
        | ro cs0 _ hr =>
          obtain ⟨q1, c, e, fr, q4, q6⟩ := H1.ro i l cs0 (bwd i j l hi hl) hy
          exact ⟨q1, c, e, fr, q4, q6.out fwd hr⟩
      · have hno : ∀ i, π' i ≠ some j := fun i hi => hx ⟨i, hi⟩
        obtain ⟨_, a2, a3⟩ := apart j l _ hl hg hno
        obtain ⟨q1, c, e, fr, q4, q6, q7, q8⟩ := hH.ro j l cs a2 a3
        refine ⟨q1, c, e, fr, ?_, q6, q7, q8.mono le⟩
        rw [S.frame l.blk (blk_lt q4) fun i m ds g hi hg' hb => ?_]
        · exact q4
        · have := (H0.row i m ds g hi hg').2.1; omega
    · intro j j' l m cs e ds g hl hl' hg hg' hb
      by_cases hx : ∃ i, π' i = some j
      · obtain ⟨i, hi⟩ := hx
        have ht := inside i j _ hi hg
        generalize hy : h₁.get i = y at ht
        cases ht with
        | row cs0 _ _ hr =>
          by_cases hx' : ∃ i, π' i = some j'
          · obtain ⟨i', hi'⟩ := hx'
            have ht' := inside i' j' _ hi' hg'
            generalize hy' : h₁.get i' = y' at ht'
            cases ht' with
            | row ds0 _ _ hr' =>
              have := H1.inj i i' l m cs0 e ds0 g (bwd i j l hi hl) (bwd i' j' m hi' hl') hy hy' hb
              subst this
              rw [hi] at hi'
              exact Option.some.inj hi'
          · have hno : ∀ i, π' i ≠ some j' := fun i hi => hx' ⟨i, hi⟩
            obtain ⟨_, a2, a3⟩ := apart j' m _ hl' hg' hno
            exact absurd hb (made i j l cs0 e j' m ds g hi (bwd i j l hi hl) hy hno a2 a3)
      · have hno : ∀ i, π' i ≠ some j := fun i hi => hx ⟨i, hi⟩
        obtain ⟨_, a2, a3⟩ := apart j l _ hl hg hno
        by_cases hx' : ∃ i, π' i = some j'
        · obtain ⟨i', hi'⟩ := hx'
          have ht' := inside i' j' _ hi' hg'
          generalize hy' : h₁.get i' = y' at ht'
          cases ht' with
          | row ds0 _ _ hr' => exact absurd hb.symm (made i' j' m ds0 g j l cs e hi' (bwd i' j' m hi' hl') hy' hno a2 a3)
        · have hno' : ∀ i, π' i ≠ some j' := fun i hi => hx' ⟨i, hi⟩
          obtain ⟨_, b2, b3⟩ := apart j' m _ hl' hg' hno'
          exact hH.inj j j' l m cs e ds g a2 b2 a3 b3 hb
    · intro j l hl hj
      rw [← r_old j hj]; exact hl
    · intro j cs e hj hg
      by_cases hx : ∃ i, π' i = some j
      · obtain ⟨i, hi⟩ := hx
        have ht := inside i j _ hi hg
        have hp := back i j hi hj
        generalize hy : h₁.get i = y at ht
        cases ht with
        | row cs0 _ _ hr =>
          obtain ⟨ds, g, hg0⟩ := S.live i cs0 e (hπ i j hp).1 hy
          have ht := hrows i j hp
          rw [hg0] at ht
          generalize hz : h.get j = z at ht ⊢
          cases ht with
          | row _ ds' _ _ => exact ⟨ds', g, rfl⟩
      · exact ⟨cs, e, by rw [← hout j hj fun i hi => hx ⟨i, hi⟩]; exact hg⟩
    · intro j hj hn
      by_cases hx : ∃ i, π' i = some j
      · obtain ⟨i, hi⟩ := hx
        have hp := back i j hi hj
        have hg := S.ghost i (hπ i j hp).1 (by rw [e0 i j hp]; exact hn)
        have a := hrows' i j hi
        rw [hg] at a
        exact ((hrows i j hp).one hpp a).symm
      · exact hout j hj fun i hi => hx ⟨i, hi⟩
    · intro j l cs e hl hj hg
      obtain ⟨i, hi⟩ := some_in j l hl hj
      have ht := inside i j _ hi hg
      generalize hy : h₁.get i = y at ht
      cases ht with
      | row cs0 _ _ hr =>
        have hi0 : h₀.next ≤ i := by
          rcases Nat.lt_or_ge i h₀.next with h2 | h2
          · have := (hπ i j ((hold i j h2).1 hi)).2; omega
          · exact h2
        rcases S.new i l cs0 e (bwd i j l hi hl) hi0 hy with h3 | ⟨i2, m2, ds2, g2, a, b, c⟩
        · exact .inl h3
        · obtain ⟨j2, ds3, c1, c2, c3⟩ := seen i2 m2 ds2 g2 a b
          exact .inr ⟨j2, m2, ds3, g2, c2, c3, c⟩
    · intro b hb hno
      refine S.frame b hb fun i m ds g hi hg hbl => ?_
      obtain ⟨j2, ds3, c1, c2, c3⟩ := seen i m ds g hi hg
      exact hno j2 m ds3 g c2 c3 hbl
  · intro hk
    refine ⟨hnext, fun j hj => hnone j (by omega) fun i hi => ?_⟩
    have := hrange i j hi; omega

/-! ### rows that were made and are seen no more -/
/-- the numbers below N -/
def under (N : Nat) : Ren := fun i => if i < N then some i else none
theorem under_some {N i j : Nat} : under N i = some j ↔ i < N ∧ j = i := by
  unfold under
  split
  · rename_i h; simp [h, eq_comm]
  · rename_i h; simp [h]

/-- What runs made is dropped where nothing that is kept sees it. -/
theorem RunsOk.drop {n : Nat} {c : Code} {T T' T₁ : Env} {h h' h₁ : Heap} {e : AExit} (r : RunsOk P n c T h e T' h') (hs : ∀ t v, T₁.get t = some v → T'.get t = some v ∧ RRel (under h.next) v v)
    (hn : h₁.next = h.next) (hr : ∀ i, i < h.next → h₁.get i = h'.get i ∧ TRel (under h.next) (h'.get i) (h'.get i)) (hz : ∀ i, h.next ≤ i → h₁.get i = none) : RunsOk P n c T h e T₁ h₁ := by
  refine ⟨?_, fun hk => ⟨by omega, fun i hi => hz i (by omega)⟩⟩
  intro ds B ρ a w Q hE hH hQ
  refine r.runs ds B ρ a w Q hE hH fun a' w' ρ' q1 q2 q3 => ?_
  have up : ∀ i j l, under h.next i = some j → ρ' i = some l → ρ'.below h.next j = some l := fun i j l hi hl => by
    obtain ⟨h1, rfl⟩ := under_some.1 hi
    exact Where.below_some.2 ⟨h1, hl⟩
  have hb : ∀ i l, ρ'.below h.next i = some l → i < h.next ∧ ρ' i = some l := fun i l hi => Where.below_some.1 hi
  have lies : ∀ {i : Nat} {cs : List Value} {c : Array Value} {l : Loc}, RRels (under h.next) cs cs → Lies ρ' c l cs → Lies (ρ'.below h.next) c l cs := fun k hl => hl.out up k
  refine hQ a' w' (ρ'.below h.next) ⟨fun t v hv => ?_, q1.size, q1.defers⟩ ⟨q2.size, ?_, fun i hi => hz i (by omega), ?_, ?_, ?_⟩ ⟨?_, by omega, ?_, ?_, ?_, ?_, q3.frame, q3.size, q3.os, q3.tape, q3.output⟩
  · obtain ⟨h1, h2⟩ := hs t v hv
    exact h2.out up _ (q1.val t v h1)
  · intro i l hi; have := (hb i l hi).1; omega
  · intro i l cs e hi hg
    obtain ⟨h1, h2⟩ := hb i l hi
    obtain ⟨g1, g2⟩ := hr i h1
    rw [g1] at hg
    rw [hg] at g2
    cases g2 with
    | row _ _ _ k =>
      obtain ⟨p1, p2, o, p4, p5⟩ := q2.row i l cs e h2 hg
      exact ⟨p1, p2, o, p4, p5.out up k⟩
  · intro i l cs hi hg
    obtain ⟨h1, h2⟩ := hb i l hi
    obtain ⟨g1, g2⟩ := hr i h1
    rw [g1] at hg
    rw [hg] at g2
    cases g2 with
    | ro _ _ k =>
      obtain ⟨p1, c, e, fr, p4, p6⟩ := q2.ro i l cs h2 hg
      exact ⟨p1, c, e, fr, p4, lies (i := i) k p6⟩
  · intro i j l m cs e ds g hi hj hg hg' hbl
    obtain ⟨h1, h2⟩ := hb i l hi
    obtain ⟨h3, h4⟩ := hb j m hj
    rw [(hr i h1).1] at hg
    rw [(hr j h3).1] at hg'
    exact q2.inj i j l m cs e ds g h2 h4 hg hg' hbl
  · intro i l hi
    exact Where.below_some.2 ⟨hH.dom i l hi, q3.le i l hi⟩
  · intro i l hi h1; exact q3.old i l (hb i l hi).2 h1
  · intro i cs e hi hg
    rw [(hr i hi).1] at hg
    exact q3.live i cs e hi hg
  · intro i hi hn'
    rw [(hr i hi).1]
    exact q3.ghost i hi hn'
  · intro i l cs e hi h1
    have := (hb i l hi).1; omega

theorem Det.drop {n : Nat} {c : Code} {T : Env} {h : Heap} {Φ : AExit → Env → Heap → Prop} (d : Det P n c T h fun e T' h' => ∃ T₁ h₁, (∀ t v, T₁.get t = some v → T'.get t = some v ∧ RRel (under h.next) v v) ∧ h₁.next = h.next ∧
    (∀ i, i < h.next → h₁.get i = h'.get i ∧ TRel (under h.next) (h'.get i) (h'.get i)) ∧ (∀ i, h.next ≤ i → h₁.get i = none) ∧ Φ e T₁ h₁) : Det P n c T h Φ := by
  obtain ⟨e, T', h', r, T₁, h₁, a, b, c, d, hp⟩ := d
  exact ⟨e, T₁, h₁, r.drop a b c d, hp⟩
end
end Go.Proofs.YthijllagngkbgaaGreat.Eng
