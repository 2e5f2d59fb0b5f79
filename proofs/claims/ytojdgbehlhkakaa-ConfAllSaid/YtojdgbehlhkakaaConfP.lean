/- Lists of outs, and whether they match: plain lists. -/
import Derived.Test.YtojdgbehlhkakaaConfD
namespace Go.Proofs.Ytojdgbehlhkakaa.Eng
open Go Go.Proofs
set_option maxRecDepth 100000
set_option maxHeartbeats 4000000
set_option linter.unusedVariables false
/-- eight numbers as cells -/
def isOut (e : List Value) : Prop := outL' e 0 = e
theorem isOut_len {e : List Value} (h : isOut e) : e.length = 8 := by rw [← h]; rfl
def elemsOf (c : List Value) (m : Nat) : List (List Value) := (List.range m).map (outL' c)
def isConf (e : List Value) : Bool := nAt e 1 == 28
theorem outL'_conf (c : List Value) (i : Nat) : isConf (outL' c i) = (nAt c (i * 8 + 1) == 28) := rfl
theorem eqE_iff (c1 : List Value) (i : Nat) (c2 : List Value) (k : Nat) : eqE c1 i c2 k = true ↔ outL' c1 i = outL' c2 k := by
  unfold eqE outL'
  simp
theorem got_elems (c : List Value) (m : Nat) : (elemsOf c m).filter isConf = (gotI c m).map (outL' c) := by
  unfold elemsOf gotI
  rw [List.filter_map]
  rfl
theorem MatchP_iff (c : List Value) (n : Nat) (c2 : List Value) (m : Nat) : MatchP c n c2 m ↔ (elemsOf c2 m).filter isConf = elemsOf (wantL c n) (2 * n) := by
  rw [got_elems]
  unfold MatchP
  constructor
  · rintro ⟨h1, h2⟩
    apply List.ext_getElem?
    intro k
    by_cases hk : k < (gotI c2 m).length
    · have e := (eqE_iff _ _ _ _).1 (h2 k hk)
      have e1 : (gotI c2 m)[k]? = some ((gotI c2 m).getD k 0) := by rw [List.getD_eq_getElem?_getD, List.getElem?_eq_getElem hk]; rfl
      rw [List.getElem?_map, e1, Option.map_some, e]
      unfold elemsOf
      rw [List.getElem?_map, List.getElem?_range (by omega)]
      rfl
    · rw [List.getElem?_eq_none (by simp; omega), List.getElem?_eq_none (by simp [elemsOf]; omega)]
  · intro h
    have hl := congrArg List.length h
    simp [elemsOf] at hl
    refine ⟨hl, fun k hk => (eqE_iff _ _ _ _).2 ?_⟩
    have e := congrArg (·[k]?) h
    have e1 : (gotI c2 m)[k]? = some ((gotI c2 m).getD k 0) := by rw [List.getD_eq_getElem?_getD, List.getElem?_eq_getElem hk]; rfl
    simp only [elemsOf] at e
    rw [List.getElem?_map, e1, Option.map_some, List.getElem?_map, List.getElem?_range (by omega)] at e
    simpa using e
theorem outL'_app_left {c1 c2 : List Value} {i : Nat} (h : i * 8 + 8 ≤ c1.length) : outL' (c1 ++ c2) i = outL' c1 i := by
  unfold outL'
  rw [nAt_app_left (by omega), nAt_app_left (by omega), nAt_app_left (by omega), nAt_app_left (by omega), nAt_app_left (by omega), nAt_app_left (by omega), nAt_app_left (by omega), nAt_app_left (by omega)]
theorem outL'_app_right {c1 c2 : List Value} {n i : Nat} (h : c1.length = n * 8) : outL' (c1 ++ c2) (n + i) = outL' c2 i := by
  have key : ∀ q, nAt (c1 ++ c2) ((n + i) * 8 + q) = nAt c2 (i * 8 + q) := fun q => by
    rw [show (n + i) * 8 + q = c1.length + (i * 8 + q) by omega, nAt_app_right]
  have k0 := key 0
  rw [Nat.add_zero, Nat.add_zero] at k0
  unfold outL'
  rw [k0, key 1, key 2, key 3, key 4, key 5, key 6, key 7]
/-- cells out of outs -/
theorem flatten_len : ∀ {es : List (List Value)}, (∀ e ∈ es, isOut e) → es.flatten.length = es.length * 8
  | [], _ => rfl
  | e :: es, h => by
    have := flatten_len (es := es) fun x hx => h x (by simp [hx])
    have h1 := isOut_len (h e (by simp))
    rw [List.flatten_cons, List.length_append, this, h1, List.length_cons]; omega
theorem elems_flatten : ∀ {es : List (List Value)}, (∀ e ∈ es, isOut e) → elemsOf es.flatten es.length = es
  | [], _ => rfl
  | e :: es, h => by
    have h1 := h e (by simp)
    have hl := isOut_len h1
    have ih := elems_flatten (es := es) fun x hx => h x (by simp [hx])
    unfold elemsOf at ih ⊢
    rw [List.length_cons, List.range_succ_eq_map, List.map_cons, List.map_map, List.flatten_cons, outL'_app_left (by omega), h1]
    congr 1
    have : (outL' (e ++ es.flatten) ∘ Nat.succ) = outL' es.flatten := by
      funext i
      simp only [Function.comp]
      rw [show i.succ = 1 + i by omega]
      exact outL'_app_right (n := 1) (by omega)
    rw [this]
    exact ih
/-- the two that are told of a trade -/
def wantE (c : List Value) (i : Nat) : List (List Value) := [outL (nAt c (i * 8 + 2)) (nAt c (i * 8)) 1 (nAt c (i * 8 + 1)) (nAt c (i * 8 + 4)) (nAt c (i * 8 + 5)) (nAt c (i * 8 + 3)), outL (nAt c (i * 8 + 3)) (nAt c (i * 8)) 2 (nAt c (i * 8 + 1)) (nAt c (i * 8 + 4)) (nAt c (i * 8 + 5)) (nAt c (i * 8 + 2))]
theorem wantE_flat (c : List Value) (i : Nat) : (wantE c i).flatten = wantOne c i := by simp [wantE, wantOne, confL]
theorem wantE_out (c : List Value) (i : Nat) : ∀ e ∈ wantE c i, isOut e ∧ isConf e = true := by
  intro e he
  simp only [wantE, List.mem_cons, List.not_mem_nil, or_false] at he
  rcases he with rfl | rfl <;> exact ⟨rfl, rfl⟩
def wantEs (c : List Value) (n : Nat) : List (List Value) := (List.range n).flatMap (wantE c)
theorem wantEs_succ (c : List Value) (n : Nat) : wantEs c (n + 1) = wantEs c n ++ wantE c n := by simp [wantEs, List.range_succ]
theorem wantEs_out (c : List Value) (n : Nat) : ∀ e ∈ wantEs c n, isOut e := by
  intro e he
  obtain ⟨i, _, h⟩ := List.mem_flatMap.1 he
  exact (wantE_out c i e h).1
theorem wantEs_flat (c : List Value) : ∀ n, (wantEs c n).flatten = wantL c n
  | 0 => rfl
  | n + 1 => by rw [wantEs_succ, wantL_succ, List.flatten_append, wantEs_flat c n, wantE_flat]
theorem wantEs_len (c : List Value) : ∀ n, (wantEs c n).length = 2 * n
  | 0 => rfl
  | n + 1 => by rw [wantEs_succ, List.length_append, wantEs_len c n]; simp [wantE]; omega
theorem want_elems (c : List Value) (n : Nat) : elemsOf (wantL c n) (2 * n) = wantEs c n := by
  rw [← wantEs_flat, ← wantEs_len c n]; exact elems_flatten (wantEs_out c n)
/-- a list of outs matches -/
theorem match_list {c : List Value} {n : Nat} {es : List (List Value)} (h : ∀ e ∈ es, isOut e) : MatchP c n es.flatten es.length ↔ es.filter isConf = wantEs c n := by
  rw [MatchP_iff, elems_flatten h, want_elems]
/-- another message -/
def otherE (i k : Int) : List Value := [.int .i64 i, .int .i64 k, .int .i64 0, .int .i64 0, .int .i64 0, .int .i64 0, .int .i64 0, .int .i64 0]
theorem other_out (i k : Int) : isOut (otherE i k) := rfl
/-- what is told, with other messages between -/
def Told (cl : List Value) (i : Nat) (es : List (List Value)) : Prop := (∀ e ∈ es, isOut e) ∧ es.filter isConf = wantEs cl i ∧ 2 * i ≤ es.length ∧ es.length ≤ 3 * i ∧ (0 < i → ∃ r, es = wantE cl 0 ++ r)
theorem Told.zero (cl : List Value) : Told cl 0 [] := ⟨(fun e he => by cases he), rfl, Nat.le_refl _, Nat.le_refl _, fun h => absurd h (Nat.lt_irrefl _)⟩
theorem Told.want {cl : List Value} {i : Nat} {es : List (List Value)} (h : Told cl i es) : Told cl (i + 1) (es ++ wantE cl i) := by
  obtain ⟨h1, h2, h3, h4, h5⟩ := h
  refine ⟨?_, ?_, ?_, ?_, fun _ => ?_⟩
  · intro e he
    rcases List.mem_append.1 he with h | h
    · exact h1 e h
    · exact (wantE_out cl i e h).1
  · rw [List.filter_append, h2, wantEs_succ]; rfl
  · rw [List.length_append]; simp [wantE]; omega
  · rw [List.length_append]; simp [wantE]; omega
  · rcases Nat.eq_zero_or_pos i with e | e
    · subst e
      have : es = [] := List.length_eq_zero_iff.1 (by omega)
      subst this
      exact ⟨[], by simp⟩
    · obtain ⟨r, rfl⟩ := h5 e
      exact ⟨r ++ wantE cl i, by rw [List.append_assoc]⟩
theorem Told.other {cl : List Value} {i : Nat} {es : List (List Value)} {a k : Int} (h : Told cl (i + 1) es) (hl : es.length ≤ 3 * i + 2) (hk : ¬ k = 28) : Told cl (i + 1) (es ++ [otherE a k]) := by
  obtain ⟨h1, h2, h3, h4, h5⟩ := h
  refine ⟨?_, ?_, ?_, ?_, fun x => ?_⟩
  · intro e he
    rcases List.mem_append.1 he with h | h
    · exact h1 e h
    · obtain rfl := List.mem_singleton.1 h; exact other_out _ _
  · rw [List.filter_append, h2]
    have : isConf (otherE a k) = false := by simp [isConf, otherE, nAt, hk]
    simp [this]
  · rw [List.length_append]; omega
  · rw [List.length_append, List.length_singleton]; omega
  · obtain ⟨r, rfl⟩ := h5 x
    exact ⟨r ++ [otherE a k], by rw [List.append_assoc]⟩
theorem told_match {cl : List Value} {n : Nat} {es : List (List Value)} (h : Told cl n es) : MatchP cl n es.flatten es.length := (match_list h.1).2 h.2.1
/-- one left out -/
theorem told_less {cl : List Value} {n k : Nat} {es ys : List (List Value)} (h : Told cl n es) (hn : 0 < n) (hk : k = 0 ∨ k = 1) (hy : ys = es.eraseIdx k) : ¬ MatchP cl n ys.flatten ys.length := by
  subst hy
  obtain ⟨h1, h2, _, _, h5⟩ := h
  obtain ⟨r, rfl⟩ := h5 hn
  intro hm
  have hout : ∀ e ∈ (wantE cl 0 ++ r).eraseIdx k, isOut e := fun e he => h1 e (List.mem_of_mem_eraseIdx he)
  have h3 := (match_list hout).1 hm
  rw [← h2] at h3
  have hl := congrArg List.length h3
  rcases hk with rfl | rfl
  · simp only [wantE, List.cons_append, List.nil_append, List.eraseIdx_cons_zero] at hl
    simp [isConf, outL, nAt] at hl
  · simp only [wantE, List.cons_append, List.nil_append, List.eraseIdx_cons_succ, List.eraseIdx_cons_zero] at hl
    simp [isConf, outL, nAt] at hl
/-- one turned -/
theorem told_turned {cl : List Value} {n k : Nat} {es xs : List (List Value)} {v : Int} (h : Told cl n es) (hn : 0 < n) (hk : k = 0 ∨ k = 1) (hx : xs = es.set k ((es.getD k []).set 5 (.int .i64 v))) (hv : ¬ v = nAt cl 4) :
    (∀ e ∈ xs, isOut e) ∧ ¬ MatchP cl n xs.flatten xs.length := by
  subst hx
  obtain ⟨h1, h2, _, _, h5⟩ := h
  obtain ⟨r, rfl⟩ := h5 hn
  have hr : ∀ e ∈ r, isOut e := fun e he => h1 e (List.mem_append_right _ he)
  have key : ∀ e ∈ (wantE cl 0 ++ r).set k (((wantE cl 0 ++ r).getD k []).set 5 (.int .i64 v)), isOut e := by
    intro e he
    rcases hk with rfl | rfl
    · simp only [wantE, List.cons_append, List.nil_append, List.set_cons_zero, List.getD_cons_zero, List.mem_cons] at he
      rcases he with rfl | rfl | he
      · rfl
      · rfl
      · exact hr e he
    · simp only [wantE, List.cons_append, List.nil_append, List.set_cons_succ, List.set_cons_zero, List.getD_cons_succ, List.getD_cons_zero, List.mem_cons] at he
      rcases he with rfl | rfl | he
      · rfl
      · rfl
      · exact hr e he
  refine ⟨key, fun hm => ?_⟩
  have h3 := (match_list key).1 hm
  rw [← h2] at h3
  rcases hk with rfl | rfl
  · simp [wantE, isConf, outL, nAt] at h3
    exact hv h3
  · simp [wantE, isConf, outL, nAt] at h3
    exact hv h3
theorem told_short {cl c' : List Value} {n : Nat} {es : List (List Value)} (h : Told cl n es) (hn : 0 < n) : ¬ MatchP c' (n - 1) es.flatten es.length := by
  intro hm
  have h3 := (match_list h.1).1 hm
  rw [h.2.1] at h3
  have := congrArg List.length h3
  rw [wantEs_len, wantEs_len] at this
  omega
theorem flatten_els : ∀ {es : List (List Value)}, (∀ e ∈ es, Fits outK e) → Els outK es.flatten es.length
  | [], _ => Els.nil outK
  | e :: es, h => by
    have a := (Els.one (h e (by simp))).append (flatten_els (es := es) fun x hx => h x (by simp [hx]))
    rw [List.length_cons, Nat.add_comm]
    exact a
theorem want_fits {c : List Value} {n m : Nat} (h : Els tradeK c n) (hm : m < n) : ∀ e ∈ wantE c m, Fits outK e := by
  have w0 := h.wf (j := m) (by omega) (q := 0) (k := .i64) rfl
  have w1 := h.wf (j := m) (by omega) (q := 1) (k := .i64) rfl
  have w2 := h.wf (j := m) (by omega) (q := 2) (k := .i64) rfl
  have w3 := h.wf (j := m) (by omega) (q := 3) (k := .i64) rfl
  have w4 := h.wf (j := m) (by omega) (q := 4) (k := .i64) rfl
  have w5 := h.wf (j := m) (by omega) (q := 5) (k := .i64) rfl
  intro e he
  simp only [wantE, List.mem_cons, List.not_mem_nil, or_false] at he
  rcases he with rfl | rfl
  · exact fits_out w2 (show (Lit.int .i64 28).wf = true by decide) w0 (show (Lit.int .i64 1).wf = true by decide) w1 w4 w5 w3
  · exact fits_out w3 (show (Lit.int .i64 28).wf = true by decide) w0 (show (Lit.int .i64 2).wf = true by decide) w1 w4 w5 w2
theorem other_fits {i k : Int} (hi : (Lit.int .i64 i).wf = true) (hk : (Lit.int .i64 k).wf = true) : Fits outK (otherE i k) :=
  fits_out hi hk (show (Lit.int .i64 0).wf = true by decide) (show (Lit.int .i64 0).wf = true by decide) (show (Lit.int .i64 0).wf = true by decide) (show (Lit.int .i64 0).wf = true by decide) (show (Lit.int .i64 0).wf = true by decide) (show (Lit.int .i64 0).wf = true by decide)
theorem and_mod (x : Int) : Int.tmod (Go.bits .and .i64 x 65535) 2 = 0 ∨ Int.tmod (Go.bits .and .i64 x 65535) 2 = 1 := by
  have h : 0 ≤ Go.bits .and .i64 x 65535 := by
    have h1 : ((BitVec.ofInt 64 x &&& BitVec.ofInt 64 65535).toNat) ≤ 65535 := by
      rw [BitVec.toNat_and]
      exact Nat.and_le_right
    have h2 : Go.bits .and .i64 x 65535 = IntKind.i64.wrap ((BitVec.ofInt 64 x &&& BitVec.ofInt 64 65535).toNat : Int) := rfl
    rw [h2, IntKind.wrap_i64]
    omega
  rw [Int.tmod_eq_emod_of_nonneg h]
  omega
theorem ofInt_wrap (n : Int) : BitVec.ofInt 64 (IntKind.i64.wrap n) = BitVec.ofInt 64 n := by
  apply BitVec.eq_of_toNat_eq
  rw [BitVec.toNat_ofInt, BitVec.toNat_ofInt, IntKind.wrap_i64]
  congr 1
  omega
theorem xor_ne {p b : Int} (hb : (Lit.int .i64 b).wf = true) (h0 : ¬ b = 0) : ¬ Go.bits .xor .i64 p b = p := by
  intro h
  have h2 : Go.bits .xor .i64 p b = IntKind.i64.wrap ((BitVec.ofInt 64 p ^^^ BitVec.ofInt 64 b).toNat : Int) := rfl
  rw [h2] at h
  have h3 := congrArg (BitVec.ofInt 64) h
  rw [ofInt_wrap, BitVec.ofInt_natCast, BitVec.ofNat_toNat, BitVec.setWidth_eq] at h3
  have h4 : BitVec.ofInt 64 b = 0#64 := by
    have := congrArg (BitVec.ofInt 64 p ^^^ ·) h3
    simp only [← BitVec.xor_assoc, BitVec.xor_self, BitVec.zero_xor] at this
    exact this
  have h5 := congrArg BitVec.toNat h4
  rw [BitVec.toNat_ofInt] at h5
  have h6 := i64_wf.1 hb
  simp at h5
  omega
theorem xor_wf (p b : Int) : (Lit.int .i64 (Go.bits .xor .i64 p b)).wf = true := by
  have h2 : Go.bits .xor .i64 p b = IntKind.i64.wrap ((BitVec.ofInt 64 p ^^^ BitVec.ofInt 64 b).toNat : Int) := rfl
  rw [i64_wf, h2, IntKind.wrap_i64]
  omega
end Go.Proofs.Ytojdgbehlhkakaa.Eng
