/- What Put comes to, all of it, as a function of what parties have; places anew. -/
import Derived.Test.YtpaaglcchlnnoaaEngShift
import Derived.Test.YtpaaglcchlnnoaaPosB
import Derived.Test.YtpaaglcchlnnoaaPosF
namespace Go.Proofs.Ytpaaglcchlnnoaa.Eng
open Go Go.Proofs Go.Proofs.Ytpaaglcchlnnoaa.FixMath
set_option maxRecDepth 100000
set_option maxHeartbeats 4000000
set_option linter.unusedVariables false
instance (n m : Nat) (bond buyer seller price qty : Int) : Decidable (mayPut n m bond buyer seller price qty) := by unfold mayPut; infer_instance
instance (B : Nat → List Int) (C : List Int) (bond buyer seller price qty : Int) : Decidable (canPut B C bond buyer seller price qty) := by unfold canPut; infer_instance
def bondsS (B : Nat → List Int) (bond buyer seller qty : Int) : Nat → List Int := fun i => if i = seller.toNat then (B seller.toNat).set bond.toNat (keep ((B seller.toNat).getD bond.toNat 0 - qty)) else
  if i = buyer.toNat then (B buyer.toNat).set bond.toNat (keep ((B buyer.toNat).getD bond.toNat 0 + qty)) else B i
def cashS (C : List Int) (buyer seller price qty : Int) : List Int := (C.set buyer.toNat (keep (C.getD buyer.toNat 0 - keep (price * qty)))).set seller.toNat (keep (C.getD seller.toNat 0 + keep (price * qty)))
/-- the answer of a Put -/
def putCode (n m : Nat) (B : Nat → List Int) (C : List Int) (bond buyer seller price qty : Int) : Int := if mayPut n m bond buyer seller price qty then if canPut B C bond buyer seller price qty then 0 else 15 else 1
def putB (n m : Nat) (B : Nat → List Int) (C : List Int) (bond buyer seller price qty : Int) : Nat → List Int := if mayPut n m bond buyer seller price qty ∧ canPut B C bond buyer seller price qty then bondsS B bond buyer seller qty else B
def putC (n m : Nat) (B : Nat → List Int) (C : List Int) (bond buyer seller price qty : Int) : List Int := if mayPut n m bond buyer seller price qty ∧ canPut B C bond buyer seller price qty then cashS C buyer seller price qty else C
/-- all numbers are int64s -/
def InAll (n : Nat) (B : Nat → List Int) (C : List Int) : Prop := (∀ i, i < n → ∀ x ∈ B i, I64 x) ∧ ∀ x ∈ C, I64 x
theorem i64_getD {l : List Int} (h : ∀ x ∈ l, I64 x) (i : Nat) : I64 (l.getD i 0) := by
  rw [List.getD_eq_getElem?_getD]
  cases hx : l[i]? with
  | none => exact ⟨by decide, by decide⟩
  | some x => exact h x (List.mem_of_getElem? hx)
theorem i64_set {l : List Int} (h : ∀ x ∈ l, I64 x) (i : Nat) (n : Int) : ∀ x ∈ l.set i (keep n), I64 x := by
  intro x hx
  rcases List.mem_or_eq_of_mem_set hx with h1 | h1
  · exact h x h1
  · rw [h1]; exact keep_bounds n
theorem InAll.put {n m : Nat} {B : Nat → List Int} {C : List Int} (h : InAll n B C) (bond buyer seller price qty : Int) : InAll n (putB n m B C bond buyer seller price qty) (putC n m B C bond buyer seller price qty) := by
  unfold putB putC
  split
  · rename_i hc
    obtain ⟨⟨h1, h2, h3, h4, _⟩, _⟩ := hc
    refine ⟨fun i hi => ?_, i64_set (i64_set h.2 _ _) _ _⟩
    unfold bondsS
    split
    · exact i64_set (h.1 _ (by omega)) _ _
    · split
      · exact i64_set (h.1 _ (by omega)) _ _
      · exact h.1 i hi
  · exact h
/-- all rows of parties lie from lo to hi -/
structure Span (k : PK) (n lo hi : Nat) : Prop where
  p : lo ≤ k.p ∧ k.p < hi
  rb : lo ≤ k.rb ∧ k.rb < hi
  rc : lo ≤ k.rc ∧ k.rc < hi
  rr : ∀ i, i < n → lo ≤ k.rr i ∧ k.rr i < hi
theorem PosIn.done {h : Heap} {k : PK} {n m : Nat} {B : Nat → List Int} {C : List Int} {te ts : TypeId} (R : PosIn h k n m B C te ts) {b s : Nat} (hb : b < n) (hs : s < n) {l1 l2 c : List Int} (h1 : l1.length = m) (h2 : l2.length = m) (hc : c.length = n) :
    PosIn (((h.put (k.rr b) (.row (ints .i64 l1) 2)).put (k.rr s) (.row (ints .i64 l2) 2)).put k.rc (.row (ints .i64 c) 2)) k n m (fun i => if i = s then l2 else if i = b then l1 else B i) c te ts := by
  have d1 := R.dr b hb
  have d2 := R.dr s hs
  have dp := R.dp
  refine { gp := ?_, gb := ?_, gc := Heap.look_put, gr := ?_, lc := hc, lb := ?_, lp := R.lp, lrb := R.lrb, lrc := R.lrc, lr := R.lr, dp := R.dp, dr := R.dr, dd := R.dd }
  · exact Heap.look_over dp.1 (Heap.look_over (Ne.symm d2.1) (Heap.look_over (Ne.symm d1.1) R.gp))
  · exact Heap.look_over dp.2.2 (Heap.look_over (Ne.symm d2.2.1) (Heap.look_over (Ne.symm d1.2.1) R.gb))
  · intro i hi
    have di := R.dr i hi
    refine Heap.look_over di.2.2 ?_
    by_cases e : i = s
    · subst e; simp only [if_true]; exact Heap.look_put
    · rw [if_neg e]
      refine Heap.look_over (R.dd i s hi hs e) ?_
      by_cases e2 : i = b
      · subst e2; simp only [if_true]; exact Heap.look_put
      · rw [if_neg e2]
        exact Heap.look_over (R.dd i b hi hb e2) (R.gr i hi)
  · intro i hi
    show (if i = s then l2 else if i = b then l1 else B i).length = m
    split
    · exact h2
    · split
      · exact h1
      · exact R.lb i hi
theorem PosIn.frame {h h' : Heap} {k : PK} {n m : Nat} {B : Nat → List Int} {C : List Int} {te ts : TypeId} {lo hi : Nat} (R : PosIn h k n m B C te ts) (S : Span k n lo hi) (hn : h.next ≤ h'.next) (hg : ∀ r, lo ≤ r → r < hi → h'.get r = h.get r) : PosIn h' k n m B C te ts where
  gp := by rw [hg _ S.p.1 S.p.2]; exact R.gp
  gb := by rw [hg _ S.rb.1 S.rb.2]; exact R.gb
  gc := by rw [hg _ S.rc.1 S.rc.2]; exact R.gc
  gr := fun i hi' => by rw [hg _ (S.rr i hi').1 (S.rr i hi').2]; exact R.gr i hi'
  lc := R.lc
  lb := R.lb
  lp := Nat.lt_of_lt_of_le R.lp hn
  lrb := Nat.lt_of_lt_of_le R.lrb hn
  lrc := Nat.lt_of_lt_of_le R.lrc hn
  lr := fun i hi' => Nat.lt_of_lt_of_le (R.lr i hi') hn
  dp := R.dp
  dr := R.dr
  dd := R.dd
def tradeV (id bond buyer seller price qty ask tick : Int) : Value := .agg #[.int .i64 id, .int .i64 bond, .int .i64 buyer, .int .i64 seller, .int .i64 price, .int .i64 qty, .int .i64 ask, .int .i64 tick]
theorem pos_put_any (te : TypeId) (h : Heap) (k : PK) (n m : Nat) (B : Nat → List Int) (C : List Int) (R : PosIn h k n m B C te 41) {lo hi : Nat} (S : Span k n lo hi) (hI : InAll n B C) (id bond buyer seller price qty ask tick : Int) (wp : I64 price) (wq : I64 qty) :
    ∃ h', DoesOk Try.prog 9 [.pointer (some ⟨k.p, 0, none⟩), tradeV id bond buyer seller price qty ask tick] h (.int .i64 (putCode n m B C bond buyer seller price qty)) h' ∧
      PosIn h' k n m (putB n m B C bond buyer seller price qty) (putC n m B C bond buyer seller price qty) te 41 ∧ h'.next = h.next ∧ ∀ r, r < lo ∨ hi ≤ r → h'.get r = h.get r := by
  unfold putCode putB putC
  by_cases hm : mayPut n m bond buyer seller price qty
  · rw [if_pos hm]
    by_cases hc : canPut B C bond buyer seller price qty
    · rw [if_pos hc, if_pos ⟨hm, hc⟩, if_pos ⟨hm, hc⟩]
      have hm' := hm
      obtain ⟨m1, m2, m3, m4, m5, m6, m7, m8, m9⟩ := hm'
      refine ⟨_, DetFn.known (pos_put_done te h k n m B C R id bond buyer seller price qty ask tick hm hc wp wq (i64_getD (hI.1 _ (by omega)) _) (i64_getD (hI.1 _ (by omega)) _) (i64_getD hI.2 _) (i64_getD hI.2 _)), ?_, rfl, ?_⟩
      · exact R.done (by omega) (by omega) (by rw [List.length_set]; exact R.lb _ (by omega)) (by rw [List.length_set]; exact R.lb _ (by omega)) (by rw [List.length_set, List.length_set]; exact R.lc)
      · intro r hr
        have s1 := S.rc
        have s2 := S.rr buyer.toNat (by omega)
        have s3 := S.rr seller.toNat (by omega)
        rw [Heap.get_put, if_neg (by omega), Heap.get_put, if_neg (by omega), Heap.get_put, if_neg (by omega)]
    · rw [if_neg hc, if_neg (fun x => hc x.2), if_neg (fun x => hc x.2)]
      have hm' := hm
      obtain ⟨m1, m2, m3, m4, m5, m6, m7, m8, m9⟩ := hm'
      exact ⟨h, DetFn.known (pos_put_over te h k n m B C R id bond buyer seller price qty ask tick hm hc wp wq (i64_getD (hI.1 _ (by omega)) _) (i64_getD (hI.1 _ (by omega)) _) (i64_getD hI.2 _) (i64_getD hI.2 _)), R, rfl, fun _ _ => rfl⟩
  · rw [if_neg hm, if_neg (fun x => hm x.1), if_neg (fun x => hm x.1)]
    exact ⟨h, DetFn.known (pos_put_no te h k n m B C R id bond buyer seller price qty ask tick hm), R, rfl, fun _ _ => rfl⟩
theorem ref_put_any (te : TypeId) (h : Heap) (k : PK) (n m : Nat) (B : Nat → List Int) (C : List Int) (R : PosIn h k n m B C te 43) {lo hi : Nat} (S : Span k n lo hi) (hI : InAll n B C) (id bond buyer seller price qty ask tick : Int) (wp : I64 price) (wq : I64 qty) :
    ∃ h', DoesOk Try.prog 10 [.pointer (some ⟨k.p, 0, none⟩), tradeV id bond buyer seller price qty ask tick] h (.int .i64 (putCode n m B C bond buyer seller price qty)) h' ∧
      PosIn h' k n m (putB n m B C bond buyer seller price qty) (putC n m B C bond buyer seller price qty) te 43 ∧ h'.next = h.next ∧ ∀ r, r < lo ∨ hi ≤ r → h'.get r = h.get r := by
  unfold putCode putB putC
  by_cases hm : mayPut n m bond buyer seller price qty
  · rw [if_pos hm]
    by_cases hc : canPut B C bond buyer seller price qty
    · rw [if_pos hc, if_pos ⟨hm, hc⟩, if_pos ⟨hm, hc⟩]
      have hm' := hm
      obtain ⟨m1, m2, m3, m4, m5, m6, m7, m8, m9⟩ := hm'
      refine ⟨_, DetFn.known (ref_put_done te h k n m B C R id bond buyer seller price qty ask tick hm hc wp wq (i64_getD (hI.1 _ (by omega)) _) (i64_getD (hI.1 _ (by omega)) _) (i64_getD hI.2 _) (i64_getD hI.2 _)), ?_, rfl, ?_⟩
      · exact R.done (by omega) (by omega) (by rw [List.length_set]; exact R.lb _ (by omega)) (by rw [List.length_set]; exact R.lb _ (by omega)) (by rw [List.length_set, List.length_set]; exact R.lc)
      · intro r hr
        have s1 := S.rc
        have s2 := S.rr buyer.toNat (by omega)
        have s3 := S.rr seller.toNat (by omega)
        rw [Heap.get_put, if_neg (by omega), Heap.get_put, if_neg (by omega), Heap.get_put, if_neg (by omega)]
    · rw [if_neg hc, if_neg (fun x => hc x.2), if_neg (fun x => hc x.2)]
      have hm' := hm
      obtain ⟨m1, m2, m3, m4, m5, m6, m7, m8, m9⟩ := hm'
      exact ⟨h, DetFn.known (ref_put_over te h k n m B C R id bond buyer seller price qty ask tick hm hc wp wq (i64_getD (hI.1 _ (by omega)) _) (i64_getD (hI.1 _ (by omega)) _) (i64_getD hI.2 _) (i64_getD hI.2 _)), R, rfl, fun _ _ => rfl⟩
  · rw [if_neg hm, if_neg (fun x => hm x.1), if_neg (fun x => hm x.1)]
    exact ⟨h, DetFn.known (ref_put_no te h k n m B C R id bond buyer seller price qty ask tick hm), R, rfl, fun _ _ => rfl⟩
/-! places anew -/
def newPart (b n m : Nat) (i : Nat) : List (Option Thing) := [rw' (ints .i64 (List.replicate m 0)) 2, rw' [.slice (some ⟨b + 2 + 3 * i, 0, none⟩) m m] 38, if i + 1 = n then rw' ((List.range n).map fun j => .slice (some ⟨b + 2 + 3 * j, 0, none⟩) m m) 38 else none]
def newRows (ts : TypeId) (b n m : Nat) : List (Option Thing) := rw' (ints .i64 (List.replicate n 0)) 2 :: rw' [.slice (some ⟨b + 1 + 3 * n, 0, some 1⟩) n n, .slice (some ⟨b, 0, none⟩) n n] ts :: (List.range n).flatMap (newPart b n m)
def newK (b n : Nat) : PK := { p := b + 1, rb := b + 1 + 3 * n, rc := b, sp := some 1, cb := n, rr := fun i => b + 2 + 3 * i }
theorem flat3_len {α : Type} (f : Nat → List α) (hf : ∀ i, (f i).length = 3) : ∀ n, ((List.range n).flatMap f).length = 3 * n
  | 0 => rfl
  | n + 1 => by rw [List.range_succ, List.flatMap_append, List.length_append, flat3_len f hf n]; simp [hf]; omega
theorem flat3 {α : Type} (f : Nat → List α) (hf : ∀ i, (f i).length = 3) : ∀ (n i j : Nat), i < n → j < 3 → ((List.range n).flatMap f)[3 * i + j]? = (f i)[j]?
  | n + 1, i, j, hi, hj => by
    rw [List.range_succ, List.flatMap_append]
    by_cases h : i < n
    · rw [List.getElem?_append_left (by rw [flat3_len f hf]; omega)]
      exact flat3 f hf n i j h hj
    · obtain rfl : i = n := by omega
      rw [List.getElem?_append_right (by rw [flat3_len f hf]; omega), flat3_len f hf]
      simp
theorem newRows_at {ts : TypeId} {b n m i j : Nat} (hi : i < n) (hj : j < 3) : (newRows ts b n m)[2 + 3 * i + j]? = (newPart b n m i)[j]? := by
  unfold newRows
  rw [show 2 + 3 * i + j = 3 * i + j + 1 + 1 by omega, List.getElem?_cons_succ, List.getElem?_cons_succ]
  exact flat3 _ (fun _ => rfl) n i j hi hj
theorem newRows_len {ts : TypeId} {b n m : Nat} : (newRows ts b n m).length = 2 + 3 * n := by
  unfold newRows
  rw [List.length_cons, List.length_cons, flat3_len _ (fun _ => rfl)]; omega
theorem new_in (ts : TypeId) (h : Heap) (n m : Nat) (hn : 1 ≤ n) : PosIn (h.app (newRows ts h.next n m)) (newK h.next n) n m (fun _ => List.replicate m 0) (List.replicate n 0) 38 ts where
  gp := Heap.app_at (i := 1) rfl rfl
  gb := Heap.app_at (i := 2 + 3 * (n - 1) + 2) (by simp [newK]; omega) (by rw [newRows_at (by omega) (by omega)]; simp [newPart, show n - 1 + 1 = n by omega, hdrs, newK, rw'])
  gc := Heap.app_at (i := 0) rfl rfl
  gr := fun i hi => Heap.app_at (i := 2 + 3 * i + 0) (by simp [newK]; omega) (by rw [newRows_at hi (by omega)]; rfl)
  lc := by simp
  lb := fun i hi => by simp
  lp := by rw [Heap.next_app, newRows_len]; simp [newK]; omega
  lrb := by rw [Heap.next_app, newRows_len]; simp [newK]; omega
  lrc := by rw [Heap.next_app, newRows_len]; simp [newK]; omega
  lr := fun i hi => by rw [Heap.next_app, newRows_len]; simp [newK]; omega
  dp := by simp [newK]; omega
  dr := fun i hi => by simp [newK]; omega
  dd := fun i j hi hj hne => by simp [newK]; omega
theorem new_span (b n : Nat) (hn : 1 ≤ n) : Span (newK b n) n b (b + (2 + 3 * n)) where
  p := by simp [newK]; omega
  rb := by simp [newK]; omega
  rc := by simp [newK]; omega
  rr := fun i hi => by simp [newK]; omega
theorem new_all (n m : Nat) : InAll n (fun _ => List.replicate m 0) (List.replicate n 0) :=
  ⟨fun _ _ x hx => by rw [(List.mem_replicate.1 hx).2]; exact ⟨by decide, by decide⟩, fun x hx => by rw [(List.mem_replicate.1 hx).2]; exact ⟨by decide, by decide⟩⟩
theorem pos_new_case (n m : Nat) (hr : ((evFn Try.prog noExt noSum 500 7 [.int .i64 (n : Int), .int .i64 (m : Int)] Heap.empty).map fun r => (([.int .i64 (n : Int), .int .i64 (m : Int)] : List Value).all (Eng.bare 4) && closedV (2 + 3 * n) 4 r.1 && (rowsTo r.2 (2 + 3 * n)).all (closedT (2 + 3 * n)), fun b => (shiftV b 4 r.1, (rowsTo r.2 (2 + 3 * n)).map (Option.map (shiftT b))))) =
    some (true, fun b => (.pointer (some ⟨b + 1, 0, none⟩), newRows 41 b n m))) (h : Heap) : DoesOk Try.prog 7 [.int .i64 (n : Int), .int .i64 (m : Int)] h (.pointer (some ⟨h.next + 1, 0, none⟩)) (h.app (newRows 41 h.next n m)) :=
  DoesOk.shiftEv (2 + 3 * n) 500 (ts := fun b => newRows 41 b n m) (v := fun b => .pointer (some ⟨b + 1, 0, none⟩)) hmix hX hr h
theorem pos_new_do (n m : Nat) (h1 : 1 ≤ n) (h2 : n ≤ 8) (h3 : 1 ≤ m) (h4 : m ≤ 4) (h : Heap) : DoesOk Try.prog 7 [.int .i64 (n : Int), .int .i64 (m : Int)] h (.pointer (some ⟨h.next + 1, 0, none⟩)) (h.app (newRows 41 h.next n m)) := by
  have en : n = 1 ∨ n = 2 ∨ n = 3 ∨ n = 4 ∨ n = 5 ∨ n = 6 ∨ n = 7 ∨ n = 8 := by omega
  have em : m = 1 ∨ m = 2 ∨ m = 3 ∨ m = 4 := by omega
  rcases en with rfl | rfl | rfl | rfl | rfl | rfl | rfl | rfl <;> rcases em with rfl | rfl | rfl | rfl
  all_goals exact pos_new_case _ _ (by kernel_rfl) h
theorem ref_new_case (n m : Nat) (hr : ((evFn Try.prog noExt noSum 500 8 [.int .i64 (n : Int), .int .i64 (m : Int)] Heap.empty).map fun r => (([.int .i64 (n : Int), .int .i64 (m : Int)] : List Value).all (Eng.bare 4) && closedV (2 + 3 * n) 4 r.1 && (rowsTo r.2 (2 + 3 * n)).all (closedT (2 + 3 * n)), fun b => (shiftV b 4 r.1, (rowsTo r.2 (2 + 3 * n)).map (Option.map (shiftT b))))) =
    some (true, fun b => (.pointer (some ⟨b + 1, 0, none⟩), newRows 43 b n m))) (h : Heap) : DoesOk Try.prog 8 [.int .i64 (n : Int), .int .i64 (m : Int)] h (.pointer (some ⟨h.next + 1, 0, none⟩)) (h.app (newRows 43 h.next n m)) :=
  DoesOk.shiftEv (2 + 3 * n) 500 (ts := fun b => newRows 43 b n m) (v := fun b => .pointer (some ⟨b + 1, 0, none⟩)) hmix hX hr h
theorem ref_new_do (n m : Nat) (h1 : 1 ≤ n) (h2 : n ≤ 8) (h3 : 1 ≤ m) (h4 : m ≤ 4) (h : Heap) : DoesOk Try.prog 8 [.int .i64 (n : Int), .int .i64 (m : Int)] h (.pointer (some ⟨h.next + 1, 0, none⟩)) (h.app (newRows 43 h.next n m)) := by
  have en : n = 1 ∨ n = 2 ∨ n = 3 ∨ n = 4 ∨ n = 5 ∨ n = 6 ∨ n = 7 ∨ n = 8 := by omega
  have em : m = 1 ∨ m = 2 ∨ m = 3 ∨ m = 4 := by omega
  rcases en with rfl | rfl | rfl | rfl | rfl | rfl | rfl | rfl <;> rcases em with rfl | rfl | rfl | rfl
  all_goals exact ref_new_case _ _ (by kernel_rfl) h
end Go.Proofs.Ytpaaglcchlnnoaa.Eng
