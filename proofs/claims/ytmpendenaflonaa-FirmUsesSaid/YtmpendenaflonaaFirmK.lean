/- A book is used; over the engine's memory. -/
import Derived.Test.YtmpendenaflonaaFirmJ
namespace Go.Proofs.Ytmpendenaflonaa.Eng
open Go Go.Proofs Go.Proofs.Ytmpendenaflonaa.FixMath
set_option maxRecDepth 100000
set_option maxHeartbeats 4000000
set_option linter.unusedVariables false
theorem Els.setI {U : List Value} {n k : Nat} {v : Int} (E : Els [.int .i64] U n) (hv : (Lit.int .i64 v).wf = true) : Els [.int .i64] (U.set k (.int .i64 v)) n := by
  have hs : U.length = n := by have := E.size; simpa using this
  refine ⟨by rw [List.length_set, hs]; simp, fun j hj => ?_⟩
  have e : ((U.set k (.int .i64 v)).drop (j * 1)).take 1 = [(U.set k (.int .i64 v))[j]'(by rw [List.length_set]; omega)] := by
    rw [Nat.mul_one, List.drop_eq_getElem_cons (by rw [List.length_set]; omega)]; rfl
  show Fits _ (((U.set k (.int .i64 v)).drop (j * 1)).take 1)
  rw [e, List.getElem_set]
  split
  · exact ⟨⟨v, rfl, hv⟩, trivial⟩
  · have := E.fits j hj
    have e2 : (U.drop (j * 1)).take 1 = [U[j]'(by omega)] := by
      rw [Nat.mul_one, List.drop_eq_getElem_cons (by omega)]; rfl
    have f : Fits [.int .i64] ((U.drop (j * 1)).take 1) := this
    rwa [e2] at f
theorem keep_wf (x : Int) : (Lit.int .i64 (keep x)).wf = true := by
  have := keep_bounds x
  simp [Lit.wf, IntKind.min, IntKind.max, IntKind.signed, IntKind.bits]; omega
theorem BookIn.put {h : Heap} {t : TypeId} {q s u n : Nat} {c U : List Value} (B : BookIn h t q s u n c U) (k : Nat) (v : Int) (hv : (Lit.int .i64 v).wf = true) : BookIn (h.put u (.row (U.set k (.int .i64 v)) 2)) t q s u n c (U.set k (.int .i64 v)) where
  row := (by rw [Heap.get_put, if_neg B.dqu]; exact B.row)
  ps := (by rw [Heap.get_put, if_neg B.dsu]; exact B.ps)
  us := (by rw [Heap.get_put, if_pos rfl])
  els := B.els
  uels := B.uels.setI hv
  lq := B.lq
  ls := B.ls
  lu := B.lu
  dqs := B.dqs
  dqu := B.dqu
  dsu := B.dsu
  h0 := B.h0
  h8 := B.h8
theorem BookIn.other {h g : Heap} {t : TypeId} {q s u n r : Nat} {c U : List Value} (B : BookIn h t q s u n c U) (hn : g.next = h.next) (hg : ∀ i, i ≠ r → g.get i = h.get i) (h1 : q ≠ r) (h2 : s ≠ r) (h3 : u ≠ r) : BookIn g t q s u n c U where
  row := (by rw [hg _ h1]; exact B.row)
  ps := (by rw [hg _ h2]; exact B.ps)
  us := (by rw [hg _ h3]; exact B.us)
  els := B.els
  uels := B.uels
  lq := hn ▸ B.lq
  ls := hn ▸ B.ls
  lu := hn ▸ B.lu
  dqs := B.dqs
  dqu := B.dqu
  dsu := B.dsu
  h0 := B.h0
  h8 := B.h8
theorem risk_zero {c : List Value} {n : Nat} {U : List Value} {who price qty : Int} (h : riskOf c n U who price qty = 0) : roleOf c n who = 2 ∧ 0 ≤ who ∧ who < (n : Int) ∧ 1 ≤ price ∧ 1 ≤ qty ∧ -9223372036854775808 ≤ price * qty ∧ price * qty ≤ 9223372036854775807 ∧ -9223372036854775808 ≤ nAt U who.toNat + price * qty ∧ nAt U who.toNat + price * qty ≤ 9223372036854775807 ∧ newOf U who price qty = nAt U who.toNat + price * qty ∧ nAt U who.toNat + price * qty ≤ nAt c (who.toNat * 3 + 2) := by
  unfold riskOf at h
  split at h
  · rename_i hr
    have hw := roleOf_ne hr (by omega)
    split at h
    · cases h
    · rename_i hp
      split at h
      · rename_i hi
        have hi' := inR_iff.1 hi
        have hk := keep_in hi'.1 hi'.2
        split at h
        · rename_i hj
          rw [hk] at hj
          have hj' := inR_iff.1 hj
          have hn : newOf U who price qty = nAt U who.toNat + price * qty := by
            unfold newOf; rw [hk, keep_in hj'.1 hj'.2]
          split at h
          · cases h
          · rename_i hc
            rw [hn] at hc
            exact ⟨hr, hw.1, hw.2, by omega, by omega, hi'.1, hi'.2, hj'.1, hj'.2, hn, by omega⟩
        · cases h
      · cases h
  · cases h
theorem use_done {h : Heap} {t : TypeId} {q s u n : Nat} {c U : List Value} (B : BookIn h t q s u n c U) {who price qty x : Int} (hz : riskOf c n U who price qty = 0) (hx : x = newOf U who price qty) :
    BookIn (h.put u (.row (U.set who.toNat (.int .i64 x)) 2)) t q s u n c (newUOf c n U who price qty) := by
  subst hx
  rw [newUOf, if_pos hz]
  exact B.put _ _ (keep_wf _)
theorem use_not {h : Heap} {t : TypeId} {q s u n : Nat} {c U : List Value} (B : BookIn h t q s u n c U) {who price qty : Int} (hz : ¬ riskOf c n U who price qty = 0) : BookIn h t q s u n c (newUOf c n U who price qty) := by
  rw [newUOf, if_neg hz]
  exact B
theorem firm_Use (h : Heap) {q s u n : Nat} {c U : List Value} (B : BookIn h 65 q s u n c U) (who price qty : Int) (hp : price ≤ 9223372036854775807) (hq : qty ≤ 9223372036854775807) :
    DetFn Try.prog 14 [.pointer (some ⟨q, 0, none⟩), .int .i64 who, .int .i64 price, .int .i64 qty] h fun v h' => v = .int .i64 (riskOf c n U who price qty) ∧ BookIn h' 65 q s u n c (newUOf c n U who price qty) ∧ h'.next = h.next ∧ ∀ i, i ≠ u → h'.get i = h.get i := by
  have lU : U.length = n := by have := B.uels.size; simpa using this
  refine Det.enterS Try.f14 [(0, .pointer (some ⟨q, 0, none⟩)), (1, .int .i64 who), (2, .int .i64 price), (3, .int .i64 qty)] Try.func14 (by kernel_rfl) (of_decide_eq_true (by kernel_rfl)) (by kernel_rfl) ?_
  refine Det.sreg [] [(2, Value.int IntKind.i64 price), (3, Value.int IntKind.i64 qty), (1, Value.int IntKind.i64 who), (0, Value.pointer (some { block := q, off := 0 })), (8, Value.int IntKind.i64 0)] (h) [] (by kernel_rfl) (by kernel_rfl) hX (by kernel_rfl) allp0 ?_
  (obtain ⟨_, E15, rfl⟩ := DetFn.same (firm_adds (h) B who price qty hp hq); have hz := @risk_zero c n U who price qty)
  refine Det.sreg [(4, .m (Value.tuple #[Value.int IntKind.i64 (if riskOf c n U who price qty = 0 then newOf U who price qty else 0), Value.int IntKind.i64 (riskOf c n U who price qty)]) (h))] [(8, Value.int IntKind.i64 0), (0, Value.pointer (some { block := q, off := 0 })), (1, Value.int IntKind.i64 who), (3, Value.int IntKind.i64 qty), (2, Value.int IntKind.i64 price), (9, Value.int IntKind.i64 (if riskOf c n U who price qty = 0 then newOf U who price qty else 0)), (10, Value.int IntKind.i64 (riskOf c n U who price qty))] (h) [DoesOk Try.prog 36 [Value.pointer (some { block := q, off := 0 }), Value.int IntKind.i64 who, Value.int IntKind.i64 price, Value.int IntKind.i64 qty] (h) (Value.tuple #[Value.int IntKind.i64 (if riskOf c n U who price qty = 0 then newOf U who price qty else 0), Value.int IntKind.i64 (riskOf c n U who price qty)]) (h)] (by kernel_rfl) (by kernel_rfl) hX (by kernel_rfl) (allp E15 allp0) ?_
  refine Det.seqA (by kernel_rfl) ?_
  refine Det.sreg [] [(10, Value.int IntKind.i64 (riskOf c n U who price qty)), (9, Value.int IntKind.i64 (if riskOf c n U who price qty = 0 then newOf U who price qty else 0)), (2, Value.int IntKind.i64 price), (3, Value.int IntKind.i64 qty), (1, Value.int IntKind.i64 who), (0, Value.pointer (some { block := q, off := 0 })), (8, Value.int IntKind.i64 0), (20, Value.bool (riskOf c n U who price qty == 0))] (h) [] (by kernel_rfl) (by kernel_rfl) hX (by kernel_rfl) allp0 ?_
  by_cases c5 : riskOf c n U who price qty = 0
  · refine Det.condT (by kernel_rfl) (riskOf c n U who price qty == 0) (by kernel_rfl) (beq_iff_eq.2 (by exact c5)) ?_
    refine Det.reg [(3, .v (Value.slice (some { block := u, off := 0 }) n n)), (2, .v (Value.pointer (some { block := u, off := Int.toNat who }))), (0, .m undef (Heap.put h u (Thing.row (List.set U (Int.toNat who) (Value.int IntKind.i64 (if riskOf c n U who price qty = 0 then newOf U who price qty else 0))) 2)))] [(20, Value.bool (riskOf c n U who price qty == 0)), (8, Value.int IntKind.i64 0), (0, Value.pointer (some { block := q, off := 0 })), (1, Value.int IntKind.i64 who), (3, Value.int IntKind.i64 qty), (2, Value.int IntKind.i64 price), (9, Value.int IntKind.i64 (if riskOf c n U who price qty = 0 then newOf U who price qty else 0)), (10, Value.int IntKind.i64 (riskOf c n U who price qty))] (Heap.put h u (Thing.row (List.set U (Int.toNat who) (Value.int IntKind.i64 (if riskOf c n U who price qty = 0 then newOf U who price qty else 0))) 2)) [aload Try.prog (h) 47 (Value.pointer (some { block := q, off := 1 })) = some (Value.slice (some { block := u, off := 0 }) n n), aindexAddr Try.prog 47 (Value.slice (some { block := u, off := 0 }) n n) (Value.int IntKind.i64 who) = some (Value.pointer (some { block := u, off := Int.toNat who })), undef = undef ∧ astore Try.prog h 2 (Value.pointer (some { block := u, off := Int.toNat who })) (Value.int IntKind.i64 (if riskOf c n U who price qty = 0 then newOf U who price qty else 0)) = some (Heap.put h u (Thing.row (List.set U (Int.toNat who) (Value.int IntKind.i64 (if riskOf c n U who price qty = 0 then newOf U who price qty else 0))) 2))] (by kernel_rfl) hX (by kernel_rfl) (allp (aload_cell B.row (by kernel_rfl) (by kernel_rfl)) (allp (B.uses.index Try.underlying47 (w := 1) (by kernel_rfl) (hz (by assumption)).2.1 (hz (by assumption)).2.2.1 (by first | rfl | omega)) (allp (astore_set B.us (by kernel_rfl) rfl rfl (by have := hz (by assumption); omega)) allp0))) ?_
    refine then_n (by kernel_rfl) ?_
    refine Det.sreg [] [(10, Value.int IntKind.i64 (riskOf c n U who price qty)), (9, Value.int IntKind.i64 (if riskOf c n U who price qty = 0 then newOf U who price qty else 0)), (2, Value.int IntKind.i64 price), (3, Value.int IntKind.i64 qty), (1, Value.int IntKind.i64 who), (0, Value.pointer (some { block := q, off := 0 })), (20, Value.bool (riskOf c n U who price qty == 0)), (8, Value.int IntKind.i64 (riskOf c n U who price qty))] (Heap.put h u (Thing.row (List.set U (Int.toNat who) (Value.int IntKind.i64 (if riskOf c n U who price qty = 0 then newOf U who price qty else 0))) 2)) [] (by kernel_rfl) (by kernel_rfl) hX (by kernel_rfl) allp0 ?_
    refine Det.retA (by kernel_rfl) ?_
    refine fin_r (Value.int IntKind.i64 (riskOf c n U who price qty)) (by kernel_rfl) (by kernel_rfl) ?_
    exact ⟨by rw [show riskOf c n U who price qty = 0 by assumption], use_done B (by assumption) (if_pos (by assumption)), rfl, fun i hi => by rw [Heap.get_put, if_neg hi]⟩
  · refine Det.condF (by kernel_rfl) (riskOf c n U who price qty == 0) (by kernel_rfl) (beq_eq_false_iff_ne.2 (by exact c5)) ?_
    refine Det.skipA (by kernel_rfl) ?_
    refine then_n (by kernel_rfl) ?_
    refine Det.sreg [] [(20, Value.bool (riskOf c n U who price qty == 0)), (0, Value.pointer (some { block := q, off := 0 })), (1, Value.int IntKind.i64 who), (3, Value.int IntKind.i64 qty), (2, Value.int IntKind.i64 price), (9, Value.int IntKind.i64 (if riskOf c n U who price qty = 0 then newOf U who price qty else 0)), (10, Value.int IntKind.i64 (riskOf c n U who price qty)), (8, Value.int IntKind.i64 (riskOf c n U who price qty))] (h) [] (by kernel_rfl) (by kernel_rfl) hX (by kernel_rfl) allp0 ?_
    refine Det.retA (by kernel_rfl) ?_
    refine fin_r (Value.int IntKind.i64 (riskOf c n U who price qty)) (by kernel_rfl) (by kernel_rfl) ?_
    exact ⟨rfl, use_not B (by assumption), rfl, fun i hi => rfl⟩
theorem ref_Use (h : Heap) {q s u n : Nat} {c U : List Value} (B : BookIn h 49 q s u n c U) (who price qty : Int) (hp : price ≤ 9223372036854775807) (hq : qty ≤ 9223372036854775807) :
    DetFn Try.prog 22 [.pointer (some ⟨q, 0, none⟩), .int .i64 who, .int .i64 price, .int .i64 qty] h fun v h' => v = .int .i64 (riskOf c n U who price qty) ∧ BookIn h' 49 q s u n c (newUOf c n U who price qty) ∧ h'.next = h.next ∧ ∀ i, i ≠ u → h'.get i = h.get i := by
  have lU : U.length = n := by have := B.uels.size; simpa using this
  refine Det.enterS Try.f22 [(0, .pointer (some ⟨q, 0, none⟩)), (1, .int .i64 who), (2, .int .i64 price), (3, .int .i64 qty)] Try.func22 (by kernel_rfl) (of_decide_eq_true (by kernel_rfl)) (by kernel_rfl) ?_
  refine Det.sreg [] [(2, Value.int IntKind.i64 price), (3, Value.int IntKind.i64 qty), (1, Value.int IntKind.i64 who), (0, Value.pointer (some { block := q, off := 0 })), (8, Value.int IntKind.i64 0)] (h) [] (by kernel_rfl) (by kernel_rfl) hX (by kernel_rfl) allp0 ?_
  (obtain ⟨_, E15, rfl⟩ := DetFn.same (ref_Risk (h) B who price qty hp hq); have hz := @risk_zero c n U who price qty)
  refine Det.sreg [(4, .m (Value.int IntKind.i64 (riskOf c n U who price qty)) (h))] [(8, Value.int IntKind.i64 0), (0, Value.pointer (some { block := q, off := 0 })), (1, Value.int IntKind.i64 who), (3, Value.int IntKind.i64 qty), (2, Value.int IntKind.i64 price), (9, Value.int IntKind.i64 (riskOf c n U who price qty))] (h) [DoesOk Try.prog 21 [Value.pointer (some { block := q, off := 0 }), Value.int IntKind.i64 who, Value.int IntKind.i64 price, Value.int IntKind.i64 qty] (h) (Value.int IntKind.i64 (riskOf c n U who price qty)) (h)] (by kernel_rfl) (by kernel_rfl) hX (by kernel_rfl) (allp E15 allp0) ?_
  refine Det.seqA (by kernel_rfl) ?_
  refine Det.sreg [] [(9, Value.int IntKind.i64 (riskOf c n U who price qty)), (2, Value.int IntKind.i64 price), (3, Value.int IntKind.i64 qty), (1, Value.int IntKind.i64 who), (0, Value.pointer (some { block := q, off := 0 })), (8, Value.int IntKind.i64 0), (16, Value.bool (riskOf c n U who price qty == 0))] (h) [] (by kernel_rfl) (by kernel_rfl) hX (by kernel_rfl) allp0 ?_
  by_cases c5 : riskOf c n U who price qty = 0
  · refine Det.condT (by kernel_rfl) (riskOf c n U who price qty == 0) (by kernel_rfl) (beq_iff_eq.2 (by exact c5)) ?_
    refine Det.regD [(3, .v (Value.slice (some { block := u, off := 0 }) n n)), (4, .v (Value.slice (some { block := u, off := 0 }) n n)), (1, .v (Value.pointer (some { block := u, off := Int.toNat who }))), (0, .v (Value.int IntKind.i64 (nAt U (Int.toNat who)))), (2, .s (Value.int IntKind.i64 (price * qty))), (0, .s (Value.int IntKind.i64 (nAt U (Int.toNat who) + price * qty))), (0, .v (Value.pointer (some { block := u, off := Int.toNat who }))), (0, .m undef (Heap.put h u (Thing.row (List.set U (Int.toNat who) (Value.int IntKind.i64 (nAt U (Int.toNat who) + price * qty))) 2)))] [(16, Value.bool (riskOf c n U who price qty == 0)), (8, Value.int IntKind.i64 0), (0, Value.pointer (some { block := q, off := 0 })), (1, Value.int IntKind.i64 who), (3, Value.int IntKind.i64 qty), (2, Value.int IntKind.i64 price), (9, Value.int IntKind.i64 (riskOf c n U who price qty))] (Heap.put h u (Thing.row (List.set U (Int.toNat who) (Value.int IntKind.i64 (nAt U (Int.toNat who) + price * qty))) 2)) [aload Try.prog (h) 47 (Value.pointer (some { block := q, off := 1 })) = some (Value.slice (some { block := u, off := 0 }) n n), aload Try.prog (h) 47 (Value.pointer (some { block := q, off := 1 })) = some (Value.slice (some { block := u, off := 0 }) n n), aindexAddr Try.prog 47 (Value.slice (some { block := u, off := 0 }) n n) (Value.int IntKind.i64 who) = some (Value.pointer (some { block := u, off := Int.toNat who })), aload Try.prog (h) 2 (Value.pointer (some { block := u, off := Int.toNat who })) = some (Value.int IntKind.i64 (nAt U (Int.toNat who))), (Value.int IntKind.i64 (IntKind.wrap IntKind.i64 (price * qty))) = (Value.int IntKind.i64 (price * qty)), (Value.int IntKind.i64 (IntKind.wrap IntKind.i64 (nAt U (Int.toNat who) + price * qty))) = (Value.int IntKind.i64 (nAt U (Int.toNat who) + price * qty)), aindexAddr Try.prog 47 (Value.slice (some { block := u, off := 0 }) n n) (Value.int IntKind.i64 who) = some (Value.pointer (some { block := u, off := Int.toNat who })), undef = undef ∧ astore Try.prog h 2 (Value.pointer (some { block := u, off := Int.toNat who })) (Value.int IntKind.i64 (nAt U (Int.toNat who) + price * qty)) = some (Heap.put h u (Thing.row (List.set U (Int.toNat who) (Value.int IntKind.i64 (nAt U (Int.toNat who) + price * qty))) 2))] [] (by kernel_rfl) hmix hX (by kernel_rfl) (by kernel_rfl) (allp (aload_cell B.row (by kernel_rfl) (by kernel_rfl)) (allp (aload_cell B.row (by kernel_rfl) (by kernel_rfl)) (allp (B.uses.index Try.underlying47 (w := 1) (by kernel_rfl) (hz (by assumption)).2.1 (hz (by assumption)).2.2.1 (by first | rfl | omega)) (allp (used_load B.uses (j := who.toNat) (by have := hz (by assumption); omega) (by omega)) (allp (congrArg _ (by (rw [IntKind.wrap_i64]; omega))) (allp (congrArg _ (by (rw [IntKind.wrap_i64]; omega))) (allp (B.uses.index Try.underlying47 (w := 1) (by kernel_rfl) (hz (by assumption)).2.1 (hz (by assumption)).2.2.1 (by first | rfl | omega)) (allp (astore_set B.us (by kernel_rfl) rfl rfl (by have := hz (by assumption); omega)) allp0)))))))) allp0 ?_
    refine then_n (by kernel_rfl) ?_
    refine Det.sreg [] [(9, Value.int IntKind.i64 (riskOf c n U who price qty)), (2, Value.int IntKind.i64 price), (3, Value.int IntKind.i64 qty), (1, Value.int IntKind.i64 who), (0, Value.pointer (some { block := q, off := 0 })), (16, Value.bool (riskOf c n U who price qty == 0)), (8, Value.int IntKind.i64 (riskOf c n U who price qty))] (Heap.put h u (Thing.row (List.set U (Int.toNat who) (Value.int IntKind.i64 (nAt U (Int.toNat who) + price * qty))) 2)) [] (by kernel_rfl) (by kernel_rfl) hX (by kernel_rfl) allp0 ?_
    refine Det.retA (by kernel_rfl) ?_
    refine fin_r (Value.int IntKind.i64 (riskOf c n U who price qty)) (by kernel_rfl) (by kernel_rfl) ?_
    exact ⟨by rw [show riskOf c n U who price qty = 0 by assumption], use_done B (by assumption) (hz (by assumption)).2.2.2.2.2.2.2.2.2.1.symm, rfl, fun i hi => by rw [Heap.get_put, if_neg hi]⟩
  · refine Det.condF (by kernel_rfl) (riskOf c n U who price qty == 0) (by kernel_rfl) (beq_eq_false_iff_ne.2 (by exact c5)) ?_
    refine Det.skipA (by kernel_rfl) ?_
    refine then_n (by kernel_rfl) ?_
    refine Det.sreg [] [(16, Value.bool (riskOf c n U who price qty == 0)), (0, Value.pointer (some { block := q, off := 0 })), (1, Value.int IntKind.i64 who), (3, Value.int IntKind.i64 qty), (2, Value.int IntKind.i64 price), (9, Value.int IntKind.i64 (riskOf c n U who price qty)), (8, Value.int IntKind.i64 (riskOf c n U who price qty))] (h) [] (by kernel_rfl) (by kernel_rfl) hX (by kernel_rfl) allp0 ?_
    refine Det.retA (by kernel_rfl) ?_
    refine fin_r (Value.int IntKind.i64 (riskOf c n U who price qty)) (by kernel_rfl) (by kernel_rfl) ?_
    exact ⟨rfl, use_not B (by assumption), rfl, fun i hi => rfl⟩
end Go.Proofs.Ytmpendenaflonaa.Eng
