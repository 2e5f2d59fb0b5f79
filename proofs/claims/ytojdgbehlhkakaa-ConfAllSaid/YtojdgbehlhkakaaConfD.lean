/- What the reference's Match comes to, over the engine's memory; the law ConfMatches. -/
import Derived.Test.YtojdgbehlhkakaaConfC
namespace Go.Proofs.Ytojdgbehlhkakaa.Eng
open Go Go.Proofs
set_option maxRecDepth 100000
set_option maxHeartbeats 4000000
set_option linter.unusedVariables false
theorem got_more {co : List Value} {no j : Nat} (hj : j < no) (hk : nAt co (j * 8 + 1) = 28) : ∃ r, gotI co no = gotI co j ++ [j] ++ r := by
  obtain ⟨r, hr⟩ := gotI_pre co (j + 1) (no - (j + 1))
  exact ⟨r, by rw [← gotI_yes hk, ← hr]; congr 1; omega⟩
theorem ref_no1 {cl co : List Value} {nl no j : Nat} {D : List Nat} (hD : D = gotI co j) (hj : j < no) (hk : nAt co (j * 8 + 1) = 28) (hn : 2 * nl ≤ D.length) : false = true ↔ MatchP cl nl co no := by
  refine ⟨fun x => (by cases x), fun h => ?_⟩
  obtain ⟨r, hr⟩ := got_more hj hk
  have := h.1
  rw [hr, ← hD, List.length_append, List.length_append, List.length_singleton] at this
  omega
theorem ref_no2 {cl co : List Value} {nl no j : Nat} {D : List Nat} (hD : D = gotI co j) (hj : j < no) (hk : nAt co (j * 8 + 1) = 28) (he : eqE co j (wantL cl nl) D.length = false) : false = true ↔ MatchP cl nl co no := by
  refine ⟨fun x => (by cases x), fun h => ?_⟩
  obtain ⟨r, hr⟩ := got_more hj hk
  have := h.2 D.length (by rw [hr, ← hD]; simp)
  rw [hr, ← hD] at this
  have e : (D ++ [j] ++ r).getD D.length 0 = j := by simp
  rw [e, he] at this
  cases this
theorem ref_yes {cl co : List Value} {nl no i j : Nat} {D : List Nat} (hD : D = gotI co j) (hi : i = nl) (hj : j = no) (h : ∀ k, k < D.length → eqE co (D.getD k 0) (wantL cl i) k = true) : ((D.length : Int) == ((2 * i : Nat) : Int)) = true ↔ MatchP cl nl co no := by
  subst hi
  subst hj
  subst hD
  rw [beq_iff_eq]
  constructor
  · exact fun e => ⟨by omega, h⟩
  · exact fun e => by have := e.1; omega
theorem ref_step {cl co : List Value} {j : Nat} {D : List Nat} {i : Nat} (h : ∀ k, k < D.length → eqE co (D.getD k 0) (wantL cl i) k = true) (he : eqE co j (wantL cl i) D.length = true) : ∀ k, k < (D ++ [j]).length → eqE co ((D ++ [j]).getD k 0) (wantL cl i) k = true := by
  intro k hk
  by_cases e : k < D.length
  · have : (D ++ [j]).getD k 0 = D.getD k 0 := by simp [List.getElem?_append_left e]
    rw [this]; exact h k e
  · have : k = D.length := by simp at hk; omega
    subst this
    have : (D ++ [j]).getD D.length 0 = j := by simp
    rw [this]; exact he
theorem WantIn.next1 {h g g1 : Heap} {c : List Value} {i r : Nat} (K : Keep h h g) (e4 : Keep g g g1) : WantIn h ((ownH (2 * i) r g1).new (.row (wantL c i ++ wantOne c i) 36)) c (i + 1) g1.next := WantIn.step (K.trans e4).next
theorem out_kind {h : Heap} {a : Option Addr} {n c r o j q : Nat} {cells : List Value} (v : View h outK a n c r o cells) (hj : j < n) (hq : q = o + j * 8 + 1) : aload Try.prog h 3 (.pointer (some ⟨r, q, none⟩)) = some (.int .i64 (nAt cells (j * 8 + 1))) :=
  v.cell (by kernel_rfl) hj (p := 1) (k := .i64) rfl hq
theorem ref_Match (h : Heap) {al ao : Option Addr} {nl pl rl ol no po ro oo : Nat} {cl co : List Value} (vl : View h tradeK al nl pl rl ol cl) (vo : View h outK ao no po ro oo co) (hl : nl ≠ 0 → rl < h.next) (ho : no ≠ 0 → ro < h.next) (hb : nl ≤ 100) (hb2 : no ≤ 1000) :
    DetFn Try.prog 12 [.slice al nl pl, .slice ao no po] h fun u g => (∃ b, u = .bool b ∧ (b = true ↔ MatchP cl nl co no)) ∧ g = h := by
  refine DetFn.quietP ?_
  refine Det.enterS Try.f12 [(0, .slice al nl pl), (1, .slice ao no po)] Try.func12 (by kernel_rfl) (of_decide_eq_true (by kernel_rfl)) (by kernel_rfl) ?_
  refine Det.sreg [] [(1, Value.slice ao no po), (0, Value.slice al nl pl), (4, Value.bool false)] (h) [] (by kernel_rfl) (by kernel_rfl) hX (by kernel_rfl) allp0 ?_
  refine Det.sreg [] [(4, Value.bool false), (0, Value.slice al nl pl), (1, Value.slice ao no po), (5, Value.slice none 0 0)] (h) [] (by kernel_rfl) (by kernel_rfl) hX (by kernel_rfl) allp0 ?_
  refine Det.seqA (by kernel_rfl) ?_
  refine Det.sreg [] [(5, Value.slice none 0 0), (1, Value.slice ao no po), (0, Value.slice al nl pl), (4, Value.bool false), (6, Value.int IntKind.i64 0)] (h) [] (by kernel_rfl) (by kernel_rfl) hX (by kernel_rfl) allp0 ?_
  refine Det.blockA (by kernel_rfl) ?_
  refine Det.loopA (by kernel_rfl) (fun x : Nat × Nat => nl - x.1) (fun x => slots [(0, .slice al nl pl), (1, .slice ao no po), (4, .bool false), (5, .slice (ownA (2 * x.1) x.2 8) (2 * x.1) (2 * x.1)), (6, .int .i64 (x.1 : Int))]) (fun x g => x.1 ≤ nl ∧ WantIn h g cl x.1 x.2 ∧ Keep h h g) (0, 0) (slots_sub (by kernel_rfl)) ⟨Nat.zero_le _, WantIn.zero h _ cl, Keep.refl _⟩ ?_
  rintro ⟨i, r⟩ g ⟨hi, W, K⟩
  refine Det.seqA (by kernel_rfl) ?_
  refine Det.sreg [] [(6, Value.int IntKind.i64 (↑i : Int)), (4, Value.bool false), (5, Value.slice (ownA (2 * i) r 8) (2 * i) (2 * i)), (1, Value.slice ao no po), (0, Value.slice al nl pl), (12, Value.bool (decide ((↑i : Int) < (↑nl : Int))))] (g) [] (by kernel_rfl) (by kernel_rfl) hX (by kernel_rfl) allp0 ?_
  by_cases c8 : (↑i : Int) < (↑nl : Int)
  · refine Det.condT (by kernel_rfl) (decide ((↑i : Int) < (↑nl : Int))) (by kernel_rfl) (decide_eq_true (by exact c8)) ?_
    refine Det.skipA (by kernel_rfl) ?_
    refine then_n (by kernel_rfl) ?_
    refine Det.seqA (by kernel_rfl) ?_
    refine Det.blockA (by kernel_rfl) ?_
    (obtain ⟨_, g1, D1, ⟨q, rfl, e1, e2, e3, e4⟩⟩ := ref_Of (nAt cl (i * 8)) (nAt cl (i * 8 + 1)) (nAt cl (i * 8 + 2)) (nAt cl (i * 8 + 3)) (nAt cl (i * 8 + 4)) (nAt cl (i * 8 + 5)) (nAt cl (i * 8 + 6)) (nAt cl (i * 8 + 7)) (g); have W1 := W.mono e4.next (fun q hq => e4.get hq))
    refine Det.reg [(3, .v (Value.pointer (some { block := rl, off := ol + i * 8 }))), (0, .v (Value.agg #[Value.int IntKind.i64 (nAt cl (i * 8)), Value.int IntKind.i64 (nAt cl (i * 8 + 1)), Value.int IntKind.i64 (nAt cl (i * 8 + 2)), Value.int IntKind.i64 (nAt cl (i * 8 + 3)), Value.int IntKind.i64 (nAt cl (i * 8 + 4)), Value.int IntKind.i64 (nAt cl (i * 8 + 5)), Value.int IntKind.i64 (nAt cl (i * 8 + 6)), Value.int IntKind.i64 (nAt cl (i * 8 + 7))])), (0, .m (Value.slice (some { block := q, off := 0 }) 2 2) (g1)), (0, .m (Value.slice (some { block := Heap.next g1, off := 0, spot := some 8 }) (2 * (i + 1)) (2 * (i + 1))) (Heap.new (ownH (2 * i) r g1) (Thing.row (wantL cl (Prod.fst (i, r)) ++ confL (nAt cl (i * 8)) (nAt cl (i * 8 + 1)) (nAt cl (i * 8 + 2)) (nAt cl (i * 8 + 3)) (nAt cl (i * 8 + 4)) (nAt cl (i * 8 + 5))) 36)))] [(12, Value.bool (decide ((↑i : Int) < (↑nl : Int)))), (0, Value.slice al nl pl), (1, Value.slice ao no po), (4, Value.bool false), (6, Value.int IntKind.i64 (↑i : Int)), (5, Value.slice (some { block := Heap.next g1, off := 0, spot := some 8 }) (2 * (i + 1)) (2 * (i + 1)))] (Heap.new (ownH (2 * i) r g1) (Thing.row (wantL cl (Prod.fst (i, r)) ++ confL (nAt cl (i * 8)) (nAt cl (i * 8 + 1)) (nAt cl (i * 8 + 2)) (nAt cl (i * 8 + 3)) (nAt cl (i * 8 + 4)) (nAt cl (i * 8 + 5))) 36)) [aindexAddr Try.prog 29 (Value.slice al nl pl) (Value.int IntKind.i64 (↑i : Int)) = some (Value.pointer (some { block := rl, off := ol + i * 8 })), aload Try.prog (g) 23 (Value.pointer (some { block := rl, off := ol + i * 8 })) = some (Value.agg #[Value.int IntKind.i64 (nAt cl (i * 8)), Value.int IntKind.i64 (nAt cl (i * 8 + 1)), Value.int IntKind.i64 (nAt cl (i * 8 + 2)), Value.int IntKind.i64 (nAt cl (i * 8 + 3)), Value.int IntKind.i64 (nAt cl (i * 8 + 4)), Value.int IntKind.i64 (nAt cl (i * 8 + 5)), Value.int IntKind.i64 (nAt cl (i * 8 + 6)), Value.int IntKind.i64 (nAt cl (i * 8 + 7))]), DoesOk Try.prog 9 [Value.agg #[Value.int IntKind.i64 (nAt cl (i * 8)), Value.int IntKind.i64 (nAt cl (i * 8 + 1)), Value.int IntKind.i64 (nAt cl (i * 8 + 2)), Value.int IntKind.i64 (nAt cl (i * 8 + 3)), Value.int IntKind.i64 (nAt cl (i * 8 + 4)), Value.int IntKind.i64 (nAt cl (i * 8 + 5)), Value.int IntKind.i64 (nAt cl (i * 8 + 6)), Value.int IntKind.i64 (nAt cl (i * 8 + 7))]] (g) (Value.slice (some { block := q, off := 0 }) 2 2) (g1), aappend Try.prog g1 #[25, 25] (Value.slice (ownA (2 * i) r 8) (2 * i) (2 * i)) (Value.slice (some { block := q, off := 0 }) 2 2) = some (Value.slice (some { block := Heap.next g1, off := 0, spot := some 8 }) (2 * (i + 1)) (2 * (i + 1)), Heap.new (ownH (2 * i) r g1) (Thing.row (wantL cl (Prod.fst (i, r)) ++ confL (nAt cl (i * 8)) (nAt cl (i * 8 + 1)) (nAt cl (i * 8 + 2)) (nAt cl (i * 8 + 3)) (nAt cl (i * 8 + 4)) (nAt cl (i * 8 + 5))) 36))] (by kernel_rfl) hX (by kernel_rfl) (allp (vl.index Try.underlying29 (w := 8) (by kernel_rfl) (by omega) (by omega) rfl) (allp (trade_load (vl.mono fun x => K.get (hl x)) (by omega) rfl) (allp D1 (allp (outs_append (x := q) W1.row (want_els vl.els i (by omega)).size (by omega) e1 rfl rfl (by omega) (m := 2 * (i + 1)) (by omega)) allp0)))) ?_
    refine then_n (by kernel_rfl) ?_
    refine Det.reg [(1, .s (Value.int IntKind.i64 ((↑i : Int) + 1)))] [(5, Value.slice (some { block := Heap.next g1, off := 0, spot := some 8 }) (2 * (i + 1)) (2 * (i + 1))), (4, Value.bool false), (1, Value.slice ao no po), (0, Value.slice al nl pl), (12, Value.bool (decide ((↑i : Int) < (↑nl : Int)))), (6, Value.int IntKind.i64 ((↑i : Int) + 1))] (Heap.new (ownH (2 * i) r g1) (Thing.row (wantL cl (Prod.fst (i, r)) ++ confL (nAt cl (i * 8)) (nAt cl (i * 8 + 1)) (nAt cl (i * 8 + 2)) (nAt cl (i * 8 + 3)) (nAt cl (i * 8 + 4)) (nAt cl (i * 8 + 5))) 36)) [(Value.int IntKind.i64 (IntKind.wrap IntKind.i64 ((↑i : Int) + 1))) = (Value.int IntKind.i64 ((↑i : Int) + 1))] (by kernel_rfl) hX (by kernel_rfl) (allp (congrArg _ (by (rw [IntKind.wrap_i64]; omega))) allp0) ?_
    refine then_n (by kernel_rfl) ?_
    exact ⟨(i + 1, g1.next), (show nl - (i + 1) < nl - i by omega), slots_sub (by kernel_rfl), (show i + 1 ≤ nl by omega), WantIn.next1 K e4, ((K.trans e4).ownH (fun x => (W.own x).1)).new⟩
  · refine Det.condF (by kernel_rfl) (decide ((↑i : Int) < (↑nl : Int))) (by kernel_rfl) (decide_eq_false (by exact c8)) ?_
    refine Det.exitA (by kernel_rfl) ?_
    refine then_x 0 (by kernel_rfl) ?_
    refine then_x 0 (by kernel_rfl) ?_
    refine then_n (by kernel_rfl) ?_
    refine Det.sreg [] [(12, Value.bool (decide ((↑i : Int) < (↑nl : Int)))), (0, Value.slice al nl pl), (1, Value.slice ao no po), (5, Value.slice (ownA (2 * i) r 8) (2 * i) (2 * i)), (4, Value.bool false), (6, Value.int IntKind.i64 (↑i : Int)), (7, Value.int IntKind.i64 0)] (g) [] (by kernel_rfl) (by kernel_rfl) hX (by kernel_rfl) allp0 ?_
    refine Det.seqA (by kernel_rfl) ?_
    refine Det.sreg [] [(7, Value.int IntKind.i64 0), (6, Value.int IntKind.i64 (↑i : Int)), (4, Value.bool false), (5, Value.slice (ownA (2 * i) r 8) (2 * i) (2 * i)), (1, Value.slice ao no po), (0, Value.slice al nl pl), (12, Value.bool (decide ((↑i : Int) < (↑nl : Int)))), (8, Value.int IntKind.i64 0)] (g) [] (by kernel_rfl) (by kernel_rfl) hX (by kernel_rfl) allp0 ?_
    refine Det.blockA (by kernel_rfl) ?_
    refine Det.loopA (by kernel_rfl) (fun x : Nat × List Nat × Nat => no - x.1) (fun x => slots [(1, .slice ao no po), (4, .bool false), (5, .slice (ownA (2 * i) r 8) (2 * i) (2 * i)), (7, .int .i64 (x.2.2 : Int)), (8, .int .i64 (x.1 : Int))]) (fun x g => x.1 ≤ no ∧ x.2.1 = gotI co x.1 ∧ x.2.2 = x.2.1.length ∧ x.2.1.length ≤ 2 * i ∧ (∀ k, k < x.2.1.length → eqE co (x.2.1.getD k 0) (wantL cl i) k = true) ∧ WantIn h g cl i r ∧ Keep h h g) (0, [], 0) (slots_sub (by kernel_rfl)) ⟨Nat.zero_le _, rfl, rfl, Nat.zero_le _, (fun k hk => absurd hk (Nat.not_lt_zero _)), W, K⟩ ?_
    (rintro ⟨j, D, n⟩ g ⟨hj, hD, hn, hL, hE, W2, K2⟩; simp only [] at hj hD hn hL hE W2 K2)
    refine Det.seqA (by kernel_rfl) ?_
    refine Det.sreg [] [(8, Value.int IntKind.i64 (↑j : Int)), (4, Value.bool false), (5, Value.slice (ownA (2 * i) r 8) (2 * i) (2 * i)), (7, Value.int IntKind.i64 (↑n : Int)), (1, Value.slice ao no po), (25, Value.bool (decide ((↑j : Int) < (↑no : Int))))] (g) [] (by kernel_rfl) (by kernel_rfl) hX (by kernel_rfl) allp0 ?_
    by_cases c21 : (↑j : Int) < (↑no : Int)
    · refine Det.condT (by kernel_rfl) (decide ((↑j : Int) < (↑no : Int))) (by kernel_rfl) (decide_eq_true (by exact c21)) ?_
      refine Det.skipA (by kernel_rfl) ?_
      refine then_n (by kernel_rfl) ?_
      refine Det.seqA (by kernel_rfl) ?_
      refine Det.blockA (by kernel_rfl) ?_
      refine Det.seqA (by kernel_rfl) ?_
      refine Det.sreg [(2, .v (Value.pointer (some { block := ro, off := oo + j * 8 }))), (2, .v (Value.int IntKind.i64 (nAt co (j * 8 + 1))))] [(25, Value.bool (decide ((↑j : Int) < (↑no : Int)))), (1, Value.slice ao no po), (7, Value.int IntKind.i64 (↑n : Int)), (5, Value.slice (ownA (2 * i) r 8) (2 * i) (2 * i)), (4, Value.bool false), (8, Value.int IntKind.i64 (↑j : Int)), (34, Value.bool (nAt co (j * 8 + 1) != 28))] (g) [aindexAddr Try.prog 25 (Value.slice ao no po) (Value.int IntKind.i64 (↑j : Int)) = some (Value.pointer (some { block := ro, off := oo + j * 8 })), aload Try.prog (g) 3 (Value.pointer (some { block := ro, off := oo + j * 8 + 1 })) = some (Value.int IntKind.i64 (nAt co (j * 8 + 1)))] (by kernel_rfl) (by kernel_rfl) hX (by kernel_rfl) (allp (vo.index Try.underlying25 (w := 8) (by kernel_rfl) (by omega) (by omega) rfl) (allp (out_kind (vo.mono fun x => K2.get (ho x)) (j := j) (by omega) rfl) allp0)) ?_
      by_cases c29 : nAt co (j * 8 + 1) = 28
      · refine Det.condF (by kernel_rfl) (nAt co (j * 8 + 1) != 28) (by kernel_rfl) (bne_eq_false_iff_eq.2 (by exact c29)) ?_
        refine Det.skipA (by kernel_rfl) ?_
        refine then_n (by kernel_rfl) ?_
        refine Det.seqA (by kernel_rfl) ?_
        by_cases c34 : (↑(2 * i) : Int) ≤ (↑n : Int)
        · refine Det.sregD [(3, .s (Value.bool true))] [(34, Value.bool (nAt co (j * 8 + 1) != 28)), (8, Value.int IntKind.i64 (↑j : Int)), (4, Value.bool false), (5, Value.slice (ownA (2 * i) r 8) (2 * i) (2 * i)), (7, Value.int IntKind.i64 (↑n : Int)), (1, Value.slice ao no po), (25, Value.bool (decide ((↑j : Int) < (↑no : Int)))), (49, Value.bool true)] (g) [(Value.bool (decide ((↑(2 * i) : Int) ≤ (↑n : Int)))) = (Value.bool true)] [] (by kernel_rfl) (by kernel_rfl) hmix hX (by kernel_rfl) (by kernel_rfl) (allp (congrArg Value.bool (decide_eq_true (by exact c34))) allp0) allp0 ?_
          refine Det.condT (by kernel_rfl) (true) (by kernel_rfl) rfl ?_
          refine Det.sreg [] [(49, Value.bool true), (25, Value.bool (decide ((↑j : Int) < (↑no : Int)))), (1, Value.slice ao no po), (7, Value.int IntKind.i64 (↑n : Int)), (5, Value.slice (ownA (2 * i) r 8) (2 * i) (2 * i)), (8, Value.int IntKind.i64 (↑j : Int)), (34, Value.bool (nAt co (j * 8 + 1) != 28)), (4, Value.bool false)] (g) [] (by kernel_rfl) (by kernel_rfl) hX (by kernel_rfl) allp0 ?_
          refine Det.retA (by kernel_rfl) ?_
          refine then_r (by kernel_rfl) ?_
          refine then_r (by kernel_rfl) ?_
          refine then_r (by kernel_rfl) ?_
          refine then_r (by kernel_rfl) ?_
          refine fin_r (Value.bool false) (by kernel_rfl) (by kernel_rfl) ?_
          exact ⟨⟨bare_any (d := 4) rfl, _, rfl, ref_no1 hD (by omega) (by first | assumption | exact Decidable.of_not_not (by assumption)) (by omega)⟩, K2⟩
        · refine Det.sregD [(3, .s (Value.bool false)), (3, .v (Value.pointer (some { block := ro, off := oo + j * 8 }))), (0, .v (Value.agg #[Value.int IntKind.i64 (nAt co (j * 8)), Value.int IntKind.i64 (nAt co (j * 8 + 1)), Value.int IntKind.i64 (nAt co (j * 8 + 2)), Value.int IntKind.i64 (nAt co (j * 8 + 3)), Value.int IntKind.i64 (nAt co (j * 8 + 4)), Value.int IntKind.i64 (nAt co (j * 8 + 5)), Value.int IntKind.i64 (nAt co (j * 8 + 6)), Value.int IntKind.i64 (nAt co (j * 8 + 7))])), (2, .v (Value.pointer (some { block := r, off := 0 + n * 8 }))), (0, .v (Value.agg #[Value.int IntKind.i64 (nAt (wantL cl i) (n * 8)), Value.int IntKind.i64 (nAt (wantL cl i) (n * 8 + 1)), Value.int IntKind.i64 (nAt (wantL cl i) (n * 8 + 2)), Value.int IntKind.i64 (nAt (wantL cl i) (n * 8 + 3)), Value.int IntKind.i64 (nAt (wantL cl i) (n * 8 + 4)), Value.int IntKind.i64 (nAt (wantL cl i) (n * 8 + 5)), Value.int IntKind.i64 (nAt (wantL cl i) (n * 8 + 6)), Value.int IntKind.i64 (nAt (wantL cl i) (n * 8 + 7))])), (0, .v (Value.bool !eqE co j (wantL cl i) n))] [(34, Value.bool (nAt co (j * 8 + 1) != 28)), (8, Value.int IntKind.i64 (↑j : Int)), (4, Value.bool false), (5, Value.slice (ownA (2 * i) r 8) (2 * i) (2 * i)), (7, Value.int IntKind.i64 (↑n : Int)), (1, Value.slice ao no po), (25, Value.bool (decide ((↑j : Int) < (↑no : Int)))), (49, Value.bool !eqE co j (wantL cl i) n)] (g) [(Value.bool (decide ((↑(2 * i) : Int) ≤ (↑n : Int)))) = (Value.bool false), aindexAddr Try.prog 25 (Value.slice ao no po) (Value.int IntKind.i64 (↑j : Int)) = some (Value.pointer (some { block := ro, off := oo + j * 8 })), aload Try.prog (g) 36 (Value.pointer (some { block := ro, off := oo + j * 8 })) = some (Value.agg #[Value.int IntKind.i64 (nAt co (j * 8)), Value.int IntKind.i64 (nAt co (j * 8 + 1)), Value.int IntKind.i64 (nAt co (j * 8 + 2)), Value.int IntKind.i64 (nAt co (j * 8 + 3)), Value.int IntKind.i64 (nAt co (j * 8 + 4)), Value.int IntKind.i64 (nAt co (j * 8 + 5)), Value.int IntKind.i64 (nAt co (j * 8 + 6)), Value.int IntKind.i64 (nAt co (j * 8 + 7))]), aindexAddr Try.prog 25 (Value.slice (ownA (2 * i) r 8) (2 * i) (2 * i)) (Value.int IntKind.i64 (↑n : Int)) = some (Value.pointer (some { block := r, off := 0 + n * 8 })), aload Try.prog (g) 36 (Value.pointer (some { block := r, off := 0 + n * 8 })) = some (Value.agg #[Value.int IntKind.i64 (nAt (wantL cl i) (n * 8)), Value.int IntKind.i64 (nAt (wantL cl i) (n * 8 + 1)), Value.int IntKind.i64 (nAt (wantL cl i) (n * 8 + 2)), Value.int IntKind.i64 (nAt (wantL cl i) (n * 8 + 3)), Value.int IntKind.i64 (nAt (wantL cl i) (n * 8 + 4)), Value.int IntKind.i64 (nAt (wantL cl i) (n * 8 + 5)), Value.int IntKind.i64 (nAt (wantL cl i) (n * 8 + 6)), Value.int IntKind.i64 (nAt (wantL cl i) (n * 8 + 7))]), abin Try.prog BinOp.neq 36 (Value.agg #[Value.int IntKind.i64 (nAt co (j * 8)), Value.int IntKind.i64 (nAt co (j * 8 + 1)), Value.int IntKind.i64 (nAt co (j * 8 + 2)), Value.int IntKind.i64 (nAt co (j * 8 + 3)), Value.int IntKind.i64 (nAt co (j * 8 + 4)), Value.int IntKind.i64 (nAt co (j * 8 + 5)), Value.int IntKind.i64 (nAt co (j * 8 + 6)), Value.int IntKind.i64 (nAt co (j * 8 + 7))]) (Value.agg #[Value.int IntKind.i64 (nAt (wantL cl i) (n * 8)), Value.int IntKind.i64 (nAt (wantL cl i) (n * 8 + 1)), Value.int IntKind.i64 (nAt (wantL cl i) (n * 8 + 2)), Value.int IntKind.i64 (nAt (wantL cl i) (n * 8 + 3)), Value.int IntKind.i64 (nAt (wantL cl i) (n * 8 + 4)), Value.int IntKind.i64 (nAt (wantL cl i) (n * 8 + 5)), Value.int IntKind.i64 (nAt (wantL cl i) (n * 8 + 6)), Value.int IntKind.i64 (nAt (wantL cl i) (n * 8 + 7))]) = some (Value.bool !eqE co j (wantL cl i) n)] [] (by kernel_rfl) (by kernel_rfl) hmix hX (by kernel_rfl) (by kernel_rfl) (allp (congrArg Value.bool (decide_eq_false (by exact c34))) (allp (vo.index Try.underlying25 (w := 8) (by kernel_rfl) (by omega) (by omega) rfl) (allp (out_load (vo.mono fun x => K2.get (ho x)) (j := j) (by omega) rfl) (allp ((W2.row.view (w := 8) (want_els vl.els i (by omega))).index Try.underlying25 (w := 8) (by kernel_rfl) (by omega) (by omega) rfl) (allp (out_load (W2.row.view (w := 8) (want_els vl.els i (by omega))) (j := n) (by omega) (by omega)) (allp (out_neq co j (wantL cl i) n) allp0)))))) allp0 ?_
          rcases Bool.eq_false_or_eq_true (eqE co j (wantL cl i) n) with c36 | c36
          · refine Det.condF (by kernel_rfl) (!eqE co j (wantL cl i) n) (by kernel_rfl) (not_f (by exact c36)) ?_
            refine Det.skipA (by kernel_rfl) ?_
            refine then_n (by kernel_rfl) ?_
            refine Det.reg [(1, .s (Value.int IntKind.i64 ((↑n : Int) + 1)))] [(49, Value.bool !eqE co j (wantL cl i) n), (25, Value.bool (decide ((↑j : Int) < (↑no : Int)))), (1, Value.slice ao no po), (5, Value.slice (ownA (2 * i) r 8) (2 * i) (2 * i)), (4, Value.bool false), (8, Value.int IntKind.i64 (↑j : Int)), (34, Value.bool (nAt co (j * 8 + 1) != 28)), (7, Value.int IntKind.i64 ((↑n : Int) + 1))] (g) [(Value.int IntKind.i64 (IntKind.wrap IntKind.i64 ((↑n : Int) + 1))) = (Value.int IntKind.i64 ((↑n : Int) + 1))] (by kernel_rfl) hX (by kernel_rfl) (allp (congrArg _ (by (rw [IntKind.wrap_i64]; omega))) allp0) ?_
            refine then_n (by kernel_rfl) ?_
            refine Det.reg [(1, .s (Value.int IntKind.i64 ((↑j : Int) + 1)))] [(7, Value.int IntKind.i64 ((↑n : Int) + 1)), (34, Value.bool (nAt co (j * 8 + 1) != 28)), (4, Value.bool false), (5, Value.slice (ownA (2 * i) r 8) (2 * i) (2 * i)), (1, Value.slice ao no po), (25, Value.bool (decide ((↑j : Int) < (↑no : Int)))), (49, Value.bool !eqE co j (wantL cl i) n), (8, Value.int IntKind.i64 ((↑j : Int) + 1))] (g) [(Value.int IntKind.i64 (IntKind.wrap IntKind.i64 ((↑j : Int) + 1))) = (Value.int IntKind.i64 ((↑j : Int) + 1))] (by kernel_rfl) hX (by kernel_rfl) (allp (congrArg _ (by (rw [IntKind.wrap_i64]; omega))) allp0) ?_
            refine then_n (by kernel_rfl) ?_
            exact ⟨(j + 1, D ++ [j], n + 1), (show no - (j + 1) < no - j by omega), slots_sub (by kernel_rfl), (show j + 1 ≤ no by omega), (show D ++ [j] = gotI co (j + 1) by rw [gotI_yes (by first | assumption | exact Decidable.of_not_not (by assumption)), hD]), (show n + 1 = (D ++ [j]).length by rw [List.length_append, List.length_singleton, hn]), (show (D ++ [j]).length ≤ 2 * i by rw [List.length_append, List.length_singleton]; omega), ref_step hE (by rw [← hn]; assumption), W2, K2⟩
          · refine Det.condT (by kernel_rfl) (!eqE co j (wantL cl i) n) (by kernel_rfl) (not_t (by exact c36)) ?_
            refine Det.sreg [] [(49, Value.bool !eqE co j (wantL cl i) n), (25, Value.bool (decide ((↑j : Int) < (↑no : Int)))), (1, Value.slice ao no po), (7, Value.int IntKind.i64 (↑n : Int)), (5, Value.slice (ownA (2 * i) r 8) (2 * i) (2 * i)), (8, Value.int IntKind.i64 (↑j : Int)), (34, Value.bool (nAt co (j * 8 + 1) != 28)), (4, Value.bool false)] (g) [] (by kernel_rfl) (by kernel_rfl) hX (by kernel_rfl) allp0 ?_
            refine Det.retA (by kernel_rfl) ?_
            refine then_r (by kernel_rfl) ?_
            refine then_r (by kernel_rfl) ?_
            refine then_r (by kernel_rfl) ?_
            refine then_r (by kernel_rfl) ?_
            refine fin_r (Value.bool false) (by kernel_rfl) (by kernel_rfl) ?_
            exact ⟨⟨bare_any (d := 4) rfl, _, rfl, ref_no2 hD (by omega) (by first | assumption | exact Decidable.of_not_not (by assumption)) ((show i = nl by omega) ▸ (show eqE co j (wantL cl i) D.length = false by rw [← hn]; assumption))⟩, K2⟩
      · refine Det.condT (by kernel_rfl) (nAt co (j * 8 + 1) != 28) (by kernel_rfl) (bne_iff_ne.2 (by exact c29)) ?_
        refine Det.exitA (by kernel_rfl) ?_
        refine then_x 3 (by kernel_rfl) ?_
        refine then_n (by kernel_rfl) ?_
        refine Det.reg [(1, .s (Value.int IntKind.i64 ((↑j : Int) + 1)))] [(34, Value.bool (nAt co (j * 8 + 1) != 28)), (4, Value.bool false), (5, Value.slice (ownA (2 * i) r 8) (2 * i) (2 * i)), (7, Value.int IntKind.i64 (↑n : Int)), (1, Value.slice ao no po), (25, Value.bool (decide ((↑j : Int) < (↑no : Int)))), (8, Value.int IntKind.i64 ((↑j : Int) + 1))] (g) [(Value.int IntKind.i64 (IntKind.wrap IntKind.i64 ((↑j : Int) + 1))) = (Value.int IntKind.i64 ((↑j : Int) + 1))] (by kernel_rfl) hX (by kernel_rfl) (allp (congrArg _ (by (rw [IntKind.wrap_i64]; omega))) allp0) ?_
        refine then_n (by kernel_rfl) ?_
        exact ⟨(j + 1, D, n), (show no - (j + 1) < no - j by omega), slots_sub (by kernel_rfl), (show j + 1 ≤ no by omega), (show D = gotI co (j + 1) by rw [gotI_no (by assumption), hD]), hn, hL, hE, W2, K2⟩
    · refine Det.condF (by kernel_rfl) (decide ((↑j : Int) < (↑no : Int))) (by kernel_rfl) (decide_eq_false (by exact c21)) ?_
      refine Det.exitA (by kernel_rfl) ?_
      refine then_x 2 (by kernel_rfl) ?_
      refine then_x 2 (by kernel_rfl) ?_
      refine then_n (by kernel_rfl) ?_
      refine Det.sreg [] [(25, Value.bool (decide ((↑j : Int) < (↑no : Int)))), (1, Value.slice ao no po), (7, Value.int IntKind.i64 (↑n : Int)), (5, Value.slice (ownA (2 * i) r 8) (2 * i) (2 * i)), (8, Value.int IntKind.i64 (↑j : Int)), (4, Value.bool ((↑n : Int) == (↑(2 * i) : Int)))] (g) [] (by kernel_rfl) (by kernel_rfl) hX (by kernel_rfl) allp0 ?_
      refine Det.retA (by kernel_rfl) ?_
      refine fin_r (Value.bool ((↑n : Int) == (↑(2 * i) : Int))) (by kernel_rfl) (by kernel_rfl) ?_
      exact ⟨⟨bare_any (d := 4) rfl, _, rfl, hn ▸ ref_yes hD (show i = nl by omega) (show j = no by omega) hE⟩, K2⟩
end Go.Proofs.Ytojdgbehlhkakaa.Eng
