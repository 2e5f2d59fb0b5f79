/- The engine, part 4b: operations on numbers that are left open, by a table, and that the table is right. -/
import Derived.Test.YthijllagngkbgaaGreatEngPure
namespace Go.Proofs.YthijllagngkbgaaGreat.Eng
open Go

/-- two whole numbers, one operation -/
def intOp (op : BinOp) (x y : Value) : Option Value := match x, y with
  | .int k a, .int k' b => (match op with
    | .shl | .shr => ashift op k a b
    | _ => if k = k' then aint op k a b else none)
  | _, _ => none
def isNum (o : Option Value) (v : Value) : Bool := match o, v with
  | some (.int k a), .int j b => decide (k = j) && decide (a = b)
  | some (.bool a), .bool b => decide (a = b)
  | _, _ => false
theorem isNum_eq {o : Option Value} {v : Value} (h : isNum o v = true) : o = some v := by
  unfold isNum at h
  split at h
  · simp only [Bool.and_eq_true, decide_eq_true_eq] at h; obtain ⟨rfl, rfl⟩ := h; rfl
  · simp only [decide_eq_true_eq] at h; subst h; rfl
  · cases h
def upTo : Nat → (Nat → Bool) → Bool
  | 0, _ => true
  | n + 1, f => f (n + 1) && upTo n f
theorem upTo_spec : ∀ {n : Nat} {f : Nat → Bool}, upTo n f = true → ∀ i, 1 ≤ i → i ≤ n → f i = true
  | 0, f, _, i, h1, h2 => by omega
  | n + 1, f, h, i, h1, h2 => by
    simp only [upTo, Bool.and_eq_true] at h
    by_cases e : i = n + 1
    · subst e; exact h.1
    · exact upTo_spec h.2 i h1 (by omega)
def Row3.right (e : Row3) (p q : Nat) : Bool := isNum (intOp e.op (e.x.num p q) (e.y.num p q)) (e.r.num p q)
/-- a number of the price, or none of them -/
def Od.onlyP : Od → Bool
  | .t _ i => Nat.blt i 100
  | _ => true
def Od.onlyQ : Od → Bool
  | .t _ i => Nat.ble 100 i && Nat.blt i 200
  | _ => true
theorem Od.num_P {o : Od} (h : o.onlyP = true) (p q q' : Nat) : o.num p q = o.num p q' := by
  cases o with
  | t k i =>
    have hi : i < 100 := by simpa [Od.onlyP, Nat.blt_eq] using h
    have : Nat.ble 100 i = false := by
      cases e : Nat.ble 100 i with
      | false => rfl
      | true => have := Nat.le_of_ble_eq_true e; omega
    simp only [Od.num, valN, this]
  | _ => rfl
theorem Od.num_Q {o : Od} (h : o.onlyQ = true) (p p' q : Nat) : o.num p q = o.num p' q := by
  cases o with
  | t k i =>
    have hi : 100 ≤ i ∧ i < 200 := by simpa [Od.onlyQ, Nat.blt_eq] using h
    have h1 : Nat.ble 100 i = true := Nat.ble_eq_true_of_le hi.1
    have h2 : Nat.ble 200 i = false := by
      cases e : Nat.ble 200 i with
      | false => rfl
      | true => have := Nat.le_of_ble_eq_true e; omega
    simp only [Od.num, valN, h1, h2]
  | _ => rfl
def Row3.okP (e : Row3) : Bool := e.x.onlyP && e.y.onlyP && e.r.onlyP && upTo 100 fun p => !(e.ps.elem (clsP p)) || e.right p 1
def Row3.okQ (e : Row3) : Bool := e.x.onlyQ && e.y.onlyQ && e.r.onlyQ && upTo 10 fun q => !(e.qs.elem (clsQ q)) || e.right 1 q
theorem tabP_ok : tabP.all Row3.okP = true := by decide +kernel
theorem tabQ_ok : tabQ.all Row3.okQ = true := by decide +kernel
/-- what a row says holds -/
theorem Row3.spec_P {e : Row3} (he : e ∈ tabP) {c p q : Nat} (hc : Cls c p q) (hp : e.ps.elem (c % 4) = true) : intOp e.op (e.x.num p q) (e.y.num p q) = some (e.r.num p q) := by
  have h := List.all_eq_true.mp tabP_ok e he
  simp only [Row3.okP, Bool.and_eq_true] at h
  obtain ⟨⟨⟨hx, hy⟩, hr⟩, hu⟩ := h
  obtain ⟨h1, h2, h3, h4, h5, h6⟩ := hc
  have := upTo_spec hu p h1 h2
  rw [← h5, hp] at this
  rw [Od.num_P hx p q 1, Od.num_P hy p q 1, Od.num_P hr p q 1]
  exact isNum_eq (by simpa [Row3.right] using this)
theorem Row3.spec_Q {e : Row3} (he : e ∈ tabQ) {c p q : Nat} (hc : Cls c p q) (hp : e.qs.elem (c / 4) = true) : intOp e.op (e.x.num p q) (e.y.num p q) = some (e.r.num p q) := by
  have h := List.all_eq_true.mp tabQ_ok e he
  simp only [Row3.okQ, Bool.and_eq_true] at h
  obtain ⟨⟨⟨hx, hy⟩, hr⟩, hu⟩ := h
  obtain ⟨h1, h2, h3, h4, h5, h6⟩ := hc
  have := upTo_spec hu q h3 h4
  rw [← h6, hp] at this
  rw [Od.num_Q hx p 1 q, Od.num_Q hy p 1 q, Od.num_Q hr p 1 q]
  exact isNum_eq (by simpa [Row3.right] using this)

/-! ### the look into the table -/
def Od.same : Od → Od → Bool
  | .n k a, .n j d => decide (k = j) && decide (a = d)
  | .t k i, .t j l => Nat.beq k j && Nat.beq i l
  | _, _ => false
theorem Od.same_eq {x y : Od} (h : x.same y = true) : x = y := by
  unfold Od.same at h
  split at h
  · simp only [Bool.and_eq_true, decide_eq_true_eq] at h; obtain ⟨rfl, rfl⟩ := h; rfl
  · simp only [Bool.and_eq_true] at h
    rw [Nat.eq_of_beq_eq_true h.1, Nat.eq_of_beq_eq_true h.2]
  · cases h
def findP (c : Nat) (op : BinOp) (x y : Od) : List Row3 → Option Od
  | [] => none
  | e :: r => match x.same e.x && y.same e.y && decide (op = e.op) && e.ps.elem (c % 4) with
    | true => some e.r
    | false => findP c op x y r
def findQ (c : Nat) (op : BinOp) (x y : Od) : List Row3 → Option Od
  | [] => none
  | e :: r => match x.same e.x && y.same e.y && decide (op = e.op) && e.qs.elem (c / 4) with
    | true => some e.r
    | false => findQ c op x y r
theorem findP_spec {c : Nat} {op : BinOp} {x y o : Od} : ∀ {l : List Row3}, findP c op x y l = some o → ∃ e ∈ l, x = e.x ∧ y = e.y ∧ op = e.op ∧ o = e.r ∧ e.ps.elem (c % 4) = true
  | [], h => by cases h
  | e :: r, h => by
    unfold findP at h
    split at h
    · rename_i hb
      simp only [Bool.and_eq_true, decide_eq_true_eq] at hb
      obtain ⟨⟨⟨h1, h2⟩, h3⟩, h4⟩ := hb
      exact ⟨e, List.mem_cons_self, Od.same_eq h1, Od.same_eq h2, h3, (Option.some.inj h).symm, h4⟩
    · obtain ⟨e', h1, h2⟩ := findP_spec h
      exact ⟨e', List.mem_cons_of_mem _ h1, h2⟩
theorem findQ_spec {c : Nat} {op : BinOp} {x y o : Od} : ∀ {l : List Row3}, findQ c op x y l = some o → ∃ e ∈ l, x = e.x ∧ y = e.y ∧ op = e.op ∧ o = e.r ∧ e.qs.elem (c / 4) = true
  | [], h => by cases h
  | e :: r, h => by
    unfold findQ at h
    split at h
    · rename_i hb
      simp only [Bool.and_eq_true, decide_eq_true_eq] at hb
      obtain ⟨⟨⟨h1, h2⟩, h3⟩, h4⟩ := hb
      exact ⟨e, List.mem_cons_self, Od.same_eq h1, Od.same_eq h2, h3, (Option.some.inj h).symm, h4⟩
    · obtain ⟨e', h1, h2⟩ := findQ_spec h
      exact ⟨e', List.mem_cons_of_mem _ h1, h2⟩
def Od.small : Od → Bool
  | .t k i => Nat.blt k 16 && Nat.blt i 256
  | _ => true
theorem small_ok : (tabP ++ tabQ).all (fun e => e.r.small) = true := by decide +kernel
/-- of the sum of bytes -/
def findB (op : BinOp) (x y : Od) : Option Od := match op, x, y with
  | .shr, .t 3 200, .n _ (.ofNat a) => (match Nat.beq a 24, Nat.beq a 16, Nat.beq a 8, Nat.beq a 0 with
    | true, _, _, _ => some (.t 3 201)
    | _, true, _, _ => some (.t 3 202)
    | _, _, true, _ => some (.t 3 203)
    | _, _, _, true => some (.t 3 200)
    | _, _, _, _ => none)
  | _, _, _ => none
theorem shr_nat (s a d : Nat) (ha : a ≤ 32) (hd : 2 ^ a = d) : ashift .shr .u32 (.ofNat s) (.ofNat a) = some (.int .u32 (.ofNat (s / d))) := by
  subst hd
  have e : min a 32 = a := Nat.min_eq_left ha
  have h1 : ¬ (Int.ofNat a < 0) := by show ¬ ((a : Int) < 0); omega
  unfold ashift
  rw [if_neg h1]
  simp only [Int.toNat_natCast, Int.ofNat_eq_natCast, IntKind.bits, e]
  congr 2
  have h2 : ((2 : Int) ^ a) = ((2 ^ a : Nat) : Int) := by simp
  rw [h2, Int.fdiv_eq_ediv_of_nonneg _ (Int.natCast_nonneg _)]
  rfl
theorem findB_spec {p q : Nat} {op : BinOp} {x y o : Od} (h : findB op x y = some o) : intOp op (x.num p q) (y.num p q) = some (o.num p q) ∧ o.small = true := by
  unfold findB at h
  split at h
  · rename_i k a
    have go : ∀ d j, 2 ^ a = d → a ≤ 32 → (valN p q 200) / d = valN p q j → Nat.blt j 256 = true → intOp .shr ((Od.t 3 200).num p q) ((Od.n k (.ofNat a)).num p q) = some ((Od.t 3 j).num p q) ∧ (Od.t 3 j).small = true := by
      intro d j h1 h2 h3 h4
      refine ⟨?_, by simp only [Od.small, h4]; rfl⟩
      show ashift .shr .u32 (.ofNat (valN p q 200)) (.ofNat a) = _
      rw [shr_nat _ a d h2 h1, h3]
      rfl
    split at h
    · rename_i e
      obtain rfl := Nat.eq_of_beq_eq_true e
      obtain rfl := Option.some.inj h
      exact go 16777216 201 (by decide) (by omega) rfl (by decide)
    · rename_i e _
      obtain rfl := Nat.eq_of_beq_eq_true e
      obtain rfl := Option.some.inj h
      exact go 65536 202 (by decide) (by omega) rfl (by decide)
    · rename_i e _ _
      obtain rfl := Nat.eq_of_beq_eq_true e
      obtain rfl := Option.some.inj h
      exact go 256 203 (by decide) (by omega) rfl (by decide)
    · rename_i e _ _ _
      obtain rfl := Nat.eq_of_beq_eq_true e
      obtain rfl := Option.some.inj h
      exact go 1 200 (by decide) (by omega) (Nat.div_one _) (by decide)
    · cases h
  · cases h
def findT (c : Nat) (op : BinOp) (x y : Od) : Option Od := match findP c op x y tabP with
  | some o => some o
  | none => match findQ c op x y tabQ with
    | some o => some o
    | none => findB op x y
theorem findT_spec {c p q : Nat} {op : BinOp} {x y o : Od} (hc : Cls c p q) (h : findT c op x y = some o) : intOp op (x.num p q) (y.num p q) = some (o.num p q) ∧ o.small = true := by
  unfold findT at h
  split at h
  · rename_i o' h1
    obtain rfl := Option.some.inj h
    obtain ⟨e, he, rfl, rfl, rfl, rfl, hp⟩ := findP_spec h1
    exact ⟨Row3.spec_P he hc hp, List.all_eq_true.mp small_ok e (List.mem_append.2 (.inl he))⟩
  · split at h
    · rename_i o' h1
      obtain rfl := Option.some.inj h
      obtain ⟨e, he, rfl, rfl, rfl, rfl, hp⟩ := findQ_spec h1
      exact ⟨Row3.spec_Q he hc hp, List.all_eq_true.mp small_ok e (List.mem_append.2 (.inr he))⟩
    · exact findB_spec h
def RowC.right (e : RowC) (p q : Nat) : Bool := decide ((kOf e.k).wrap (.ofNat (valN p q e.i)) = .ofNat (valN p q e.r))
def RowC.okP (e : RowC) : Bool := (Od.t e.k e.i).onlyP && (Od.t e.k e.r).onlyP && upTo 100 fun p => !(e.ps.elem (clsP p)) || e.right p 1
def RowC.okQ (e : RowC) : Bool := (Od.t e.k e.i).onlyQ && (Od.t e.k e.r).onlyQ && upTo 10 fun q => !(e.qs.elem (clsQ q)) || e.right 1 q
theorem tabC_ok : tabC.all RowC.okP = true := by decide +kernel
theorem tabD_ok : tabD.all RowC.okQ = true := by decide +kernel
theorem RowC.spec_P {e : RowC} (he : e ∈ tabC) {c p q : Nat} (hc : Cls c p q) (hp : e.ps.elem (c % 4) = true) : (kOf e.k).wrap (.ofNat (valN p q e.i)) = .ofNat (valN p q e.r) := by
  have h := List.all_eq_true.mp tabC_ok e he
  simp only [RowC.okP, Bool.and_eq_true] at h
  obtain ⟨⟨hx, hr⟩, hu⟩ := h
  obtain ⟨h1, h2, h3, h4, h5, h6⟩ := hc
  have := upTo_spec hu p h1 h2
  rw [← h5, hp] at this
  have e1 := Od.num_P hx p q 1
  have e2 := Od.num_P hr p q 1
  simp only [Od.num, Value.int.injEq, true_and] at e1 e2
  rw [e1, e2]
  simpa [RowC.right] using this
theorem RowC.spec_Q {e : RowC} (he : e ∈ tabD) {c p q : Nat} (hc : Cls c p q) (hp : e.qs.elem (c / 4) = true) : (kOf e.k).wrap (.ofNat (valN p q e.i)) = .ofNat (valN p q e.r) := by
  have h := List.all_eq_true.mp tabD_ok e he
  simp only [RowC.okQ, Bool.and_eq_true] at h
  obtain ⟨⟨hx, hr⟩, hu⟩ := h
  obtain ⟨h1, h2, h3, h4, h5, h6⟩ := hc
  have := upTo_spec hu q h3 h4
  rw [← h6, hp] at this
  have e1 := Od.num_Q hx p 1 q
  have e2 := Od.num_Q hr p 1 q
  simp only [Od.num, Value.int.injEq, true_and] at e1 e2
  rw [e1, e2]
  simpa [RowC.right] using this
def kindNo : IntKind → Option Nat
  | .i64 => some 0
  | .u8 => some 1
  | .u64 => some 2
  | .u32 => some 3
  | _ => none
theorem kindNo_eq {k : IntKind} {j : Nat} (h : kindNo k = some j) : kOf j = k ∧ j < 16 := by
  cases k <;> simp only [kindNo, Option.some.injEq] at h <;> first | (cases h; done) | (subst h; exact ⟨rfl, by omega⟩)
def findC (c i k : Nat) (big : Bool) : List RowC → Option Nat
  | [] => none
  | e :: r => match Nat.beq i e.i && Nat.beq k e.k && (match big with | false => e.ps.elem (c % 4) | true => e.qs.elem (c / 4)) && Nat.blt e.r 256 with
    | true => some e.r
    | false => findC c i k big r
theorem findC_spec {c i k o : Nat} {big : Bool} : ∀ {l : List RowC}, findC c i k big l = some o → ∃ e ∈ l, i = e.i ∧ k = e.k ∧ (match big with | false => e.ps.elem (c % 4) | true => e.qs.elem (c / 4)) = true ∧ o = e.r ∧ o < 256
  | [], h => by cases h
  | e :: r, h => by
    unfold findC at h
    split at h
    · rename_i hb
      simp only [Bool.and_eq_true] at hb
      obtain ⟨⟨⟨h1, h2⟩, h3⟩, h4⟩ := hb
      obtain rfl := Option.some.inj h
      exact ⟨e, List.mem_cons_self, Nat.eq_of_beq_eq_true h1, Nat.eq_of_beq_eq_true h2, h3, rfl, by simpa [Nat.blt_eq] using h4⟩
    · obtain ⟨e', h1, h2⟩ := findC_spec h
      exact ⟨e', List.mem_cons_of_mem _ h1, h2⟩
/-- the bytes of the sum -/
def findS (i k : Nat) : Option Nat := match i, k with
  | 200, 1 => some 207
  | 201, 1 => some 204
  | 202, 1 => some 205
  | 203, 1 => some 206
  | _, _ => none
theorem byte_wrap (n : Nat) : IntKind.u8.wrap (.ofNat n) = .ofNat (n % 256) := by
  have : IntKind.u8.wrap (.ofNat n) = (n : Int) % 256 := by simp [IntKind.wrap, IntKind.bits, IntKind.signed]
  rw [this]; rfl
theorem findS_spec {p q i k o : Nat} (h : findS i k = some o) : (kOf k).wrap (.ofNat (valN p q i)) = .ofNat (valN p q o) ∧ o < 256 := by
  unfold findS at h
  split at h <;> first
    | (obtain rfl := Option.some.inj h; exact ⟨byte_wrap _, by omega⟩)
    | cases h
def findK (c i k : Nat) : Option Nat := match findC c i k false tabC with
  | some o => some o
  | none => match findC c i k true tabD with
    | some o => some o
    | none => findS i k
theorem findK_spec {c p q i k o : Nat} (hc : Cls c p q) (h : findK c i k = some o) : (kOf k).wrap (.ofNat (valN p q i)) = .ofNat (valN p q o) ∧ o < 256 := by
  unfold findK at h
  split at h
  · rename_i o' h1
    obtain rfl := Option.some.inj h
    obtain ⟨e, he, rfl, rfl, hp, rfl, hl⟩ := findC_spec h1
    exact ⟨RowC.spec_P he hc hp, hl⟩
  · split at h
    · rename_i o' h1
      obtain rfl := Option.some.inj h
      obtain ⟨e, he, rfl, rfl, hp, rfl, hl⟩ := findC_spec h1
      exact ⟨RowC.spec_Q he hc hp, hl⟩
    · exact findS_spec h
/-- a token's row, kind, number -/
def tokBin (op : BinOp) (x y : Value) : Option Value := match x, y with
  | .complex .f64 r m, .int k b => (findT (m / 4096) op (.t (m % 16) (m / 16 % 256)) (.n k b)).map (Od.tok r (m / 4096))
  | .int k a, .complex .f64 r m => (findT (m / 4096) op (.n k a) (.t (m % 16) (m / 16 % 256))).map (Od.tok r (m / 4096))
  | .complex .f64 r m, .complex .f64 r' m' => if r = r' ∧ m / 4096 = m' / 4096 then (findT (m / 4096) op (.t (m % 16) (m / 16 % 256)) (.t (m' % 16) (m' / 16 % 256))).map (Od.tok r (m / 4096)) else none
  | _, _ => none
theorem tok_rel {ρ : Where} {r c p q : Nat} {l : Loc} (hρ : ρ r = some l) (hk : l.kind = .vals p q) (hc : Cls c p q) {o : Od} (ho : o.small = true) : VRel ρ (o.tok r c) (o.num p q) := by
  cases o with
  | n k a => exact .int k a
  | b x => exact .bool x
  | t k i =>
    have h1 : k < 16 ∧ i < 256 := by simpa [Od.small, Nat.blt_eq] using ho
    obtain ⟨h1, h2⟩ := h1
    refine .tok _ _ _ ⟨l, p, q, hρ, hk, ?_, ?_⟩
    · rw [show (4096 * c + 16 * i + k) / 4096 = c by omega]; exact hc
    · rw [show (4096 * c + 16 * i + k) % 16 = k by omega, show (4096 * c + 16 * i + k) / 16 % 256 = i by omega]; rfl
end Go.Proofs.YthijllagngkbgaaGreat.Eng
