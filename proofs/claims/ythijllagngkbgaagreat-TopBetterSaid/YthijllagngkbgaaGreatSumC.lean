/- Sums of bytes by plain numbers: what the evaluator may take for the functions of the sum. -/
import Derived.Test.YthijllagngkbgaaGreatSumA
import Derived.Test.YthijllagngkbgaaGreatEngFast2
namespace Go.Proofs.YthijllagngkbgaaGreat.Eng
open Go Go.Proofs

theorem ofInt32 (s : Nat) (hs : s < 4294967296) : (BitVec.ofInt 32 (Int.ofNat s)).toNat = s := by
  rw [BitVec.toNat_ofInt]
  show ((s : Int) % ((2 ^ 32 : Nat) : Int)).toNat = s
  omega
theorem bits_and32 (s t : Nat) (hs : s < 4294967296) (ht : t < 4294967296) : Go.bits .and .u32 (Int.ofNat s) (Int.ofNat t) = Int.ofNat (Nat.land s t) := by
  show IntKind.u32.wrap ((BitVec.ofInt 32 (Int.ofNat s) &&& BitVec.ofInt 32 (Int.ofNat t)).toNat : Int) = _
  rw [wrapU32, BitVec.toNat_and, ofInt32 s hs, ofInt32 t ht]
  have : s &&& t < 2 ^ 32 := Nat.and_lt_two_pow s (by omega)
  show ((s &&& t : Nat) : Int) % 4294967296 = ((s &&& t : Nat) : Int)
  omega
theorem bits_or32 (s t : Nat) (hs : s < 4294967296) (ht : t < 4294967296) : Go.bits .or .u32 (Int.ofNat s) (Int.ofNat t) = Int.ofNat (Nat.lor s t) ∧ Nat.lor s t < 4294967296 := by
  have h1 : s ||| t < 2 ^ 32 := Nat.or_lt_two_pow (by omega) (by omega)
  refine ⟨?_, h1⟩
  show IntKind.u32.wrap ((BitVec.ofInt 32 (Int.ofNat s) ||| BitVec.ofInt 32 (Int.ofNat t)).toNat : Int) = _
  rw [wrapU32, BitVec.toNat_or, ofInt32 s hs, ofInt32 t ht]
  show ((s ||| t : Nat) : Int) % 4294967296 = ((s ||| t : Nat) : Int)
  omega
theorem lowN_eq {s b : Nat} (hs : s < 4294967296) (hb : b < 256) : lowI (Int.ofNat s) (Int.ofNat b) = Int.ofNat (lowN s b) ∧ lowN s b < 65521 := by
  have hl : s &&& 65535 ≤ 65535 := Nat.and_le_right
  have e : lowN s b = ((s &&& 65535) + b + 1) % 65521 := rfl
  refine ⟨?_, by rw [e]; omega⟩
  unfold lowI
  rw [show (65535 : Int) = Int.ofNat 65535 from rfl, bits_and32 s 65535 hs (by omega), wrapU32, wrapU32, e]
  have e2 : Nat.land s 65535 = s &&& 65535 := rfl
  rw [e2]
  generalize s &&& 65535 = m at hl
  have e3 : (Int.ofNat m + Int.ofNat b) % 4294967296 = ((m + b : Nat) : Int) := by
    show ((m : Int) + (b : Int)) % 4294967296 = _
    omega
  have e4 : (((m + b : Nat) : Int) + 1) % 4294967296 = ((m + b + 1 : Nat) : Int) := by omega
  rw [e3, e4]
  rfl
theorem nextN_eq {s b : Nat} (hs : s < 4294967296) (hb : b < 256) : nextI (Int.ofNat s) (Int.ofNat b) = Int.ofNat (nextN s b) ∧ nextN s b < 4294967296 := by
  obtain ⟨h1, h2⟩ := lowN_eq hs hb
  unfold nextI
  rw [h1]
  have e1 : Int.fdiv (Int.ofNat s) 65536 = ((s / 65536 : Nat) : Int) := by
    rw [Int.fdiv_eq_ediv_of_nonneg _ (by omega)]; rfl
  have e2 : Int.tmod (IntKind.wrap IntKind.u32 (Int.fdiv (Int.ofNat s) 65536 + Int.ofNat (lowN s b))) 65521 = (((s / 65536 + lowN s b) % 65521 : Nat) : Int) := by
    rw [e1, wrapU32]
    have : (((s / 65536 : Nat) : Int) + Int.ofNat (lowN s b)) % 4294967296 = ((s / 65536 + lowN s b : Nat) : Int) := by
      show (((s / 65536 : Nat) : Int) + ((lowN s b : Nat) : Int)) % 4294967296 = _
      omega
    rw [this]; rfl
  rw [e2, wrapU32]
  have e3 : (((s / 65536 + lowN s b) % 65521 : Nat) : Int) * 65536 % 4294967296 = Int.ofNat ((s / 65536 + lowN s b) % 65521 * 65536) := by
    show _ = (((s / 65536 + lowN s b) % 65521 * 65536 : Nat) : Int)
    omega
  rw [e3]
  exact bits_or32 _ _ (by omega) (by omega)
def u8v (bs : List Nat) : List Value := bs.map fun b => .int .u8 (Int.ofNat b)
theorem u8v_length (bs : List Nat) : (u8v bs).length = bs.length := by simp [u8v]
theorem nAt_u8v {bs : List Nat} {i b : Nat} (h : bs[i]? = some b) : nAt (u8v bs) i = Int.ofNat b := by
  unfold nAt u8v
  rw [List.getElem?_map, h]; rfl
theorem sumN_append : ∀ (a b : List Nat) (s : Nat), sumN (a ++ b) s = sumN b (sumN a s)
  | [], _, _ => rfl
  | x :: a, b, s => sumN_append a b (nextN s x)
theorem sumTo_nat {bs : List Nat} (hb : ∀ b ∈ bs, b < 256) {s : Nat} (hs : s < 4294967296) : ∀ n, n ≤ bs.length → sumTo (u8v bs) (Int.ofNat s) n = Int.ofNat (sumN (bs.take n) s) ∧ sumN (bs.take n) s < 4294967296
  | 0, _ => ⟨rfl, hs⟩
  | n + 1, hn => by
    obtain ⟨h1, h2⟩ := sumTo_nat hb hs n (by omega)
    have hg : bs[n]? = some bs[n] := by simp
    have hlt := hb bs[n] (by simp)
    have e : sumN (bs.take (n + 1)) s = nextN (sumN (bs.take n) s) bs[n] := by
      rw [List.take_add_one, hg, sumN_append]; rfl
    have := nextN_eq h2 hlt
    rw [e]
    refine ⟨?_, this.2⟩
    show nextI (sumTo (u8v bs) (Int.ofNat s) n) (nAt (u8v bs) n) = _
    rw [h1, nAt_u8v hg, this.1]
theorem sumTo_all {bs : List Nat} (hb : ∀ b ∈ bs, b < 256) {s : Nat} (hs : s < 4294967296) : sumTo (u8v bs) (Int.ofNat s) bs.length = Int.ofNat (sumN bs s) ∧ sumN bs s < 4294967296 := by
  have := sumTo_nat hb hs bs.length (Nat.le_refl _)
  rwa [List.take_length] at this

/-! ### bytes in memory -/
def u8n : List Value → Option (List Nat)
  | [] => some []
  | v :: r => match v with
    | .int .u8 (.ofNat b) => (match Nat.ble b 255 with
      | true => (match u8n r with
        | some l => some (b :: l)
        | none => none)
      | false => none)
    | _ => none
theorem u8n_spec : ∀ {vs : List Value} {bs : List Nat}, u8n vs = some bs → vs = u8v bs ∧ ∀ b ∈ bs, b < 256
  | [], bs, h => by obtain rfl := Option.some.inj h; exact ⟨rfl, fun b hb => by cases hb⟩
  | v :: r, bs, h => by
    unfold u8n at h
    split at h
    · rename_i b
      split at h
      · rename_i hb
        split at h
        · rename_i l hl
          obtain rfl := Option.some.inj h
          obtain ⟨h1, h2⟩ := u8n_spec hl
          refine ⟨by rw [h1]; rfl, fun x hx => ?_⟩
          rcases List.mem_cons.mp hx with rfl | hx
          · have := Nat.le_of_ble_eq_true hb; omega
          · exact h2 x hx
        · cases h
      · cases h
    · cases h
/-- the bytes of a slice -/
def bytesAt (h : Heap) (v : Value) : Option (List Nat) := match v with
  | .slice _ 0 _ => some []
  | .slice (some ⟨r, o, _⟩) n c => (match Nat.ble n c with
    | true => (match h.get r with
      | some (.row cs _) => (match u8n ((cs.drop o).take n) with
        | some bs => (match Nat.beq bs.length n with
          | true => some bs
          | false => none)
        | none => none)
      | _ => none)
    | false => none)
  | _ => none
theorem els_u8v {bs : List Nat} (hb : ∀ b ∈ bs, b < 256) : Els byteK (u8v bs) bs.length := by
  refine ⟨by rw [u8v_length]; simp [byteK], fun j hj => ?_⟩
  have hj2 : j < bs.length := hj
  have e : ((u8v bs).drop (j * byteK.length)).take byteK.length = [.int .u8 (Int.ofNat bs[j])] := by
    show ((u8v bs).drop (j * 1)).take 1 = _
    rw [Nat.mul_one]
    apply List.ext_getElem?
    intro i
    rw [List.getElem?_take]
    cases i with
    | zero => rw [if_pos (by omega), List.getElem?_drop, Nat.add_zero, u8v, List.getElem?_map, List.getElem?_eq_getElem hj2]; rfl
    | succ i => rw [if_neg (by omega)]; rfl
  rw [e]
  have hlt := hb bs[j] (by simp)
  refine ⟨⟨_, rfl, ?_⟩, trivial⟩
  have : IntKind.u8.min ≤ (Int.ofNat bs[j]) ∧ (Int.ofNat bs[j]) ≤ IntKind.u8.max := by
    have e1 : IntKind.u8.min = 0 := by rfl
    have e2 : IntKind.u8.max = 255 := by rfl
    rw [e1, e2]
    show (0 : Int) ≤ (bs[j] : Int) ∧ (bs[j] : Int) ≤ 255
    omega
  simpa [Lit.wf] using this
theorem bytesAt_view {h : Heap} {v : Value} {bs : List Nat} (hb : bytesAt h v = some bs) : (∀ b ∈ bs, b < 256) ∧ ∃ a n c r o, v = .slice a n c ∧ n = bs.length ∧ View h byteK a n c r o (u8v bs) := by
  unfold bytesAt at hb
  split at hb
  · rename_i a c
    obtain rfl := Option.some.inj hb
    exact ⟨(fun b hb => by cases hb), a, 0, c, 0, 0, rfl, rfl, View.nil _ _ _ _ _ _⟩
  · rename_i r o sp n c _
    split at hb
    · rename_i hle
      split at hb
      · rename_i cs e hg
        split at hb
        · rename_i l hl
          split at hb
          · rename_i hn
            obtain rfl := Option.some.inj hb
            obtain ⟨h1, h2⟩ := u8n_spec hl
            have hlen : l.length = n := Nat.eq_of_beq_eq_true hn
            subst hlen
            have hsz := congrArg List.length h1
            rw [u8v_length, List.length_take, List.length_drop] at hsz
            refine ⟨h2, _, _, _, r, o, rfl, rfl, ⟨Nat.le_of_ble_eq_true hle, els_u8v h2, fun _ => ⟨sp, rfl⟩, fun hn0 => ⟨cs, .inl ⟨e, hg⟩, ?_, ?_⟩⟩⟩
            · show o + l.length * 1 ≤ cs.length
              omega
            · show (cs.drop o).take (l.length * 1) = _
              rw [Nat.mul_one, h1]
          · cases hb
        · cases hb
      · cases hb
    · cases hb
  · cases hb
theorem Sim.of_det {c : Caller} {P : Program} {B : Nat} (hd : ∀ f args h v h', c f args h = some (v, h') → DetFn P f args h fun u g => u = v ∧ g = h') : Sim P B c := by
  intro f args h v h' hr ρ w args' H ha
  obtain ⟨u, g, d, rfl, rfl⟩ := hd f args h v h' hr
  exact d.1 B ρ w args' H ha
theorem NextMono.of_det {c : Caller} {P : Program} (hd : ∀ f args h v h', c f args h = some (v, h') → DetFn P f args h fun u g => u = v ∧ g = h') : NextMono c := by
  intro f args h v h' hk hr
  obtain ⟨u, g, d, rfl, rfl⟩ := hd f args h v h' hr
  exact d.2 hk
/-- the document's sum -/
def refSum : Caller := fun f args h => match f, args with
  | 89, [v] => (match bytesAt h v with
    | some bs => (match Nat.ble bs.length 4000 with
      | true => some (.int .u32 (.ofNat (sumN bs 0)), h)
      | false => none)
    | none => none)
  | _, _ => none
theorem refSum_det (f : FuncId) (args : List Value) (h : Heap) (v : Value) (h' : Heap) (hr : refSum f args h = some (v, h')) : DetFn Tryz.prog f args h fun u g => u = v ∧ g = h' := by
  unfold refSum at hr
  split at hr
  · rename_i x
    split at hr
    · rename_i bs hbs
      split at hr
      · rename_i hle
        obtain ⟨rfl, rfl⟩ := Prod.mk.inj (Option.some.inj hr)
        obtain ⟨hb, a, n, c, r, o, rfl, rfl, V⟩ := bytesAt_view hbs
        have := ref_sum h V (Nat.le_of_ble_eq_true hle)
        rw [show (0 : Int) = Int.ofNat 0 from rfl, (sumTo_all hb (by omega)).1] at this
        exact this
      · cases hr
    · cases hr
  · cases hr
/-- the program's sum: of one row, or of two -/
def theSum : Caller := fun f args h => match f, args with
  | 157, [.slice (some ⟨r, 0, _⟩) n _] => (match h.get r with
    | some (.row [x] _) => (match Nat.beq n 1, bytesAt h x with
      | true, some a => (match Nat.ble a.length 4000 with
        | true => some (.int .u32 (.ofNat (sumN a 0)), h)
        | false => none)
      | _, _ => none)
    | some (.row [x, y] _) => (match Nat.beq n 2, bytesAt h x, bytesAt h y with
      | true, some a, some b => (match Nat.ble a.length 4000, Nat.ble b.length 4000 with
        | true, true => some (.int .u32 (.ofNat (sumN b (sumN a 0))), h)
        | _, _ => none)
      | _, _, _ => none)
    | _ => none)
  | _, _ => none
theorem theSum_det (f : FuncId) (args : List Value) (h : Heap) (v : Value) (h' : Heap) (hr : theSum f args h = some (v, h')) : DetFn Tryz.prog f args h fun u g => u = v ∧ g = h' := by
  unfold theSum at hr
  split at hr
  · rename_i r sp n c
    split at hr
    · rename_i x e hg
      split at hr
      · rename_i a hn ha
        split at hr
        · rename_i hle
          obtain ⟨rfl, rfl⟩ := Prod.mk.inj (Option.some.inj hr)
          obtain ⟨hb, ad, m, c2, r2, o2, rfl, rfl, V⟩ := bytesAt_view ha
          obtain rfl := Nat.eq_of_beq_eq_true hn
          have := sum_Of h (n := 1) (c := c) (sp := sp) (A := fun _ => ad) (M := fun _ => a.length) (C := fun _ => c2) (R := fun _ => r2) (O := fun _ => o2) (L := fun _ => u8v a) hg (by omega)
            (fun k hk => by rw [show k = 0 by omega]; rfl) (fun k hk => V) (fun k hk => Nat.le_of_ble_eq_true hle)
          have e1 : sumRows (fun _ => u8v a) (fun _ => a.length) 1 = Int.ofNat (sumN a 0) := (sumTo_all hb (s := 0) (by omega)).1
          rw [e1] at this
          exact this
        · cases hr
      · cases hr
    · rename_i x y e hg
      split at hr
      · rename_i a b hn ha hb
        split at hr
        · rename_i hl1 hl2
          obtain ⟨rfl, rfl⟩ := Prod.mk.inj (Option.some.inj hr)
          obtain ⟨ba, ad, m, c2, r2, o2, rfl, rfl, V⟩ := bytesAt_view ha
          obtain ⟨bb, bd, m, d2, q2, p2, rfl, rfl, W⟩ := bytesAt_view hb
          obtain rfl := Nat.eq_of_beq_eq_true hn
          have q1 : ∀ k, k < 2 → [Value.slice ad a.length c2, Value.slice bd b.length d2][k]? = some (Value.slice (if k = 0 then ad else bd) (if k = 0 then a.length else b.length) (if k = 0 then c2 else d2)) := by
            intro k hk
            rcases (show k = 0 ∨ k = 1 by omega) with rfl | rfl <;> rfl
          have q2' : ∀ k, k < 2 → View h byteK (if k = 0 then ad else bd) (if k = 0 then a.length else b.length) (if k = 0 then c2 else d2) (if k = 0 then r2 else q2) (if k = 0 then o2 else p2) (if k = 0 then u8v a else u8v b) := by
            intro k hk
            rcases (show k = 0 ∨ k = 1 by omega) with rfl | rfl
            · exact V
            · exact W
          have q3 : ∀ k, k < 2 → (if k = 0 then a.length else b.length) ≤ 4000 := by
            intro k hk
            rcases (show k = 0 ∨ k = 1 by omega) with rfl | rfl
            · exact Nat.le_of_ble_eq_true hl1
            · exact Nat.le_of_ble_eq_true hl2
          have := sum_Of h (n := 2) (c := c) (sp := sp) (A := fun k => if k = 0 then ad else bd) (M := fun k => if k = 0 then a.length else b.length) (C := fun k => if k = 0 then c2 else d2) (R := fun k => if k = 0 then r2 else q2) (O := fun k => if k = 0 then o2 else p2) (L := fun k => if k = 0 then u8v a else u8v b) hg (by omega) q1 q2' q3
          have e1 : sumRows (fun k => if k = 0 then u8v a else u8v b) (fun k => if k = 0 then a.length else b.length) 2 = Int.ofNat (sumN b (sumN a 0)) := by
            show sumTo (u8v b) (sumTo (u8v a) 0 a.length) b.length = _
            rw [show (0 : Int) = Int.ofNat 0 from rfl, (sumTo_all ba (by omega)).1]
            exact (sumTo_all bb (sumTo_all ba (by omega)).2).1
          rw [e1] at this
          exact this
        · cases hr
      · cases hr
    · cases hr
  · cases hr
end Go.Proofs.YthijllagngkbgaaGreat.Eng
