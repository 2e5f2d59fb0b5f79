/- What the evaluator may take for the sums, and for bytes.Equal, where bytes are left open. -/
import Derived.Test.YthijllagngkbgaaGreatSumC
import Derived.Test.YthijllagngkbgaaGreatEngTok
namespace Go.Proofs.YthijllagngkbgaaGreat.Eng
open Go Go.Proofs

def sameV : Value → Value → Bool
  | .int k a, .int j b => decide (k = j) && decide (a = b)
  | .complex .f64 r m, .complex .f64 r' m' => Nat.beq r r' && Nat.beq m m'
  | _, _ => false
theorem sameV_eq {x y : Value} (h : sameV x y = true) : x = y := by
  unfold sameV at h
  split at h
  · simp only [Bool.and_eq_true, decide_eq_true_eq] at h; obtain ⟨rfl, rfl⟩ := h; rfl
  · simp only [Bool.and_eq_true] at h
    rw [Nat.eq_of_beq_eq_true h.1, Nat.eq_of_beq_eq_true h.2]
  · cases h
def sameL : List Value → List Value → Bool
  | [], [] => true
  | x :: a, y :: b => sameV x y && sameL a b
  | _, _ => false
theorem sameL_eq : ∀ {a b : List Value}, sameL a b = true → a = b
  | [], [], _ => rfl
  | x :: a, y :: b, h => by
    simp only [sameL, Bool.and_eq_true] at h
    rw [sameV_eq h.1, sameL_eq h.2]
  | [], _ :: _, h => by cases h
  | _ :: _, [], h => by cases h
def tk (r c k i : Nat) : Value := .complex .f64 r (4096 * c + 16 * i + k)
theorem dt_tk {p q r c k i : Nat} (hk : k < 16) (hi : i < 256) : dt p q (tk r c k i) = .int (kOf k) (.ofNat (valN p q i)) := by
  show Value.int (kOf ((4096 * c + 16 * i + k) % 16)) (.ofNat (valN p q ((4096 * c + 16 * i + k) / 16 % 256))) = _
  rw [show (4096 * c + 16 * i + k) % 16 = k by omega, show (4096 * c + 16 * i + k) / 16 % 256 = i by omega]
/-- the bytes of the order's frame that are summed, of a kind -/
def headT (r c : Nat) : List Value :=
  [.int .u8 197, .int .u8 (.ofNat (5 + (match Nat.beq (c % 4) 0 with | true => 1 | false => 2) + (match Nat.beq (c / 4) 0 with | true => 1 | false => 2))), .int .u8 2, .int .u8 12, .int .u8 0, .int .u8 4] ++
  (match Nat.beq (c % 4) 0 with | true => [tk r c 1 1] | false => [tk r c 1 3, tk r c 1 4]) ++ (match Nat.beq (c / 4) 0 with | true => [tk r c 1 101] | false => [tk r c 1 103, tk r c 1 104]) ++ [.int .u8 0]
theorem pack_P {c p q : Nat} (hc : Cls c p q) : packN (Nat.mul 5 p) = (match Nat.beq (c % 4) 0 with | true => [valN p q 1] | false => [valN p q 3, valN p q 4]) := by
  obtain ⟨h1, h2, h3, h4, h5, h6⟩ := hc
  have e : ∀ p, p < 101 → packN (Nat.mul 5 p) = (match Nat.beq (clsP p) 0 with | true => [valP p 1] | false => [valP p 3, valP p 4]) := by decide +kernel
  rw [e p (by omega), h5]
  rfl
theorem pack_Q {c p q : Nat} (hc : Cls c p q) : packN (Nat.mul 10 q) = (match Nat.beq (c / 4) 0 with | true => [valN p q 101] | false => [valN p q 103, valN p q 104]) := by
  obtain ⟨h1, h2, h3, h4, h5, h6⟩ := hc
  have e : ∀ q, q < 11 → 1 ≤ q → packN (Nat.mul 10 q) = (match Nat.beq (clsQ q) 0 with | true => [valQ q 1] | false => [valQ q 3, valQ q 4]) := by decide +kernel
  rw [e q (by omega) h3, h6]
  rfl
theorem headT_dt {r c p q : Nat} (hc : Cls c p q) : (headT r c).map (dt p q) = u8v (headN p q) := by
  have e1 := pack_P hc
  have e2 := pack_Q hc
  unfold headT headN bodyN
  rw [e1, e2]
  cases Nat.beq (c % 4) 0 <;> cases Nat.beq (c / 4) 0 <;>
    simp only [List.map_append, List.map_cons, List.map_nil, dt_tk (show 1 < 16 by omega) (show 1 < 256 by omega), dt_tk (show 1 < 16 by omega) (show 3 < 256 by omega), dt_tk (show 1 < 16 by omega) (show 4 < 256 by omega), dt_tk (show 1 < 16 by omega) (show 101 < 256 by omega),
      dt_tk (show 1 < 16 by omega) (show 103 < 256 by omega), dt_tk (show 1 < 16 by omega) (show 104 < 256 by omega)] <;> rfl
theorem head_small {c p q : Nat} (hc : Cls c p q) : ∀ b ∈ headN p q, b < 256 := by
  obtain ⟨h1, h2, h3, h4, _, _⟩ := hc
  have e1 : ∀ p, p < 101 → ∀ b ∈ packN (Nat.mul 5 p), b < 256 := by decide +kernel
  have e2 : ∀ q, q < 11 → ∀ b ∈ packN (Nat.mul 10 q), b < 256 := by decide +kernel
  have l1 : ∀ n, (packN n).length ≤ 2 := fun n => by unfold packN; split <;> simp
  intro b hb
  have hl : (bodyN p q).length ≤ 9 := by
    have := l1 (Nat.mul 5 p); have := l1 (Nat.mul 10 q)
    simp only [bodyN, List.length_append, List.length_cons, List.length_nil]; omega
  simp only [headN, bodyN, List.mem_append, List.mem_cons, List.not_mem_nil, or_false] at hb
  rcases hb with (rfl | rfl) | (((rfl | rfl | rfl | rfl) | h) | h) | rfl
  · omega
  · have : (bodyN p q).length ≤ 9 := hl
    simp only [bodyN] at this; omega
  · omega
  · omega
  · omega
  · omega
  · exact e1 p (by omega) b h
  · exact e2 q (by omega) b h
  · omega
theorem u8n_u8v : ∀ {bs : List Nat}, (∀ b ∈ bs, b < 256) → u8n (u8v bs) = some bs
  | [], _ => rfl
  | b :: bs, h => by
    have h1 := h b (by simp)
    have h2 := u8n_u8v (bs := bs) fun x hx => h x (List.mem_cons_of_mem _ hx)
    have e : Nat.ble b 255 = true := Nat.ble_eq_true_of_le (by omega)
    show (match Nat.ble b 255 with | true => (match u8n (u8v bs) with | some l => some (b :: l) | none => none) | false => none) = _
    rw [e, h2]
theorem bytesAt_of {g : Heap} {i o n cc : Nat} {sp : Option Nat} {ds : List Value} {e : TypeId} {bs : List Nat} (hg : g.get i = some (.row ds e)) (hds : (ds.drop o).take n = u8v bs) (hb : ∀ b ∈ bs, b < 256) (hn : bs.length = n) (hle : n ≤ cc) :
    bytesAt g (.slice (some ⟨i, o, sp⟩) n cc) = some bs := by
  cases n with
  | zero =>
    have : bs = [] := List.eq_nil_of_length_eq_zero hn
    subst this; rfl
  | succ n =>
    have e1 : Nat.ble (n + 1) cc = true := Nat.ble_eq_true_of_le hle
    have e2 : Nat.beq bs.length (n + 1) = true := by rw [hn]; exact Nat.beq_refl _
    unfold bytesAt
    simp only [e1, hg, hds, u8n_u8v hb, e2]
def sumTok (h : Heap) (i o n cc : Nat) : Option (Value × Heap) := match h.get i with
  | some (.row cs _) => (match tokIn cs with
    | some (r, c) => (match cs.all (okTok r c) && sameL ((cs.drop o).take n) (headT r c) && Nat.beq (headT r c).length n && Nat.ble n cc with
      | true => some (tk r c 3 200, h)
      | false => none)
    | none => none)
  | _ => none
theorem sumTok_spec {h : Heap} {i o n cc : Nat} {v : Value} {h' : Heap} (hs : sumTok h i o n cc = some (v, h')) : h' = h ∧ ∃ cs e r c, h.get i = some (.row cs e) ∧ tokIn cs = some (r, c) ∧ cs.all (okTok r c) = true ∧ v = tk r c 3 200 ∧ okTok r c v = true ∧
    ∀ p q, Cls c p q → ∀ sp, bytesAt (h.put i (.row (cs.map (dt p q)) e)) (.slice (some ⟨i, o, sp⟩) n cc) = some (headN p q) ∧ dt p q v = .int .u32 (.ofNat (sumN (headN p q) 0)) ∧ (headN p q).length ≤ 4000 := by
  unfold sumTok at hs
  split at hs
  · rename_i cs e hi
    split at hs
    · rename_i r c ht
      split at hs
      · rename_i hb
        simp only [Bool.and_eq_true] at hb
        obtain ⟨⟨⟨h1, h2⟩, h3⟩, h4⟩ := hb
        obtain ⟨rfl, rfl⟩ := Prod.mk.inj (Option.some.inj hs)
        refine ⟨rfl, cs, e, r, c, hi, ht, h1, rfl, ?_, ?_⟩
        · show (Nat.beq r r && Nat.beq ((4096 * c + 16 * 200 + 3) / 4096) c) = true
          rw [show (4096 * c + 16 * 200 + 3) / 4096 = c by omega, Nat.beq_refl, Nat.beq_refl]; rfl
        · intro p q hc sp
          have hl : (headN p q).length = n := by
            have := congrArg List.length (headT_dt (r := r) hc)
            rw [List.length_map, u8v_length] at this
            rw [← this]; exact Nat.eq_of_beq_eq_true h3
          refine ⟨bytesAt_of (by rw [Heap.get_put, if_pos rfl]) ?_ (head_small hc) hl (Nat.le_of_ble_eq_true h4), dt_tk (by omega) (by omega), ?_⟩
          · rw [← List.map_drop, ← List.map_take, sameL_eq h2, headT_dt hc]
          · have l1 : ∀ n, (packN n).length ≤ 2 := fun n => by unfold packN; split <;> simp
            have := l1 (Nat.mul 5 p); have := l1 (Nat.mul 10 q)
            simp only [headN, bodyN, List.length_append, List.length_cons, List.length_nil]; omega
      · cases hs
    · cases hs
  · cases hs
def tokSum : Caller := fun f args h => match f, args with
  | 89, [.slice (some ⟨i, o, _⟩) n cc] => sumTok h i o n cc
  | 157, [.slice (some ⟨j, 0, _⟩) 1 _] => (match h.get j with
    | some (.row [.slice (some ⟨i, o, _⟩) n cc] _) => (match Nat.beq i j with
      | false => sumTok h i o n cc
      | true => none)
    | _ => none)
  | _, _ => none
theorem slice_row {ρ : Where} {i o n c : Nat} {sp : Option Nat} {v' : Value} (h : VRel ρ (.slice (some ⟨i, o, sp⟩) n c) v') : ∃ l, ρ i = some l := by
  cases h with
  | slice _ _ _ _ _ a' c' l hl _ _ _ => exact ⟨l, hl.1⟩
theorem tokSum_sim (B : Nat) : Sim Tryz.prog B tokSum := by
  intro f args h v h' hr ρ w args' H ha
  unfold tokSum at hr
  split at hr
  · rename_i i o sp n cc
    obtain ⟨rfl, cs, e, r, c, hi, ht, hall, _, hok, hd⟩ := sumTok_spec hr
    have hl : ∃ l, ρ i = some l := by
      cases ha with
      | cons _ _ _ _ h1 _ => exact slice_row h1
    refine calls_tok H ha hi hl ht hok fun p q hc => ?_
    obtain ⟨h1, h2, h3⟩ := hd p q hc sp
    refine ⟨_, (RT.refl r c p q h').put hi rfl hall, ?_⟩
    rw [h2]
    refine refSum_det _ _ _ _ _ ?_
    unfold refSum
    simp only [h1, Nat.ble_eq_true_of_le h3]
  · rename_i j sp cc0
    split at hr
    · rename_i i o sp2 n cc e0 hj
      split at hr
      · rename_i hij
        have hne : i ≠ j := fun e => by subst e; rw [Nat.beq_refl] at hij; cases hij
        obtain ⟨rfl, cs, e, r, c, hi, ht, hall, _, hok, hd⟩ := sumTok_spec hr
        have hl : ∃ l, ρ i = some l := by
          cases ha with
          | cons _ _ _ _ h1 _ =>
            obtain ⟨l, hl⟩ := slice_row h1
            obtain ⟨_, _, ob, _, hobj⟩ := H.row j l _ e0 hl hj
            have key : ∃ l', VRels ρ [Value.slice (some ⟨i, o, sp2⟩) n cc] l' := by
              unfold ObjRel at hobj
              split at hobj
              · obtain ⟨_, _, _, _, _, _, h6⟩ := hobj; exact ⟨_, h6⟩
              · obtain ⟨_, _, _, _, _, h6⟩ := hobj; exact ⟨_, h6⟩
              · obtain ⟨_, _, _, h6⟩ := hobj; exact ⟨_, h6⟩
              · exact hobj.elim
            obtain ⟨l', key⟩ := key
            cases key with
            | cons _ _ _ _ h2 _ => exact slice_row h2
        refine calls_tok H ha hi hl ht hok fun p q hc => ?_
        obtain ⟨h1, h2, h3⟩ := hd p q hc sp2
        refine ⟨_, (RT.refl r c p q h').put hi rfl hall, ?_⟩
        rw [h2]
        refine theSum_det _ _ _ _ _ ?_
        unfold theSum
        have hj' : (h'.put i (.row (cs.map (dt p q)) e)).get j = some (.row [Value.slice (some ⟨i, o, sp2⟩) n cc] e0) := by
          rw [Heap.get_put, if_neg (fun x => hne x.symm)]; exact hj
        simp only [hj', h1, Nat.ble_eq_true_of_le h3]
      · cases hr
    · cases hr
  · cases hr
theorem tokSum_next : NextMono tokSum := by
  intro f args h v h' hk hr
  unfold tokSum at hr
  split at hr
  · obtain ⟨rfl, _⟩ := sumTok_spec hr; exact ⟨Nat.le_refl _, hk⟩
  · split at hr
    · split at hr
      · obtain ⟨rfl, _⟩ := sumTok_spec hr; exact ⟨Nat.le_refl _, hk⟩
      · cases hr
    · cases hr
  · cases hr

/-! ### two rows of like bytes -/
theorem st249 : strTy Tryz.prog 24 9 = true := by kernel_rfl
theorem eq_spine {X : Ext} {g : Caller} {s1 s2 : Value} {h : Heap} {S : ByteArray} (e1 : astr h s1 = some (.string S)) (e2 : astr h s2 = some (.string S)) : evSpine Tryz.prog X g 10 155 [s1, s2] h = some (.bool true, h) := by
  unfold evSpine
  rw [Tryz.func155]
  have hf : flat (Value.bool false) = true := rfl
  simp [Tryz.f155, evTop, runDef, st249, e1, e2, aval, awant, kindOf, apure, rv, fillSlot, initEnv, initFrom, ground, evCode, evRecs, aresults, asOne, abinT, abin, Tree.get_put, hf, Function.comp]
theorem equal_det {s1 s2 : Value} {h : Heap} {S : ByteArray} (e1 : astr h s1 = some (.string S)) (e2 : astr h s2 = some (.string S)) : DetFn Tryz.prog 155 [s1, s2] h fun u g => u = .bool true ∧ g = h :=
  ⟨.bool true, h, ⟨fun _ ρ w args' hH ha => evSpine_sim hmix noSum_sim hX noSum_next 10 _ _ _ _ _ (eq_spine (X := noExt) (g := noSum) e1 e2) ρ w args' hH ha,
    fun hk => evSpine_next noSum_next 10 _ _ _ _ _ hk (eq_spine (X := noExt) (g := noSum) e1 e2)⟩, rfl, rfl⟩
def isU8 : Value → Bool
  | .int .u8 _ => true
  | .complex .f64 _ m => Nat.beq (m % 16) 1
  | _ => false
theorem u8s_dt (p q : Nat) : ∀ {L : List Value}, L.all isU8 = true → ∃ ns, u8s (L.map (dt p q)) = some ns
  | [], _ => ⟨[], rfl⟩
  | v :: L, h => by
    simp only [List.all_cons, Bool.and_eq_true] at h
    obtain ⟨ns, hn⟩ := u8s_dt p q h.2
    have h1 := h.1
    unfold isU8 at h1
    split at h1
    · rename_i b
      refine ⟨b :: ns, ?_⟩
      show (u8s (L.map (dt p q))).map _ = _
      rw [hn]; rfl
    · rename_i r m
      have e : m % 16 = 1 := Nat.eq_of_beq_eq_true h1
      refine ⟨.ofNat (valN p q (m / 16 % 256)) :: ns, ?_⟩
      have e2 : dt p q (.complex .f64 r m) = .int .u8 (.ofNat (valN p q (m / 16 % 256))) := by
        show Value.int (kOf (m % 16)) _ = _
        rw [e]; rfl
      rw [List.map_cons, e2]
      show (u8s (L.map (dt p q))).map _ = _
      rw [hn]; rfl
    · cases h1
theorem astr_of {g : Heap} {i o n cc : Nat} {sp : Option Nat} {ds : List Value} {e : TypeId} {ns : List Int} (hg : g.get i = some (.row ds e)) (hn0 : 0 < n) (hle : n ≤ cc) (hlen : o + n ≤ ds.length) (hu : u8s ((ds.drop o).take n) = some ns) :
    astr g (.slice (some ⟨i, o, sp⟩) n cc) = some (.string (strOfNums ns)) := by
  unfold astr readCells
  simp only [hg]
  rw [if_pos ⟨hn0, hle⟩, if_pos hlen]
  simp only [Option.bind_some, hu, Option.map_some]
def tokEq : Caller := fun f args h => match f, args with
  | 155, [.slice (some ⟨i, o, _⟩) n cc, .slice (some ⟨j, o', _⟩) n' cc'] => (match h.get i, h.get j with
    | some (.row cs _), some (.row ds _) => (match tokIn cs with
      | some (r, c) => (match sameL ((cs.drop o).take n) ((ds.drop o').take n') && cs.all (okTok r c) && ds.all (okTok r c) && ((cs.drop o).take n).all isU8 && !(Nat.beq i j) && Nat.ble 1 n && Nat.ble n cc && Nat.ble (o + n) cs.length && Nat.beq n n' && Nat.ble n' cc' && Nat.ble (o' + n') ds.length with
        | true => some (.bool true, h)
        | false => none)
      | none => none)
    | _, _ => none)
  | _, _ => none
theorem tokEq_sim (B : Nat) : Sim Tryz.prog B tokEq := by
  intro f args h v h' hr ρ w args' H ha
  unfold tokEq at hr
  split at hr
  · rename_i i o sp n cc j o' sp' n' cc'
    split at hr
    · rename_i cs e ds e' hi hj
      split at hr
      · rename_i r c ht
        split at hr
        · rename_i hb
          simp only [Bool.and_eq_true, Bool.not_eq_true'] at hb
          obtain ⟨⟨⟨⟨⟨⟨⟨⟨⟨⟨b1, b2⟩, b3⟩, b4⟩, b5⟩, b6⟩, b7⟩, b8⟩, b9⟩, b10⟩, b11⟩ := hb
          obtain ⟨rfl, rfl⟩ := Prod.mk.inj (Option.some.inj hr)
          have hne : j ≠ i := fun x => by subst x; rw [Nat.beq_refl] at b5; cases b5
          obtain rfl := Nat.eq_of_beq_eq_true b9
          have hl : ∃ l, ρ i = some l := by
            cases ha with
            | cons _ _ _ _ h1 _ => exact slice_row h1
          refine calls_tok H ha hi hl ht rfl fun p q hc => ?_
          obtain ⟨ns, hns⟩ := u8s_dt p q b4
          have hj2 : (h.put i (.row (cs.map (dt p q)) e)).get j = some (.row ds e') := by rw [Heap.get_put, if_neg hne]; exact hj
          refine ⟨(h.put i (.row (cs.map (dt p q)) e)).put j (.row (ds.map (dt p q)) e'), ((RT.refl r c p q h).put hi rfl b2).put hj2 (by rw [hj2]; exact hj) b3, ?_⟩
          have g1 : ((h.put i (.row (cs.map (dt p q)) e)).put j (.row (ds.map (dt p q)) e')).get i = some (.row (cs.map (dt p q)) e) := by
            rw [Heap.get_put, if_neg (fun x => hne x.symm), Heap.get_put, if_pos rfl]
          have g2 : ((h.put i (.row (cs.map (dt p q)) e)).put j (.row (ds.map (dt p q)) e')).get j = some (.row (ds.map (dt p q)) e') := by
            rw [Heap.get_put, if_pos rfl]
          have m1 : ((cs.map (dt p q)).drop o).take n = ((cs.drop o).take n).map (dt p q) := by rw [List.map_take, List.map_drop]
          have m2 : ((ds.map (dt p q)).drop o').take n = ((cs.drop o).take n).map (dt p q) := by rw [sameL_eq b1, List.map_take, List.map_drop]
          refine equal_det (astr_of g1 (Nat.le_of_ble_eq_true b6) (Nat.le_of_ble_eq_true b7) ?_ (by rw [m1]; exact hns)) (astr_of g2 (Nat.le_of_ble_eq_true b6) (Nat.le_of_ble_eq_true b10) ?_ (by rw [m2]; exact hns))
          · rw [List.length_map]; exact Nat.le_of_ble_eq_true b8
          · rw [List.length_map]; exact Nat.le_of_ble_eq_true b11
        · cases hr
      · cases hr
    · cases hr
  · cases hr
theorem tokEq_next : NextMono tokEq := by
  intro f args h v h' hk hr
  unfold tokEq at hr
  split at hr
  · split at hr
    · split at hr
      · split at hr
        · obtain ⟨_, rfl⟩ := Prod.mk.inj (Option.some.inj hr); exact ⟨Nat.le_refl _, hk⟩
        · cases hr
      · cases hr
    · cases hr
  · cases hr
end Go.Proofs.YthijllagngkbgaaGreat.Eng
