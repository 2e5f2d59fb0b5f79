/- The engine, part 30: functions with a deferred call; a select of one case with a default. -/
import Derived.Test.YthijllagngkbgaaGreatEngLaw
import Derived.Defers
import Derived.Recover
import Derived.Conc.LoneSelect
import Derived.Laws.BytesArg
namespace Go.Proofs.YthijllagngkbgaaGreat.Eng
open Go Go.Conc

/-! ### code under one frame -/
def wpB (P : Program) (b : Frame) (c : Code) (Q : Exit → Act → World → Prop) (a : Act) (w : World) : Prop :=
  ∀ (k : List Item) (cs : List Frame), ∃ e a' w', Q e a' w' ∧ Arrives P (lone (b.at a (.code c :: k)) cs w) b k cs e a' w'
section
variable {P : Program} {b : Frame} {Q : Exit → Act → World → Prop} {a : Act} {w : World}
theorem wpB_of_wp {c : Code} (h : c.wp P Q a w) : wpB P b c Q a w := h b
theorem wpB_seq {x y : Code} (h : wpB P b x (fun e a w => match e with | .normal => wpB P b y Q a w | e => Q e a w) a w) : wpB P b (.seq x y) Q a w := by
  intro k cs
  obtain ⟨e, a₁, w₁, hq, harr⟩ := h (.code y :: k) cs
  cases e with
  | normal =>
    obtain ⟨e₂, a₂, w₂, hq₂, harr₂⟩ := hq k cs
    exact ⟨e₂, a₂, w₂, hq₂, .of_steps (.head step_seq harr) harr₂⟩
  | exit id => exact ⟨_, a₁, w₁, hq, .of_steps (.one step_seq) (.pass (x := .code y) rfl (fun _ _ => .inl (by simp)) harr)⟩
  | goto l => exact ⟨_, a₁, w₁, hq, .of_steps (.one step_seq) (.pass (x := .code y) rfl (fun _ _ => .inl (by simp)) harr)⟩
  | ret => exact ⟨_, a₁, w₁, hq, .of_steps (.one step_seq) (.pass (x := .code y) rfl (fun _ _ => .inl (by simp)) harr)⟩
  | panic ch => exact ⟨_, a₁, w₁, hq, .of_steps (.one step_seq) (.pass (x := .code y) rfl (fun _ _ => .inl (by simp)) harr)⟩
  | outgrown => exact ⟨_, a₁, w₁, hq, .of_steps (.one step_seq) (.pass (x := .code y) rfl (fun _ _ => .inl (by simp)) harr)⟩
end

/-! ### deferred calls -/
def DOne (ρ : Where) (v : Value) (d : Deferred) : Prop := ∃ (k : FuncId) (x y x' y' : Array Value), v = .func (.func k) x y ∧ d = { target := .fn (.func k) y', args := x' } ∧ VRels ρ x.toList x'.toList ∧ VRels ρ y.toList y'.toList
def DRel (ρ : Where) : List Value → List Deferred → Prop
  | [], [] => True
  | v :: r, d :: s => DOne ρ v d ∧ DRel ρ r s
  | _, _ => False
theorem DRel.mono {ρ ρ' : Where} (hle : ρ.le ρ') : ∀ {D : List Value} {ds : List Deferred}, DRel ρ D ds → DRel ρ' D ds
  | [], [], _ => trivial
  | _ :: _, _ :: _, ⟨⟨k, x, y, x', y', h1, h2, h3, h4⟩, h⟩ => ⟨⟨k, x, y, x', y', h1, h2, h3.mono hle, h4.mono hle⟩, DRel.mono hle h⟩
  | [], _ :: _, h => h.elim
  | _ :: _, [], h => h.elim

/-- bytes as a text -/
def strTy (P : Program) (s d : TypeId) : Bool := match P.underlying s, P.underlying d with
  | some (.slice e), some .string => (match P.underlying e with | some (.int .u8) => true | _ => false)
  | _, _ => false
def u8s : List Value → Option (List Int)
  | [] => some []
  | .int .u8 n :: r => (u8s r).map (n :: ·)
  | _ => none
def astr (h : Heap) (v : Value) : Option Value := match v with
  | .slice none _ _ => some (.string ByteArray.empty)
  | .slice (some ⟨i, o, _⟩) len c => if 0 < len ∧ len ≤ c then (readCells h i o len).bind fun vs => (u8s vs).map fun ns => .string (strOfNums ns) else none
  | _ => none
theorem u8s_spec : ∀ {vs : List Value} {ns : List Int}, u8s vs = some ns → vs = ns.map (Value.int .u8)
  | [], ns, h => by obtain rfl := Option.some.inj h; rfl
  | .int .u8 n :: r, ns, h => by
    simp only [u8s] at h
    obtain ⟨q, hq, rfl⟩ := Option.map_eq_some_iff.mp h
    rw [u8s_spec hq]; rfl
  | .int .i8 n :: r, ns, h | .int .i16 n :: r, ns, h | .int .i32 n :: r, ns, h | .int .i64 n :: r, ns, h | .int .u16 n :: r, ns, h | .int .u32 n :: r, ns, h | .int .u64 n :: r, ns, h => by simp [u8s] at h
  | .bool _ :: r, ns, h | .float .. :: r, ns, h | .complex .. :: r, ns, h | .string _ :: r, ns, h | .pointer _ :: r, ns, h | .slice .. :: r, ns, h | .map _ :: r, ns, h | .chan _ :: r, ns, h | .func .. :: r, ns, h | .nilFunc :: r, ns, h | .iface .. :: r, ns, h | .nilIface :: r, ns, h | .agg _ :: r, ns, h | .tuple _ :: r, ns, h => by simp [u8s] at h
theorem rels_u8 {ρ : Where} : ∀ {ns : List Int} {l : List Value}, VRels ρ (ns.map (Value.int .u8)) l → l = ns.map (Value.int .u8)
  | [], l, h => by cases h; rfl
  | n :: ns, l, h => by
    simp only [List.map_cons] at h
    cases h with
    | cons _ v' _ r' hv hr =>
      cases hv
      rw [rels_u8 hr]; rfl
theorem astr_run {P : Program} {B : Nat} {ρ : Where} {h : Heap} {w : World} {s d : TypeId} {v v' u : Value} (r : HRel B ρ h w) (hty : strTy P s d = true) (ha : astr h v = some u) (hv : VRel ρ v v') : (convert s d v').run P w = .ok u w ∧ VRel ρ u u := by
  unfold strTy at hty
  split at hty
  · rename_i e hs hd
    split at hty
    · rename_i he
      unfold astr at ha
      split at ha
      · obtain rfl := Option.some.inj ha
        cases hv
        exact ⟨run_convert_bytes_nil w s e hs he _ _ d hd, .string _⟩
      · rename_i i o sp len c
        split at ha
        · rename_i hl
          simp only [Option.bind_eq_some_iff] at ha
          obtain ⟨vs, hvs, ha⟩ := ha
          obtain ⟨ns, hns, rfl⟩ := Option.map_eq_some_iff.mp ha
          obtain rfl := u8s_spec hns
          cases hv with
          | slice _ _ _ _ _ a' c' l hA hn haddr hroom =>
            have hc' : c' ≠ 0 := by
              rcases hroom with rfl | ⟨_, _, h1, _⟩ <;> omega
            rw [haddr hc']
            obtain ⟨cc, e', fr, hb, hsz, hrel⟩ := r.lies hA hvs
            have hcells := rels_u8 hrel
            have hlen : ns.length = len := by
              have h1 := congrArg List.length hcells
              simp at h1
              omega
            refine ⟨run_convert_bytes_arg w s e hs he l.blk (l.off + o) len c' ns hlen (fun j hj => ?_) d hd, .string _⟩
            have h2 := congrArg (·[j]?) hcells
            simp only [List.getElem?_take, if_pos hj, List.getElem?_drop, List.getElem?_map] at h2
            have h3 : cc[l.off + o + j]? = some (.int .u8 (ns.getD j 0)) := by
              rw [← Array.getElem?_toList, h2, List.getElem?_eq_getElem (by omega)]
              simp [List.getD, List.getElem?_eq_getElem (show j < ns.length by omega)]
            unfold World.cell?
            simp [hb, h3]
        · cases ha
      · cases ha
    · cases hty
  · cases hty

/-- the operations of a region, deferred calls included -/
def runDef (P : Program) (X : Ext) (g : Caller) (n : Nat) (ops : Array Oper) : List Oper → Env → Heap → List Value → Option (Env × Heap × List Value)
  | [], T, h, D => some (T, h, D)
  | o :: r, T, h, D => match o.op, o.guard with
    | .defer { callee := .value f, args, .. }, none => if args.size = 0 then (match rv T f with
      | some (.func (.func k) x y) => (fillSlot n T o.dst undef).bind fun T' => runDef P X g n ops r T' h (.func (.func k) x y :: D)
      | _ => none) else none
    | .convert s d x, none => if strTy P s d then ((rv T x).bind (astr h)).bind fun v => (fillSlot n T o.dst v).bind fun T' => runDef P X g n ops r T' h D
      else (aval P X g ops T h o).bind fun (v, h') => (fillSlot n T o.dst v).bind fun T' => runDef P X g n ops r T' h' D
    | _, _ => (aval P X g ops T h o).bind fun (v, h') => (fillSlot n T o.dst v).bind fun T' => runDef P X g n ops r T' h' D

section
variable {P : Program} {X : Ext} {g : Caller} {B n : Nat}
theorem runDef_sound {ops : Array Oper} {Q : Exit → Act → World → Prop} (hg : Sim P B g) (hX : ExtOk P X) : ∀ (rest : List Oper) (i : Nat) {ρ : Where} {h : Heap} {w : World} {T T' : Env} {h' : Heap} {D D' : List Value} {ds : List Deferred} {a : Act}, ops.toList.drop i = rest →
    runDef P X g n ops rest T h D = some (T', h', D') → ERel ds ρ n T a → DRel ρ D ds → HRel B ρ h w →
    (∀ a' w' ρ' ds', ERel ds' ρ' n T' a' → DRel ρ' D' ds' → HRel B ρ' h' w' → Step ρ h w ρ' h' w' → Q .normal a' w') → wpOps P ops Q (List.range' i rest.length) a w
  | [], i, ρ, h, w, T, T', h', D, D', ds, a, _, hr, hE, hD, r, hQ => by
    simp only [runDef, Option.some.injEq, Prod.mk.injEq] at hr
    obtain ⟨rfl, rfl, rfl⟩ := hr
    exact hQ a w ρ ds hE hD r (Step.refl _ _ _)
  | o :: rest, i, ρ, h, w, T, T', h', D, D', ds, a, hd, hr, hE, hD, r, hQ => by
    have ho : ops[i]? = some o := by
      have := congrArg (·[0]?) hd
      simpa using this
    have hd' : ops.toList.drop (i + 1) = rest := by
      have := congrArg List.tail hd
      simpa [List.tail_drop] using this
    rw [List.length_cons, List.range'_succ, wpOps_cons]
    unfold runDef at hr
    split at hr
    · rename_i f args _ hop hgd
      split at hr
      · rename_i hsz
        split at hr
        · rename_i k x y hv
          obtain ⟨T1, hT, hr⟩ := Option.bind_eq_some_iff.mp hr
          unfold wpOp
          rw [ho]
          simp only []
          have hwant : Region.wanted o (yielded ops a.tmps) = true := by unfold Region.wanted; rw [hgd]
          rw [if_pos hwant]
          left
          have hfr := hE.rv hv
          generalize hev : a.eval f = f' at hfr
          cases hfr with
          | func _ _ _ x' y' hx hy =>
            have hargs : args = #[] := Array.eq_empty_of_size_eq_zero hsz
            have he : (execOp a.eval o).run P w = .ok (.defer { target := .fn (.func k) y', args := x' }) w := by
              simp [execOp, hop, resolve, hev, Deferred.ofValue, hargs]
            unfold Oper.wp
            rw [he, Oper.upon_defer]
            have hE1 : ERel ({ target := .fn (.func k) y', args := x' } :: ds) ρ n T1 ({ a with defers := { target := .fn (.func k) y', args := x' } :: a.defers }.put o.dst undef) := by
              have h0 : ERel ({ target := .fn (.func k) y', args := x' } :: ds) ρ n T { a with defers := { target := .fn (.func k) y', args := x' } :: a.defers } := ⟨hE.val, hE.size, by simp [hE.defers]⟩
              exact h0.fill hT (undef_rel ρ)
            exact runDef_sound hg hX rest (i + 1) hd' hr hE1 ⟨⟨k, x, y, x', y', rfl, rfl, hx, hy⟩, hD⟩ r hQ
        · cases hr
      · cases hr
    · rename_i sT dT x hop hgd
      split at hr
      · rename_i hty
        simp only [Option.bind_eq_some_iff] at hr
        obtain ⟨u, ⟨xv, hx, hu⟩, T1, hT, hr⟩ := hr
        obtain ⟨h1, h2⟩ := astr_run (P := P) r hty hu (hE.rv hx)
        unfold wpOp
        rw [ho]
        simp only []
        have hwant : Region.wanted o (yielded ops a.tmps) = true := by unfold Region.wanted; rw [hgd]
        rw [if_pos hwant]
        left
        have he : (execOp a.eval o).run P w = .ok (.value u) w := by simp [execOp, hop, h1]
        unfold Oper.wp
        rw [he, Oper.upon_value]
        exact runDef_sound hg hX rest (i + 1) hd' hr (hE.fill hT h2) hD r hQ
      · simp only [Option.bind_eq_some_iff] at hr
        obtain ⟨⟨v, h1⟩, hv, T1, hT, hr⟩ := hr
        refine aval_sound hg hX ho hE r hv ?_
        intro v' w' ρ' q1 q2 q3
        refine runDef_sound hg hX rest (i + 1) hd' hr ((hE.mono q3.le).fill hT q1) (hD.mono q3.le) q2 ?_
        intro a' w'' ρ'' ds' e1 e2 e3 e4
        exact hQ a' w'' ρ'' ds' e1 e2 e3 (q3.trans e4)
    · simp only [Option.bind_eq_some_iff] at hr
      obtain ⟨⟨v, h1⟩, hv, T1, hT, hr⟩ := hr
      refine aval_sound hg hX ho hE r hv ?_
      intro v' w' ρ' q1 q2 q3
      refine runDef_sound hg hX rest (i + 1) hd' hr ((hE.mono q3.le).fill hT q1) (hD.mono q3.le) q2 ?_
      intro a' w'' ρ'' ds' e1 e2 e3 e4
      exact hQ a' w'' ρ'' ds' e1 e2 e3 (q3.trans e4)

/-! ### a select of one case with a default -/
def selAt (P : Program) (T : Env) (h : Heap) (c : SelectCase) : Option (Value × Heap) :=
  ((P.info? c.elem).bind (·.zero)).bind fun z => match rv T c.chan with
    | some (.chan (some i)) => (match h.get i with
      | some (.row q cap) => (match c.send with
        | some x => (rv T x).map fun xv => if q.length < cap then (.tuple #[goInt 0, .bool false], h.put i (.row (q ++ [xv]) cap)) else (.tuple #[goInt (-1), .bool false], h)
        | none => if flat z then (match q with
          | v :: r => some (.tuple #[goInt 0, .bool true, v], h.put i (.row r cap))
          | [] => some (.tuple #[goInt (-1), .bool false, z], h)) else none)
      | _ => none)
    | _ => none

theorem setBlk_chan (w : World) (c cap : Nat) (buf : Array Value) (cl : Bool) (s r : Nat) (tm : Bool) : w.setChan c cap buf cl s r tm = setBlk w c (.chan cap buf cl s r tm) := rfl

theorem select_sound {ρ : Where} {h h1 : Heap} {w : World} {T : Env} {a : Act} {ops : Array Oper} {o : Oper} {rest : List Nat} {c : SelectCase} {v : Value} {ds : List Deferred} {b : Frame} {k : List Item} {cs : List Frame} (hb : b.kind ≠ .early) (hE : ERel ds ρ n T a) (r : HRel B ρ h w)
    (ho : ops[0]? = some o) (hop : o.op = .select #[c] false) (hgd : o.guard = none) (hs : selAt P T h c = some (v, h1)) :
    ∃ v' w1, step P (lone (b.at a (.inRegion ops (0 :: rest) :: k)) cs w) = .next (lone (b.at (a.put o.dst v') (.inRegion ops rest :: k)) cs w1) ∧ VRel ρ v v' ∧ HRel B ρ h1 w1 ∧ Step ρ h w ρ h1 w1 := by
  have hfin : ∀ u, (b.at a (.inRegion ops (0 :: rest) :: k)).finish u = b.at (a.put o.dst u) (.inRegion ops rest :: k) := fun u => by rw [Frame.finish_at, ho]; rfl
  have hwant : Region.wanted o (yielded ops a.tmps) = true := by unfold Region.wanted; rw [hgd]
  unfold selAt at hs
  obtain ⟨z, hz, hs⟩ := Option.bind_eq_some_iff.mp hs
  obtain ⟨info, hi, hv0⟩ := Option.bind_eq_some_iff.mp hz
  have hzero : (zeroValue c.elem).run P w = .ok z w := by simp [zeroValue, run_typeInfo w hi, hv0]
  split at hs
  · rename_i i hc
    split at hs
    · rename_i q cap hg
      have hcr := hE.rv hc
      generalize hev : a.eval c.chan = c' at hcr
      cases hcr with
      | chan _ cap' l hl hk =>
        obtain ⟨_, _, ob, hob, hrel⟩ := r.row i l q cap hl hg
        unfold ObjRel at hrel
        rw [hk] at hrel
        obtain ⟨rfl, qb, sn, rc, rfl, hq⟩ := hrel
        have hlen := hq.length
        split at hs
        · rename_i x hx
          obtain ⟨xv, hxv, hs⟩ := Option.map_eq_some_iff.mp hs
          have hxr := hE.rv hxv
          have hex : (execOp a.eval o).run P w = .ok (.comm #[scase l.blk (a.eval x) z] false .select) w := by
            simp [execOp, hop, hzero, scase, hev, hx]
          have hcomm := stepG_comm (P := P) (main := true) (b := b) (a := a) (k := k) (cs := cs) (w := w) (rest := rest) ho hwant hb hex
          split at hs
          · rename_i hlt
            obtain ⟨rfl, rfl⟩ := Prod.mk.inj hs
            have hst := step_lone_select_send_room hcomm hob (by simp at hlen; omega)
            rw [hfin] at hst
            have hrel' : ObjRel ρ l (q ++ [xv]) cap (.chan cap (qb.push (a.eval x)) false (sn + 1) rc false) := by
              unfold ObjRel
              rw [hk]
              exact ⟨rfl, _, _, _, rfl, by rw [Array.toList_push]; exact hq.append (.cons _ _ _ _ hxr .nil)⟩
            obtain ⟨q1, q2⟩ := r.writeO hl hg hrel'
            exact ⟨_, _, hst, .tuple _ _ (.cons _ _ _ _ (.int _ _) (.cons _ _ _ _ (.bool _) .nil)), q1, q2⟩
          · rename_i hge
            obtain ⟨rfl, rfl⟩ := Prod.mk.inj hs
            have hst := step_lone_select_send_full hcomm hob (by simp at hlen; omega)
            rw [hfin] at hst
            exact ⟨_, _, hst, .tuple _ _ (.cons _ _ _ _ (.int _ _) (.cons _ _ _ _ (.bool _) .nil)), r, Step.refl _ _ _⟩
        · rename_i hx
          split at hs
          · rename_i hfl
            have hex : (execOp a.eval o).run P w = .ok (.comm #[rcase l.blk z] false .select) w := by
              simp [execOp, hop, hzero, rcase, hev, hx]
            have hcomm := stepG_comm (P := P) (main := true) (b := b) (a := a) (k := k) (cs := cs) (w := w) (rest := rest) ho hwant hb hex
            split at hs
            · rename_i u qr
              obtain ⟨rfl, rfl⟩ := Prod.mk.inj (Option.some.inj hs)
              obtain ⟨qb⟩ := qb
              cases hq with
              | cons _ u' _ qr' hu hqr =>
                have hst := step_lone_select_recv_buf hcomm hob (by simp)
                rw [hfin] at hst
                have hrel' : ObjRel ρ l qr cap (.chan cap ((⟨u' :: qr'⟩ : Array Value).extract 1 (⟨u' :: qr'⟩ : Array Value).size) false sn (rc + 1) false) := by
                  unfold ObjRel
                  rw [hk]
                  exact ⟨rfl, _, _, _, rfl, by simpa using hqr⟩
                obtain ⟨q1, q2⟩ := r.writeO hl hg hrel'
                refine ⟨_, _, hst, .tuple _ _ (.cons _ _ _ _ (.int _ _) (.cons _ _ _ _ (.bool _) (.cons _ _ _ _ ?_ .nil))), q1, q2⟩
                simpa using hu
            · obtain ⟨rfl, rfl⟩ := Prod.mk.inj (Option.some.inj hs)
              obtain ⟨qb⟩ := qb
              cases hq
              have hst := step_lone_select_default hcomm hob
              rw [hfin] at hst
              exact ⟨_, _, hst, .tuple _ _ (.cons _ _ _ _ (.int _ _) (.cons _ _ _ _ (.bool _) (.cons _ _ _ _ (flat_rel ρ hfl) .nil))), r, Step.refl _ _ _⟩
          · cases hs
    · cases hs
  · cases hs
end

/-! ### a body, deferred calls and selects on its spine -/
def evTop (P : Program) (X : Ext) (g : Caller) (n : Nat) : Nat → Code → Env → Heap → List Value → Option (AExit × Env × Heap × List Value)
  | 0, _, _, _, _ => none
  | k + 1, c, T, h, D =>
    match c with
    | .seq a b =>
      match evTop P X g n k a T h D with
      | some (.normal, T', h', D') => evTop P X g n k b T' h' D'
      | r => r
    | .region _ ops false =>
      match ops.toList with
      | [] => some (.normal, T, h, D)
      | o :: rest => match o.op, o.guard with
        | .select cs false, none => (match cs.toList with
          | [c] => (selAt P T h c).bind fun r => (fillSlot n T o.dst r.1).bind fun T1 => (runOps P X g n ops rest T1 r.2).map fun q => (.normal, q.1, q.2, D)
          | _ => none)
        | _, _ => (runDef P X g n ops (o :: rest) T h D).map fun q => (.normal, q)
    | c => (evCode P X g n (k + 1) c T h).map fun q => (q.1, q.2.1, q.2.2, D)

section
variable {P : Program} {X : Ext} {g : Caller} {B n : Nat}
theorem range_split {α : Type} {ops : Array α} {o : α} {rest : List α} (h : ops.toList = o :: rest) : List.range ops.size = 0 :: List.range' 1 rest.length := by
  have : ops.size = rest.length + 1 := by rw [← Array.length_toList, h]; rfl
  rw [this, List.range_eq_range', List.range'_succ]
theorem evTop_sound (hmix : P.follows .mixedOrders = true) (hg : Sim P B g) (hX : ExtOk P X) (hm : NextMono g) {b : Frame} (hb : b.kind ≠ .early) : ∀ (k : Nat) (c : Code) {T T' : Env} {h h' : Heap} {D D' : List Value} {e : AExit} {ρ : Where} {a : Act} {w : World} {ds : List Deferred} {Q : Exit → Act → World → Prop},
    evTop P X g n k c T h D = some (e, T', h', D') → ERel ds ρ n T a → DRel ρ D ds → HRel B ρ h w →
    (∀ a' w' ρ' ds', ERel ds' ρ' n T' a' → DRel ρ' D' ds' → HRel B ρ' h' w' → Step ρ h w ρ' h' w' → Q e.out a' w') → wpB P b c Q a w
  | 0, c, T, T', h, h', D, D', e, ρ, a, w, ds, Q, hr, _, _, _, _ => by simp [evTop] at hr
  | k + 1, c, T, T', h, h', D, D', e, ρ, a, w, ds, Q, hr, hE, hD, r, hQ => by
    unfold evTop at hr
    split at hr
    · rename_i x y
      split at hr
      · rename_i T1 h1 D1 h2
        refine wpB_seq (evTop_sound hmix hg hX hm hb k x h2 hE hD r ?_)
        intro a1 w1 ρ1 ds1 q1 q2 q3 q4
        refine evTop_sound hmix hg hX hm hb k y hr q1 q2 q3 ?_
        intro a2 w2 ρ2 ds2 p1 p2 p3 p4
        exact hQ a2 w2 ρ2 ds2 p1 p2 p3 (q4.trans p4)
      · rename_i hno
        refine wpB_seq (evTop_sound hmix hg hX hm hb k x hr hE hD r ?_)
        intro a1 w1 ρ1 ds1 q1 q2 q3 q4
        have := hQ a1 w1 ρ1 ds1 q1 q2 q3 q4
        cases e with
        | normal => exact absurd hr (hno _ _ _)
        | exit i => exact this
        | ret => exact this
    · rename_i id ops
      split at hr
      · rename_i hnil
        simp only [Option.some.injEq, Prod.mk.injEq] at hr
        obtain ⟨rfl, rfl, rfl, rfl⟩ := hr
        refine wpB_of_wp (wp_region ?_)
        have : ops.size = 0 := by rw [← Array.length_toList, hnil]; rfl
        rw [this]
        exact hQ a w ρ ds hE hD r (Step.refl _ _ _)
      · rename_i o rest hops
        have ho : ops[0]? = some o := by
          have := congrArg (·[0]?) hops
          simpa using this
        split at hr
        · rename_i cs hop hgd
          split at hr
          · rename_i c hc
            have hcs : cs = #[c] := by cases cs; simp_all
            subst hcs
            simp only [Option.bind_eq_some_iff] at hr
            obtain ⟨⟨v, h1⟩, hs, T1, hT, hr⟩ := hr
            obtain ⟨⟨T2, h2⟩, hro, hr⟩ := Option.map_eq_some_iff.mp hr
            simp only [Prod.mk.injEq] at hr
            obtain ⟨rfl, rfl, rfl, rfl⟩ := hr
            intro kk cs
            obtain ⟨v', w1, hst, hv, q2, q3⟩ := select_sound (P := P) (B := B) (n := n) (rest := List.range' 1 rest.length) (k := kk) (cs := cs) hb hE r ho hop hgd hs
            have hw := runOps_sound (P := P) (Q := Q) hg hX rest 1 (by rw [hops]; rfl) hro ((hE.mono q3.le).fill hT hv) q2 (fun a' w' ρ' p1 p2 p3 => hQ a' w' ρ' ds p1 (hD.mono (q3.trans p3).le) p2 (q3.trans p3))
            obtain ⟨e, a', w', hq, harr⟩ := wp_ops _ _ _ hw b kk cs
            refine ⟨e, a', w', hq, .of_steps (.one step_region) ?_⟩
            rw [range_split hops]
            exact .of_steps (.one hst) harr
          · cases hr
        · obtain ⟨⟨T2, h2, D2⟩, hro, hr⟩ := Option.map_eq_some_iff.mp hr
          simp only [Prod.mk.injEq] at hr
          obtain ⟨rfl, rfl, rfl, rfl⟩ := hr
          refine wpB_of_wp (wp_region ?_)
          have := runDef_sound (P := P) (Q := Q) hg hX (o :: rest) 0 (by rw [hops]; rfl) hro hE hD r hQ
          rwa [← hops, Array.length_toList, ← List.range_eq_range'] at this
    · obtain ⟨⟨e1, T2, h2⟩, hro, hr⟩ := Option.map_eq_some_iff.mp hr
      simp only [Prod.mk.injEq] at hr
      obtain ⟨rfl, rfl, rfl, rfl⟩ := hr
      exact wpB_of_wp (evCode_sound hmix hg hX hm _ _ hro hE r fun a' w' ρ' p1 p2 p3 => hQ a' w' ρ' ds p1 (hD.mono p3.le) p2 p3)
end
end Go.Proofs.YthijllagngkbgaaGreat.Eng
