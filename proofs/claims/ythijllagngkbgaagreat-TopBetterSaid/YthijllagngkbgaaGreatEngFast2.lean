/- The engine, part 34: regions, code and functions laid out for the kernel. -/
import Derived.Test.YthijllagngkbgaaGreatEngFast
namespace Go.Proofs.YthijllagngkbgaaGreat.Eng
open Go
section
variable {P : Program} {X : Ext} {g : Caller} {n : Nat}

/-! ### a drawn region where nothing need be looked at -/
def isLd (o : Oper) : Bool := decide (kindOf o.op = .load)
def freeAll (ms : List Nat) : List (Oper × Nat) → List Oper → Nat → Bool
  | _, [], _ => true
  | prev, o :: r, j => prev.all (fun p => (ms.getD j 0).testBit p.2 || (!(isLd p.1 && isHeavy o) && !(isHeavy p.1 && isLd o))) && freeAll ms ((o, j) :: prev) r (j + 1)
def easyDraw (ops : Array Oper) : Bool := staticOk ops && freeAll (masks ops.toList []) [] ops.toList 0
theorem isLoad_ld {ops : Array Oper} {x : Ent} (h : isLd x.o = false) : isLoad ops x = false := by
  unfold isLoad
  unfold isLd at h
  rw [h]; rfl
theorem free_dyn {ops : Array Oper} {ms : List Nat} : ∀ (rest : List Oper) (i : Nat) (prev : List Ent) {T T' : Env} {h h' : Heap} {l : List Ent}, freeAll ms (prev.map fun x => (x.o, x.i)) rest i = true → trace P X g n ops rest i T h = some (l, T', h') → dynOk P ops ms prev l = true
  | [], i, prev, T, T', h, h', l, _, ht => by
    simp only [trace, Option.some.injEq, Prod.mk.injEq] at ht
    obtain ⟨rfl, _, _⟩ := ht
    rfl
  | o :: rest, i, prev, T, T', h, h', l, hf, ht => by
    simp only [trace, Option.bind_eq_some_iff, Option.map_eq_some_iff] at ht
    obtain ⟨⟨v, h1⟩, hv, T1, hT, ⟨l', T2, h2⟩, hr, he⟩ := ht
    simp only [Prod.mk.injEq] at he
    obtain ⟨rfl, rfl, rfl⟩ := he
    simp only [freeAll, Bool.and_eq_true] at hf
    obtain ⟨hf1, hf2⟩ := hf
    simp only [dynOk, Bool.and_eq_true]
    refine ⟨?_, free_dyn rest (i + 1) (⟨o, i, T, h, h1, v⟩ :: prev) (by simpa using hf2) hr⟩
    rw [List.all_eq_true] at hf1 ⊢
    intro x hx
    have h1 := hf1 (x.o, x.i) (List.mem_map.2 ⟨x, hx, rfl⟩)
    simp only [Bool.or_eq_true, Bool.and_eq_true, Bool.not_eq_true', Bool.and_eq_false_imp] at h1 ⊢
    rcases h1 with h1 | ⟨h1, h2⟩
    · exact .inl h1
    · refine .inr ⟨.inl fun hl => ?_, .inl fun hh => ?_⟩
      · refine h1 ?_
        cases hb : isLd x.o
        · rw [isLoad_ld hb] at hl; cases hl
        · rfl
      · exact isLoad_ld (h2 hh)
theorem trace_ops {ops : Array Oper} : ∀ (rest : List Oper) (i : Nat) (T : Env) (h : Heap), (trace P X g n ops rest i T h).map (fun r => r.2) = runOps P X g n ops rest T h
  | [], i, T, h => rfl
  | o :: rest, i, T, h => by
    simp only [trace, runOps]
    cases aval P X g ops T h o with
    | none => rfl
    | some q =>
      obtain ⟨v, h1⟩ := q
      simp only [Option.bind_some]
      cases fillSlot n T o.dst v with
      | none => rfl
      | some T1 =>
        simp only [Option.bind_some]
        rw [← trace_ops rest (i + 1) T1 h1]
        cases trace P X g n ops rest (i + 1) T1 h1 <;> rfl
theorem easy_draw {ops : Array Oper} (he : easyDraw ops = true) (T : Env) (h : Heap) : runDraw P X g n ops T h = runOps P X g n ops ops.toList T h := by
  unfold easyDraw at he
  simp only [Bool.and_eq_true] at he
  unfold runDraw
  rw [if_pos he.1, ← trace_ops ops.toList 0 T h]
  cases ht : trace P X g n ops ops.toList 0 T h with
  | none => rfl
  | some q =>
    obtain ⟨l, T1, h1⟩ := q
    simp only [Option.bind_some, Option.map_some]
    rw [if_pos (free_dyn ops.toList 0 [] he.2 ht)]

/-! ### more fuel does no harm -/
theorem evCode_more : ∀ (k : Nat) (c : Code) {T : Env} {h : Heap} {r : AExit × Env × Heap}, evCode P X g n k c T h = some r → evCode P X g n (k + 1) c T h = some r
  | 0, c, T, h, r, hr => by simp [evCode] at hr
  | k + 1, c, T, h, r, hr => by
    unfold evCode at hr ⊢
    cases c with
    | skip => exact hr
    | label l => exact hr
    | region i ops d => cases d <;> exact hr
    | seq a b =>
      simp only at hr ⊢
      cases ha : evCode P X g n k a T h with
      | none => rw [ha] at hr; cases hr
      | some q =>
        rw [ha] at hr
        rw [evCode_more k a ha]
        obtain ⟨e, T1, h1⟩ := q
        cases e with
        | normal => exact evCode_more k b hr
        | _ => exact hr
    | cond x a b =>
      simp only at hr ⊢
      split
      · rename_i hx; rw [hx] at hr; exact evCode_more k a hr
      · rename_i hx; rw [hx] at hr; exact evCode_more k b hr
      · rename_i h1 h2
        split at hr
        · rename_i hx; exact absurd hx h1
        · rename_i hx; exact absurd hx h2
        · exact hr
    | block i b =>
      simp only at hr ⊢
      cases ha : evCode P X g n k b T h with
      | none => rw [ha] at hr; cases hr
      | some q =>
        rw [ha] at hr
        rw [evCode_more k b ha]
        exact hr
    | loop b =>
      simp only at hr ⊢
      cases ha : evCode P X g n k b T h with
      | none => rw [ha] at hr; cases hr
      | some q =>
        rw [ha] at hr
        rw [evCode_more k b ha]
        obtain ⟨e, T1, h1⟩ := q
        cases e with
        | normal => exact evCode_more k (.loop b) hr
        | _ => exact hr
    | exit i => exact hr
    | ret => exact hr
    | _ => exact hr
theorem evCode_le {k m : Nat} (hkm : k ≤ m) {c : Code} {T : Env} {h : Heap} {r : AExit × Env × Heap} (hr : evCode P X g n k c T h = some r) : evCode P X g n m c T h = some r := by
  induction hkm with
  | refl => exact hr
  | step _ ih => exact evCode_more _ _ ih
end

/-! ### code -/
inductive CRes where
  | bad
  | norm (T : Env) (h : Heap)
  | exit (i : Nat) (T : Env) (h : Heap)
  | ret (T : Env) (h : Heap)
def CRes.opt : CRes → Option (AExit × Env × Heap)
  | .bad => none
  | .norm T h => some (.normal, T, h)
  | .exit i T h => some (.exit i, T, h)
  | .ret T h => some (.ret, T, h)
def CRes.of : Option (Env × Heap) → CRes
  | none => .bad
  | some r => .norm r.1 r.2
inductive CodeC where
  | mk (f : Caller → Nat → Env → Heap → CRes)
def CodeC.run : CodeC → Caller → Nat → Env → Heap → CRes
  | .mk f => f
noncomputable def loopS (f : Env → Heap → CRes) : Nat → Env → Heap → CRes :=
  fun q => Nat.rec (fun _ _ => .bad) (fun _ ih T h => match f T h with
    | .norm T' h' => ih T' h'
    | r => r) q
noncomputable def regC (o : RegC) : CodeC := match o with
  | .mk f => .mk fun g _ T h => CRes.of (f g T h)
def inN (i : Nat) : List Nat → Bool
  | [] => false
  | j :: r => match Nat.beq i j with
    | true => true
    | false => inN i r
/-- a region that is drawn, its text looked at already -/
def runDrawN (P : Program) (X : Ext) (g : Caller) (n : Nat) (ops : Array Oper) (T : Env) (h : Heap) : Option (Env × Heap) :=
  (trace P X g n ops ops.toList 0 T h).bind fun (l, T', h') => if dynOk P ops (masks ops.toList []) [] l then some (T', h') else none
/-- what is asked of a function's text: which drawn regions are hard is told -/
def easyAll (hd : List Nat) : Code → Bool
  | .region i ops true => (match inN i hd with
    | true => staticOk ops
    | false => easyDraw ops)
  | .seq a b => easyAll hd a && easyAll hd b
  | .cond _ a b => easyAll hd a && easyAll hd b
  | .block _ b => easyAll hd b
  | .loop b => easyAll hd b
  | _ => true
noncomputable def codeS (P : Program) (X : Ext) (n : Nat) (hd : List Nat) : Code → CodeC
  | .skip => .mk fun _ _ T h => .norm T h
  | .label _ => .mk fun _ _ T h => .norm T h
  | .region _ ops false => regC (regS P X n ops ops.toList)
  | .region i ops true => match inN i hd with
    | false => regC (regS P X n ops ops.toList)
    | true => .mk fun g _ T h => CRes.of (runDrawN P X g n ops T h)
  | .seq a b => match codeS P X n hd a, codeS P X n hd b with
    | .mk f, .mk k => .mk fun g q T h => match f g q T h with
      | .norm T' h' => k g q T' h'
      | r => r
  | .cond x a b => match rvS x, codeS P X n hd a, codeS P X n hd b with
    | .mk u, .mk f, .mk k => .mk fun g q T h => match u T with
      | some (.bool b) => (match b with
        | true => f g q T h
        | false => k g q T h)
      | _ => .bad
  | .block i b => match codeS P X n hd b with
    | .mk f => .mk fun g q T h => match f g q T h with
      | .exit j T' h' => cond (Nat.beq j i) (.norm T' h') (.exit j T' h')
      | r => r
  | .loop b => match codeS P X n hd b with
    | .mk f => .mk fun g q T h => loopS (f g q) q T h
  | .exit i => .mk fun _ _ T h => .exit i T h
  | .ret => .mk fun _ _ T h => .ret T h
  | _ => .mk fun _ _ _ _ => .bad
theorem CRes.of_opt (o : Option (Env × Heap)) : (CRes.of o).opt = o.map fun r => (.normal, r) := by cases o <;> rfl
section
variable {P : Program} {X : Ext} {g : Caller} {n : Nat} (hN : NoGo P) {hd : List Nat}
theorem regC_eq (o : RegC) (q : Nat) (T : Env) (h : Heap) : (regC o).run g q T h = CRes.of (o.run g T h) := by cases o; rfl
include hN in
theorem codeS_sound (q : Nat) : ∀ (c : Code) (_ : easyAll hd c = true) {T : Env} {h : Heap} {r : AExit × Env × Heap}, ((codeS P X n hd c).run g q T h).opt = some r → ∃ k, evCode P X g n k c T h = some r := by
  intro c
  induction c with
  | skip => intro _ T h r hr; exact ⟨1, hr⟩
  | label l => intro _ T h r hr; exact ⟨1, hr⟩
  | exit i => intro _ T h r hr; exact ⟨1, hr⟩
  | ret => intro _ T h r hr; exact ⟨1, hr⟩
  | region i ops d =>
    intro hea T h r hr
    refine ⟨1, ?_⟩
    cases d with
    | false =>
      simp only [codeS, regC_eq, regS_eq hN, CRes.of_opt] at hr
      simp only [evCode]
      exact hr
    | true =>
      simp only [codeS] at hr
      simp only [evCode]
      simp only [easyAll] at hea
      cases he : inN i hd with
      | false =>
        rw [he] at hr hea
        simp only [regC_eq, regS_eq hN, CRes.of_opt] at hr
        rw [easy_draw hea]; exact hr
      | true =>
        rw [he] at hr hea
        simp only [CodeC.run, CRes.of_opt] at hr
        have e : runDraw P X g n ops T h = runDrawN P X g n ops T h := by unfold runDraw runDrawN; rw [if_pos hea]
        rw [e]
        exact hr
  | seq a b iha ihb =>
    intro hea T h r hr
    simp only [codeS] at hr
    cases ha : codeS P X n hd a with
    | mk f => cases hb : codeS P X n hd b with
      | mk k =>
        simp only [easyAll, Bool.and_eq_true] at hea
        have iha := @iha hea.1
        have ihb := @ihb hea.2
        rw [ha, hb] at hr
        rw [ha] at iha
        rw [hb] at ihb
        simp only [CodeC.run] at hr iha ihb
        cases hf : f g q T h with
        | bad => rw [hf] at hr; cases hr
        | norm T1 h1 =>
          rw [hf] at hr
          obtain ⟨k1, e1⟩ := iha (T := T) (h := h) (by rw [hf]; rfl)
          obtain ⟨k2, e2⟩ := ihb hr
          refine ⟨max k1 k2 + 1, ?_⟩
          simp only [evCode]
          rw [evCode_le (Nat.le_max_left k1 k2) e1]
          exact evCode_le (Nat.le_max_right k1 k2) e2
        | exit i T1 h1 =>
          rw [hf] at hr
          obtain ⟨k1, e1⟩ := iha (T := T) (h := h) (by rw [hf]; rfl)
          refine ⟨k1 + 1, ?_⟩
          simp only [evCode]
          rw [e1]; exact hr
        | ret T1 h1 =>
          rw [hf] at hr
          obtain ⟨k1, e1⟩ := iha (T := T) (h := h) (by rw [hf]; rfl)
          refine ⟨k1 + 1, ?_⟩
          simp only [evCode]
          rw [e1]; exact hr
  | cond x a b iha ihb =>
    intro hea T h r hr
    simp only [codeS] at hr
    have hx := rvS_eq x T
    cases hu : rvS x with
    | mk u => cases ha : codeS P X n hd a with
      | mk f => cases hb : codeS P X n hd b with
        | mk k =>
          simp only [easyAll, Bool.and_eq_true] at hea
          have iha := @iha hea.1
          have ihb := @ihb hea.2
          rw [hu, ha, hb] at hr
          rw [ha] at iha
          rw [hb] at ihb
          rw [hu] at hx
          simp only [CodeC.run, Fn1.run] at hr iha ihb hx
          rw [hx] at hr
          cases hv : rv T x with
          | none => rw [hv] at hr; cases hr
          | some v =>
            rw [hv] at hr
            cases v with
            | bool b =>
              cases b with
              | true =>
                obtain ⟨k1, e1⟩ := iha hr
                exact ⟨k1 + 1, by simp only [evCode, hv]; exact e1⟩
              | false =>
                obtain ⟨k1, e1⟩ := ihb hr
                exact ⟨k1 + 1, by simp only [evCode, hv]; exact e1⟩
            | _ => cases hr
  | block i b ih =>
    intro hea T h r hr
    simp only [codeS] at hr
    cases hb : codeS P X n hd b with
    | mk f =>
      simp only [easyAll] at hea
      have ih := @ih hea
      rw [hb] at hr ih
      simp only [CodeC.run] at hr ih
      cases hf : f g q T h with
      | bad => rw [hf] at hr; cases hr
      | norm T1 h1 =>
        rw [hf] at hr
        obtain ⟨k1, e1⟩ := ih (T := T) (h := h) (by rw [hf]; rfl)
        refine ⟨k1 + 1, ?_⟩
        simp only [evCode]
        rw [e1]; exact hr
      | ret T1 h1 =>
        rw [hf] at hr
        obtain ⟨k1, e1⟩ := ih (T := T) (h := h) (by rw [hf]; rfl)
        refine ⟨k1 + 1, ?_⟩
        simp only [evCode]
        rw [e1]; exact hr
      | exit j T1 h1 =>
        rw [hf] at hr
        obtain ⟨k1, e1⟩ := ih (T := T) (h := h) (by rw [hf]; rfl)
        refine ⟨k1 + 1, ?_⟩
        simp only [evCode]
        rw [e1]
        simp only at hr ⊢
        rw [Tree.cond_beq] at hr
        by_cases hj : j = i
        · rw [if_pos hj] at hr ⊢; exact hr
        · rw [if_neg hj] at hr ⊢; exact hr
  | loop b ih =>
    intro hea T h r hr
    simp only [codeS] at hr
    cases hb : codeS P X n hd b with
    | mk f =>
      simp only [easyAll] at hea
      have ih := @ih hea
      rw [hb] at hr ih
      simp only [CodeC.run] at hr ih
      have key : ∀ (m : Nat) (T : Env) (h : Heap), (loopS (f g q) m T h).opt = some r → ∃ k, evCode P X g n k (.loop b) T h = some r := by
        intro m
        induction m with
        | zero => intro T h hr; cases hr
        | succ m ihm =>
          intro T h hr
          have e : loopS (f g q) (m + 1) T h = (match f g q T h with
            | .norm T' h' => loopS (f g q) m T' h'
            | r => r) := rfl
          rw [e] at hr
          cases hf : f g q T h with
          | bad => rw [hf] at hr; cases hr
          | norm T1 h1 =>
            rw [hf] at hr
            obtain ⟨k1, e1⟩ := ih (T := T) (h := h) (by rw [hf]; rfl)
            obtain ⟨k2, e2⟩ := ihm T1 h1 hr
            refine ⟨max k1 k2 + 1, ?_⟩
            simp only [evCode]
            rw [evCode_le (Nat.le_max_left k1 k2) e1]
            exact evCode_le (Nat.le_max_right k1 k2) e2
          | exit i T1 h1 =>
            rw [hf] at hr
            obtain ⟨k1, e1⟩ := ih (T := T) (h := h) (by rw [hf]; rfl)
            refine ⟨k1 + 1, ?_⟩
            simp only [evCode]
            rw [e1]; exact hr
          | ret T1 h1 =>
            rw [hf] at hr
            obtain ⟨k1, e1⟩ := ih (T := T) (h := h) (by rw [hf]; rfl)
            refine ⟨k1 + 1, ?_⟩
            simp only [evCode]
            rw [e1]; exact hr
      exact key q T h hr
  | _ => intro _ T h r hr; cases hr
end

/-! ### the spine of a body: deferred calls, a select -/
inductive TRes where
  | bad
  | norm (T : Env) (h : Heap) (D : List Value)
  | exit (i : Nat) (T : Env) (h : Heap) (D : List Value)
  | ret (T : Env) (h : Heap) (D : List Value)
def TRes.opt : TRes → Option (AExit × Env × Heap × List Value)
  | .bad => none
  | .norm T h D => some (.normal, T, h, D)
  | .exit i T h D => some (.exit i, T, h, D)
  | .ret T h D => some (.ret, T, h, D)
def CRes.top (D : List Value) : CRes → TRes
  | .bad => .bad
  | .norm T h => .norm T h D
  | .exit i T h => .exit i T h D
  | .ret T h => .ret T h D
def TRes.of : Option (Env × Heap × List Value) → TRes
  | none => .bad
  | some r => .norm r.1 r.2.1 r.2.2
theorem CRes.top_opt (D : List Value) (r : CRes) : (r.top D).opt = r.opt.map fun q => (q.1, q.2.1, q.2.2, D) := by cases r <;> rfl
theorem TRes.of_opt (o : Option (Env × Heap × List Value)) : (TRes.of o).opt = o.map fun r => (.normal, r) := by cases o <;> rfl
inductive TopC where
  | mk (f : Caller → Nat → Env → Heap → List Value → TRes)
def TopC.run : TopC → Caller → Nat → Env → Heap → List Value → TRes
  | .mk f => f
/-- does a region ask for the spine's own reading? -/
def special (P : Program) (o : Oper) : Bool :=
  match o.op, o.guard with
  | .defer _, _ => true
  | .convert s d _, none => strTy P s d
  | _, _ => false
noncomputable def regTop (P : Program) (X : Ext) (n : Nat) (ops : Array Oper) (l : List Oper) : TopC :=
  match l.any (special P) with
  | true => .mk fun g _ T h D => TRes.of (runDef P X g n ops l T h D)
  | false => match regS P X n ops l with
    | .mk k => .mk fun g _ T h D => (CRes.of (k g T h)).top D
noncomputable def topS (P : Program) (X : Ext) (n : Nat) (hd : List Nat) : Code → TopC
  | .seq a b => match topS P X n hd a, topS P X n hd b with
    | .mk f, .mk k => .mk fun g q T h D => match f g q T h D with
      | .norm T' h' D' => k g q T' h' D'
      | r => r
  | .region _ ops false => match ops.toList with
    | [] => .mk fun _ _ T h D => .norm T h D
    | o :: rest => (match o.op, o.guard with
      | .select cs false, none => (match cs.toList, regS P X n ops rest with
        | [c], .mk k => .mk fun g _ T h D => match (selAt P T h c).bind fun r => (fillSlot n T o.dst r.1).map fun T1 => (T1, r.2) with
          | some q => (CRes.of (k g q.1 q.2)).top D
          | none => .bad
        | _, _ => .mk fun _ _ _ _ _ => .bad)
      | _, _ => regTop P X n ops (o :: rest))
  | c => match codeS P X n hd c with
    | .mk f => .mk fun g q T h D => (f g q T h).top D
section
variable {P : Program} {X : Ext} {g : Caller} {n : Nat} (hN : NoGo P) {hd : List Nat}
theorem runDef_plain {ops : Array Oper} : ∀ (l : List Oper) (T : Env) (h : Heap) (D : List Value), l.any (special P) = false → runDef P X g n ops l T h D = (runOps P X g n ops l T h).map fun q => (q.1, q.2, D)
  | [], T, h, D, _ => rfl
  | o :: r, T, h, D, hs => by
    simp only [List.any_cons, Bool.or_eq_false_iff] at hs
    have ih := fun T h => runDef_plain (ops := ops) r T h D hs.2
    have core : ((aval P X g ops T h o).bind fun x => (fillSlot n T o.dst x.1).bind fun T' => runDef P X g n ops r T' x.2 D) = (runOps P X g n ops (o :: r) T h).map fun q => (q.1, q.2, D) := by
      simp only [runOps, ih]
      cases aval P X g ops T h o with
      | none => rfl
      | some x =>
        simp only [Option.bind_some]
        cases fillSlot n T o.dst x.1 <;> rfl
    rw [← core]
    have h1 := hs.1
    unfold special at h1
    conv => lhs; unfold runDef
    split
    · rename_i hop hgd
      rw [hop] at h1
      cases h1
    · rename_i hop hgd
      rw [hop, hgd] at h1
      simp only at h1
      rw [h1]
      rfl
    · rfl
theorem evTop_more : ∀ (k : Nat) (c : Code) {T : Env} {h : Heap} {D : List Value} {r : AExit × Env × Heap × List Value}, evTop P X g n k c T h D = some r → evTop P X g n (k + 1) c T h D = some r
  | 0, c, T, h, D, r, hr => by simp [evTop] at hr
  | k + 1, c, T, h, D, r, hr => by
    have plain : (evCode P X g n (k + 1) c T h).map (fun q => (q.1, q.2.1, q.2.2, D)) = some r → (evCode P X g n (k + 1 + 1) c T h).map (fun q => (q.1, q.2.1, q.2.2, D)) = some r := by
      intro hh
      obtain ⟨q, hq, e⟩ := Option.map_eq_some_iff.mp hh
      rw [evCode_more _ c hq]
      exact congrArg some e
    unfold evTop at hr ⊢
    cases c with
    | seq a b =>
      simp only at hr ⊢
      cases ha : evTop P X g n k a T h D with
      | none => rw [ha] at hr; cases hr
      | some q =>
        rw [ha] at hr
        rw [evTop_more k a ha]
        obtain ⟨e, T1, h1, D1⟩ := q
        cases e with
        | normal => exact evTop_more k b hr
        | _ => exact hr
    | region i ops d =>
      cases d with
      | false => exact hr
      | true => exact plain hr
    | _ => exact plain hr
theorem evTop_le {k m : Nat} (hkm : k ≤ m) {c : Code} {T : Env} {h : Heap} {D : List Value} {r : AExit × Env × Heap × List Value} (hr : evTop P X g n k c T h D = some r) : evTop P X g n m c T h D = some r := by
  induction hkm with
  | refl => exact hr
  | step _ ih => exact evTop_more _ _ ih
include hN in
theorem regTop_eq {ops : Array Oper} (l : List Oper) (q : Nat) (T : Env) (h : Heap) (D : List Value) : ((regTop P X n ops l).run g q T h D).opt = (runDef P X g n ops l T h D).map fun r => (.normal, r) := by
  unfold regTop
  cases hs : l.any (special P) with
  | true => simp only [TopC.run, TRes.of_opt]
  | false =>
    have h2 := regS_eq hN X n ops l g T h
    simp only
    cases hk : regS P X n ops l with
    | mk k =>
      rw [hk] at h2
      simp only [RegC.run] at h2
      simp only [TopC.run, CRes.top_opt, CRes.of_opt, h2, runDef_plain l T h D hs]
      cases runOps P X g n ops l T h <;> rfl
include hN in
theorem topS_sound (q : Nat) : ∀ (c : Code) (_ : easyAll hd c = true) {T : Env} {h : Heap} {D : List Value} {r : AExit × Env × Heap × List Value}, ((topS P X n hd c).run g q T h D).opt = some r → ∃ k, evTop P X g n k c T h D = some r := by
  intro c
  have plain : ∀ (c : Code), easyAll hd c = true → (∀ k T h D, evTop P X g n (k + 1) c T h D = (evCode P X g n (k + 1) c T h).map fun q => (q.1, q.2.1, q.2.2, D)) → ∀ {T : Env} {h : Heap} {D : List Value} {r : AExit × Env × Heap × List Value},
      ((match codeS P X n hd c with | .mk f => TopC.mk fun g q T h D => (f g q T h).top D).run g q T h D).opt = some r → ∃ k, evTop P X g n k c T h D = some r := by
    intro c hea he T h D r hr
    have hs := fun r => codeS_sound (P := P) (X := X) (g := g) (n := n) hN q c hea (T := T) (h := h) (r := r)
    cases hc : codeS P X n hd c with
    | mk f =>
      rw [hc] at hr hs
      simp only [TopC.run, CRes.top_opt, CodeC.run] at hr hs
      obtain ⟨x, hx, e⟩ := Option.map_eq_some_iff.mp hr
      obtain ⟨k, hk⟩ := hs _ hx
      refine ⟨k + 1, ?_⟩
      rw [he, evCode_more k c hk]
      exact congrArg some e
  induction c with
  | seq a b iha ihb =>
    intro hea T h D r hr
    simp only [topS] at hr
    cases ha : topS P X n hd a with
    | mk f => cases hb : topS P X n hd b with
      | mk k =>
        simp only [easyAll, Bool.and_eq_true] at hea
        have iha := @iha hea.1
        have ihb := @ihb hea.2
        rw [ha, hb] at hr
        rw [ha] at iha
        rw [hb] at ihb
        simp only [TopC.run] at hr iha ihb
        cases hf : f g q T h D with
        | bad => rw [hf] at hr; cases hr
        | norm T1 h1 D1 =>
          rw [hf] at hr
          obtain ⟨k1, e1⟩ := iha (T := T) (h := h) (D := D) (by rw [hf]; rfl)
          obtain ⟨k2, e2⟩ := ihb hr
          refine ⟨max k1 k2 + 1, ?_⟩
          simp only [evTop]
          rw [evTop_le (Nat.le_max_left k1 k2) e1]
          exact evTop_le (Nat.le_max_right k1 k2) e2
        | exit i T1 h1 D1 =>
          rw [hf] at hr
          obtain ⟨k1, e1⟩ := iha (T := T) (h := h) (D := D) (by rw [hf]; rfl)
          refine ⟨k1 + 1, ?_⟩
          simp only [evTop]
          rw [e1]; exact hr
        | ret T1 h1 D1 =>
          rw [hf] at hr
          obtain ⟨k1, e1⟩ := iha (T := T) (h := h) (D := D) (by rw [hf]; rfl)
          refine ⟨k1 + 1, ?_⟩
          simp only [evTop]
          rw [e1]; exact hr
  | region i ops d =>
    intro hea T h D r hr
    cases d with
    | true => exact plain _ hea (fun k T h D => rfl) hr
    | false =>
      simp only [topS] at hr
      refine ⟨1, ?_⟩
      simp only [evTop]
      cases ho : ops.toList with
      | nil => rw [ho] at hr; exact hr
      | cons o rest =>
        rw [ho] at hr
        simp only at hr ⊢
        split
        · rename_i cs hop hgd
          rw [hop, hgd] at hr
          simp only at hr
          cases hcs : cs.toList with
          | nil => rw [hcs] at hr; cases hk : regS P X n ops rest with | mk k => rw [hk] at hr; cases hr
          | cons c cs' =>
            cases cs' with
            | cons c2 cs2 => rw [hcs] at hr; cases hk : regS P X n ops rest with | mk k => rw [hk] at hr; cases hr
            | nil =>
              rw [hcs] at hr
              have h2 := fun T h => regS_eq hN X n ops rest g T h
              cases hk : regS P X n ops rest with
              | mk k =>
                rw [hk] at hr h2
                simp only [RegC.run, TopC.run] at hr h2
                cases hs : selAt P T h c with
                | none => rw [hs] at hr; cases hr
                | some x =>
                  rw [hs] at hr
                  simp only [hs, Option.bind_some] at hr ⊢
                  cases hf : fillSlot n T o.dst x.1 with
                  | none => rw [hf] at hr; cases hr
                  | some T1 =>
                    rw [hf] at hr
                    simp only [Option.map_some, CRes.top_opt, CRes.of_opt, h2, Option.map_map] at hr
                    simp only [Option.bind_some]
                    cases hro : runOps P X g n ops rest T1 x.2 with
                    | none => rw [hro] at hr; cases hr
                    | some y => rw [hro] at hr; exact hr
        · rename_i hno
          have e : ((regTop P X n ops (o :: rest)).run g q T h D).opt = some r := by
            split at hr
            · rename_i cs hop hgd
              exact absurd hgd (hno cs hop)
            · exact hr
          rw [regTop_eq hN] at e
          exact e
  | _ => intro hea T h D r hr; exact plain _ hea (fun k T h D => rfl) hr
theorem evRec_le {k m : Nat} (hkm : k ≤ m) {v : Value} {h h' : Heap} (hr : evRec P X g k v h = some h') : evRec P X g m v h = some h' := by
  unfold evRec at hr ⊢
  cases v with
  | func fn x y =>
    cases fn with
    | func f =>
      simp only at hr ⊢
      cases hf : P.funcs[f]? with
      | none => rw [hf] at hr; cases hr
      | some fn =>
        rw [hf] at hr
        simp only at hr ⊢
        split
        · rename_i hn; rw [if_pos hn] at hr; cases hr
        · rename_i hn
          rw [if_neg hn] at hr
          split
          · rename_i id ops c hb
            rw [hb] at hr
            simp only at hr
            split
            · rename_i o rest ho
              rw [ho] at hr
              simp only at hr
              split
              · rename_i hop hgd
                rw [hop, hgd] at hr
                simp only at hr
                split
                · rename_i hl
                  rw [if_pos hl] at hr
                  simp only [Option.bind_eq_some_iff] at hr ⊢
                  obtain ⟨T1, hT, q, hq, r, hr1, hr2⟩ := hr
                  exact ⟨T1, hT, q, hq, r, evCode_le hkm hr1, hr2⟩
                · rename_i hl; rw [if_neg hl] at hr; cases hr
              · rename_i hno
                split at hr
                · rename_i hop hgd; exact absurd hgd (hno _ _ hop)
                · cases hr
            · rename_i ho; rw [ho] at hr; cases hr
          · rename_i hno
            split at hr
            · rename_i id ops c hb; exact absurd hb (hno _ _ _)
            · cases hr
    | _ => cases hr
  | _ => cases hr
theorem evRecs_le {k m : Nat} (hkm : k ≤ m) : ∀ {D : List Value} {h h' : Heap}, evRecs P X g k D h = some h' → evRecs P X g m D h = some h'
  | [], _, _, hr => hr
  | v :: D, h, h', hr => by
    simp only [evRecs, Option.bind_eq_some_iff] at hr ⊢
    obtain ⟨h1, e1, e2⟩ := hr
    exact ⟨h1, evRec_le hkm e1, evRecs_le hkm e2⟩
end

/-! ### functions -/
inductive FnC where
  | no
  | spine (m : Nat) (f : Caller → Nat → Env → Heap → List Value → TRes) (rs : List ResultVar)
  | code (m : Nat) (f : Caller → Nat → Env → Heap → CRes) (rs : List ResultVar)
noncomputable def funC (P : Program) (X : Ext) (F : List FuncId) (hdT : FuncId → List Nat) (f : FuncId) : FnC :=
  match F.contains f with
  | true => (match P.funcs[f]? with
    | none => .no
    | some fn => match fn.body with
      | none => .no
      | some c => match topS P X fn.ntmps (hdT f) c with
        | .mk k => .spine fn.ntmps k fn.results.toList)
  | false => match P.funcs[f]? with
    | none => .no
    | some fn => match fn.body with
      | none => .no
      | some c => match codeS P X fn.ntmps (hdT f) c with
        | .mk k => .code fn.ntmps k fn.results.toList
noncomputable def bodyS (P : Program) (X : Ext) (F : List FuncId) (hdT : FuncId → List Nat) (q : Nat) (g : Caller) (f : FuncId) (args : List Value) (h : Heap) : Option (Value × Heap) :=
  match funC P X F hdT f with
  | .no => none
  | .spine m k rs => match Nat.ble args.length m with
    | true => (match k g q (initEnv args) h [] with
      | .norm T h' D | .ret T h' D => (evRecs P X g q D h').bind fun h2 => (aresults P T h2 rs).map fun vs => (asOne vs, h2)
      | _ => none)
    | false => none
  | .code m k rs => match Nat.ble args.length m with
    | true => (match k g q (initEnv args) h with
      | .norm T h' => (aresults P T h' rs).map fun vs => (asOne vs, h')
      | .ret T h' => (aresults P T h' rs).map fun vs => (asOne vs, h')
      | _ => none)
    | false => none
/-- what is known of functions beside their text -/
inductive Tab where
  | no
  | yes (c : Caller)
def Tab.run : Tab → Caller
  | .no => fun _ _ _ => none
  | .yes c => c
noncomputable def evS (P : Program) (X : Ext) (F : List FuncId) (hdT : FuncId → List Nat) (tab : FuncId → Tab) (q : Nat) : Nat → Caller :=
  fun d => Nat.rec (fun _ _ _ => none) (fun _ g f args h => match tab f with
    | .no => bodyS P X F hdT q g f args h
    | .yes c => match c f args h with
      | some r => some r
      | none => bodyS P X F hdT q g f args h) d
/-- each function's text is as it is told -/
def EasyT (P : Program) (hdT : FuncId → List Nat) : Prop := ∀ (f : FuncId) (fn : Func) (c : Code), P.funcs[f]? = some fn → fn.body = some c → easyAll (hdT f) c = true
def easyFns (hdT : FuncId → List Nat) : List Func → Nat → Bool
  | [], _ => true
  | fn :: r, i => (match fn.body with
    | none => true
    | some c => easyAll (hdT i) c) && easyFns hdT r (i + 1)
theorem easyFns_get {hdT : FuncId → List Nat} : ∀ (l : List Func) (i : Nat), easyFns hdT l i = true → ∀ (k : Nat) (fn : Func) (c : Code), l[k]? = some fn → fn.body = some c → easyAll (hdT (i + k)) c = true
  | [], i, _, k, fn, c, hk, _ => by simp at hk
  | x :: r, i, h, k, fn, c, hk, hb => by
    simp only [easyFns, Bool.and_eq_true] at h
    cases k with
    | zero =>
      simp only [List.getElem?_cons_zero, Option.some.injEq] at hk
      subst hk
      have h1 := h.1
      rw [hb] at h1
      exact h1
    | succ k =>
      have := easyFns_get r (i + 1) h.2 k fn c (by simpa using hk) hb
      rwa [show i + (k + 1) = i + 1 + k by omega]
theorem EasyT.of {P : Program} {hdT : FuncId → List Nat} (h : easyFns hdT P.funcs.toList 0 = true) : EasyT P hdT := by
  intro f fn c hf hb
  have := easyFns_get _ 0 h f fn c (by simpa using hf) hb
  rwa [Nat.zero_add] at this
section
variable {P : Program} {X : Ext} {g : Caller} {B : Nat} (hN : NoGo P) {hdT : FuncId → List Nat} (hE : EasyT P hdT)
include hN hE in
theorem bodyS_eq {F : List FuncId} {q : Nat} {f : FuncId} {args : List Value} {h : Heap} {r : Value × Heap} (hr : bodyS P X F hdT q g f args h = some r) :
    (∃ k, evSpine P X g k f args h = some r) ∨ ∃ k, evBody P X g k f args h = some r := by
  unfold bodyS funC at hr
  cases hF : F.contains f with
  | true =>
    rw [hF] at hr
    left
    unfold evSpine
    cases hf : P.funcs[f]? with
    | none => rw [hf] at hr; cases hr
    | some fn =>
      rw [hf] at hr
      simp only at hr ⊢
      cases hb : fn.body with
      | none => rw [hb] at hr; cases hr
      | some c =>
        rw [hb] at hr
        simp only at hr ⊢
        have hs := fun T h D r => topS_sound (P := P) (X := X) (g := g) (n := fn.ntmps) hN q c (hE f fn c hf hb) (T := T) (h := h) (D := D) (r := r)
        cases hc : topS P X fn.ntmps (hdT f) c with
        | mk k =>
          rw [hc] at hr hs
          simp only [TopC.run] at hr hs
          cases hl : Nat.ble args.length fn.ntmps with
          | false => rw [hl] at hr; cases hr
          | true =>
            rw [hl] at hr
            simp only [if_pos (Nat.le_of_ble_eq_true hl)]
            simp only at hr
            have fin : ∀ (m : Nat) (e : AExit) (T1 : Env) (h1 : Heap) (D1 : List Value), (e = .normal ∨ e = .ret) → evTop P X g fn.ntmps m c (initEnv args) h [] = some (e, T1, h1, D1) →
                ((evRecs P X g q D1 h1).bind fun h2 => (aresults P T1 h2 fn.results.toList).map fun vs => (asOne vs, h2)) = some r →
                ∃ k, ((evTop P X g fn.ntmps k c (initEnv args) h []).bind fun r => match r.1 with
                  | .normal | .ret => (evRecs P X g k r.2.2.2 r.2.2.1).bind fun h' => (aresults P r.2.1 h' fn.results.toList).map fun vs => (asOne vs, h')
                  | _ => none) = some r := by
              intro m e T1 h1 D1 he e1 hr
              refine ⟨max m q, ?_⟩
              rw [evTop_le (Nat.le_max_left m q) e1]
              obtain ⟨h2, e2, e3⟩ := Option.bind_eq_some_iff.mp hr
              have e4 := evRecs_le (Nat.le_max_right m q) e2
              rcases he with rfl | rfl
              · simp only [Option.bind_some, e4]; exact e3
              · simp only [Option.bind_some, e4]; exact e3
            cases hk : k g q (initEnv args) h [] with
            | bad => rw [hk] at hr; cases hr
            | exit i T1 h1 D1 => rw [hk] at hr; cases hr
            | norm T1 h1 D1 =>
              rw [hk] at hr
              obtain ⟨m, e⟩ := hs (initEnv args) h [] (.normal, T1, h1, D1) (by rw [hk]; rfl)
              exact fin m .normal T1 h1 D1 (.inl rfl) e hr
            | ret T1 h1 D1 =>
              rw [hk] at hr
              obtain ⟨m, e⟩ := hs (initEnv args) h [] (.ret, T1, h1, D1) (by rw [hk]; rfl)
              exact fin m .ret T1 h1 D1 (.inr rfl) e hr
  | false =>
    rw [hF] at hr
    right
    unfold evBody
    cases hf : P.funcs[f]? with
    | none => rw [hf] at hr; cases hr
    | some fn =>
      rw [hf] at hr
      simp only at hr ⊢
      cases hb : fn.body with
      | none => rw [hb] at hr; cases hr
      | some c =>
        rw [hb] at hr
        simp only at hr ⊢
        have hs := fun T h r => codeS_sound (P := P) (X := X) (g := g) (n := fn.ntmps) hN q c (hE f fn c hf hb) (T := T) (h := h) (r := r)
        cases hc : codeS P X fn.ntmps (hdT f) c with
        | mk k =>
          rw [hc] at hr hs
          simp only [CodeC.run] at hr hs
          cases hl : Nat.ble args.length fn.ntmps with
          | false => rw [hl] at hr; cases hr
          | true =>
            rw [hl] at hr
            simp only [if_pos (Nat.le_of_ble_eq_true hl)]
            simp only at hr
            cases hk : k g q (initEnv args) h with
            | bad => rw [hk] at hr; cases hr
            | exit i T1 h1 => rw [hk] at hr; cases hr
            | norm T1 h1 =>
              rw [hk] at hr
              obtain ⟨m, e⟩ := hs (initEnv args) h (.normal, T1, h1) (by rw [hk]; rfl)
              exact ⟨m, by rw [e]; exact hr⟩
            | ret T1 h1 =>
              rw [hk] at hr
              obtain ⟨m, e⟩ := hs (initEnv args) h (.ret, T1, h1) (by rw [hk]; rfl)
              exact ⟨m, by rw [e]; exact hr⟩
include hN hE in
theorem evS_next {F : List FuncId} {tab : FuncId → Tab} {q : Nat} (ht : ∀ f, NextMono (tab f).run) : ∀ d, NextMono (evS P X F hdT tab q d)
  | 0 => fun f args h v h' _ hr => by cases hr
  | d + 1 => fun f args h v h' hk hr => by
    have body : bodyS P X F hdT q (evS P X F hdT tab q d) f args h = some (v, h') → h.next ≤ h'.next ∧ h'.ok := by
      intro hb
      rcases bodyS_eq hN hE hb with ⟨k, h1⟩ | ⟨k, h1⟩
      · exact evSpine_next (evS_next ht d) k f args h v h' hk h1
      · exact evBody_next (evS_next ht d) hk h1
    have e : evS P X F hdT tab q (d + 1) f args h = (match tab f with
      | .no => bodyS P X F hdT q (evS P X F hdT tab q d) f args h
      | .yes c => match c f args h with
        | some r => some r
        | none => bodyS P X F hdT q (evS P X F hdT tab q d) f args h) := rfl
    rw [e] at hr
    have hn := ht f
    cases htf : tab f with
    | no => rw [htf] at hr; exact body hr
    | yes c =>
      rw [htf] at hr hn
      simp only [Tab.run] at hr hn
      cases hc : c f args h with
      | none => rw [hc] at hr; exact body hr
      | some r =>
        rw [hc] at hr
        obtain rfl := Option.some.inj hr
        exact hn _ _ _ _ _ hk hc
include hN hE in
theorem evS_sim {F : List FuncId} {tab : FuncId → Tab} {q : Nat} (hmix : P.follows .mixedOrders = true) (hX : ExtOk P X) (ht : ∀ f, NextMono (tab f).run) (hs : ∀ f, Sim P B (tab f).run) : ∀ d, Sim P B (evS P X F hdT tab q d)
  | 0 => fun f args h v h' hr => by cases hr
  | d + 1 => fun f args h v h' hr => by
    have e : evS P X F hdT tab q (d + 1) f args h = (match tab f with
      | .no => bodyS P X F hdT q (evS P X F hdT tab q d) f args h
      | .yes c => match c f args h with
        | some r => some r
        | none => bodyS P X F hdT q (evS P X F hdT tab q d) f args h) := rfl
    rw [e] at hr
    have body : bodyS P X F hdT q (evS P X F hdT tab q d) f args h = some (v, h') → ∀ ρ w args', HRel B ρ h w → VRels ρ args args' →
        Calls P f args'.toArray w fun e w' => ∃ v' ρ', e = .returned v' ∧ VRel ρ' v v' ∧ HRel B ρ' h' w' ∧ Step ρ h w ρ' h' w' := by
      intro hb
      rcases bodyS_eq hN hE hb with ⟨k, h1⟩ | ⟨k, h1⟩
      · exact evSpine_sim hmix (evS_sim hmix hX ht hs d) hX (evS_next hN hE ht d) k f args h v h' h1
      · exact evBody_sim hmix (evS_sim hmix hX ht hs d) hX (evS_next hN hE ht d) k f args h v h' h1
    have hn := hs f
    cases htf : tab f with
    | no => rw [htf] at hr; exact body hr
    | yes c =>
      rw [htf] at hr hn
      simp only [Tab.run] at hr hn
      cases hc : c f args h with
      | none => rw [hc] at hr; exact body hr
      | some r =>
        rw [hc] at hr
        obtain rfl := Option.some.inj hr
        exact hn _ _ _ _ _ hc
include hN hE in
/-- a call computed -/
theorem DoesOk.of_fast {F : List FuncId} {tab : FuncId → Tab} {q d : Nat} {f : FuncId} {args : List Value} {h h' : Heap} {v : Value} (hmix : P.follows .mixedOrders = true) (hX : ExtOk P X)
    (ht : ∀ f, NextMono (tab f).run) (hs : ∀ B f, Sim P B (tab f).run) (he : evS P X F hdT tab q d f args h = some (v, h')) : DoesOk P f args h v h' :=
  ⟨fun B ρ w args' hH ha => evS_sim hN hE hmix hX ht (hs B) d _ _ _ _ _ he ρ w args' hH ha, fun hk => evS_next hN hE ht d _ _ _ _ _ hk he⟩
end
end Go.Proofs.YthijllagngkbgaaGreat.Eng
