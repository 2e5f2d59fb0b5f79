/- The engine, part 11: a region whose order is drawn: what is asked of it by its text, and of its run in the order of the text. -/
import Derived.Test.YthijllagngkbgaaGreatEngText
namespace Go.Proofs.YthijllagngkbgaaGreat.Eng
open Go

/-! ### what comes ahead of what -/
inductive Pre (ops : Array Oper) : Nat → Nat → Prop
  | edge (j : Nat) (o : Oper) (e : Edge) (ho : ops[j]? = some o) (he : e ∈ o.after) (hb : Region.binds .any e = true) : Pre ops e.on j
  | trans (i k j : Nat) (h1 : Pre ops i k) (h2 : Pre ops k j) : Pre ops i j

def maskOf (acc : List Nat) (o : Oper) : Nat := o.after.toList.foldl (fun s e => if Region.binds .any e then s ||| 2 ^ e.on ||| acc.getD e.on 0 else s) 0

def masks : List Oper → List Nat → List Nat
  | [], acc => acc
  | o :: r, acc => masks r (acc ++ [maskOf acc o])

theorem fold_mask (acc : List Nat) : ∀ (es : List Edge) (s i : Nat), (es.foldl (fun s e => if Region.binds .any e then s ||| 2 ^ e.on ||| acc.getD e.on 0 else s) s).testBit i = true →
    s.testBit i = true ∨ ∃ e ∈ es, Region.binds .any e = true ∧ (i = e.on ∨ (acc.getD e.on 0).testBit i = true)
  | [], s, i, h => .inl h
  | e :: es, s, i, h => by
    simp only [List.foldl_cons] at h
    rcases fold_mask acc es _ i h with h | ⟨e', he, hb, hi⟩
    · by_cases hb : Region.binds .any e = true
      · rw [if_pos hb] at h
        simp only [Nat.testBit_or, Nat.testBit_two_pow, Bool.or_eq_true, decide_eq_true_eq] at h
        rcases h with (h | h) | h
        · exact .inl h
        · exact .inr ⟨e, by simp, hb, .inl h.symm⟩
        · exact .inr ⟨e, by simp, hb, .inr h⟩
      · rw [if_neg hb] at h; exact .inl h
    · exact .inr ⟨e', by simp [he], hb, hi⟩

theorem masks_pre (ops : Array Oper) : ∀ (r : List Oper) (acc : List Nat), ops.toList.drop acc.length = r → (∀ j m, acc[j]? = some m → ∀ i, m.testBit i = true → Pre ops i j) →
    ∀ j m, (masks r acc)[j]? = some m → ∀ i, m.testBit i = true → Pre ops i j
  | [], acc, _, ha, j, m, hm, i, hi => ha j m hm i hi
  | o :: r, acc, hd, ha, j, m, hm, i, hi => by
    have ho : ops[acc.length]? = some o := by
      have := congrArg (·[0]?) hd
      simpa using this
    refine masks_pre ops r (acc ++ [maskOf acc o]) ?_ ?_ j m hm i hi
    · have := congrArg List.tail hd
      simpa [List.tail_drop] using this
    · intro j m hm i hi
      by_cases hj : j < acc.length
      · rw [List.getElem?_append_left hj] at hm
        exact ha j m hm i hi
      · have : j = acc.length := by
          rcases Nat.lt_or_ge j (acc.length + 1) with h | h
          · omega
          · rw [List.getElem?_eq_none (by simp; omega)] at hm; cases hm
        subst this
        simp at hm
        subst hm
        rcases fold_mask acc _ _ _ hi with h | ⟨e, he, hb, h⟩
        · simp at h
        · have hpre : Pre ops e.on acc.length := .edge _ o e ho (by simpa using he) hb
          rcases h with h | h
          · rw [h]; exact hpre
          · rw [List.getD_eq_getElem?_getD] at h
            cases hq : acc[e.on]? with
            | none => rw [hq] at h; simp at h
            | some q =>
              rw [hq] at h
              exact .trans _ _ _ (ha _ _ hq i h) hpre

def isHeavy (o : Oper) : Bool := decide (kindOf o.op = .heavy)

def pairsOk (ops : Array Oper) : List (Oper × Nat) → List Oper → List Nat → Nat → Bool
  | _, [], _, _ => true
  | prev, o :: r, ms, j =>
    prev.all (fun (p, i) => (Oper.apart ops p o && !(isHeavy p && isHeavy o)) || (ms.getD j 0).testBit i) && pairsOk ops ((o, j) :: prev) r ms (j + 1)

theorem pairsOk_spec (ops : Array Oper) (ms : List Nat) : ∀ (r : List Oper) (prev : List (Oper × Nat)) (j : Nat), ops.toList.drop j = r → pairsOk ops prev r ms j = true →
    (∀ i p, i < j → ops[i]? = some p → (p, i) ∈ prev) → ∀ i k p o, i < k → j ≤ k → ops[i]? = some p → ops[k]? = some o → (Oper.apart ops p o && !(isHeavy p && isHeavy o)) = true ∨ (ms.getD k 0).testBit i = true
  | [], prev, j, hd, _, _, i, k, p, o, hik, hjk, _, ho => by
    have hl : ops.size ≤ j := by
      have := congrArg List.length hd
      simp at this; omega
    rw [Array.getElem?_eq_none (by omega)] at ho
    cases ho
  | q :: r, prev, j, hd, h, hp, i, k, p, o, hik, hjk, hpi, ho => by
    have hq : ops[j]? = some q := by
      have := congrArg (·[0]?) hd
      simpa using this
    have hd' : ops.toList.drop (j + 1) = r := by
      have := congrArg List.tail hd
      simpa [List.tail_drop] using this
    simp only [pairsOk, Bool.and_eq_true, List.all_eq_true] at h
    by_cases e : k = j
    · subst e
      rw [hq] at ho
      obtain rfl := Option.some.inj ho
      have := h.1 (p, i) (hp i p hik hpi)
      simpa using this
    · refine pairsOk_spec ops ms r ((q, j) :: prev) (j + 1) hd' h.2 ?_ i k p o hik (by omega) hpi ho
      intro i' p' hi' hp'
      by_cases e2 : i' = j
      · subst e2; rw [hq] at hp'; obtain rfl := Option.some.inj hp'; simp
      · exact List.mem_cons_of_mem _ (hp i' p' (by omega) hp')

def edgesOk : List Oper → Nat → Bool
  | [], _ => true
  | o :: r, i => o.after.toList.all (fun e => !Region.binds .any e || decide (e.on < i)) && edgesOk r (i + 1)

theorem edgesOk_spec (ops : Array Oper) : ∀ (r : List Oper) (j : Nat), ops.toList.drop j = r → edgesOk r j = true → ∀ i o, j ≤ i → ops[i]? = some o → ∀ e ∈ o.after, Region.binds .any e = true → e.on < i
  | [], j, hd, _, i, o, hji, ho => by
    have hl : ops.size ≤ j := by
      have := congrArg List.length hd
      simp at this; omega
    rw [Array.getElem?_eq_none (by omega)] at ho
    cases ho
  | q :: r, j, hd, h, i, o, hji, ho => by
    have hq : ops[j]? = some q := by
      have := congrArg (·[0]?) hd
      simpa using this
    have hd' : ops.toList.drop (j + 1) = r := by
      have := congrArg List.tail hd
      simpa [List.tail_drop] using this
    simp only [edgesOk, Bool.and_eq_true, List.all_eq_true] at h
    by_cases e : i = j
    · subst e
      rw [hq] at ho
      obtain rfl := Option.some.inj ho
      intro e he hb
      have := h.1 e (by simpa using he)
      simpa [hb] using this
    · exact edgesOk_spec ops r (j + 1) hd' h.2 i o (by omega) ho

def staticOk (ops : Array Oper) : Bool := edgesOk ops.toList 0 && pairsOk ops [] ops.toList (masks ops.toList []) 0

/-- two operations at odds are ordered -/
theorem static_pre {ops : Array Oper} (h : staticOk ops = true) {i j : Nat} {p o : Oper} (hij : i < j) (hp : ops[i]? = some p) (ho : ops[j]? = some o) :
    (Oper.apart ops p o = true ∧ ¬ (kindOf p.op = .heavy ∧ kindOf o.op = .heavy)) ∨ Pre ops i j := by
  simp only [staticOk, Bool.and_eq_true] at h
  rcases pairsOk_spec ops _ ops.toList [] 0 rfl h.2 (fun i p hi => by omega) i j p o hij (Nat.zero_le _) hp ho with h1 | h1
  · left
    simp only [Bool.and_eq_true, Bool.not_eq_true', isHeavy] at h1
    refine ⟨h1.1, fun ⟨a, b⟩ => ?_⟩
    simp [a, b] at h1
  · right
    rw [List.getD_eq_getElem?_getD] at h1
    cases hq : (masks ops.toList [])[j]? with
    | none => rw [hq] at h1; simp at h1
    | some q => rw [hq] at h1; exact masks_pre ops ops.toList [] rfl (fun j m hm => by simp at hm) j q hq i h1

theorem static_edge {ops : Array Oper} (h : staticOk ops = true) {i : Nat} {o : Oper} (ho : ops[i]? = some o) : ∀ e ∈ o.after, Region.binds .any e = true → e.on < i := by
  simp only [staticOk, Bool.and_eq_true] at h
  exact edgesOk_spec ops ops.toList 0 rfl h.1 i o (Nat.zero_le _) ho

theorem pre_closed {ops : Array Oper} {S : Nat → Prop} (hc : ∀ j o, S j → ops[j]? = some o → ∀ e ∈ o.after, Region.binds .any e = true → S e.on) {i j : Nat} (h : Pre ops i j) :
    (∀ o, ops[j]? = some o → ∀ e ∈ o.after, Region.binds .any e = true → S e.on) → S i := by
  induction h with
  | edge j o e ho he hb => exact fun hd => hd o ho e he hb
  | trans i k j h1 h2 ih1 ih2 => exact fun hd => ih1 fun o ho => hc k o (ih2 hd) ho

theorem pre_lt {ops : Array Oper} (h : staticOk ops = true) {i j : Nat} (hp : Pre ops i j) : i < j := by
  induction hp with
  | edge j o e ho he hb => exact static_edge h ho e he hb
  | trans i k j _ _ h1 h2 => omega

/-! ### two values that are one -/
def veq1 : Value → Value → Bool
  | .bool a, .bool b => a == b
  | .int j a, .int k b => decide (j = k) && decide (a = b)
  | .pointer a, .pointer b => decide (a = b)
  | .slice a n c, .slice b m d => decide (a = b) && decide (n = m) && decide (c = d)
  | .nilFunc, .nilFunc => true
  | .nilIface, .nilIface => true
  | .complex .f64 a b, .complex .f64 c d => decide (a = c) && decide (b = d)
  | _, _ => false

theorem veq1_eq {a b : Value} (h : veq1 a b = true) : a = b := by
  unfold veq1 at h
  split at h <;> first
    | (simp at h; done)
    | (simp only [Bool.and_eq_true, decide_eq_true_eq, beq_iff_eq] at h; simp [h]; done)
    | rfl

def veqs : List Value → List Value → Bool
  | [], [] => true
  | a :: r, b :: s => veq1 a b && veqs r s
  | _, _ => false

theorem veqs_eq : ∀ {a b : List Value}, veqs a b = true → a = b
  | [], [], _ => rfl
  | [], _ :: _, h => by simp [veqs] at h
  | _ :: _, [], h => by simp [veqs] at h
  | a :: r, b :: s, h => by
    simp only [veqs, Bool.and_eq_true] at h
    rw [veq1_eq h.1, veqs_eq h.2]

def veq : Value → Value → Bool
  | .agg x, .agg y => veqs x.toList y.toList
  | a, b => veq1 a b

theorem veq_eq {a b : Value} (h : veq a b = true) : a = b := by
  unfold veq at h
  split at h
  · have := veqs_eq h
    rw [Array.toList_inj] at this
    rw [this]
  · exact veq1_eq h

/-! ### the run in the order of the text, looked at -/
structure Ent where
  o : Oper
  i : Nat
  T : Env
  h : Heap
  h' : Heap
  v : Value

def trace (P : Program) (X : Ext) (g : Caller) (n : Nat) (ops : Array Oper) : List Oper → Nat → Env → Heap → Option (List Ent × Env × Heap)
  | [], _, T, h => some ([], T, h)
  | o :: r, i, T, h => (aval P X g ops T h o).bind fun (v, h') => (fillSlot n T o.dst v).bind fun T' => (trace P X g n ops r (i + 1) T' h').map fun (l, T2, h2) => (⟨o, i, T, h, h', v⟩ :: l, T2, h2)

def isLoad (ops : Array Oper) (x : Ent) : Bool := decide (kindOf x.o.op = .load) && (match awant ops x.T x.o with | some true => true | _ => false)

/-- does a load read the same in a memory? -/
def same (P : Program) (x : Ent) (h : Heap) : Bool :=
  match aloadOp P x.T h x.o.op with
  | some u => veq u x.v
  | none => false

def dynOk (P : Program) (ops : Array Oper) (ms : List Nat) : List Ent → List Ent → Bool
  | _, [] => true
  | prev, y :: r =>
    prev.all (fun x => (ms.getD y.i 0).testBit x.i ||
      ((!(isLoad ops x && isHeavy y.o) || same P x y.h') && (!(isHeavy x.o && isLoad ops y) || same P y x.h))) && dynOk P ops ms (y :: prev) r

def runDraw (P : Program) (X : Ext) (g : Caller) (n : Nat) (ops : Array Oper) (T : Env) (h : Heap) : Option (Env × Heap) :=
  if staticOk ops then
    (trace P X g n ops ops.toList 0 T h).bind fun (tr, T', h') => if dynOk P ops (masks ops.toList []) [] tr then some (T', h') else none
  else none
end Go.Proofs.YthijllagngkbgaaGreat.Eng
