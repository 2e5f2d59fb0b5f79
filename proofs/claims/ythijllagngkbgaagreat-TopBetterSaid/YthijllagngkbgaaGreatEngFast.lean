/- The engine, part 33: the evaluator once more, laid out for the kernel: what a function's text says is worked out once, and then only used. -/
import Derived.Test.YthijllagngkbgaaGreatEngTop3
namespace Go.Proofs.YthijllagngkbgaaGreat.Eng
open Go

/-! ### numbers -/
def IntKind.lim : IntKind → Nat
  | .i8 => 127 | .i16 => 32767 | .i32 => 2147483647 | .i64 => 9223372036854775807
  | .u8 => 255 | .u16 => 65535 | .u32 => 4294967295 | .u64 => 18446744073709551615
def wrapF (k : IntKind) (n : Int) : Int :=
  match n with
  | .ofNat m => cond (Nat.ble m (IntKind.lim k)) (.ofNat m) (k.wrap (.ofNat m))
  | .negSucc m => k.wrap (.negSucc m)
theorem wrapF_eq (k : IntKind) (n : Int) : wrapF k n = k.wrap n := by
  unfold wrapF
  split
  · rename_i m
    cases hb : Nat.ble m (IntKind.lim k)
    · rfl
    · have hm : m ≤ IntKind.lim k := Nat.le_of_ble_eq_true hb
      show Int.ofNat m = _
      cases k <;> simp only [IntKind.lim] at hm <;> simp only [IntKind.wrap, IntKind.bits, IntKind.signed] <;> simp <;> omega
  · rfl
def sameKind (j k : IntKind) : Bool := Nat.beq (IntKind.lim j) (IntKind.lim k)
theorem sameKind_eq (j k : IntKind) : sameKind j k = decide (j = k) := by cases j <;> cases k <;> rfl
def addF (a b : Int) : Int := match a, b with
  | .ofNat m, .ofNat n => .ofNat (Nat.add m n)
  | a, b => a + b
theorem addF_eq (a b : Int) : addF a b = a + b := by cases a <;> cases b <;> rfl
def ltF (a b : Int) : Bool := match a, b with
  | .ofNat m, .ofNat n => Nat.ble (Nat.succ m) n
  | a, b => decide (a < b)
theorem ltF_eq (a b : Int) : ltF a b = decide (a < b) := by
  unfold ltF
  split
  · rename_i m n
    have : (Int.ofNat m < Int.ofNat n) ↔ m < n := by simp
    cases h : Nat.ble (Nat.succ m) n
    · symm; rw [decide_eq_false_iff_not]; intro h2
      have h3 : Nat.ble (Nat.succ m) n = true := Nat.ble_eq_true_of_le (this.1 h2)
      rw [h] at h3; cases h3
    · symm; rw [decide_eq_true_iff]; exact this.2 (Nat.le_of_ble_eq_true h)
  · rfl
def leF (a b : Int) : Bool := !(ltF b a)
theorem leF_eq (a b : Int) : leF a b = decide (a ≤ b) := by
  unfold leF
  rw [ltF_eq]
  by_cases h : a ≤ b
  · rw [decide_eq_true h, decide_eq_false (by omega)]; rfl
  · rw [decide_eq_false h, decide_eq_true (by omega)]; rfl
def eqF (a b : Int) : Bool := match a, b with
  | .ofNat m, .ofNat n => Nat.beq m n
  | .negSucc m, .negSucc n => Nat.beq m n
  | _, _ => false
theorem eqF_eq (a b : Int) : eqF a b = decide (a = b) := by
  have key : ∀ m n : Nat, Nat.beq m n = decide (m = n) := by
    intro m n
    by_cases h : m = n
    · subst h; rw [decide_eq_true rfl]; exact Nat.beq_refl m
    · rw [decide_eq_false h]
      cases e : Nat.beq m n
      · rfl
      · exact absurd (Nat.eq_of_beq_eq_true e) h
  cases a <;> cases b
  · rename_i m n
    show Nat.beq m n = _
    rw [key]; exact decide_eq_decide.2 ⟨fun h => congrArg Int.ofNat h, fun h => Int.ofNat.inj h⟩
  · symm; exact decide_eq_false (by simp)
  · symm; exact decide_eq_false (by simp)
  · rename_i m n
    show Nat.beq m n = _
    rw [key]; exact decide_eq_decide.2 (by simp)

inductive Fn2 where
  | mk (f : Value → Value → Option Value)
def Fn2.run : Fn2 → Value → Value → Option Value
  | .mk f => f
def onInts (f : IntKind → Int → Int → Option Value) (g : Value → Value → Option Value) (x y : Value) : Option Value :=
  match x with
  | .int k a => (match y with
    | .int j b => cond (sameKind k j) (f k a b) none
    | y => g (.int k a) y)
  | x => g x y
theorem onInts_eq {P : Program} {op : BinOp} {t : TypeId} {f : IntKind → Int → Int → Option Value} (hop : op ≠ .shl ∧ op ≠ .shr) (hf : ∀ k a b, f k a b = aint op k a b) (x y : Value) :
    onInts f (abinT P op t) x y = abinT P op t x y := by
  unfold onInts
  split
  · rename_i k a
    split
    · rename_i j b
      rw [sameKind_eq]
      have e : abin P op t (.int k a) (.int j b) = if k = j then aint op k a b else none := by
        unfold abin
        cases op <;> first | rfl | (exact absurd rfl hop.1) | (exact absurd rfl hop.2)
      unfold abinT
      rw [e]
      by_cases h : k = j
      · rw [if_pos h, decide_eq_true h, hf]
        show aint op k a b = _
        cases aint op k a b <;> rfl
      · rw [if_neg h, decide_eq_false h]; rfl
    · rfl
  · rfl
def binS (P : Program) (op : BinOp) (t : TypeId) : Fn2 :=
  match op with
  | .add => .mk (onInts (fun k a b => some (.int k (wrapF k (addF a b)))) (abinT P .add t))
  | .sub => .mk (onInts (fun k a b => some (.int k (wrapF k (a - b)))) (abinT P .sub t))
  | .eql => .mk (onInts (fun _ a b => some (.bool (eqF a b))) (abinT P .eql t))
  | .neq => .mk (onInts (fun _ a b => some (.bool (!(eqF a b)))) (abinT P .neq t))
  | .lss => .mk (onInts (fun _ a b => some (.bool (ltF a b))) (abinT P .lss t))
  | .leq => .mk (onInts (fun _ a b => some (.bool (leF a b))) (abinT P .leq t))
  | .gtr => .mk (onInts (fun _ a b => some (.bool (ltF b a))) (abinT P .gtr t))
  | .geq => .mk (onInts (fun _ a b => some (.bool (leF b a))) (abinT P .geq t))
  | op => .mk (abinT P op t)
theorem beq_eq (a b : Int) : (a == b) = decide (a = b) := rfl
theorem binS_eq (P : Program) (op : BinOp) (t : TypeId) (x y : Value) : (binS P op t).run x y = abinT P op t x y := by
  cases op <;> simp only [binS, Fn2.run] <;> refine onInts_eq ⟨by simp, by simp⟩ (fun k a b => ?_) x y
  · simp only [aint, wrapF_eq, addF_eq]
  · simp only [aint, wrapF_eq]
  · simp only [aint, eqF_eq, beq_eq]
  · simp only [aint, eqF_eq, bne, beq_eq]
  · simp only [aint, ltF_eq]
  · simp only [aint, leF_eq]
  · simp only [aint, ltF_eq]
  · simp only [aint, leF_eq]

/-! ### slots by a path that is worked out once -/
inductive GetC (α : Type) where
  | mk (f : Tree α → Option α)
def GetC.run {α : Type} : GetC α → Tree α → Option α
  | .mk f => f
noncomputable def getP (α : Type) : Nat → Nat → GetC α
  | 0, _ => .mk fun t => Tree.rec none (fun _ v _ _ _ => v) t
  | k + 1, n => if n = 0 then .mk fun t => Tree.rec none (fun _ v _ _ _ => v) t
    else if n % 2 = 1 then (match getP α k (n / 2) with | .mk g => .mk fun t => Tree.rec none (fun l _ _ _ _ => g l) t)
    else (match getP α k (n / 2 - 1) with | .mk g => .mk fun t => Tree.rec none (fun _ _ r _ _ => g r) t)
theorem getP_eq {α : Type} : ∀ (k n : Nat) (t : Tree α), n ≤ k → (getP α k n).run t = t.get n
  | 0, n, t, h => by
    have : n = 0 := by omega
    subst this
    cases t with
    | leaf => rfl
    | node l v r => rw [Tree.get_node, if_pos rfl]; rfl
  | k + 1, n, t, h => by
    simp only [getP]
    by_cases h0 : n = 0
    · subst h0
      rw [if_pos rfl]
      cases t with
      | leaf => rfl
      | node l v r => rw [Tree.get_node, if_pos rfl]; rfl
    · rw [if_neg h0]
      by_cases h1 : n % 2 = 1
      · rw [if_pos h1]
        have ih := fun (t : Tree α) => getP_eq (α := α) k (n / 2) t (by omega)
        cases hg : getP α k (n / 2) with
        | mk g =>
          rw [hg] at ih
          cases t with
          | leaf => rfl
          | node l v r => rw [Tree.get_node, if_neg h0, if_pos h1, ← ih]; rfl
      · rw [if_neg h1]
        have ih := fun (t : Tree α) => getP_eq (α := α) k (n / 2 - 1) t (by omega)
        cases hg : getP α k (n / 2 - 1) with
        | mk g =>
          rw [hg] at ih
          cases t with
          | leaf => rfl
          | node l v r => rw [Tree.get_node, if_neg h0, if_neg h1, ← ih]; rfl
inductive PutC (α : Type) where
  | mk (f : Tree α → Option α → Tree α)
def PutC.run {α : Type} : PutC α → Tree α → Option α → Tree α
  | .mk f => f
noncomputable def putP (α : Type) : Nat → Nat → PutC α
  | 0, _ => .mk fun t v => Tree.rec (.node .leaf v .leaf) (fun l _ r _ _ => .node l v r) t
  | k + 1, n => if n = 0 then .mk fun t v => Tree.rec (.node .leaf v .leaf) (fun l _ r _ _ => .node l v r) t
    else if n % 2 = 1 then (match putP α k (n / 2) with | .mk g => .mk fun t v => Tree.rec (.node (g .leaf v) none .leaf) (fun l x r _ _ => .node (g l v) x r) t)
    else (match putP α k (n / 2 - 1) with | .mk g => .mk fun t v => Tree.rec (.node .leaf none (g .leaf v)) (fun l x r _ _ => .node l x (g r v)) t)
theorem single_any {α : Type} (v : Option α) : ∀ (k j n : Nat), n ≤ k → n ≤ j → Tree.single k n v = Tree.single j n v
  | 0, j, n, h, _ => by
    have : n = 0 := by omega
    subst this
    cases j with
    | zero => rfl
    | succ j => rw [Tree.single_succ, if_pos rfl]; rfl
  | k + 1, 0, n, _, h => by
    have : n = 0 := by omega
    subst this
    rw [Tree.single_succ, if_pos rfl]; rfl
  | k + 1, j + 1, n, h1, h2 => by
    rw [Tree.single_succ, Tree.single_succ]
    by_cases h0 : n = 0
    · rw [if_pos h0, if_pos h0]
    · rw [if_neg h0, if_neg h0, single_any v k j (n / 2) (by omega) (by omega), single_any v k j (n / 2 - 1) (by omega) (by omega)]
theorem put_leaf_half {α : Type} (n : Nat) (v : Option α) (h0 : n ≠ 0) : (Tree.leaf : Tree α).put n v = if n % 2 = 1 then .node (Tree.leaf.put (n / 2) v) none .leaf else .node .leaf none (Tree.leaf.put (n / 2 - 1) v) := by
  rw [Tree.put_leaf, Tree.put_leaf, Tree.put_leaf]
  obtain ⟨m, rfl⟩ : ∃ m, n = m + 1 := ⟨n - 1, by omega⟩
  rw [Tree.single_succ, if_neg h0, single_any v m ((m + 1) / 2) ((m + 1) / 2) (by omega) (by omega), single_any v m ((m + 1) / 2 - 1) ((m + 1) / 2 - 1) (by omega) (by omega)]
theorem putP_eq {α : Type} : ∀ (k n : Nat) (t : Tree α) (v : Option α), n ≤ k → (putP α k n).run t v = t.put n v
  | 0, n, t, v, h => by
    have : n = 0 := by omega
    subst this
    cases t with
    | leaf => rfl
    | node l x r => rw [Tree.put_node, if_pos rfl]; rfl
  | k + 1, n, t, v, h => by
    simp only [putP]
    by_cases h0 : n = 0
    · subst h0
      rw [if_pos rfl]
      cases t with
      | leaf => rfl
      | node l x r => rw [Tree.put_node, if_pos rfl]; rfl
    · rw [if_neg h0]
      by_cases h1 : n % 2 = 1
      · rw [if_pos h1]
        have ih := fun (t : Tree α) => putP_eq (α := α) k (n / 2) t v (by omega)
        cases hg : putP α k (n / 2) with
        | mk g =>
          rw [hg] at ih
          cases t with
          | leaf => rw [put_leaf_half n v h0, if_pos h1, ← ih]; rfl
          | node l x r => rw [Tree.put_node, if_neg h0, if_pos h1, ← ih]; rfl
      · rw [if_neg h1]
        have ih := fun (t : Tree α) => putP_eq (α := α) k (n / 2 - 1) t v (by omega)
        cases hg : putP α k (n / 2 - 1) with
        | mk g =>
          rw [hg] at ih
          cases t with
          | leaf => rw [put_leaf_half n v h0, if_neg h1, ← ih]; rfl
          | node l x r => rw [Tree.put_node, if_neg h0, if_neg h1, ← ih]; rfl
/-- an option's value, handed on -/
noncomputable def bnd {α β : Type} (o : Option α) (f : α → Option β) : Option β := Option.rec none f o
theorem bnd_eq {α β : Type} (o : Option α) (f : α → Option β) : bnd o f = o.bind f := by cases o <;> rfl

/-! ### operations that touch no memory -/
inductive Fn1 where
  | mk (f : Env → Option Value)
def Fn1.run : Fn1 → Env → Option Value
  | .mk f => f
noncomputable def rvS : Operand → Fn1
  | .tmp t => match getP Value t t with
    | .mk f => .mk f
  | .const v => .mk (match ground v with | true => fun _ => some v | false => fun _ => none)
  | .global _ => .mk fun _ => none
  | .func f => .mk fun _ => some (.func (.func f) #[] #[])
theorem rvS_eq (x : Operand) (T : Env) : (rvS x).run T = rv T x := by
  cases x with
  | const v =>
    simp only [rvS, Fn1.run, rv]
    cases ground v <;> rfl
  | tmp t =>
    have h := getP_eq t t T (Nat.le_refl t)
    simp only [rvS, rv]
    cases hg : getP Value t t with
    | mk f => rw [hg] at h; exact h
  | _ => rfl
inductive Fns where
  | mk (f : Env → Option (List Value))
def Fns.run : Fns → Env → Option (List Value)
  | .mk f => f
noncomputable def rvsS : List Operand → Fns
  | [] => .mk fun _ => some []
  | x :: r => match rvS x, rvsS r with
    | .mk f, .mk k => .mk fun T => bnd (f T) fun v => bnd (k T) fun l => some (v :: l)
theorem rvsS_eq : ∀ (l : List Operand) (T : Env), (rvsS l).run T = rvs T l
  | [], T => rfl
  | x :: r, T => by
    have h1 := rvS_eq x T
    have h2 := rvsS_eq r T
    simp only [rvsS, rvs]
    rw [← h1, ← h2]
    cases rvS x; cases rvsS r
    simp only [Fns.run, Fn1.run, bnd_eq]
    rename_i f k
    cases f T with
    | none => rfl
    | some v => cases k T <;> rfl
noncomputable def apureS (P : Program) : Op → Fn1
  | .move x => rvS x
  | .assign x => rvS x
  | .pick c a b => match rvS c, rvS a, rvS b with
    | .mk f, .mk u, .mk v => .mk fun T => match f T with
      | some (.bool true) => u T
      | some (.bool false) => v T
      | _ => none
  | .nilCheck x => match rvS x with
    | .mk f => .mk fun T => bnd (f T) anil
  | .binOp op t x y _ => match rvS x, rvS y, binS P op t with
    | .mk f, .mk k, .mk b => .mk fun T => bnd (f T) fun u => bnd (k T) fun v => b u v
  | .convert s d x => match rvS x with
    | .mk f => .mk fun T => bnd (f T) fun v => aconvert P s d v
  | .fieldAddr t x i => match rvS x with
    | .mk f => .mk fun T => bnd (f T) fun v => afieldAddr P t v i
  | .field t x i => match rvS x with
    | .mk f => .mk fun T => bnd (f T) fun v => afield P t v i
  | .indexAddr t x i => match rvS x, rvS i with
    | .mk f, .mk k => .mk fun T => bnd (f T) fun u => bnd (k T) fun v => aindexAddr P t u v
  | .extract x i => match rvS x with
    | .mk f => .mk fun T => match f T with
      | some (.tuple vs) => vs[i]?
      | _ => none
  | .build t parts => .mk fun T => (rparts T parts.toList).bind fun ps => abuild P t ps
  | .unOp op _ x => .mk fun T => (rv T x).bind fun a => aun op a
  | .makeFunc fn x y => .mk fun T => (rvs T x.toList).bind fun a => (rvs T y.toList).map fun b => .func fn a.toArray b.toArray
  | .slice t x lo hi mx => .mk fun T => (rv T x).bind fun a => (rvo T lo).bind fun l => (rvo T hi).bind fun h => (rvo T mx).bind fun m => asliceAt P t a l h m
  | .index t x i => .mk fun T => (rv T x).bind fun a => (rv T i).bind fun k => aindex P t a k
  | .call c => match c.callee with
    | .builtin .len => (match c.args.toList, c.argTypes[0]? with
      | [x], some t => (match rvS x with
        | .mk f => .mk fun T => bnd (f T) fun v => alen P t v)
      | _, _ => .mk fun T => apure P T (.call c))
    | _ => .mk fun T => apure P T (.call c)
  | op => .mk fun T => apure P T op
theorem apureS_eq (P : Program) (op : Op) (T : Env) : (apureS P op).run T = apure P T op := by
  unfold apureS
  split
  · exact rvS_eq _ _
  · exact rvS_eq _ _
  · rename_i c a b
    simp only [apure]
    rw [← rvS_eq c, ← rvS_eq a, ← rvS_eq b]
    cases rvS c; cases rvS a; cases rvS b; rfl
  · rename_i x
    simp only [apure]
    rw [← rvS_eq x]
    cases rvS x; simp only [Fn1.run, bnd_eq]
  · rename_i op t x y _
    simp only [apure]
    rw [← rvS_eq x, ← rvS_eq y]
    have hb := fun u v => binS_eq P op t u v
    cases rvS x; cases rvS y
    cases hbb : binS P op t with
    | mk b =>
      rw [hbb] at hb
      simp only [Fn1.run, Fn2.run, bnd_eq] at hb ⊢
      simp only [hb]
  · rename_i s d x
    simp only [apure]
    rw [← rvS_eq x]
    cases rvS x; simp only [Fn1.run, bnd_eq]
  · rename_i t x i
    simp only [apure]
    rw [← rvS_eq x]
    cases rvS x; simp only [Fn1.run, bnd_eq]
  · rename_i t x i
    simp only [apure]
    rw [← rvS_eq x]
    cases rvS x; simp only [Fn1.run, bnd_eq]
  · rename_i t x i
    simp only [apure]
    rw [← rvS_eq x, ← rvS_eq i]
    cases rvS x; cases rvS i; simp only [Fn1.run, bnd_eq]
  · rename_i x i
    simp only [apure]
    rw [← rvS_eq x]
    cases rvS x; rfl
  · rfl
  · rfl
  · rfl
  · rfl
  · rfl
  · rename_i c
    obtain ⟨callee, args, argTypes⟩ := c
    simp only
    split
    · split
      · rename_i x t ha ht
        simp only [apure, ha, ht]
        rw [← rvS_eq x]
        cases rvS x; simp only [Fn1.run, bnd_eq]
      · rfl
    · rfl
  · rfl

/-! ### operations -/
abbrev HF := Caller → Env → Heap → Option (Value × Heap)
inductive Hv where
  | mk (f : HF)
  | pure (f : Env → Option Value)
def Hv.run : Hv → HF
  | .mk f => f
  | .pure f => fun _ T h => (f T).map (·, h)
inductive CallC where
  | none
  | ext
  | fn
def callC (P : Program) (f : FuncId) : CallC :=
  match P.funcs[f]? with
  | Option.none => .none
  | some fn => match fn.body with
    | Option.none => .ext
    | some _ => .fn
/-- no function bears the one name that the model answers itself -/
def NoGo (P : Program) : Prop := ∀ (f : FuncId) (fn : Func), P.funcs[f]? = some fn → (fn.name == "runtime.NumGoroutine") = false
theorem NoGo.of_all {P : Program} (h : (P.funcs.toList.all fun fn => !(fn.name == "runtime.NumGoroutine")) = true) : NoGo P := by
  intro f fn hf
  have h1 := List.all_eq_true.mp h fn (by
    have : P.funcs.toList[f]? = some fn := by simpa using hf
    exact List.mem_of_getElem? this)
  simpa using h1
def acallS (P : Program) (X : Ext) (g : Caller) (h : Heap) (f : FuncId) (args : List Value) : Option (Value × Heap) :=
  match callC P f with
  | .none => Option.none
  | .ext => (X f args).map (·, h)
  | .fn => g f args h
theorem acallS_eq {P : Program} (hN : NoGo P) (X : Ext) (g : Caller) (h : Heap) (f : FuncId) (args : List Value) : acallS P X g h f args = acall P X g h f args := by
  unfold acallS acall callC
  have hn := hN f
  cases hf : P.funcs[f]? with
  | none => rfl
  | some fn =>
    simp only
    rw [hn fn hf]
    cases fn.body <;> rfl
noncomputable def aheavyS (P : Program) (X : Ext) : Op → Hv
  | .store t a x => match rvS a, rvS x with
    | .mk f, .mk k => .mk fun _ T h => bnd (f T) fun av => bnd (k T) fun xv => bnd (astore P h t av xv) fun h' => some (undef, h')
  | .call c => match c.callee with
    | .value (.func k) => (match rvsS c.args.toList with
      | .mk f => .mk fun g T h => bnd (f T) fun as => acallS P X g h k as)
    | .value x => (match rvS x, rvsS c.args.toList with
      | .mk u, .mk f => .mk fun g T h => bnd (u T) fun fv => bnd (f T) fun as =>
        match fv with
        | .func (.func k) first captured => acallS P X g h k (first.toList ++ as ++ captured.toList)
        | _ => none)
    | _ => .mk fun g T h => aheavy P X g T h (.call c)
  | op => .mk fun g T h => aheavy P X g T h op
theorem aheavyS_eq {P : Program} (hN : NoGo P) (X : Ext) (op : Op) (g : Caller) (T : Env) (h : Heap) : (aheavyS P X op).run g T h = aheavy P X g T h op := by
  unfold aheavyS
  split
  · rename_i t a x
    simp only [aheavy]
    rw [← rvS_eq a, ← rvS_eq x]
    cases rvS a; cases rvS x
    rename_i f k
    simp only [Hv.run, Fn1.run, bnd_eq]
    cases f T with
    | none => rfl
    | some u =>
      simp only [Option.bind_some]
      cases k T with
      | none => rfl
      | some v => simp only [Option.bind_some]; cases astore P h t u v <;> rfl
  · rename_i c
    obtain ⟨callee, args, argTypes⟩ := c
    simp only
    split
    · rename_i k
      simp only [aheavy, rv, Option.bind_some]
      rw [← rvsS_eq args.toList]
      cases rvsS args.toList with
      | mk f =>
        simp only [Hv.run, Fns.run, bnd_eq, acallS_eq hN, List.nil_append, List.append_nil]
    · rename_i x _
      simp only [aheavy]
      rw [← rvsS_eq args.toList, ← rvS_eq x]
      cases rvsS args.toList with
      | mk f => cases rvS x with
        | mk u =>
          simp only [Hv.run, Fns.run, Fn1.run, bnd_eq, acallS_eq hN]
          cases u T with
          | none => rfl
          | some v =>
            simp only [Option.bind_some]
            cases f T with
            | none => rfl
            | some as =>
              simp only [Option.bind_some]
              cases v with
              | func fn a b => cases fn <;> rfl
              | _ => rfl
    · rfl
  · rfl
inductive OpC where
  | mk (f : Caller → Env → Heap → Option (Env × Heap))
  | slot (f : Env → Option Value) (p : Env → Option Value → Env)
def OpC.run : OpC → Caller → Env → Heap → Option (Env × Heap)
  | .mk f => f
  | .slot f p => fun _ T h => (f T).map fun v => (p T (some v), h)
/-- where the value goes -/
inductive DstC where
  | no
  | yes (d : Nat)
  | bad
def dstC (n : Nat) : Option Tmp → DstC
  | none => .no
  | some d => if d < n then .yes d else .bad
/-- a pair's parts, handed on -/
noncomputable def both {α β γ : Type} (r : α × β) (f : α → β → γ) : γ := Prod.rec f r
theorem both_eq {α β γ : Type} (r : α × β) (f : α → β → γ) : both r f = f r.1 r.2 := by cases r; rfl
noncomputable def goesTo (n : Nat) (dst : Option Tmp) (b : Hv) : OpC :=
  match dstC n dst, b with
  | .no, .mk f => .mk fun g T h => bnd (f g T h) fun r => both r fun _ h' => some (T, h')
  | .no, .pure f => .mk fun _ T h => bnd (f T) fun _ => some (T, h)
  | .yes d, .mk f => (match putP Value d d with
    | .mk p => .mk fun g T h => bnd (f g T h) fun r => both r fun v h' => some (p T (some v), h'))
  | .yes d, .pure f => (match putP Value d d with
    | .mk p => .slot f p)
  | .bad, _ => .mk fun _ _ _ => none
theorem goesTo_eq (n : Nat) (dst : Option Tmp) (b : Hv) (g : Caller) (T : Env) (h : Heap) : (goesTo n dst b).run g T h = (b.run g T h).bind fun r => (fillSlot n T dst r.1).map fun T' => (T', r.2) := by
  have hp := fun d v => putP_eq d d T v (Nat.le_refl d)
  unfold goesTo dstC fillSlot
  cases dst with
  | none =>
    cases b with
    | mk f => simp only [OpC.run, Hv.run, bnd_eq, both_eq]; cases f g T h <;> rfl
    | pure f => simp only [OpC.run, Hv.run, bnd_eq]; cases f T <;> rfl
  | some d =>
    simp only
    by_cases hd : d < n
    · simp only [if_pos hd]
      have h2 := hp d
      cases b with
      | mk f =>
        simp only
        generalize putP Value d d = pp at h2 ⊢
        cases pp with
        | mk p =>
          simp only [PutC.run] at h2
          simp only [OpC.run, Hv.run, bnd_eq, both_eq, h2]; cases f g T h <;> rfl
      | pure f =>
        simp only
        generalize putP Value d d = pp at h2 ⊢
        cases pp with
        | mk p =>
          simp only [PutC.run] at h2
          simp only [OpC.run, Hv.run, h2]; cases f T <;> rfl
    · simp only [if_neg hd]
      cases b with
      | mk f => simp only [OpC.run, Hv.run]; cases f g T h <;> rfl
      | pure f => simp only [OpC.run, Hv.run]; cases f T <;> rfl
noncomputable def valS (P : Program) (X : Ext) (o : Oper) : Hv :=
  match kindOf o.op with
  | .pure => (match apureS P o.op with
    | .mk f => .pure f)
  | .load => (match o.op with
    | .load t x => (match rvS x with
      | .mk f => .mk fun _ T h => bnd (f T) fun a => bnd (aload P h t a) fun v => some (v, h))
    | _ => .mk fun _ _ _ => none)
  | .fresh => .mk fun _ T h => (afreshRow P T o.op).map fun (cs, e, s) => (s.val h.next, h.new (.row cs e))
  | .heavy => aheavyS P X o.op
noncomputable def opS (P : Program) (X : Ext) (n : Nat) (ops : Array Oper) (o : Oper) : OpC :=
  match o.guard with
  | none => goesTo n o.dst (valS P X o)
  | some (j, want) =>
    match (ops[j]?).bind (·.dst) with
    | none => goesTo n o.dst (.mk fun _ _ h => some (undef, h))
    | some d => match goesTo n o.dst (valS P X o), goesTo n o.dst (.mk fun _ _ h => some (undef, h)) with
      | f, k => .mk fun g T h => match T.get d with
        | some (.bool b) => (match b == want with
          | true => f.run g T h
          | false => k.run g T h)
        | some _ => k.run g T h
        | none => none
theorem valS_eq {P : Program} (hN : NoGo P) (X : Ext) (o : Oper) (g : Caller) (T : Env) (h : Heap) : (valS P X o).run g T h = (match kindOf o.op with
    | .pure => (apure P T o.op).map (·, h)
    | .load => (aloadOp P T h o.op).map (·, h)
    | .fresh => (afreshRow P T o.op).map fun (cs, e, s) => (s.val h.next, h.new (.row cs e))
    | .heavy => aheavy P X g T h o.op) := by
  unfold valS
  cases kindOf o.op with
  | pure =>
    simp only
    rw [← apureS_eq]
    cases apureS P o.op; rfl
  | load =>
    simp only
    cases o.op with
    | load t x =>
      simp only [aloadOp]
      rw [← rvS_eq x]
      cases rvS x
      simp only [Hv.run, Fn1.run, bnd_eq]
      rename_i f
      cases f T with
      | none => rfl
      | some a => simp only [Option.bind_some]; cases aload P h t a <;> rfl
    | _ => rfl
  | fresh => rfl
  | heavy => exact aheavyS_eq hN _ _ _ _ _
theorem opS_eq {P : Program} (hN : NoGo P) (X : Ext) (n : Nat) (ops : Array Oper) (o : Oper) (g : Caller) (T : Env) (h : Heap) :
    (opS P X n ops o).run g T h = (aval P X g ops T h o).bind fun r => (fillSlot n T o.dst r.1).map fun T' => (T', r.2) := by
  have hv := valS_eq hN X o g T h
  unfold opS aval awant
  cases hg : o.guard with
  | none =>
    simp only
    rw [goesTo_eq, hv]
    rfl
  | some jw =>
    obtain ⟨j, want⟩ := jw
    simp only
    cases (ops[j]?).bind (·.dst) with
    | none =>
      simp only
      rw [goesTo_eq]; rfl
    | some d =>
      simp only
      have h1 := goesTo_eq n o.dst (valS P X o) g T h
      have h2 := goesTo_eq n o.dst (.mk fun _ _ h => some (undef, h)) g T h
      rw [hv] at h1
      simp only [OpC.run]
      cases T.get d with
      | none => rfl
      | some v =>
        cases v with
        | bool b =>
          simp only
          cases b == want with
          | true => exact h1
          | false => exact h2
        | _ => exact h2
inductive RegC where
  | mk (f : Caller → Env → Heap → Option (Env × Heap))
def RegC.run : RegC → Caller → Env → Heap → Option (Env × Heap)
  | .mk f => f
noncomputable def regS (P : Program) (X : Ext) (n : Nat) (ops : Array Oper) : List Oper → RegC
  | [] => .mk fun _ T h => some (T, h)
  | o :: r => match opS P X n ops o, regS P X n ops r with
    | .slot f p, .mk k => .mk fun g T h => bnd (f T) fun v => k g (p T (some v)) h
    | .mk f, .mk k => .mk fun g T h => bnd (f g T h) fun q => both q fun T' h' => k g T' h'
theorem regS_eq {P : Program} (hN : NoGo P) (X : Ext) (n : Nat) (ops : Array Oper) : ∀ (l : List Oper) (g : Caller) (T : Env) (h : Heap), (regS P X n ops l).run g T h = runOps P X g n ops l T h
  | [], g, T, h => rfl
  | o :: r, g, T, h => by
    have h1 := opS_eq hN X n ops o g T h
    have h2 := fun T h => regS_eq hN X n ops r g T h
    simp only [regS, runOps]
    have key : ∀ a : Option (Env × Heap), a = ((aval P X g ops T h o).bind fun r => (fillSlot n T o.dst r.1).map fun T' => (T', r.2)) →
        (a.bind fun q => runOps P X g n ops r q.1 q.2) = (aval P X g ops T h o).bind fun x => (fillSlot n T o.dst x.1).bind fun T' => runOps P X g n ops r T' x.2 := by
      intro a ha
      subst ha
      cases aval P X g ops T h o with
      | none => rfl
      | some q =>
        obtain ⟨v, h'⟩ := q
        simp only [Option.bind_some]
        cases fillSlot n T o.dst v <;> rfl
    cases hk : regS P X n ops r with
    | mk k =>
      rw [hk] at h2
      simp only [RegC.run] at h2
      cases hf : opS P X n ops o with
      | mk f =>
        rw [hf] at h1
        simp only [OpC.run] at h1
        simp only [RegC.run, bnd_eq, both_eq, h2]
        exact key _ h1
      | slot f p =>
        rw [hf] at h1
        simp only [OpC.run] at h1
        simp only [RegC.run, bnd_eq, h2]
        rw [← key _ h1]
        cases f T <;> rfl
end Go.Proofs.YthijllagngkbgaaGreat.Eng
