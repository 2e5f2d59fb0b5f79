/- The engine, part 1: a memory of rows by number, and how it stands to the model's memory. Plain definitions and lemmas; no program. -/
import Derived.Orders
import Derived.Below
import Derived.Test.YthijllagngkbgaaGreatEngVal
namespace Go.Proofs.YthijllagngkbgaaGreat.Eng
open Go

/-! ### a tree by number -/
inductive Tree (α : Type) where
  | leaf
  | node (l : Tree α) (v : Option α) (r : Tree α)

namespace Tree
variable {α : Type}

/-- the same as the text 'get', by the recursor: for the kernel -/
def getSlow : Tree α → Nat → Option α
  | .leaf, _ => none
  | .node l v r, n => if n = 0 then v else if n % 2 = 1 then l.getSlow (n / 2) else r.getSlow (n / 2 - 1)
@[implemented_by getSlow] def get (t : Tree α) : Nat → Option α :=
  Tree.rec (fun _ => none) (fun _ v _ gl gr n => Bool.rec (Bool.rec (gr (Nat.sub (Nat.div n 2) 1)) (gl (Nat.div n 2)) (Nat.beq (Nat.mod n 2) 1)) v (Nat.beq n 0)) t

def singleSlow : Nat → Nat → Option α → Tree α
  | 0, _, v => .node .leaf v .leaf
  | f + 1, n, v => if n = 0 then .node .leaf v .leaf else if n % 2 = 1 then .node (singleSlow f (n / 2) v) none .leaf else .node .leaf none (singleSlow f (n / 2 - 1) v)
@[implemented_by singleSlow] def single (f : Nat) : Nat → Option α → Tree α :=
  Nat.rec (fun _ v => .node .leaf v .leaf) (fun _ g n v => Bool.rec (Bool.rec (.node .leaf none (g (Nat.sub (Nat.div n 2) 1) v)) (.node (g (Nat.div n 2) v) none .leaf) (Nat.beq (Nat.mod n 2) 1)) (.node .leaf v .leaf) (Nat.beq n 0)) f

def putSlow : Tree α → Nat → Option α → Tree α
  | .leaf, n, v => single n n v
  | .node l x r, n, v => if n = 0 then .node l v r else if n % 2 = 1 then .node (l.putSlow (n / 2) v) x r else .node l x (r.putSlow (n / 2 - 1) v)
@[implemented_by putSlow] def put (t : Tree α) : Nat → Option α → Tree α :=
  Tree.rec (fun n v => single n n v) (fun l x r pl pr n v => Bool.rec (Bool.rec (.node l x (pr (Nat.sub (Nat.div n 2) 1) v)) (.node (pl (Nat.div n 2) v) x r) (Nat.beq (Nat.mod n 2) 1)) (.node l v r) (Nat.beq n 0)) t

theorem cond_beq {β : Type} (n m : Nat) (a b : β) : cond (Nat.beq n m) a b = if n = m then a else b := by
  by_cases h : n = m
  · subst h
    rw [if_pos rfl]
    have : Nat.beq n n = true := Nat.beq_refl n
    rw [this]; rfl
  · rw [if_neg h]
    have : Nat.beq n m = false := by
      cases e : Nat.beq n m
      · rfl
      · exact absurd (Nat.eq_of_beq_eq_true e) h
    rw [this]; rfl
theorem rec_beq {β : Type} (n m : Nat) (a b : β) : (Bool.rec b a (Nat.beq n m) : β) = if n = m then a else b := by
  rw [← cond_beq]
  cases Nat.beq n m <;> rfl
theorem get_node (l r : Tree α) (v : Option α) (n : Nat) : (Tree.node l v r).get n = if n = 0 then v else if n % 2 = 1 then l.get (n / 2) else r.get (n / 2 - 1) := by
  show (Bool.rec (Bool.rec (r.get (n / 2 - 1)) (l.get (n / 2)) (Nat.beq (n % 2) 1)) v (Nat.beq n 0) : Option α) = _
  rw [rec_beq, rec_beq]
theorem get_leaf (n : Nat) : (Tree.leaf : Tree α).get n = none := rfl
theorem put_node (l r : Tree α) (x : Option α) (n : Nat) (v : Option α) : (Tree.node l x r).put n v = if n = 0 then .node l v r else if n % 2 = 1 then .node (l.put (n / 2) v) x r else .node l x (r.put (n / 2 - 1) v) := by
  show (Bool.rec (Bool.rec (Tree.node l x (r.put (n / 2 - 1) v)) (Tree.node (l.put (n / 2) v) x r) (Nat.beq (n % 2) 1)) (Tree.node l v r) (Nat.beq n 0) : Tree α) = _
  rw [rec_beq, rec_beq]
theorem put_leaf (n : Nat) (v : Option α) : (Tree.leaf : Tree α).put n v = single n n v := rfl
theorem single_zero (n : Nat) (v : Option α) : single 0 n v = .node .leaf v .leaf := rfl
theorem single_succ (f n : Nat) (v : Option α) : single (f + 1) n v = if n = 0 then .node .leaf v .leaf else if n % 2 = 1 then .node (single f (n / 2) v) none .leaf else .node .leaf none (single f (n / 2 - 1) v) := by
  show (Bool.rec (Bool.rec (Tree.node .leaf none (single f (n / 2 - 1) v)) (Tree.node (single f (n / 2) v) none .leaf) (Nat.beq (n % 2) 1)) (Tree.node .leaf v .leaf) (Nat.beq n 0) : Tree α) = _
  rw [rec_beq, rec_beq]

theorem get_single (v : Option α) : ∀ (f n m : Nat), n ≤ f → (single f n v).get m = if m = n then v else none
  | 0, n, m, h => by
    have : n = 0 := by omega
    subst this
    simp only [single_zero, get_node, get_leaf]
    split
    · rfl
    · split <;> rfl
  | f + 1, n, m, h => by
    simp only [single_succ]
    by_cases h0 : n = 0
    · subst h0
      simp only [if_pos, get_node, get_leaf]
      split
      · rfl
      · split <;> rfl
    · rw [if_neg h0]
      by_cases h1 : n % 2 = 1
      · rw [if_pos h1]
        simp only [get_node, get_leaf]
        by_cases hm : m = 0
        · rw [if_pos hm, if_neg (by omega)]
        · rw [if_neg hm]
          by_cases hm1 : m % 2 = 1
          · rw [if_pos hm1, get_single v f (n / 2) (m / 2) (by omega)]
            by_cases e : m = n
            · rw [if_pos e, if_pos (by omega)]
            · rw [if_neg e, if_neg (by omega)]
          · rw [if_neg hm1, if_neg (by omega)]
      · rw [if_neg h1]
        simp only [get_node, get_leaf]
        by_cases hm : m = 0
        · rw [if_pos hm, if_neg (by omega)]
        · rw [if_neg hm]
          by_cases hm1 : m % 2 = 1
          · rw [if_pos hm1, if_neg (by omega)]
          · rw [if_neg hm1, get_single v f (n / 2 - 1) (m / 2 - 1) (by omega)]
            by_cases e : m = n
            · rw [if_pos e, if_pos (by omega)]
            · rw [if_neg e, if_neg (by omega)]

theorem get_put : ∀ (t : Tree α) (n : Nat) (v : Option α) (m : Nat), (t.put n v).get m = if m = n then v else t.get m
  | .leaf, n, v, m => by
    simp only [put_leaf, get_single v n n m (Nat.le_refl _), get_leaf]
  | .node l x r, n, v, m => by
    simp only [put_node]
    by_cases h0 : n = 0
    · subst h0
      simp only [if_pos, get_node]
      split <;> rfl
    · rw [if_neg h0]
      by_cases h1 : n % 2 = 1
      · rw [if_pos h1]
        simp only [get_node]
        by_cases hm : m = 0
        · rw [if_pos hm, if_neg (by omega), if_pos hm]
        · rw [if_neg hm, if_neg hm]
          by_cases hm1 : m % 2 = 1
          · rw [if_pos hm1, if_pos hm1, get_put l (n / 2) v (m / 2)]
            by_cases e : m = n
            · rw [if_pos e, if_pos (by omega)]
            · rw [if_neg e, if_neg (by omega)]
          · rw [if_neg hm1, if_neg hm1, if_neg (by omega)]
      · rw [if_neg h1]
        simp only [get_node]
        by_cases hm : m = 0
        · rw [if_pos hm, if_neg (by omega), if_pos hm]
        · rw [if_neg hm, if_neg hm]
          by_cases hm1 : m % 2 = 1
          · rw [if_pos hm1, if_pos hm1, if_neg (by omega)]
          · rw [if_neg hm1, if_neg hm1, get_put r (n / 2 - 1) v (m / 2 - 1)]
            by_cases e : m = n
            · rw [if_pos e, if_pos (by omega)]
            · rw [if_neg e, if_neg (by omega)]

theorem get_put_same (t : Tree α) (n : Nat) (v : Option α) : (t.put n v).get n = v := by rw [get_put, if_pos rfl]
theorem get_put_ne (t : Tree α) {n m : Nat} (v : Option α) (h : m ≠ n) : (t.put n v).get m = t.get m := by rw [get_put, if_neg h]
end Tree

/-! ### the memory of rows -/
/-- What lies behind a number: a row of cells; 'own': it may be written. -/
inductive Thing where
  | row (cells : List Value) (elem : TypeId)
  | ro (cells : List Value)

structure Heap where
  next : Nat
  tree : Tree Thing

namespace Heap
def get (h : Heap) (i : Nat) : Option Thing := h.tree.get i
def put (h : Heap) (i : Nat) (o : Thing) : Heap := { h with tree := h.tree.put i (some o) }
def kill (h : Heap) (i : Nat) : Heap := { h with tree := h.tree.put i none }
def new (h : Heap) (o : Thing) : Heap := { next := h.next + 1, tree := h.tree.put h.next (some o) }
def empty : Heap := { next := 0, tree := .leaf }

theorem get_put (h : Heap) (i j : Nat) (o : Thing) : (h.put i o).get j = if j = i then some o else h.get j := Tree.get_put _ _ _ _
theorem get_kill (h : Heap) (i j : Nat) : (h.kill i).get j = if j = i then none else h.get j := Tree.get_put _ _ _ _
theorem get_new (h : Heap) (j : Nat) (o : Thing) : (h.new o).get j = if j = h.next then some o else h.get j := Tree.get_put _ _ _ _
theorem next_put (h : Heap) (i : Nat) (o : Thing) : (h.put i o).next = h.next := rfl
theorem next_kill (h : Heap) (i : Nat) : (h.kill i).next = h.next := rfl
theorem next_new (h : Heap) (o : Thing) : (h.new o).next = h.next + 1 := rfl
theorem get_empty (i : Nat) : Heap.empty.get i = none := rfl
end Heap

/-! ### where a row lies in the model's memory -/
/-- A row's place: its block, its first cell there, how many cells the block has from there on, how many are known; may it be written? -/
inductive LK where
  | cells
  | chan (cap : Nat)
  | map
  | vals (p q : Nat)
  deriving DecidableEq
structure Loc where
  blk : Nat
  off : Nat
  size : Nat
  known : Nat
  own : Bool
  kind : LK := .cells

abbrev Where := Nat → Option Loc

/-- a row of cells lies there -/
def At (ρ : Where) (i : Nat) (l : Loc) : Prop := ρ i = some l ∧ l.kind = .cells
theorem At.loc {ρ : Where} {i : Nat} {l : Loc} (h : At ρ i l) : ρ i = some l := h.1

/-- How a slice's room stands: just what is known of it, or (behind an append) it may be more, up to the block's end. -/
def Roomy (l : Loc) (o : Nat) (spot : Option Nat) (c c' : Nat) : Prop :=
  c' = c ∨ ∃ e, spot = some e ∧ c ≤ c' ∧ o + c * e = l.known ∧ o + c' * e ≤ l.size

/-- A number that is left open: which one the token says. -/
def TokV (ρ : Where) (i m : Nat) (v' : Value) : Prop := ∃ l p q, ρ i = some l ∧ l.kind = .vals p q ∧ Cls (m / 4096) p q ∧ v' = .int (kOf (m % 16)) (.ofNat (valN p q (m / 16 % 256)))

mutual
/-- A value over row numbers, and the model's value. -/
inductive VRel (ρ : Where) : Value → Value → Prop
  | bool (b : Bool) : VRel ρ (.bool b) (.bool b)
  | int (k : IntKind) (n : Int) : VRel ρ (.int k n) (.int k n)
  | string (s : ByteArray) : VRel ρ (.string s) (.string s)
  | ptrNil : VRel ρ (.pointer none) (.pointer none)
  | ptr (i o : Nat) (l : Loc) (h : At ρ i l) : VRel ρ (.pointer (some ⟨i, o, none⟩)) (.pointer (some ⟨l.blk, l.off + o, none⟩))
  | sliceNil (n c : Nat) : VRel ρ (.slice none n c) (.slice none n c)
  | slice (i o : Nat) (spot : Option Nat) (n c : Nat) (a' : Addr) (c' : Nat) (l : Loc) (h : At ρ i l) (hn : n ≤ c) (ha : c' ≠ 0 → a' = ⟨l.blk, l.off + o, none⟩)
      (hc : Roomy l o spot c c') : VRel ρ (.slice (some ⟨i, o, spot⟩) n c) (.slice (some a') n c')
  | func (fn : Fn) (x y x' y' : Array Value) (hx : VRels ρ x.toList x'.toList) (hy : VRels ρ y.toList y'.toList) : VRel ρ (.func fn x y) (.func fn x' y')
  | nilFunc : VRel ρ .nilFunc .nilFunc
  | chanNil : VRel ρ (.chan none) (.chan none)
  | chan (i cap : Nat) (l : Loc) (h : ρ i = some l) (hk : l.kind = .chan cap) : VRel ρ (.chan (some i)) (.chan (some l.blk))
  | mapNil : VRel ρ (.map none) (.map none)
  | map (i : Nat) (l : Loc) (h : ρ i = some l) (hk : l.kind = .map) : VRel ρ (.map (some i)) (.map (some l.blk))
  | tok (i m : Nat) (v' : Value) (h : TokV ρ i m v') : VRel ρ (.complex .f64 i m) v'
  | nilIface : VRel ρ .nilIface .nilIface
  | iface (t : TypeId) (v v' : Value) (h : VRel ρ v v') : VRel ρ (.iface t v) (.iface t v')
  | agg (x x' : Array Value) (h : VRels ρ x.toList x'.toList) : VRel ρ (.agg x) (.agg x')
  | tuple (x x' : Array Value) (h : VRels ρ x.toList x'.toList) : VRel ρ (.tuple x) (.tuple x')
inductive VRels (ρ : Where) : List Value → List Value → Prop
  | nil : VRels ρ [] []
  | cons (v v' : Value) (r r' : List Value) (h : VRel ρ v v') (t : VRels ρ r r') : VRels ρ (v :: r) (v' :: r')
end

/-- More is known of where things lie. -/
def Where.le (ρ ρ' : Where) : Prop := ∀ i l, ρ i = some l → ρ' i = some l
theorem Where.le_refl (ρ : Where) : ρ.le ρ := fun _ _ h => h
theorem Where.le_trans {a b c : Where} (h : a.le b) (k : b.le c) : a.le c := fun i l e => k i l (h i l e)

theorem TokV.mono {ρ ρ' : Where} (hle : ρ.le ρ') {i m : Nat} {v' : Value} : TokV ρ i m v' → TokV ρ' i m v' := fun ⟨l, p, q, h1, h2⟩ => ⟨l, p, q, hle i l h1, h2⟩
mutual
theorem VRel.mono {ρ ρ' : Where} (hle : ρ.le ρ') {v v' : Value} : VRel ρ v v' → VRel ρ' v v'
  | .bool b => .bool b
  | .int k n => .int k n
  | .string s => .string s
  | .ptrNil => .ptrNil
  | .ptr i o l h => .ptr i o l ⟨hle i l h.1, h.2⟩
  | .sliceNil n c => .sliceNil n c
  | .slice i o spot n c a' c' l h hn ha hc => .slice i o spot n c a' c' l ⟨hle i l h.1, h.2⟩ hn ha hc
  | .chanNil => .chanNil
  | .chan i cap l h hk => .chan i cap l (hle i l h) hk
  | .mapNil => .mapNil
  | .map i l h hk => .map i l (hle i l h) hk
  | .tok i m v' h => .tok i m v' (h.mono hle)
  | .func fn x y x' y' hx hy => .func fn x y x' y' (VRels.mono hle hx) (VRels.mono hle hy)
  | .nilFunc => .nilFunc
  | .nilIface => .nilIface
  | .iface t v v' h => .iface t v v' (VRel.mono hle h)
  | .agg x x' h => .agg x x' (VRels.mono hle h)
  | .tuple x x' h => .tuple x x' (VRels.mono hle h)
theorem VRels.mono {ρ ρ' : Where} (hle : ρ.le ρ') {vs vs' : List Value} : VRels ρ vs vs' → VRels ρ' vs vs'
  | .nil => .nil
  | .cons v v' r r' h t => .cons v v' r r' (VRel.mono hle h) (VRels.mono hle t)
end

namespace VRels
variable {ρ : Where}
theorem length {a b : List Value} (h : VRels ρ a b) : a.length = b.length := by
  induction a generalizing b with
  | nil => cases h; rfl
  | cons x xs ih => cases h with | cons _ _ _ _ _ t => simp [ih t]
theorem append {a b c d : List Value} (h : VRels ρ a b) (k : VRels ρ c d) : VRels ρ (a ++ c) (b ++ d) := by
  induction a generalizing b with
  | nil => cases h; exact k
  | cons x xs ih => cases h with | cons _ _ _ _ e t => exact .cons _ _ _ _ e (ih t)
theorem take {a b : List Value} (h : VRels ρ a b) (n : Nat) : VRels ρ (a.take n) (b.take n) := by
  induction a generalizing b n with
  | nil => cases h; simp; exact .nil
  | cons x xs ih =>
    cases h with
    | cons _ _ _ _ e t =>
      cases n with
      | zero => exact .nil
      | succ n => exact .cons _ _ _ _ e (ih t n)
theorem drop {a b : List Value} (h : VRels ρ a b) (n : Nat) : VRels ρ (a.drop n) (b.drop n) := by
  induction a generalizing b n with
  | nil => cases h; simp; exact .nil
  | cons x xs ih =>
    cases h with
    | cons _ _ _ _ e t =>
      cases n with
      | zero => exact .cons _ _ _ _ e t
      | succ n => exact ih t n
theorem get {a b : List Value} (h : VRels ρ a b) {n : Nat} {v : Value} (hv : a[n]? = some v) : ∃ v', b[n]? = some v' ∧ VRel ρ v v' := by
  induction a generalizing b n with
  | nil => simp at hv
  | cons x xs ih =>
    cases h with
    | cons _ y _ ys e t =>
      cases n with
      | zero => simp at hv; subst hv; exact ⟨y, rfl, e⟩
      | succ n => simp at hv; simpa using ih t hv
theorem of_get {a b : List Value} (hl : a.length = b.length) (h : ∀ (n : Nat) (v : Value), a[n]? = some v → ∃ v' : Value, b[n]? = some v' ∧ VRel ρ v v') : VRels ρ a b := by
  induction a generalizing b with
  | nil =>
    cases b with
    | nil => exact .nil
    | cons y ys => simp at hl
  | cons x xs ih =>
    cases b with
    | nil => simp at hl
    | cons y ys =>
      obtain ⟨y', hy, hr⟩ := h 0 x rfl
      simp at hy
      subst hy
      exact .cons _ _ _ _ hr (ih (by simpa using hl) fun n v hv => by simpa using h (n + 1) v (by simpa using hv))
end VRels
end Go.Proofs.YthijllagngkbgaaGreat.Eng
