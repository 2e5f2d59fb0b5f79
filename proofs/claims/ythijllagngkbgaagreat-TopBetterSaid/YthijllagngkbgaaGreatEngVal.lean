/- The engine, part 0: numbers that are left open: what they may be, and what comes of them. Plain numbers; no program. -/
import Derived.Orders
namespace Go.Proofs.YthijllagngkbgaaGreat.Eng
open Go

/-! ### a sum of bytes -/
def lowN (s b : Nat) : Nat := Nat.mod (Nat.succ (Nat.add (Nat.land s 65535) b)) 65521
def nextN (s b : Nat) : Nat := Nat.lor (Nat.mul (Nat.mod (Nat.add (Nat.div s 65536) (lowN s b)) 65521) 65536) (lowN s b)
def sumN : List Nat → Nat → Nat
  | [], s => s
  | b :: r, s => sumN r (nextN s b)

/-! ### an order at p fives of q tens, as bytes -/
/-- a number that is not negative, as bytes: below 8192 -/
def packN (n : Nat) : List Nat := match Nat.ble 64 n with
  | false => [Nat.mul 2 n]
  | true => [Nat.add (Nat.mod (Nat.mul 2 n) 128) 128, Nat.div (Nat.mul 2 n) 128]
def bodyN (p q : Nat) : List Nat := [2, 12, 0, 4] ++ packN (Nat.mul 5 p) ++ packN (Nat.mul 10 q) ++ [0]
def headN (p q : Nat) : List Nat := [197, (bodyN p q).length] ++ bodyN p q
/-- the numbers that are left open, and what comes of them -/
def valP (p : Nat) : Nat → Nat
  | 0 => Nat.mul 5 p
  | 1 => Nat.mul 10 p
  | 2 => Nat.mod (Nat.mul 10 p) 128
  | 3 => Nat.add (Nat.mod (Nat.mul 10 p) 128) 128
  | 4 => Nat.div (Nat.mul 10 p) 128
  | 5 => Nat.mul 50 p
  | 6 => Nat.mul (Nat.div (Nat.mul 10 p) 128) 128
  | _ => p
def valQ (q : Nat) : Nat → Nat
  | 0 => Nat.mul 10 q
  | 1 => Nat.mul 20 q
  | 2 => Nat.mod (Nat.mul 20 q) 128
  | 3 => Nat.add (Nat.mod (Nat.mul 20 q) 128) 128
  | 4 => Nat.div (Nat.mul 20 q) 128
  | 6 => Nat.mul (Nat.div (Nat.mul 20 q) 128) 128
  | _ => q
def valB (s : Nat) : Nat → Nat
  | 0 => s
  | 1 => Nat.div s 16777216
  | 2 => Nat.div s 65536
  | 3 => Nat.div s 256
  | 4 => Nat.mod (Nat.div s 16777216) 256
  | 5 => Nat.mod (Nat.div s 65536) 256
  | 6 => Nat.mod (Nat.div s 256) 256
  | _ => Nat.mod s 256
/-- by number: below 100 of the price, below 200 of the quantity, else of the sum -/
def valN (p q i : Nat) : Nat := match Nat.ble 100 i, Nat.ble 200 i with
  | false, _ => valP p i
  | true, false => valQ q (Nat.sub i 100)
  | true, true => valB (sumN (headN p q) 0) (Nat.sub i 200)
/-- eight kinds of them: how many bytes the price has, how it stands to 100; how many bytes the quantity has -/
def clsP (p : Nat) : Nat := match Nat.ble p 12, Nat.ble p 19, Nat.ble p 20 with
  | true, _, _ => 0
  | false, true, _ => 1
  | false, false, true => 2
  | false, false, false => 3
def clsQ (q : Nat) : Nat := match Nat.ble q 6 with
  | true => 0
  | false => 1
def Cls (c p q : Nat) : Prop := 1 ≤ p ∧ p ≤ 100 ∧ 1 ≤ q ∧ q ≤ 10 ∧ c % 4 = clsP p ∧ c / 4 = clsQ q
def kOf : Nat → IntKind
  | 0 => .i64
  | 1 => .u8
  | 2 => .u64
  | _ => .u32

/-! ### what comes of them, operation by operation -/
/-- an operand, or what comes of it -/
inductive Od where
  | n (k : IntKind) (a : Int)
  | t (k i : Nat)
  | b (b : Bool)
  deriving DecidableEq
def Od.num (p q : Nat) : Od → Value
  | .n k a => .int k a
  | .t k i => .int (kOf k) (.ofNat (valN p q i))
  | .b x => .bool x
def Od.tok (r c : Nat) : Od → Value
  | .n k a => .int k a
  | .t k i => .complex .f64 r (4096 * c + 16 * i + k)
  | .b x => .bool x
/-- for which kinds; the operation; its operands; what comes -/
structure Row3 where
  ps : List Nat
  qs : List Nat
  op : BinOp
  x : Od
  y : Od
  r : Od
def i64 (a : Int) : Od := .n .i64 a
def u64 (a : Int) : Od := .n .u64 a
def u32 (a : Int) : Od := .n .u32 a
def u8 (a : Int) : Od := .n .u8 a
/-- of the price -/
def tabP : List Row3 := [
  ⟨[0, 1, 2, 3], [], .lss, .t 0 9, i64 1, .b false⟩, ⟨[0, 1, 2, 3], [], .gtr, .t 0 9, i64 100, .b false⟩, ⟨[0, 1, 2, 3], [], .mul, i64 5, .t 0 9, .t 0 0⟩,
  ⟨[2, 3], [], .geq, .t 0 9, i64 20, .b true⟩, ⟨[0, 1], [], .geq, .t 0 9, i64 20, .b false⟩,
  ⟨[0, 1, 2, 3], [], .lss, .t 0 0, i64 0, .b false⟩, ⟨[0, 1, 2, 3], [], .neq, .t 0 0, i64 0, .b true⟩, ⟨[0, 1, 2, 3], [], .mul, u64 2, .t 2 0, .t 2 1⟩,
  ⟨[0], [], .geq, .t 2 1, u64 128, .b false⟩, ⟨[1, 2, 3], [], .geq, .t 2 1, u64 128, .b true⟩,
  ⟨[1, 2, 3], [], .rem, .t 2 1, u64 128, .t 2 2⟩, ⟨[1, 2, 3], [], .add, .t 2 2, u64 128, .t 2 3⟩, ⟨[1, 2, 3], [], .quo, .t 2 1, u64 128, .t 2 4⟩, ⟨[1, 2, 3], [], .geq, .t 2 4, u64 128, .b false⟩,
  -- read again
  ⟨[0], [], .rem, .t 1 1, u8 128, .t 1 1⟩, ⟨[0], [], .geq, .t 1 1, u8 128, .b false⟩, ⟨[0], [], .eql, .t 1 1, u8 0, .b false⟩, ⟨[0, 1, 2, 3], [], .shl, .t 2 1, i64 0, .t 2 1⟩, ⟨[0, 1, 2, 3], [], .or, u64 0, .t 2 1, .t 2 1⟩,
  ⟨[1, 2, 3], [], .rem, .t 1 3, u8 128, .t 1 2⟩, ⟨[1, 2, 3], [], .geq, .t 1 3, u8 128, .b true⟩, ⟨[1, 2, 3], [], .shl, .t 2 2, i64 0, .t 2 2⟩, ⟨[1, 2, 3], [], .or, u64 0, .t 2 2, .t 2 2⟩,
  ⟨[1, 2, 3], [], .rem, .t 1 4, u8 128, .t 1 4⟩, ⟨[1, 2, 3], [], .geq, .t 1 4, u8 128, .b false⟩, ⟨[1, 2, 3], [], .eql, .t 1 4, u8 0, .b false⟩, ⟨[1, 2, 3], [], .shl, .t 2 4, i64 7, .t 2 6⟩, ⟨[1, 2, 3], [], .or, .t 2 2, .t 2 6, .t 2 1⟩,
  ⟨[0, 1, 2, 3], [], .shr, .t 2 1, u64 1, .t 2 0⟩, ⟨[0, 1, 2, 3], [], .and, .t 2 1, u64 1, u64 0⟩, ⟨[0, 1, 2, 3], [], .xor, .t 0 0, i64 0, .t 0 0⟩,
  -- bonds, orders, what they cost
  ⟨[0, 1, 2, 3], [], .geq, .t 0 0, i64 5, .b true⟩, ⟨[0, 1, 2, 3], [], .leq, .t 0 0, i64 500, .b true⟩, ⟨[0, 1, 2, 3], [], .lss, .t 0 0, i64 5, .b false⟩, ⟨[0, 1, 2, 3], [], .gtr, .t 0 0, i64 500, .b false⟩,
  ⟨[0, 1, 2, 3], [], .rem, .t 0 0, i64 5, i64 0⟩, ⟨[0, 1, 2, 3], [], .geq, .t 0 0, i64 1, .b true⟩, ⟨[0, 1, 2, 3], [], .leq, .t 0 0, i64 1000000, .b true⟩,
  ⟨[0, 1, 2, 3], [], .and, .t 2 0, u64 4294967295, .t 2 0⟩, ⟨[0, 1, 2, 3], [], .shr, .t 2 0, u64 32, u64 0⟩, ⟨[0, 1, 2, 3], [], .mul, .t 2 0, u64 10, .t 2 5⟩, ⟨[0, 1, 2, 3], [], .mul, .t 2 0, u64 0, u64 0⟩, ⟨[0, 1, 2, 3], [], .shr, .t 2 5, u64 32, u64 0⟩,
  ⟨[0, 1, 2, 3], [], .neq, .t 2 5, .t 2 5, .b false⟩, ⟨[0, 1], [], .lss, .t 2 5, u64 1000, .b true⟩, ⟨[2, 3], [], .lss, .t 2 5, u64 1000, .b false⟩, ⟨[0, 1, 2], [], .gtr, .t 2 5, u64 1000, .b false⟩, ⟨[3], [], .gtr, .t 2 5, u64 1000, .b true⟩]
/-- of the quantity -/
def tabQ : List Row3 := [
  ⟨[], [0, 1], .lss, .t 0 109, i64 1, .b false⟩, ⟨[], [0, 1], .gtr, .t 0 109, i64 10, .b false⟩, ⟨[], [0, 1], .mul, i64 10, .t 0 109, .t 0 100⟩,
  ⟨[], [0, 1], .lss, .t 0 100, i64 0, .b false⟩, ⟨[], [0, 1], .neq, .t 0 100, i64 0, .b true⟩, ⟨[], [0, 1], .mul, u64 2, .t 2 100, .t 2 101⟩,
  ⟨[], [0], .geq, .t 2 101, u64 128, .b false⟩, ⟨[], [1], .geq, .t 2 101, u64 128, .b true⟩,
  ⟨[], [1], .rem, .t 2 101, u64 128, .t 2 102⟩, ⟨[], [1], .add, .t 2 102, u64 128, .t 2 103⟩, ⟨[], [1], .quo, .t 2 101, u64 128, .t 2 104⟩, ⟨[], [1], .geq, .t 2 104, u64 128, .b false⟩,
  ⟨[], [0], .rem, .t 1 101, u8 128, .t 1 101⟩, ⟨[], [0], .geq, .t 1 101, u8 128, .b false⟩, ⟨[], [0], .eql, .t 1 101, u8 0, .b false⟩, ⟨[], [0, 1], .shl, .t 2 101, i64 0, .t 2 101⟩, ⟨[], [0, 1], .or, u64 0, .t 2 101, .t 2 101⟩,
  ⟨[], [1], .rem, .t 1 103, u8 128, .t 1 102⟩, ⟨[], [1], .geq, .t 1 103, u8 128, .b true⟩, ⟨[], [1], .shl, .t 2 102, i64 0, .t 2 102⟩, ⟨[], [1], .or, u64 0, .t 2 102, .t 2 102⟩,
  ⟨[], [1], .rem, .t 1 104, u8 128, .t 1 104⟩, ⟨[], [1], .geq, .t 1 104, u8 128, .b false⟩, ⟨[], [1], .eql, .t 1 104, u8 0, .b false⟩, ⟨[], [1], .shl, .t 2 104, i64 7, .t 2 106⟩, ⟨[], [1], .or, .t 2 102, .t 2 106, .t 2 101⟩,
  ⟨[], [0, 1], .shr, .t 2 101, u64 1, .t 2 100⟩, ⟨[], [0, 1], .and, .t 2 101, u64 1, u64 0⟩, ⟨[], [0, 1], .xor, .t 0 100, i64 0, .t 0 100⟩,
  ⟨[], [0, 1], .geq, .t 0 100, i64 10, .b true⟩, ⟨[], [0, 1], .leq, .t 0 100, i64 100, .b true⟩, ⟨[], [0, 1], .lss, .t 0 100, i64 10, .b false⟩, ⟨[], [0, 1], .gtr, .t 0 100, i64 100, .b false⟩,
  ⟨[], [0, 1], .rem, .t 0 100, i64 10, i64 0⟩, ⟨[], [0, 1], .geq, .t 0 100, i64 1, .b true⟩, ⟨[], [0, 1], .leq, .t 0 100, i64 1000000, .b true⟩, ⟨[], [0, 1], .gtr, .t 0 100, i64 0, .b true⟩, ⟨[], [0, 1], .eql, .t 0 100, i64 0, .b false⟩,
  ⟨[], [0, 1], .add, i64 0, .t 0 100, .t 0 100⟩]
/-- as another kind of number: for which kinds; the number; the kind; what comes -/
structure RowC where
  ps : List Nat
  qs : List Nat
  i : Nat
  k : Nat
  r : Nat
def tabC : List RowC := [
  ⟨[0, 1, 2, 3], [], 0, 2, 0⟩, ⟨[0, 1, 2, 3], [], 0, 0, 0⟩, ⟨[0], [], 1, 1, 1⟩, ⟨[0, 1, 2, 3], [], 1, 2, 1⟩, ⟨[1, 2, 3], [], 2, 2, 2⟩, ⟨[1, 2, 3], [], 3, 1, 3⟩, ⟨[1, 2, 3], [], 4, 1, 4⟩, ⟨[1, 2, 3], [], 4, 2, 4⟩]
def tabD : List RowC := [
  ⟨[], [0, 1], 100, 2, 100⟩, ⟨[], [0, 1], 100, 0, 100⟩, ⟨[], [0], 101, 1, 101⟩, ⟨[], [0, 1], 101, 2, 101⟩, ⟨[], [1], 102, 2, 102⟩, ⟨[], [1], 103, 1, 103⟩, ⟨[], [1], 104, 1, 104⟩, ⟨[], [1], 104, 2, 104⟩]
end Go.Proofs.YthijllagngkbgaaGreat.Eng
