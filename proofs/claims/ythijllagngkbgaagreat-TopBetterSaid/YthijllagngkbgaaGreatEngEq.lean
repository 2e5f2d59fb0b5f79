/- The engine, part 24: equality of values of numbers and truths, cell by cell. -/
import Derived.Test.YthijllagngkbgaaGreatEngLaw
namespace Go.Proofs.YthijllagngkbgaaGreat.Eng
open Go

/-- what a cell is -/
inductive FK where
  | int (k : IntKind)
  | bool
def FK.fits : FK → Value → Bool
  | .int k, .int k' _ => decide (k = k')
  | .bool, .bool _ => true
  | _, _ => false
def fitsB : List FK → List Value → Bool
  | [], [] => true
  | s :: r, v :: t => s.fits v && fitsB r t
  | _, _ => false
def beqS : Value → Value → Bool
  | .int _ a, .int _ b => a == b
  | .bool a, .bool b => a == b
  | _, _ => false
def beqL : List Value → List Value → Bool
  | a :: r, b :: s => beqS a b && beqL r s
  | [], [] => true
  | _, _ => false

theorem fitsB_length : ∀ {ks : List FK} {cs : List Value}, fitsB ks cs = true → ks.length = cs.length
  | [], [], _ => rfl
  | _ :: _, _ :: _, h => by simp only [fitsB, Bool.and_eq_true] at h; simp [fitsB_length h.2]
  | [], _ :: _, h => by simp [fitsB] at h
  | _ :: _, [], h => by simp [fitsB] at h
theorem fitsB_split : ∀ {ks ks' : List FK} {cs : List Value}, fitsB (ks ++ ks') cs = true → fitsB ks (cs.take ks.length) = true ∧ fitsB ks' (cs.drop ks.length) = true
  | [], _, _, h => ⟨rfl, h⟩
  | s :: r, ks', [], h => by simp [fitsB] at h
  | s :: r, ks', v :: t, h => by
    simp only [List.cons_append, fitsB, Bool.and_eq_true] at h
    obtain ⟨a, b⟩ := fitsB_split h.2
    exact ⟨by simp [fitsB, h.1, a], by simpa using b⟩
theorem beqL_append : ∀ {a b c d : List Value}, a.length = b.length → beqL (a ++ c) (b ++ d) = (beqL a b && beqL c d)
  | [], [], _, _, _ => by simp [beqL]
  | x :: a, y :: b, c, d, h => by simp only [List.cons_append, beqL]; rw [beqL_append (by simpa using h), Bool.and_assoc]
  | [], _ :: _, _, _, h => by simp at h
  | _ :: _, [], _, _, h => by simp at h

section
variable (P : Program)
def flatF (sc : TypeId → Option (List FK)) : List Field → Nat → Option (List FK)
  | [], _ => some []
  | f :: r, o => if f.offset = o ∧ f.name ≠ "_" then (sc f.type).bind fun a => (flatF sc r (o + a.length)).map (a ++ ·) else none
/-- a type's cells, all of them numbers and truths -/
def flatT : Nat → TypeId → Option (List FK)
  | 0, _ => none
  | d + 1, t => match P.underlying t with
    | some (.int k) => some [.int k]
    | some .bool => some [.bool]
    | some (.struct fs) => if P.stoodInHeld t then none else (flatF (flatT d) fs.toList 0).bind fun l => if szOf P t = some l.length then some l else none
    | some (.array n e) => (flatT d e).bind fun l => if szOf P e = some l.length ∧ szOf P t = some (n * l.length) then some (List.replicate n l).flatten else none
    | _ => none
end

section
variable {P : Program}
/-- cells as a value of a type -/
def isV (P : Program) (t : TypeId) (cs : List Value) (v : Value) : Prop := (aggT P t = some true ∧ szOf P t = some cs.length ∧ v = .agg cs.toArray) ∨ (aggT P t = some false ∧ cs = [v])

theorem isV_of_flat {d : Nat} {t : TypeId} {ks : List FK} {cs : List Value} (h : flatT P d t = some ks) (hf : fitsB ks cs = true) : ∃ v, isV P t cs v := by
  have hl := fitsB_length hf
  cases d with
  | zero => simp [flatT] at h
  | succ d =>
    simp only [flatT] at h
    split at h
    · rename_i k hu
      obtain rfl := Option.some.inj h
      match cs, hl with
      | [v], _ => exact ⟨v, .inr ⟨by simp [aggT, hu], rfl⟩⟩
    · rename_i hu
      obtain rfl := Option.some.inj h
      match cs, hl with
      | [v], _ => exact ⟨v, .inr ⟨by simp [aggT, hu], rfl⟩⟩
    · rename_i fs hu
      split at h
      · cases h
      · obtain ⟨l, _, h⟩ := Option.bind_eq_some_iff.mp h
        split at h
        · rename_i hs
          obtain rfl := Option.some.inj h
          exact ⟨_, .inl ⟨by simp [aggT, hu], by rw [hs, hl], rfl⟩⟩
        · cases h
    · rename_i n e hu
      obtain ⟨l, _, h⟩ := Option.bind_eq_some_iff.mp h
      split at h
      · rename_i hs
        obtain rfl := Option.some.inj h
        refine ⟨_, .inl ⟨by simp [aggT, hu], ?_, rfl⟩⟩
        rw [hs.2, ← hl]; simp
      · cases h
    · cases h

theorem apart_isV {t : TypeId} {xs : Array Value} {off : Nat} {cs : List Value} {v : Value} (h : isV P t cs v) (hc : (xs.toList.drop off).take cs.length = cs) : apart P t xs off = some v := by
  rcases h with ⟨ha, hs, rfl⟩ | ⟨ha, rfl⟩
  · unfold apart
    rw [ha]
    simp only [hs, Option.map_some]
    congr 2
    apply Array.ext'
    rw [Array.toList_extract, List.extract_eq_take_drop, show off + cs.length - off = cs.length by omega, hc]
  · unfold apart
    rw [ha]
    simp only []
    have : (xs.toList.drop off)[0]? = some v := by
      cases hq : xs.toList.drop off with
      | nil => rw [hq] at hc; simp at hc
      | cons y ys => rw [hq] at hc; simp at hc; simp [hc]
    simpa using this

theorem flat_fields {d : Nat} {eq : TypeId → Value → Value → Option Bool}
    (ih : ∀ {t : TypeId} {ks : List FK} {cx cy : List Value} {x y : Value}, flatT P d t = some ks → fitsB ks cx = true → fitsB ks cy = true → isV P t cx x → isV P t cy y → eq t x y = some (beqL cx cy)) {xs ys : Array Value} :
    ∀ (fs : List Field) (o : Nat) (l : List FK), flatF (flatT P d) fs o = some l → fitsB l (xs.toList.drop o) = true → fitsB l (ys.toList.drop o) = true → aeq.aeqFields P eq xs ys fs = some (beqL (xs.toList.drop o) (ys.toList.drop o))
  | [], o, l, h, hx, hy => by
    simp only [flatF, Option.some.injEq] at h
    subst h
    have a := fitsB_length hx
    have b := fitsB_length hy
    rw [List.eq_nil_of_length_eq_zero a.symm, List.eq_nil_of_length_eq_zero b.symm]
    rfl
  | f :: r, o, l, h, hx, hy => by
    simp only [flatF] at h
    split at h
    · rename_i ho
      obtain ⟨a, ha, h⟩ := Option.bind_eq_some_iff.mp h
      obtain ⟨b, hb, rfl⟩ := Option.map_eq_some_iff.mp h
      obtain ⟨hx1, hx2⟩ := fitsB_split hx
      obtain ⟨hy1, hy2⟩ := fitsB_split hy
      obtain ⟨x, hxv⟩ := isV_of_flat ha hx1
      obtain ⟨y, hyv⟩ := isV_of_flat ha hy1
      have lx := fitsB_length hx1
      have ly := fitsB_length hy1
      have px : apart P f.type xs f.offset = some x := apart_isV hxv (by rw [ho.1, ← lx])
      have py : apart P f.type ys f.offset = some y := apart_isV hyv (by rw [ho.1, ← ly])
      have e := ih ha hx1 hy1 hxv hyv
      rw [List.drop_drop] at hx2 hy2
      have e2 := flat_fields ih r (o + a.length) b hb hx2 hy2
      unfold aeq.aeqFields
      rw [if_pos ho.2, px, py]
      simp only [e]
      have sx : xs.toList.drop o = (xs.toList.drop o).take a.length ++ xs.toList.drop (o + a.length) := by rw [← List.drop_drop, List.take_append_drop]
      have sy : ys.toList.drop o = (ys.toList.drop o).take a.length ++ ys.toList.drop (o + a.length) := by rw [← List.drop_drop, List.take_append_drop]
      have key : beqL (xs.toList.drop o) (ys.toList.drop o) = (beqL ((xs.toList.drop o).take a.length) ((ys.toList.drop o).take a.length) && beqL (xs.toList.drop (o + a.length)) (ys.toList.drop (o + a.length))) := by
        conv => lhs; rw [sx, sy]
        exact beqL_append (by omega)
      rw [key]
      cases hq : beqL ((xs.toList.drop o).take a.length) ((ys.toList.drop o).take a.length) with
      | true => simp only [e2, Bool.true_and]
      | false => simp
    · cases h

theorem flat_cells {d : Nat} {eq : TypeId → Value → Value → Option Bool} {e : TypeId} {ks : List FK}
    (ih : ∀ {cx cy : List Value} {x y : Value}, fitsB ks cx = true → fitsB ks cy = true → isV P e cx x → isV P e cy y → eq e x y = some (beqL cx cy)) (he : flatT P d e = some ks) {xs ys : Array Value} :
    ∀ (n i : Nat), fitsB (List.replicate n ks).flatten (xs.toList.drop (i * ks.length)) = true → fitsB (List.replicate n ks).flatten (ys.toList.drop (i * ks.length)) = true →
      aeq.aeqCells P eq e ks.length xs ys n i = some (beqL (xs.toList.drop (i * ks.length)) (ys.toList.drop (i * ks.length)))
  | 0, i, hx, hy => by
    have a := fitsB_length hx
    have b := fitsB_length hy
    rw [List.eq_nil_of_length_eq_zero a.symm, List.eq_nil_of_length_eq_zero b.symm]
    rfl
  | n + 1, i, hx, hy => by
    rw [List.replicate_succ, List.flatten_cons] at hx hy
    obtain ⟨hx1, hx2⟩ := fitsB_split hx
    obtain ⟨hy1, hy2⟩ := fitsB_split hy
    obtain ⟨x, hxv⟩ := isV_of_flat he hx1
    obtain ⟨y, hyv⟩ := isV_of_flat he hy1
    have lx := fitsB_length hx1
    have ly := fitsB_length hy1
    have px : apart P e xs (i * ks.length) = some x := apart_isV hxv (by rw [← lx])
    have py : apart P e ys (i * ks.length) = some y := apart_isV hyv (by rw [← ly])
    have e1 := ih hx1 hy1 hxv hyv
    rw [List.drop_drop, show i * ks.length + ks.length = (i + 1) * ks.length by rw [Nat.add_mul]; omega] at hx2 hy2
    have e2 := flat_cells ih he n (i + 1) hx2 hy2
    unfold aeq.aeqCells
    rw [px, py]
    simp only [e1]
    have sx : xs.toList.drop (i * ks.length) = (xs.toList.drop (i * ks.length)).take ks.length ++ xs.toList.drop ((i + 1) * ks.length) := by rw [show (i + 1) * ks.length = i * ks.length + ks.length by rw [Nat.add_mul]; omega, ← List.drop_drop, List.take_append_drop]
    have sy : ys.toList.drop (i * ks.length) = (ys.toList.drop (i * ks.length)).take ks.length ++ ys.toList.drop ((i + 1) * ks.length) := by rw [show (i + 1) * ks.length = i * ks.length + ks.length by rw [Nat.add_mul]; omega, ← List.drop_drop, List.take_append_drop]
    have key : beqL (xs.toList.drop (i * ks.length)) (ys.toList.drop (i * ks.length)) = (beqL ((xs.toList.drop (i * ks.length)).take ks.length) ((ys.toList.drop (i * ks.length)).take ks.length) && beqL (xs.toList.drop ((i + 1) * ks.length)) (ys.toList.drop ((i + 1) * ks.length))) := by
      conv => lhs; rw [sx, sy]
      exact beqL_append (by omega)
    rw [key]
    cases hq : beqL ((xs.toList.drop (i * ks.length)).take ks.length) ((ys.toList.drop (i * ks.length)).take ks.length) with
    | true => simp only [e2, Bool.true_and]
    | false => simp

/-- Equality of values of numbers and truths. -/
theorem aeq_flat : ∀ (d D : Nat) {t : TypeId} {ks : List FK} {cx cy : List Value} {x y : Value}, d ≤ D → flatT P d t = some ks → fitsB ks cx = true → fitsB ks cy = true → isV P t cx x → isV P t cy y → aeq P D t x y = some (beqL cx cy)
  | 0, D, t, ks, cx, cy, x, y, _, h, _, _, _, _ => by simp [flatT] at h
  | d + 1, 0, t, ks, cx, cy, x, y, hd, _, _, _, _, _ => by omega
  | d + 1, D + 1, t, ks, cx, cy, x, y, hd, h, hx, hy, vx, vy => by
    have lx := fitsB_length hx
    have ly := fitsB_length hy
    simp only [flatT] at h
    split at h
    · rename_i k hu
      obtain rfl := Option.some.inj h
      have ag : aggT P t = some false := by simp [aggT, hu]
      rcases vx with ⟨a, _⟩ | ⟨_, rfl⟩
      · rw [ag] at a; cases a
      rcases vy with ⟨a, _⟩ | ⟨_, rfl⟩
      · rw [ag] at a; cases a
      simp only [fitsB, Bool.and_true] at hx hy
      cases x <;> simp only [FK.fits, Bool.false_eq_true, decide_eq_true_eq] at hx
      cases y <;> simp only [FK.fits, Bool.false_eq_true, decide_eq_true_eq] at hy
      subst hx; subst hy
      simp [aeq, hu, beqL, beqS]
    · rename_i hu
      obtain rfl := Option.some.inj h
      have ag : aggT P t = some false := by simp [aggT, hu]
      rcases vx with ⟨a, _⟩ | ⟨_, rfl⟩
      · rw [ag] at a; cases a
      rcases vy with ⟨a, _⟩ | ⟨_, rfl⟩
      · rw [ag] at a; cases a
      simp only [fitsB, Bool.and_true] at hx hy
      cases x <;> simp only [FK.fits, Bool.false_eq_true] at hx
      cases y <;> simp only [FK.fits, Bool.false_eq_true] at hy
      simp [aeq, hu, beqL, beqS]
    · rename_i fs hu
      split at h
      · cases h
      · rename_i hst
        obtain ⟨l, hl, h⟩ := Option.bind_eq_some_iff.mp h
        split at h
        · obtain rfl := Option.some.inj h
          have ag : aggT P t = some true := by simp [aggT, hu]
          rcases vx with ⟨_, _, rfl⟩ | ⟨a, _⟩
          · rcases vy with ⟨_, _, rfl⟩ | ⟨a, _⟩
            · have := flat_fields (xs := cx.toArray) (ys := cy.toArray) (eq := aeq P D) (fun a b c e f => aeq_flat d D (by omega) a b c e f) fs.toList 0 l hl (by simpa using hx) (by simpa using hy)
              simp only [aeq, hu]
              rw [if_neg hst, this]
              simp
            · rw [ag] at a; cases a
          · rw [ag] at a; cases a
        · cases h
    · rename_i n e hu
      obtain ⟨l, hl, h⟩ := Option.bind_eq_some_iff.mp h
      split at h
      · rename_i hs
        obtain rfl := Option.some.inj h
        have ag : aggT P t = some true := by simp [aggT, hu]
        rcases vx with ⟨_, _, rfl⟩ | ⟨a, _⟩
        · rcases vy with ⟨_, _, rfl⟩ | ⟨a, _⟩
          · have := flat_cells (xs := cx.toArray) (ys := cy.toArray) (eq := aeq P D) (fun a b c e => aeq_flat d D (by omega) hl a b c e) hl n 0 (by simpa using hx) (by simpa using hy)
            simp only [aeq, hu, hs.1]
            rw [this]
            simp
          · rw [ag] at a; cases a
        · rw [ag] at a; cases a
      · cases h
    · cases h

theorem abin_eql {t : TypeId} {ks : List FK} {xs ys : List Value} (h : flatT P 8 t = some ks) (ha : aggT P t = some true) (hx : fitsB ks xs = true) (hy : fitsB ks ys = true) (hs : szOf P t = some ks.length) (hg : P.eqGuardType P.depth t = false) :
    abin P .eql t (.agg xs.toArray) (.agg ys.toArray) = some (.bool (beqL xs ys)) := by
  simp only [abin, hg, Bool.false_eq_true, if_false]
  rw [aeq_flat 8 10000 (by decide) h hx hy (.inl ⟨ha, by rw [hs, fitsB_length hx], rfl⟩) (.inl ⟨ha, by rw [hs, fitsB_length hy], rfl⟩)]
  rfl
theorem abin_neq {t : TypeId} {ks : List FK} {xs ys : List Value} (h : flatT P 8 t = some ks) (ha : aggT P t = some true) (hx : fitsB ks xs = true) (hy : fitsB ks ys = true) (hs : szOf P t = some ks.length) (hg : P.eqGuardType P.depth t = false) :
    abin P .neq t (.agg xs.toArray) (.agg ys.toArray) = some (.bool (!beqL xs ys)) := by
  simp only [abin, hg, Bool.false_eq_true, if_false]
  rw [aeq_flat 8 10000 (by decide) h hx hy (.inl ⟨ha, by rw [hs, fitsB_length hx], rfl⟩) (.inl ⟨ha, by rw [hs, fitsB_length hy], rfl⟩)]
  rfl
/-- two values of a type of numbers and truths -/
def okEq (P : Program) (t : TypeId) (xs ys : List Value) : Bool := match flatT P 8 t with
  | some ks => decide (aggT P t = some true) && fitsB ks xs && fitsB ks ys && decide (szOf P t = some ks.length) && !P.eqGuardType P.depth t
  | none => false
theorem okEq_spec {t : TypeId} {xs ys : List Value} (h : okEq P t xs ys = true) : ∃ ks, flatT P 8 t = some ks ∧ aggT P t = some true ∧ fitsB ks xs = true ∧ fitsB ks ys = true ∧ szOf P t = some ks.length ∧ P.eqGuardType P.depth t = false := by
  unfold okEq at h
  split at h
  · rename_i ks hk
    simp only [Bool.and_eq_true, decide_eq_true_eq, Bool.not_eq_true'] at h
    exact ⟨ks, hk, h.1.1.1.1, h.1.1.1.2, h.1.1.2, h.1.2, h.2⟩
  · cases h
theorem abin_eqlB {t : TypeId} {xs ys : List Value} (h : okEq P t xs ys = true) : abin P .eql t (.agg xs.toArray) (.agg ys.toArray) = some (.bool (beqL xs ys)) := by
  obtain ⟨ks, a, b, c, d, e, f⟩ := okEq_spec h
  exact abin_eql a b c d e f
theorem abin_neqB {t : TypeId} {xs ys : List Value} (h : okEq P t xs ys = true) : abin P .neq t (.agg xs.toArray) (.agg ys.toArray) = some (.bool (!beqL xs ys)) := by
  obtain ⟨ks, a, b, c, d, e, f⟩ := okEq_spec h
  exact abin_neq a b c d e f
end
end Go.Proofs.YthijllagngkbgaaGreat.Eng
