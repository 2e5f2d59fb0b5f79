/- How an argument of a law reads: numbers and truths by their place in it. No program. -/
import Derived.Test.YthijllagngkbgaaGreatEngLaw
import Derived.WalkKit
import Derived.ProofKit
import Derived.OpenShut
import Derived.ShutString
import Derived.ChangeOld
import Derived.Below
import Derived.SizedLaws
import Derived.Deep.Slices
namespace Go.Proofs.YthijllagngkbgaaGreat.Eng
open Go Go.ChangeShapes Go.WideShapes Go.RowKit

/-- what a cell of an argument may be -/
inductive SK where
  | int (k : IntKind)
  | bool

def SK.fits : SK → Value → Prop
  | .int k, v => ∃ n, v = .int k n ∧ (Lit.int k n).wf = true
  | .bool, v => ∃ b, v = .bool b

def Fits : List SK → List Value → Prop
  | [], [] => True
  | s :: r, v :: t => s.fits v ∧ Fits r t
  | _, _ => False

theorem Fits.length : ∀ {ks : List SK} {cs : List Value}, Fits ks cs → ks.length = cs.length
  | [], [], _ => rfl
  | _ :: _, _ :: _, h => by simp [Fits.length h.2]
  | [], _ :: _, h => h.elim
  | _ :: _, [], h => h.elim
theorem Fits.append : ∀ {ks : List SK} {cs : List Value} {ks' : List SK} {cs' : List Value}, Fits ks cs → Fits ks' cs' → Fits (ks ++ ks') (cs ++ cs')
  | [], [], _, _, _, h => h
  | _ :: _, _ :: _, _, _, h, k => ⟨h.1, Fits.append h.2 k⟩
  | [], _ :: _, _, _, h, _ => h.elim
  | _ :: _, [], _, _, h, _ => h.elim
theorem Fits.cons {s : SK} {ks : List SK} {cs : List Value} (h : Fits (s :: ks) cs) : ∃ v r, cs = v :: r ∧ s.fits v ∧ Fits ks r := by
  cases cs with
  | nil => exact h.elim
  | cons v r => exact ⟨v, r, rfl, h.1, h.2⟩
theorem Fits.int {k : IntKind} {ks : List SK} {cs : List Value} (h : Fits (.int k :: ks) cs) : ∃ n r, cs = .int k n :: r ∧ (Lit.int k n).wf = true ∧ Fits ks r := by
  obtain ⟨v, r, rfl, ⟨n, rfl, w⟩, f⟩ := h.cons
  exact ⟨n, r, rfl, w, f⟩
theorem Fits.truth {ks : List SK} {cs : List Value} (h : Fits (.bool :: ks) cs) : ∃ b r, cs = .bool b :: r ∧ Fits ks r := by
  obtain ⟨v, r, rfl, ⟨n, rfl⟩, f⟩ := h.cons
  exact ⟨n, r, rfl, f⟩
theorem Fits.done {cs : List Value} (h : Fits [] cs) : cs = [] := by
  cases cs with
  | nil => rfl
  | cons v r => exact h.elim
theorem SK.fits_flat {s : SK} {v : Value} (h : s.fits v) : flat v = true := by
  cases s with
  | int k => obtain ⟨n, rfl, _⟩ := h; rfl
  | bool => obtain ⟨b, rfl⟩ := h; rfl
theorem Fits.flats : ∀ {ks : List SK} {cs : List Value}, Fits ks cs → cs.all flat = true
  | [], [], _ => rfl
  | _ :: _, _ :: _, h => by simp [SK.fits_flat h.1, Fits.flats h.2]
  | [], _ :: _, h => h.elim
  | _ :: _, [], h => h.elim

section
variable (P : Program)
/-- the cells of fields one behind the other -/
def scalF (sc : TypeId → Option (List SK)) : List Field → Nat → Option (List SK)
  | [], _ => some []
  | f :: r, o => if f.offset = o then (sc f.type).bind fun a => if a.length = P.cellsOf f.type then (scalF sc r (o + a.length)).map (a ++ ·) else none else none
/-- the cells of a type of numbers and truths -/
def scal : Nat → TypeId → Option (List SK)
  | 0, _ => none
  | d + 1, t => match P.underlying t with
    | some (.int k) => some [.int k]
    | some .bool => some [.bool]
    | some (.struct fs) => (scalF P (scal d) fs.toList 0).bind fun l => if l.length = P.cellsOf t then some l else none
    | some (.array n e) => (scal d e).bind fun l => if l.length = P.cellsOf e ∧ n * l.length = P.cellsOf t then some (List.replicate n l).flatten else none
    | _ => none
end

section
variable {H : Type} {enc : TypeId × Value → H} {P : Program} {w : World} {base : Nat} {spare : Nat → Bool} {held : Bool}

theorem take_drop_split (cs : List Value) (o a : Nat) : (cs.drop o).take a ++ cs.drop (o + a) = cs.drop o := by
  rw [← List.drop_drop, List.take_append_drop]

theorem fields_fit {d : Nat} (ih : ∀ {t : TypeId} {ks : List SK} {fuel : Nat} {cs : List Value} {x : DataW H × List MemPlace}, scal P d t = some ks → DataW.trod enc P w base spare held fuel t cs = some x → Fits ks cs) {cs : List Value} :
    ∀ (fs : List Field) (o : Nat) (l : List SK), scalF P (scal P d) fs o = some l → (∀ f ∈ fs, ∃ n y, DataW.trod enc P w base spare held n f.type ((cs.drop f.offset).take (P.cellsOf f.type)) = some y) → o + l.length ≤ cs.length → Fits l ((cs.drop o).take l.length)
  | [], o, l, h, _, _ => by
    simp only [scalF, Option.some.injEq] at h
    subst h
    simp [Fits]
  | f :: r, o, l, h, hf, hl => by
    simp only [scalF] at h
    split at h
    · rename_i ho
      simp only [Option.bind_eq_some_iff] at h
      obtain ⟨a, ha, h⟩ := h
      split at h
      · rename_i hal
        obtain ⟨b, hb, rfl⟩ := Option.map_eq_some_iff.mp h
        obtain ⟨n, y, hy⟩ := hf f (by simp)
        have h1 := ih ha hy
        rw [ho, ← hal] at h1
        have h2 := fields_fit ih r (o + a.length) b hb (fun g hg => hf g (by simp [hg])) (by simp at hl; omega)
        have e : (cs.drop o).take (a ++ b).length = (cs.drop o).take a.length ++ (cs.drop (o + a.length)).take b.length := by
          rw [List.length_append, List.take_add, List.drop_drop]
        rw [e]
        exact h1.append h2
      · cases h
    · cases h

theorem elems_fit {ks : List SK} {cs : List Value} : ∀ (n i : Nat), (∀ j, i ≤ j → j < i + n → Fits ks ((cs.drop (j * ks.length)).take ks.length)) → Fits (List.replicate n ks).flatten ((cs.drop (i * ks.length)).take (n * ks.length))
  | 0, i, _ => by simp [Fits]
  | n + 1, i, h => by
    have h1 := h i (Nat.le_refl _) (by omega)
    have h2 := elems_fit n (i + 1) fun j a b => h j (by omega) (by omega)
    have e : (cs.drop (i * ks.length)).take ((n + 1) * ks.length) = (cs.drop (i * ks.length)).take ks.length ++ (cs.drop ((i + 1) * ks.length)).take (n * ks.length) := by
      rw [show (n + 1) * ks.length = ks.length + n * ks.length by rw [Nat.add_mul]; omega, List.take_add, List.drop_drop, show i * ks.length + ks.length = (i + 1) * ks.length by rw [Nat.add_mul]; omega]
    rw [e, List.replicate_succ, List.flatten_cons]
    exact h1.append h2

/-- An argument of numbers and truths reads so. -/
theorem trod_fits : ∀ (d : Nat) {t : TypeId} {ks : List SK} {fuel : Nat} {cs : List Value} {x : DataW H × List MemPlace}, scal P d t = some ks → DataW.trod enc P w base spare held fuel t cs = some x → Fits ks cs
  | 0, _, _, _, _, _, h, _ => by simp [scal] at h
  | d + 1, t, ks, fuel, cs, x, h, hx => by
    simp only [scal] at h
    split at h
    · rename_i k hu
      obtain rfl := Option.some.inj h
      obtain ⟨n, rfl, _, hw⟩ := DataW.trod_int hu hx
      exact ⟨⟨n, rfl, hw⟩, trivial⟩
    · rename_i hu
      obtain rfl := Option.some.inj h
      obtain ⟨b, rfl, _⟩ := DataW.trod_bool hu hx
      exact ⟨⟨b, rfl⟩, trivial⟩
    · rename_i fs hu
      obtain ⟨l, hl, h⟩ := Option.bind_eq_some_iff.mp h
      split at h
      · rename_i hlen
        obtain rfl := Option.some.inj h
        obtain ⟨xs, n, _, _, hcl, hxl, hf⟩ := DataW.trod_struct hu hx
        have := fields_fit (cs := cs) (fun a b => trod_fits d a b) fs.toList 0 l hl (fun f hf' => by
          obtain ⟨i, hi, rfl⟩ := List.getElem_of_mem hf'
          have hi' : i < fs.size := by simpa using hi
          have e := hf i fs[i] (by simp [hi'])
          rw [List.getElem?_eq_getElem (by omega)] at e
          exact ⟨n, _, by simpa using e⟩) (by omega)
        rwa [List.drop_zero, List.take_of_length_le (by omega)] at this
      · cases h
    · rename_i n e hu
      obtain ⟨l, hl, h⟩ := Option.bind_eq_some_iff.mp h
      split at h
      · rename_i hlen
        obtain rfl := Option.some.inj h
        obtain ⟨xs, m, _, _, hcl, hxl, hf⟩ := DataW.trod_array hu hx
        have := elems_fit (ks := l) (cs := cs) n 0 fun j _ hj => by
          have e := hf j (by omega)
          rw [List.getElem?_eq_getElem (by omega), ← hlen.1] at e
          exact trod_fits d hl e
        rwa [Nat.zero_mul, List.drop_zero, List.take_of_length_le (by omega)] at this
      · cases h
    · cases h

/-- A struct of numbers and truths. -/
theorem open_fit {r : Reach} {b0 : Nat} {t : TypeId} {fs : Array Field} {ks : List SK} {v : Value} {dt : DataW H} {ps : List MemPlace} (d : Nat) (hu : P.underlying t = some (.struct fs)) (hk : scal P d t = some ks)
    (hval : Value.okWide P w r b0 t v) (hd : DataW.Trod enc P w base spare held t v dt ps) : ∃ cs : List Value, v = .agg cs.toArray ∧ Fits ks cs := by
  obtain ⟨cs, rfl, _⟩ := okWide_struct hu hval
  obtain ⟨fuel, hf⟩ := hd
  exact ⟨cs.toList, by simp, trod_fits d hk (by simpa [Value.cells] using hf)⟩
end
end Go.Proofs.YthijllagngkbgaaGreat.Eng
