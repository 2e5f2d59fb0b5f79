/- The engine, part 7: the operations that read, write and make memory, over row numbers, and that the model's operations do the same. -/
import Derived.Test.YthijllagngkbgaaGreatEngPure3
namespace Go.Proofs.YthijllagngkbgaaGreat.Eng
open Go
variable {ds : List Deferred}

/-! ### loads and stores -/
def aload (P : Program) (h : Heap) (t : TypeId) (x : Value) : Option Value :=
  match x with
  | .pointer (some ⟨i, o, none⟩) =>
    match aggT P t with
    | some true => (szOf P t).bind fun n => (readCells h i o n).map fun cs => .agg cs.toArray
    | some false => (readCells h i o 1).bind fun
      | [v] => some v
      | _ => none
    | none => none
  | _ => none

def writeCells (h : Heap) (i o : Nat) (vs : List Value) : Option Heap :=
  match h.get i with
  | some (.row cs e) => if o + vs.length ≤ cs.length ∧ vs.all isCell = true then some (h.put i (.row (over cs o vs) e)) else none
  | _ => none

def astore (P : Program) (h : Heap) (t : TypeId) (x v : Value) : Option Heap :=
  match x with
  | .pointer (some ⟨i, o, none⟩) => (szOf P t).bind fun n => if v.cells.toList.length = n then writeCells h i o v.cells.toList else none
  | _ => none

variable {P : Program} {B : Nat} {ρ : Where} {h : Heap} {w : World}

theorem isCell_rel {v v' : Value} (hr : VRel ρ v v') : isCell v' = isCell v := by
  cases hr <;> first
    | rfl
    | (rename_i h; obtain ⟨_, _, _, _, _, _, rfl⟩ := h; rfl)
theorem isCells_rel {vs vs' : List Value} (hr : VRels ρ vs vs') : vs'.all isCell = vs.all isCell := by
  induction vs generalizing vs' with
  | nil => cases hr; rfl
  | cons v vs ih => cases hr with | cons _ _ _ _ e t => simp [ih t, isCell_rel e]

theorem aload_run {t : TypeId} {x x' v : Value} (r : HRel B ρ h w) (ha : aload P h t x = some v) (hx : VRel ρ x x') :
    ∃ v', (Instr.loadAt t x').run P w = .ok v' w ∧ VRel ρ v v' := by
  unfold aload at ha
  split at ha
  · rename_i i o
    cases hx with
    | ptr _ _ l hl =>
      split at ha
      · rename_i hagg
        simp only [Option.bind_eq_some_iff, Option.map_eq_some_iff] at ha
        obtain ⟨n, hn, cs, hcs, rfl⟩ := ha
        obtain ⟨c, e, fr, hc, hs, hv⟩ := r.lies hl hcs
        refine ⟨.agg ((c.toList.drop (l.off + o)).take n).toArray, ?_, .agg _ _ (by simpa using hv)⟩
        simp [Instr.loadAt, Instr.sureAddr, loadVar, run_agg hagg, run_size hn, load_run hc hs]
      · rename_i hagg
        simp only [Option.bind_eq_some_iff] at ha
        obtain ⟨cs, hcs, ha⟩ := ha
        split at ha
        · rename_i u
          obtain rfl := Option.some.inj ha
          obtain ⟨c, e, fr, hc, hs, hv⟩ := r.lies hl hcs
          have hlt : l.off + o < c.size := by omega
          have hd : (c.toList.drop (l.off + o)).take 1 = [c[l.off + o]] := by
            rw [List.drop_eq_getElem_cons (by simpa using hlt)]
            simp
          rw [hd] at hv
          cases hv with
          | cons _ _ _ _ hv _ =>
            refine ⟨_, ?_, hv⟩
            have : w.cell? ⟨l.blk, l.off + o, none⟩ = some c[l.off + o] := by rw [cell_at hc]; simp [hlt]
            simp [Instr.loadAt, Instr.sureAddr, loadVar, run_agg hagg, this]
        · cases ha
      · cases ha
  · cases ha

theorem writeCells_run {i o : Nat} {vs vs' : List Value} {h' : Heap} {l : Loc} (r : HRel B ρ h w) (ha : writeCells h i o vs = some h') (hl : At ρ i l) (hv : VRels ρ vs vs') :
    ∃ w', (storeCells ⟨l.blk, l.off + o, none⟩ vs').run P w = .ok () w' ∧ HRel B ρ h' w' ∧ Step ρ h w ρ h' w' := by
  unfold writeCells at ha
  split at ha
  · rename_i cs e hg
    split at ha
    · rename_i hb
      obtain rfl := Option.some.inj ha
      obtain ⟨c, hc, hin, h1, h2⟩ := r.write hl hg hv hb.1
      refine ⟨_, ?_, h1, h2⟩
      have := store_run (P := P) vs' 0 hc (by omega) (by rw [isCells_rel hv]; exact hb.2)
      simpa using this
    · cases ha
  · cases ha

theorem astore_run {t : TypeId} {x x' v v' : Value} {h' : Heap} (r : HRel B ρ h w) (ha : astore P h t x v = some h') (hx : VRel ρ x x') (hv : VRel ρ v v') :
    ∃ w', (Instr.storeAt t x' v').run P w = .ok () w' ∧ HRel B ρ h' w' ∧ Step ρ h w ρ h' w' := by
  unfold astore at ha
  split at ha
  · rename_i i o
    cases hx with
    | ptr _ _ l hl =>
      simp only [Option.bind_eq_some_iff] at ha
      obtain ⟨n, hn, ha⟩ := ha
      split at ha
      · rename_i hlen
        have hvs := vrels_cells hv
        obtain ⟨w', h1, h2⟩ := writeCells_run (P := P) r ha hl hvs
        refine ⟨w', ?_, h2⟩
        have hl2 : v'.cells.size = n := by have := hvs.length; simp at this hlen; omega
        simp [Instr.storeAt, Instr.sureAddr, storeVar, run_size hn, hl2, h1]
      · cases ha
  · cases ha

/-! ### zeros -/
def reps (n : Nat) (z : List Value) : List Value := (List.replicate n z).flatten

theorem reps_succ (n : Nat) (z : List Value) : reps (n + 1) z = z ++ reps n z := by simp [reps, List.replicate_succ]
theorem reps_length (n : Nat) (z : List Value) : (reps n z).length = n * z.length := by simp [reps, List.length_flatten]

theorem reps_get (z : List Value) : ∀ (n k : Nat), k < n * z.length → (reps n z)[k]? = z[k % z.length]?
  | 0, k, h => by omega
  | n + 1, k, h => by
    rw [reps_succ]
    by_cases hk : k < z.length
    · rw [List.getElem?_append_left hk, Nat.mod_eq_of_lt hk]
    · have hz : 0 < z.length := by
        rcases Nat.eq_zero_or_pos z.length with e | e
        · rw [e] at h; omega
        · exact e
      rw [List.getElem?_append_right (by omega), reps_get z n (k - z.length) (by rw [Nat.add_mul] at h; omega)]
      congr 1
      conv => rhs; rw [show k = k - z.length + z.length by omega]
      simp

theorem range_reps (n : Nat) (z : Array Value) : ((Array.range (n * z.size)).map (fun i => z[i % z.size]!)).toList = reps n z.toList := by
  apply List.ext_getElem?
  intro k
  by_cases hk : k < n * z.size
  · rw [reps_get z.toList n k (by simpa using hk)]
    have hz : 0 < z.size := by
      rcases Nat.eq_zero_or_pos z.size with e | e
      · rw [e] at hk; omega
      · exact e
    have hm := Nat.mod_lt k hz
    simp [hk, hm]
  · rw [List.getElem?_eq_none (by simp; omega), List.getElem?_eq_none (by rw [reps_length]; simp; omega)]

theorem flats_reps {z : List Value} (h : z.all flat = true) (n : Nat) : (reps n z).all flat = true := by
  induction n with
  | zero => rfl
  | succ n ih => rw [reps_succ, List.all_append, h, ih]; rfl

/-- zero cells of a type, of its size -/
def zerosOf (P : Program) (t : TypeId) : Option (List Value) :=
  (zeroCellsOf P t).bind fun z => (szOf P t).bind fun s => if z.length = s then some z else none

theorem zerosOf_run {t : TypeId} {z : List Value} (hz : zerosOf P t = some z) : szOf P t = some z.length ∧ z.all flat = true ∧ ∃ v : Value, (∀ w, (zeroValue t).run P w = .ok v w) ∧ v.cells.toList = z := by
  unfold zerosOf at hz
  simp only [Option.bind_eq_some_iff] at hz
  obtain ⟨y, hy, s, hs, hz⟩ := hz
  split at hz
  · rename_i hl
    obtain rfl := Option.some.inj hz
    obtain ⟨v, h1, h2, _⟩ := run_zero (ρ := fun _ => none) hy
    refine ⟨by rw [hs, hl], ?_, v, h1, h2⟩
    unfold zeroCellsOf at hy
    simp only [Option.bind_eq_some_iff] at hy
    obtain ⟨_, _, _, _, hy⟩ := hy
    split at hy
    · obtain rfl := Option.some.inj hy; assumption
    · cases hy
  · cases hz

/-! ### new memory -/
/-- what a new row is handed on as -/
inductive Shape where
  | ptr
  | sl (n c : Nat)

def Shape.val : Shape → Nat → Value
  | .ptr, i => .pointer (some ⟨i, 0, none⟩)
  | .sl n c, i => .slice (some ⟨i, 0, none⟩) n c

/-- the row that an operation makes -/
def afreshRow (P : Program) (T : Env) : Op → Option (List Value × TypeId × Shape)
  | .alloc t => (zeroCellsOf P t).map fun z => (z, t, .ptr)
  | .box t x => (rv T x).map fun v => (v.cells.toList, t, .ptr)
  | .buildSlice t len parts =>
    match P.underlying t with
    | some (.slice e) => (zerosOf P e).bind fun z => (rparts T parts.toList).bind fun ps =>
      if len * z.length ≤ 16777216 then (afill (fun i => some (i * z.length, z.length)) (reps len z) ps).map fun cs => (cs, e, .sl len len)
      else none
    | _ => none
  | .makeSlice t l c =>
    match P.underlying t with
    | some (.slice e) => (zerosOf P e).bind fun z => ((rv T l).bind intAt).bind fun n => ((rv T c).bind intAt).bind fun m =>
      if 0 ≤ n ∧ n ≤ m ∧ m ≤ 1099511627776 ∧ P.bytesOf e * m.toNat ≤ 281474976710656 then some (reps m.toNat z, e, .sl n.toNat m.toNat) else none
    | _ => none
  | _ => none

/-- A new row, handed on, is as the model's. -/
theorem Shape.rel {ρ : Where} {i b : Nat} {l : Loc} (s : Shape) (hs : ∀ n c, s = .sl n c → n ≤ c) (h : At ρ i l) (hb : l.blk = b) (ho : l.off = 0) : VRel ρ (s.val i) (s.val b) := by
  subst hb
  cases s with
  | ptr =>
    have := VRel.ptr (ρ := ρ) i 0 l h
    simpa [Shape.val, ho] using this
  | sl n c => exact .slice _ _ _ _ _ _ _ l h (hs n c rfl) (fun _ => by simp [ho]) (.inl rfl)

theorem afreshRow_run {n : Nat} {T : Env} {a : Act} {o : Oper} {cs : List Value} {e : TypeId} {s : Shape} (hE : ERel ds ρ n T a) (ha : afreshRow P T o.op = some (cs, e, s)) :
    (∀ n c, s = .sl n c → n ≤ c) ∧ ∃ c : Array Value, VRels ρ cs c.toList ∧ ∀ w : World, (execOp a.eval o).run P w = .ok (.value (s.val w.heap.size)) (newBlk w (.cells c e (0, 0))) := by
  obtain ⟨dst, op, type, pos, after, guard⟩ := o
  simp only at ha
  unfold afreshRow at ha
  split at ha
  · rename_i t
    obtain ⟨z, hz, ha⟩ := Option.map_eq_some_iff.mp ha
    simp only [Prod.mk.injEq] at ha
    obtain ⟨rfl, rfl, rfl⟩ := ha
    obtain ⟨zv, h1, h2, h3⟩ := run_zero (ρ := ρ) hz
    refine ⟨fun n c h => (by cases h), zv.cells, h3, fun w => ?_⟩
    simp [execOp, Instr.alloc, h1 w, newVar, newRow, newBlk, Shape.val]
  · rename_i t x
    obtain ⟨u, hu, ha⟩ := Option.map_eq_some_iff.mp ha
    simp only [Prod.mk.injEq] at ha
    obtain ⟨rfl, rfl, rfl⟩ := ha
    refine ⟨fun n c h => (by cases h), (a.eval x).cells, vrels_cells (hE.rv hu), fun w => ?_⟩
    simp [execOp, Instr.box, newVar, newRow, newBlk, Shape.val]
  · rename_i t len parts
    split at ha
    · rename_i e hu
      simp only [Option.bind_eq_some_iff] at ha
      obtain ⟨z, hz, ps, hps, ha⟩ := ha
      split at ha
      · rename_i hsz
        obtain ⟨cs, hcs, ha⟩ := Option.map_eq_some_iff.mp ha
        simp only [Prod.mk.injEq] at ha
        obtain ⟨rfl, rfl, rfl⟩ := ha
        obtain ⟨hs, hfl, zv, h1, h2⟩ := zerosOf_run hz
        have hzz : VRels ρ (reps len z) ((Array.range (len * z.length)).map (fun i => zv.cells[i % zv.cells.size]!)).toList := by
          have e1 : z.length = zv.cells.size := by rw [← h2]; simp
          rw [e1, range_reps, h2]
          exact flats_rel ρ (flats_reps hfl len)
        obtain ⟨q, hq, hqr⟩ := afill_run (place' := fun i => some (i * z.length, z.length)) (fun _ => rfl) hcs hzz (hE.rparts hps)
        refine ⟨fun n c h => by cases h; exact Nat.le_refl _, q, hqr, fun w => ?_⟩
        have e2 : (parts.map fun (i, x) => (i, a.eval x)).toList = parts.toList.map fun (i, x) => (i, a.eval x) := by simp
        have e3 : ¬ (len * z.length > 2 ^ 24) := by omega
        by_cases h0 : len * z.length = 0
        · rw [h0] at hq
          simp only [execOp, Instr.buildSlice, Sem.run_bind, run_underlying hu, Result.andThen_ok, run_size hs, e2, Sem.run_pure, h0]
          simp only [Nat.not_lt_zero, gt_iff_lt, if_false, if_true, Sem.run_pure, Result.andThen_ok, Sem.run_bind]
          have e4 : (Array.range 0).map (fun i => (#[] : Array Value)[i % (#[] : Array Value).size]!) = (Array.range 0).map (fun i => zv.cells[i % zv.cells.size]!) := by simp
          rw [e4, hq]
          simp [newRow, newBlk, Shape.val]
        · simp only [execOp, Instr.buildSlice, Sem.run_bind, run_underlying hu, Result.andThen_ok, run_size hs, e2, Sem.run_pure, e3, h0, if_false, h1 w, hq]
          simp [newRow, newBlk, Shape.val]
      · cases ha
    · cases ha
  · rename_i t l c
    split at ha
    · rename_i e hu
      simp only [Option.bind_eq_some_iff] at ha
      obtain ⟨z, hz, m, ⟨lv, hlv, hm⟩, k, ⟨cv, hcv, hk⟩, ha⟩ := ha
      split at ha
      · rename_i hb
        simp only [Option.some.injEq, Prod.mk.injEq] at ha
        obtain ⟨rfl, rfl, rfl⟩ := ha
        obtain ⟨hs, hfl, zv, h1, h2⟩ := zerosOf_run hz
        obtain ⟨k1, rfl, e1⟩ := intAt_rel hm (hE.rv hlv)
        obtain ⟨k2, rfl, e2⟩ := intAt_rel hk (hE.rv hcv)
        obtain ⟨info, hi⟩ : ∃ i, P.info? e = some i := by
          unfold szOf at hs
          obtain ⟨i, hi, _⟩ := Option.map_eq_some_iff.mp hs
          exact ⟨i, hi⟩
        have hbytes : P.bytesOf e = info.bytes := by simp [Program.bytesOf, hi]
        rw [hbytes] at hb
        have wl : IntKind.i64.wrap m = m := by rw [IntKind.wrap_i64]; omega
        have wk : IntKind.i64.wrap k = k := by rw [IntKind.wrap_i64]; omega
        obtain ⟨K, rfl⟩ := Int.eq_ofNat_of_zero_le (show 0 ≤ k by omega)
        rw [Int.toNat_natCast]
        have hzz : VRels ρ (reps K z) ((Array.range (K * z.length)).map (fun i => zv.cells[i % zv.cells.size]!)).toList := by
          have e1 : z.length = zv.cells.size := by rw [← h2]; simp
          rw [e1, range_reps, h2]
          exact flats_rel ρ (flats_reps hfl K)
        refine ⟨fun n c h => by cases h; omega, _, hzz, fun w => ?_⟩
        have n1 : ¬ ((K : Int) < 0) := by omega
        have n2 : ¬ ((info.bytes : Int) * (K : Int) > 2 ^ 48) := by
          have := hb.2.2.2
          simp only [Int.toNat_natCast] at this
          have e3 : ((info.bytes * K : Nat) : Int) = (info.bytes : Int) * (K : Int) := by simp
          omega
        have n3 : ¬ (m < 0) := by omega
        have n4 : ¬ (m > (K : Int)) := by omega
        by_cases h0 : K * z.length = 0
        · simp only [execOp, Instr.makeSlice, Sem.run_bind, run_underlying hu, Result.andThen_ok, e1, e2, asInt, asIntOf, Sem.run_pure, run_typeInfo _ hi, wl, wk, n1, n2, n3, n4, decide_false, Bool.or_false, Bool.false_eq_true,
            if_false, run_askRoom, run_size hs, Int.toNat_natCast, h0, if_true]
          have e4 : (Array.range 0).map (fun i => (#[] : Array Value)[i % (#[] : Array Value).size]!) = (Array.range 0).map (fun i => zv.cells[i % zv.cells.size]!) := by simp
          rw [e4]
          simp only [newRow, Sem.run_bind, run_newObj, Result.andThen_ok, Sem.run_pure]
          rfl
        · simp only [execOp, Instr.makeSlice, Sem.run_bind, run_underlying hu, Result.andThen_ok, e1, e2, asInt, asIntOf, Sem.run_pure, run_typeInfo _ hi, wl, wk, n1, n2, n3, n4, decide_false, Bool.or_false, Bool.false_eq_true,
            if_false, run_askRoom, run_size hs, Int.toNat_natCast, h0, h1]
          simp [newRow, newBlk, Shape.val]
      · cases ha
    · cases ha
  · cases ha
end Go.Proofs.YthijllagngkbgaaGreat.Eng
