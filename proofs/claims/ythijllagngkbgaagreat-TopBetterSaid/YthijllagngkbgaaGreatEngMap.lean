/- The engine, part 8b: maps of whole numbers over row numbers. -/
import Derived.Test.YthijllagngkbgaaGreatEngAppend
import Derived.Conc.SmallLaws
namespace Go.Proofs.YthijllagngkbgaaGreat.Eng
open Go
section
variable {P : Program} {B : Nat} {ρ : Where} {h : Heap} {w : World}

/-- what a map of whole numbers has at a number -/
def amapAt (k : IntKind) (n : Int) : List Value → Option (Option Value)
  | [] => some none
  | .int k' m :: v :: r => if k = k' then (if n = m then some (some v) else amapAt k n r) else none
  | _ => none

theorem amapAt_find {d : IntKind} {k : IntKind} {n : Int} : ∀ {cs : List Value} {es : List MapEntry} {o : Option Value} (i : Nat), amapAt k n cs = some o → VRels ρ cs (es.flatMap fun x => [x.key, x.val]) →
    match o with
    | none => Instr.findNow (.int d) (.int k n) es i = some none
    | some v => ∃ j u, Instr.findNow (.int d) (.int k n) es i = some (some (j, u)) ∧ VRel ρ v u
  | [], [], o, i, h, _ => by
    simp only [amapAt, Option.some.injEq] at h
    subst h
    rfl
  | [], x :: es, o, i, _, hr => by simp at hr; cases hr
  | c :: cs, [], o, i, _, hr => by simp at hr; cases hr
  | [c], x :: es, o, i, h, _ => by
    cases c <;> simp [amapAt] at h
  | c :: v :: cs, x :: es, o, i, h, hr => by
    simp only [List.flatMap_cons, List.cons_append, List.nil_append] at hr
    cases hr with
    | cons _ _ _ _ hc hr =>
      cases hr with
      | cons _ _ _ _ hv hr =>
        unfold amapAt at h
        split at h
        · rename_i he; cases he
        · rename_i k' m v' r he
          obtain ⟨rfl, rfl, rfl⟩ : c = .int k' m ∧ v = v' ∧ cs = r := by simpa using he
          split at h
          · rename_i hk
            subst hk
            have hx : x.key = .int k m := by
              generalize x.key = y at hc
              cases hc; rfl
            split at h
            · rename_i hn
              subst hn
              obtain rfl := Option.some.inj h
              refine ⟨i, x.val, ?_, hv⟩
              simp [Instr.findNow, hx, Instr.sameNow]
            · rename_i hn
              have ih := amapAt_find (d := d) (i + 1) h hr
              have hb : (n == m) = false := beq_eq_false_iff_ne.2 hn
              have e : Instr.findNow (.int d) (.int k n) (x :: es) i = Instr.findNow (.int d) (.int k n) es (i + 1) := by
                show (match Instr.sameNow (.int d) (.int k n) x.key with | some true => some (some (i, x.val)) | some false => Instr.findNow (.int d) (.int k n) es (i + 1) | none => none) = _
                rw [hx]
                show (match (if k = k then some (n == m) else none) with | some true => some (some (i, x.val)) | some false => Instr.findNow (.int d) (.int k n) es (i + 1) | none => none) = _
                rw [if_pos rfl, hb]
              rw [e]
              exact ih
          · cases h
        · cases h

/-- the map's types: whole numbers to truths -/
def mapTy (P : Program) (t : TypeId) : Bool := match P.underlying t with
  | some (.map kt et) => (match P.underlying kt with | some (.int _) => true | _ => false) && (match (P.info? et).bind (·.zero) with | some (.bool false) => true | _ => false)
  | _ => false
theorem mapTy_spec {t : TypeId} (h : mapTy P t = true) : ∃ kt et d, P.underlying t = some (.map kt et) ∧ P.underlying kt = some (.int d) ∧ ∀ w : World, (zeroValue et).run P w = .ok (.bool false) w := by
  unfold mapTy at h
  split at h
  · rename_i kt et hu
    simp only [Bool.and_eq_true] at h
    obtain ⟨h1, h2⟩ := h
    split at h1
    · rename_i d hd
      split at h2
      · rename_i he
        obtain ⟨i, hi, hv⟩ := Option.bind_eq_some_iff.mp he
        exact ⟨kt, et, d, hu, hd, fun w => by simp [zeroValue, run_typeInfo w hi, hv]⟩
      · cases h2
    · cases h1
  · cases h

/-- a look into a map -/
def alookup (P : Program) (h : Heap) (t : TypeId) (m k : Value) : Option Value :=
  match m, k with
  | .map (some i), .int kd n => if mapTy P t then (match h.get i with
    | some (.row cs _) => (amapAt kd n cs).map fun o => o.getD (.bool false)
    | _ => none) else none
  | _, _ => none
/-- a new entry -/
def amapNew (P : Program) (h : Heap) (t : TypeId) (m k v : Value) : Option Heap :=
  match m, k with
  | .map (some i), .int kd n => if mapTy P t then (match h.get i with
    | some (.row cs e) => match amapAt kd n cs with
      | some none => some (h.put i (.row (cs ++ [.int kd n, v]) e))
      | _ => none
    | _ => none) else none
  | _, _ => none

theorem checkKey_int {kt : TypeId} {d k : IntKind} {m : Int} {n : Nat} (e : Bool) (hd : P.underlying kt = some (.int d)) : (Instr.checkKey e (n + 1) kt (.int k m)).run P w = .ok () w := by
  unfold Instr.checkKey
  simp only [Sem.run_bind, run_underlying hd, Result.andThen]
  rfl
theorem findKey_now {kt : TypeId} {d : TypeDesc} {k : Value} {l : List MapEntry} {a : Option (Nat × Value)} (hd : P.underlying kt = some d) (h : Instr.findNow d k l 0 = some a) : (Instr.findKey kt k l).run P w = .ok a w := by
  simp [Instr.findKey, run_underlying hd, Result.andThen, h]
theorem alookup_run {t : TypeId} {m m' k k' v : Value} (r : HRel B ρ h w) (ha : alookup P h t m k = some v) (hm : VRel ρ m m') (hk : VRel ρ k k') :
    ∃ v', (Instr.lookup t m' k' false).run P w = .ok v' w ∧ VRel ρ v v' := by
  unfold alookup at ha
  split at ha
  · rename_i i kd n
    split at ha
    · rename_i hty
      obtain ⟨kt, et, d, h1, h2, h3⟩ := mapTy_spec hty
      split at ha
      · rename_i cs e hg
        obtain ⟨o, ho, rfl⟩ := Option.map_eq_some_iff.mp ha
        cases hk
        cases hm with
        | map _ l hl hkind =>
          obtain ⟨_, _, ob, hob, hrel⟩ := r.row i l cs e hl hg
          unfold ObjRel at hrel
          rw [hkind] at hrel
          obtain ⟨es, clock, rfl, hcs⟩ := hrel
          have hf := amapAt_find (d := d) 0 ho hcs
          have hobj : (getObj l.blk).run P w = .ok (.map es clock) w := by simp [getObj, Sem.run, hob]
          have hu1 := run_underlying h1 w
          have hck : (Instr.checkKey es.isEmpty 10000 kt (.int kd n)).run P w = .ok () w := checkKey_int (n := 9999) _ h2
          have hz := h3 w
          cases o with
          | none =>
            simp only at hf
            refine ⟨.bool false, ?_, .bool false⟩
            have hfk := findKey_now (P := P) (w := w) h2 hf
            simp [Instr.lookup, hck, hfk, hu1, hobj, hz]
          | some v =>
            obtain ⟨j, u, hf, hv⟩ := hf
            refine ⟨u, ?_, hv⟩
            have hfk := findKey_now (P := P) (w := w) h2 hf
            simp [Instr.lookup, hck, hfk, hu1, hobj]
      · cases ha
    · cases ha
  · cases ha

theorem amapNew_run {t : TypeId} {m m' k k' v v' : Value} {h' : Heap} (r : HRel B ρ h w) (ha : amapNew P h t m k v = some h') (hm : VRel ρ m m') (hk : VRel ρ k k') (hv : VRel ρ v v') :
    ∃ w', (Instr.mapUpdate t m' k' v').run P w = .ok () w' ∧ HRel B ρ h' w' ∧ Step ρ h w ρ h' w' := by
  unfold amapNew at ha
  split at ha
  · rename_i i kd n
    split at ha
    · rename_i hty
      obtain ⟨kt, et, d, h1, h2, h3⟩ := mapTy_spec hty
      split at ha
      · rename_i cs e hg
        split at ha
        · rename_i ho
          obtain rfl := Option.some.inj ha
          cases hk
          cases hm with
          | map _ l hl hkind =>
            obtain ⟨_, _, ob, hob, hrel⟩ := r.row i l cs e hl hg
            unfold ObjRel at hrel
            rw [hkind] at hrel
            obtain ⟨es, clock, rfl, hcs⟩ := hrel
            have hf := amapAt_find (d := d) 0 ho hcs
            simp only at hf
            have hobj : (getObj l.blk).run P w = .ok (.map es clock) w := by simp [getObj, Sem.run, hob]
            have hu1 := run_underlying h1 w
            have hck : (Instr.checkKey false 10000 kt (.int kd n)).run P w = .ok () w := checkKey_int (n := 9999) _ h2
            have hfk := findKey_now (P := P) (w := w) h2 hf
            have hrel' : ObjRel ρ l (cs ++ [.int kd n, v]) e (.map (es.push { key := .int kd n, val := v', born := clock }) (clock + 1)) := by
              unfold ObjRel
              rw [hkind]
              refine ⟨_, _, rfl, ?_⟩
              unfold flatEnts
              rw [Array.toList_push, List.flatMap_append]
              refine hcs.append ?_
              simp only [List.flatMap_cons, List.flatMap_nil, List.append_nil]
              exact .cons _ _ _ _ (.int kd n) (.cons _ _ _ _ hv .nil)
            obtain ⟨q1, q2⟩ := r.writeO hl hg hrel'
            refine ⟨_, ?_, q1, q2⟩
            have hset : ∀ o, (setObj l.blk o).run P w = .ok () (setBlk w l.blk o) := fun o => by simp [setObj, Sem.run, hob, setBlk]
            simp [Instr.mapUpdate, hck, hfk, hu1, hobj, hset]
        · cases ha
      · cases ha
    · cases ha
  · cases ha
/-- a new channel's room -/
def achanRoom (P : Program) (t : TypeId) (v : Value) : Option Nat :=
  match v, P.underlying t with
  | .int _ n, some (.chan _ e) => (P.info? e).bind fun i => if 0 ≤ n ∧ n ≤ 65536 ∧ i.bytes ≤ 65536 then some n.toNat else none
  | _, _ => none
theorem achanRoom_run {t : TypeId} {v v' : Value} {n : Nat} (ha : achanRoom P t v = some n) (hv : VRel ρ v v') : (Instr.makeChan t v').run P w = .ok (.chan (some w.heap.size)) (newBlk w (.chan n #[] false 0 0 false)) := by
  unfold achanRoom at ha
  split at ha
  · rename_i k m d e hu
    obtain ⟨i, hi, ha⟩ := Option.bind_eq_some_iff.mp ha
    split at ha
    · rename_i hc
      obtain rfl := Option.some.inj ha
      cases hv
      obtain ⟨q, rfl⟩ := Int.eq_ofNat_of_zero_le hc.1
      have h1 : (q : Int) ≤ 65536 := hc.2.1
      have hb : (i.bytes : Int) * q ≤ 281474976710544 := by
        have h2 : i.bytes * q ≤ 65536 * 65536 := Nat.mul_le_mul hc.2.2 (by omega)
        have h3 : ((i.bytes * q : Nat) : Int) ≤ 4294967296 := by omega
        rw [Int.natCast_mul] at h3
        omega
      exact Go.Conc.run_makeChan hu hi k q (by omega) hb
    · cases ha
  · cases ha

/-! ### so many zeros behind nothing -/
theorem append_zeros {at_ : Array TypeId} {st t2 e : TypeId} {kk : IntKind} {ty : TypeId} {z : List Value} {n : Nat} {w : World}
    (h0 : at_[0]? = some st) (hu : P.underlying st = some (.slice e)) (h1t : at_[1]? = some t2) (hk : P.underlying t2 = some (.int kk)) (hz : zerosOf P e = some z) (hzl : 0 < z.length) (hn0 : 0 < n)
    (hb : (4 * n + 4096) * P.bytesOf e ≤ 281474976710656) (hm : n ≤ 4294967296) :
    ∃ cap, n ≤ cap ∧ (Builtin.append_ at_ ty #[.slice none 0 0, .int .i64 (n : Int)]).run P w =
      .ok (.slice (some ⟨w.heap.size, 0, none⟩) n cap) (newBlk (drawn w 1) (.cells ((reps n z).toArray ++ (reps (cap - n) z).toArray) e (0, 0))) := by
  obtain ⟨hs, _, zv, h1, h2⟩ := zerosOf_run hz
  obtain ⟨info, hi⟩ : ∃ i, P.info? e = some i := by
    unfold szOf at hs
    obtain ⟨i, hi, _⟩ := Option.map_eq_some_iff.mp hs
    exact ⟨i, hi⟩
  have hbytes : P.bytesOf e = info.bytes := by simp [Program.bytesOf, hi]
  rw [hbytes] at hb
  refine ⟨(Question.appendCap (0 + n) 0 e).cut (w.tape w.drawn (.appendCap (0 + n) 0 e)), by simp [Question.cut], ?_⟩
  generalize hcap : (Question.appendCap (0 + n) 0 e).cut (w.tape w.drawn (.appendCap (0 + n) 0 e)) = cap
  have hnext := nextcap_le (0 + n) 0 (by omega)
  have c1 : ¬ (Builtin.nextslicecap (0 + n) 0 * info.bytes > 2 ^ 48) := by
    have := Nat.mul_le_mul_right info.bytes hnext
    rw [Nat.zero_add] at this ⊢
    omega
  have c2 : ¬ (((0 + n : Nat) : Int) > IntKind.i64.max) := by
    intro q
    rw [IntKind.max_i64] at q
    omega
  have hw : IntKind.i64.wrap (n : Int) = (n : Int) := by rw [IntKind.wrap_i64]; omega
  have c4 : ¬ ((n : Int) < 0) := by omega
  have c5 : ¬ ((n : Int) * (info.bytes : Int) > 2 ^ 48) := by
    have h3 : n * info.bytes ≤ (4 * n + 4096) * info.bytes := Nat.mul_le_mul_right _ (by omega)
    have h4 : ((n * info.bytes : Nat) : Int) ≤ 281474976710656 := by omega
    rw [Int.natCast_mul] at h4
    omega
  have c6 : ¬ (n * z.length = 0) := by
    have := Nat.mul_pos hn0 hzl
    omega
  have hd1 : ({ w with drawn := w.drawn + 1 } : World) = drawn w 1 := rfl
  have hai : ∀ w, (asInt (.int .i64 (n : Int))).run P w = .ok (n : Int) w := fun w => by simp [asInt, asIntOf]
  unfold Builtin.append_
  simp only [h0]
  have g0 : (#[Value.slice none 0 0, Value.int .i64 (n : Int)] : Array Value)[0]? = some (Value.slice none 0 0) := rfl
  have g1 : (#[Value.slice none 0 0, Value.int .i64 (n : Int)] : Array Value)[1]? = some (Value.int .i64 (n : Int)) := rfl
  have c3 : ¬ (0 + n ≤ 0) := by omega
  simp only [g0, g1, h1t]
  rw [Sem.run_bind, run_underlying hu, Result.andThen_ok]
  simp only []
  rw [Sem.run_bind, run_size hs, Result.andThen_ok, Sem.run_bind, run_underlying hk, Result.andThen_ok, Sem.run_bind, Sem.run_pure, Result.andThen_ok]
  have e1 : ∀ m, Builtin.zeroCells zv.cells m = (reps m z).toArray := by
    intro m
    apply Array.ext'
    rw [Builtin.zeroCells, range_reps, h2]
  simp only [if_true, hai, Sem.run_bind, Sem.run_pure, Result.andThen_ok, hw, c4, if_false, run_typeInfo _ hi, c5, Sem.run_ite, Int.toNat_natCast, c3, c2, c1, Bool.not_true, Bool.false_eq_true, c6, true_or, and_true]
  simp only [run_choose, Question.forced, Bool.false_eq_true, if_false, hcap, hd1, Result.andThen_ok, run_askRoom, Builtin.firstCells, h1, newRow, run_newObj, Sem.run_pure, Sem.run_bind, e1]
  simp [newBlk, drawn]

def azeros (P : Program) (h : Heap) (ts : Array TypeId) (s x : Value) : Option (Value × Heap) :=
  match (ts[0]?).bind P.underlying, (ts[1]?).bind P.underlying, s, x with
  | some (.slice e), some (.int _), .slice none 0 0, .int .i64 m => (zerosOf P e).bind fun z =>
    if 0 < z.length ∧ 0 < m ∧ m ≤ 65536 ∧ P.bytesOf e ≤ 65536 then some (.slice (some ⟨h.next, 0, some z.length⟩) m.toNat m.toNat, h.new (.row (reps m.toNat z) e)) else none
  | _, _, _, _ => none
theorem azeros_run {at_ : Array TypeId} {ty : TypeId} {s s' x x' v : Value} {h' : Heap} (r : HRel B ρ h w) (ha : azeros P h at_ s x = some (v, h')) (hs : VRel ρ s s') (hx : VRel ρ x x') :
    ∃ ρ' v' w', (Builtin.append_ at_ ty #[s', x']).run P w = .ok v' w' ∧ VRel ρ' v v' ∧ HRel B ρ' h' w' ∧ Step ρ h w ρ' h' w' := by
  unfold azeros at ha
  split at ha
  · rename_i e kk m h0 h1
    obtain ⟨st, h0, hu⟩ := Option.bind_eq_some_iff.mp h0
    obtain ⟨t2, h1t, hk⟩ := Option.bind_eq_some_iff.mp h1
    obtain ⟨z, hz, ha⟩ := Option.bind_eq_some_iff.mp ha
    split at ha
    · rename_i hc
      obtain ⟨hzl, hm0, hm1, hb⟩ := hc
      obtain ⟨rfl, rfl⟩ := Prod.mk.inj (Option.some.inj ha)
      cases hs
      cases hx
      obtain ⟨n, rfl⟩ := Int.eq_ofNat_of_zero_le (show 0 ≤ m by omega)
      have hbb : (4 * n + 4096) * P.bytesOf e ≤ 281474976710656 := by
        have : (4 * n + 4096) * P.bytesOf e ≤ 266240 * 65536 := Nat.mul_le_mul (by omega) hb
        omega
      obtain ⟨cap, hcap, hrun⟩ := append_zeros (P := P) (w := w) (ty := ty) h0 hu h1t hk hz hzl (by omega) hbb (by omega)
      have hfl : (reps n z).all flat = true := by
        obtain ⟨_, hfl, _⟩ := zerosOf_run hz
        exact flats_reps hfl n
      have hl : (reps n z).length = n * z.length := reps_length n z
      have hl2 : (reps (cap - n) z).length = (cap - n) * z.length := reps_length _ z
      have hq : cap * z.length = n * z.length + (cap - n) * z.length := by rw [← Nat.add_mul]; congr 1; omega
      obtain ⟨q1, q2⟩ := (r.draw 1).new (reps n z) e ((reps n z).toArray ++ (reps (cap - n) z).toArray) (by simp) (by
        have : ((reps n z).toArray ++ (reps (cap - n) z).toArray).toList.take (reps n z).length = reps n z := by simp
        rw [this]
        exact flats_rel _ hfl)
      refine ⟨_, _, _, hrun, ?_, q1, (Step.draw ρ h w 1).trans q2⟩
      refine .slice _ _ _ _ _ _ _ _ (Where.add_at _ _ _ rfl) (Nat.le_refl _) (fun _ => rfl) (.inr ⟨z.length, rfl, hcap, ?_, ?_⟩)
      · simp only [Int.toNat_natCast, Nat.zero_add]; rw [hl]
      · simp only [Nat.zero_add, Array.size_append, List.size_toArray, hl, hl2]
        rw [hq]; exact Nat.le_refl _
    · cases ha
  · cases ha
def aappendZ (P : Program) (h : Heap) (ts : Array TypeId) (s x : Value) : Option (Value × Heap) := match aappend P h ts s x with
  | some r => some r
  | none => azeros P h ts s x
theorem aappendZ_run {at_ : Array TypeId} {ty : TypeId} {s s' x x' v : Value} {h' : Heap} (r : HRel B ρ h w) (ha : aappendZ P h at_ s x = some (v, h')) (hs : VRel ρ s s') (hx : VRel ρ x x') :
    ∃ ρ' v' w', (Builtin.append_ at_ ty #[s', x']).run P w = .ok v' w' ∧ VRel ρ' v v' ∧ HRel B ρ' h' w' ∧ Step ρ h w ρ' h' w' := by
  unfold aappendZ at ha
  split at ha
  · rename_i q hq
    obtain rfl := Option.some.inj ha
    exact aappend_run r hq hs hx
  · exact azeros_run r ha hs hx
theorem aappendZ_of {ts : Array TypeId} {s x : Value} {q : Value × Heap} (h1 : aappend P h ts s x = some q) : aappendZ P h ts s x = some q := by unfold aappendZ; rw [h1]
/-! ### cells put to zero -/
def aclear (P : Program) (h : Heap) (ts : Array TypeId) (s : Value) : Option (Value × Heap) :=
  match (ts[0]?).bind P.underlying, s with
  | some (.slice _), .slice none _ _ => some (.tuple #[], h)
  | some (.slice e), .slice (some ⟨i, o, _⟩) n _ =>
    if n = 0 then some (.tuple #[], h) else (zerosOf P e).bind fun z => (writeCells h i o (reps n z)).map (.tuple #[], ·)
  | _, _ => none
theorem aclear_run {at_ : Array TypeId} {ty : TypeId} {s s' v : Value} {h' : Heap} (r : HRel B ρ h w) (ha : aclear P h at_ s = some (v, h')) (hs : VRel ρ s s') :
    ∃ v' w', (Builtin.clear_ at_ ty #[s']).run P w = .ok v' w' ∧ VRel ρ v v' ∧ HRel B ρ h' w' ∧ Step ρ h w ρ h' w' := by
  unfold aclear at ha
  split at ha
  · rename_i e n c hu0
    obtain ⟨st, h0, hu⟩ := Option.bind_eq_some_iff.mp hu0
    obtain ⟨rfl, rfl⟩ := Prod.mk.inj (Option.some.inj ha)
    cases hs
    refine ⟨_, w, ?_, .tuple _ _ .nil, r, Step.refl _ _ _⟩
    unfold Builtin.clear_
    have g0 : (#[Value.slice none n c] : Array Value)[0]? = some (Value.slice none n c) := rfl
    simp only [h0, g0, Sem.run_bind, run_underlying hu, Result.andThen_ok, Sem.run_pure]
  · rename_i e i o sp n c hu0
    obtain ⟨st, h0, hu⟩ := Option.bind_eq_some_iff.mp hu0
    cases hs with
    | slice _ _ _ _ _ a' c' l hl hlc haa hc =>
      have g0 : (#[Value.slice (some a') n c'] : Array Value)[0]? = some (Value.slice (some a') n c') := rfl
      split at ha
      · rename_i hn
        subst hn
        obtain ⟨rfl, rfl⟩ := Prod.mk.inj (Option.some.inj ha)
        refine ⟨_, w, ?_, .tuple _ _ .nil, r, Step.refl _ _ _⟩
        unfold Builtin.clear_
        simp only [h0, g0, Sem.run_bind, run_underlying hu, Result.andThen_ok, Sem.run_pure]
      · rename_i hn
        simp only [Option.bind_eq_some_iff, Option.map_eq_some_iff] at ha
        obtain ⟨z, hz, g, hg, ha⟩ := ha
        obtain ⟨rfl, rfl⟩ := Prod.mk.inj ha
        obtain ⟨m, rfl⟩ : ∃ m, n = m + 1 := ⟨n - 1, by omega⟩
        obtain ⟨_, hfl, zv, h1, h2⟩ := zerosOf_run hz
        have hcc : c ≤ c' := by
          rcases hc with rfl | ⟨_, _, h, _⟩
          · exact Nat.le_refl _
          · exact h
        have ea := haa (by omega)
        subst ea
        obtain ⟨w', hst, q1, q2⟩ := writeCells_run (P := P) r hg hl (flats_rel _ (flats_reps hfl (m + 1)))
        refine ⟨_, w', ?_, .tuple _ _ .nil, q1, q2⟩
        have e1 : (Builtin.zeroCells zv.cells (m + 1)).toList = reps (m + 1) z := by
          rw [Builtin.zeroCells, range_reps, h2]
        unfold Builtin.clear_
        simp only [h0, g0, Sem.run_bind, run_underlying hu, Result.andThen_ok, h1, e1, hst, Sem.run_pure]
  · cases ha
end
end Go.Proofs.YthijllagngkbgaaGreat.Eng
