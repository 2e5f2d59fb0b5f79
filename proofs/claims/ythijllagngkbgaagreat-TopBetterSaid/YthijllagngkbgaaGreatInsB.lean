/- slices.Insert of one due thing ahead of others: what it comes to over row numbers. -/
import Derived.Test.YthijllagngkbgaaGreatInsA
import Derived.Test.YthijllagngkbgaaGreatEngTop3
import Derived.Lib.AppendZerosOnto
namespace Go.Proofs.YthijllagngkbgaaGreat.Eng
open Go Go.Proofs Ins

theorem copy_fact {P : Program} {st e ty : TypeId} {s : Nat} (hu : P.underlying st = some (.slice e)) (hs : szOf P e = some s) {a a2 : Addr} {dn dc xn xc k : Nat} (hk : Nat.min xn dn = k) {w w' : World} {cs : Array Value}
    (hrun : (loadCells a2 (k * s)).run P w = .ok cs w) (hst : (storeCells a cs.toList).run P w = .ok () w') :
    (Builtin.copy_ #[st, st] ty #[.slice (some a) dn dc, .slice (some a2) xn xc]).run P w = .ok (goInt k) w' := by
  subst hk
  unfold Builtin.copy_
  have g0 : (#[Value.slice (some a) dn dc, .slice (some a2) xn xc] : Array Value)[0]? = some (Value.slice (some a) dn dc) := rfl
  have g1 : (#[Value.slice (some a) dn dc, .slice (some a2) xn xc] : Array Value)[1]? = some (.slice (some a2) xn xc) := rfl
  have hlen : (Builtin.lenOf (.slice (some a2) xn xc)).run P w = .ok xn w := by simp [Builtin.lenOf]
  have hf : (Builtin.firstCells s (Nat.min xn dn) (.slice (some a2) xn xc)).run P w = .ok cs w := by simpa [Builtin.firstCells] using hrun
  have h0 : (#[st, st] : Array TypeId)[0]? = some st := rfl
  simp only [h0, g0, g1, Sem.run_bind, run_underlying hu, Result.andThen_ok, hlen, run_size hs, hf, hst]
  simp

theorem splice_toList (c : Array Value) (o : Nat) (vs : List Value) : (splice c o vs).toList = c.toList.take o ++ vs ++ c.toList.drop (o + vs.length) := by simp [splice]

theorem splice_two (c : Array Value) (a : Nat) (v t : List Value) (h : a + v.length + t.length ≤ c.size) : splice (splice c (a + v.length) t) a v = splice c a (v ++ t) := by
  apply Array.ext'
  simp only [splice_toList]
  have hc : c.toList.length = c.size := by simp
  apply List.ext_getElem?
  intro n
  simp only [List.getElem?_append, List.getElem?_take, List.getElem?_drop, List.length_append, List.length_take, List.length_drop, hc]
  (repeat' split) <;> first | rfl | (exfalso; omega) | (congr 1; omega)

theorem splice_end (c : Array Value) (a m : Nat) (v t : List Value) (hm : m = a + v.length + t.length) (h : m ≤ c.size) : (splice (splice c a v) (a + v.length) t).toList.take m = c.toList.take a ++ v ++ t := by
  subst hm
  simp only [splice_toList]
  have hc : c.toList.length = c.size := by simp
  apply List.ext_getElem?
  intro n
  simp only [List.getElem?_append, List.getElem?_take, List.getElem?_drop, List.length_append, List.length_take, List.length_drop, hc]
  (repeat' split) <;> first | rfl | (exfalso; omega) | (congr 1; omega) | (rw [List.getElem?_eq_none (by omega)])

/-- slices.Insert of one due thing (three cells) ahead of others, the row full -/
def insDue : Caller := fun f args h =>
  match f, args with
  | 218, [.slice (some ⟨r, 0, _⟩) n c, .int .i64 i, .slice (some ⟨x, 0, _⟩) 1 (_ + 1)] =>
    match h.get r, h.get x with
    | some (.row cs 124), some (.row v 124) =>
      if r ≠ x ∧ 0 ≤ i ∧ i.toNat < n ∧ n = c ∧ cs.length = n * 3 ∧ v.length = 3 ∧ v.all isCell = true ∧ cs.all isCell = true ∧ (4 * (n + 1) + 4096) * 24 ≤ 281474976710656 ∧ n + 1 ≤ 4294967296 then
        some (.slice (some ⟨h.next, 0, some 3⟩) (n + 1) (n + 1), (h.kill r).new (.row (cs.take (i.toNat * 3) ++ v ++ cs.drop (i.toNat * 3)) 124))
      else none
    | _, _ => none
  | _, _ => none

theorem u121 : Tryz.prog.underlying 121 = some (.slice 124) := by kernel_rfl
theorem s124 : szOf Tryz.prog 124 = some 3 := by kernel_rfl
theorem u3 : Tryz.prog.underlying 3 = some (.int .i64) := by kernel_rfl

/-- the slice's room, in the model -/
theorem room {l : Loc} {n c' : Nat} {sp : Option Nat} (hn : 0 < n) (hk : l.known = n * 3) (hs : l.known ≤ l.size) (hc : Roomy l 0 sp n c') : n ≤ c' ∧ c' * 3 ≤ l.size := by
  rcases hc with rfl | ⟨e, _, h1, h2, h3⟩
  · exact ⟨Nat.le_refl _, by omega⟩
  · have : e = 3 := by
      have : n * e = n * 3 := by omega
      exact Nat.eq_of_mul_eq_mul_left hn this
    subst this
    exact ⟨h1, by omega⟩

theorem ins_in {B : Nat} {ρ : Where} {h : Heap} {w : World} (H : HRel B ρ h w) {r x n i voff vc c' : Nat} {sp : Option Nat} {l lx : Loc} {cs v v' : List Value} (hl : At ρ r l) (hlx : ρ x = some lx)
    (hg : h.get r = some (.row cs 124)) (hgx : h.get x = some (.row v 124)) (hne : r ≠ x) (hin : i < n) (hcs : cs.length = n * 3) (hv3 : v.length = 3) (hcell : v.all isCell = true) (hcell2 : cs.all isCell = true)
    (hroom : Roomy l 0 sp n c') (hr : n + 1 ≤ c') (h63 : n + 1 ≤ 4294967296)
    (hvc : ∃ cx, w.heap[lx.blk]? = some (.cells cx 124 (0, 0)) ∧ voff + 3 ≤ cx.size ∧ (cx.toList.drop voff).take 3 = v') (hvr : VRels ρ v v') :
    Calls Tryz.prog 218 #[.slice (some ⟨l.blk, l.off, none⟩) n c', .int .i64 i, .slice (some ⟨lx.blk, voff, none⟩) 1 vc] w fun e w' =>
      ∃ u ρ', e = .returned u ∧ VRel ρ' (.slice (some ⟨h.next, 0, some 3⟩) (n + 1) (n + 1)) u ∧ HRel B ρ' ((h.kill r).new (.row (cs.take (i * 3) ++ v ++ cs.drop (i * 3)) 124)) w' ∧ Step ρ h w ρ' ((h.kill r).new (.row (cs.take (i * 3) ++ v ++ cs.drop (i * 3)) 124)) w' := by
  obtain ⟨h1, h2, h3, c, hc, hsz, hlk, hlo, hlr⟩ := H.cells hl hg
  obtain ⟨_, hroom2⟩ := room (by omega) (by rw [hlk, hcs]) (by omega) hroom
  obtain ⟨cx, hcx, hvo, rfl⟩ := hvc
  have hblk : lx.blk ≠ l.blk := by
    intro e
    exact hne (H.inj r x l lx _ _ _ _ hl.1 hlx hg hgx e.symm)
  have hbl : l.blk < w.heap.size := H.far hl.1 hg
  have hkn : i * 3 + (n - i) * 3 = n * 3 := by rw [← Nat.add_mul]; congr 1; omega
  have hvlen : ((cx.toList.drop voff).take 3).length = 3 := by simp; omega
  have hvall : ((cx.toList.drop voff).take 3).all isCell = true := by rw [isCells_rel hvr]; exact hcell
  have htl : VRels ρ (cs.drop (i * 3)) ((c.toList.drop (l.off + i * 3)).take ((n - i) * 3)) := by
    have := hlr.drop (i * 3)
    rw [List.drop_take, List.drop_drop, show cs.length - i * 3 = (n - i) * 3 by omega] at this
    exact this
  generalize htv : (c.toList.drop (l.off + i * 3)).take ((n - i) * 3) = t' at htl
  have htlen : t'.length = (n - i) * 3 := by rw [← htl.length, List.length_drop]; omega
  have htall : t'.all isCell = true := by
    rw [isCells_rel htl]
    rw [List.all_eq_true] at hcell2 ⊢
    intro y hy
    exact hcell2 y (List.mem_of_mem_drop hy)
  have hdr : (w.drew).heap[l.blk]? = some (.cells c 124 (0, 0)) := hc
  obtain ⟨c2, hc2, hin2, q1, q2⟩ := (H.draw 1).move hl hg (o := 0) (k := i * 3) (hvr.append htl) (by omega) (by simp only [List.length_append, List.length_drop]; omega)
  have hcc : c2 = c := by
    have : (drawn w 1).heap[l.blk]? = some (.cells c 124 (0, 0)) := hc
    rw [this] at hc2
    injection hc2 with e
    injection e with e
    exact e.symm
  subst hcc
  have st1 := store_run (P := Tryz.prog) (w := w.drew) t' 0 (b := l.blk) (o := l.off + (i + 1) * 3) hdr (by rw [htlen]; omega) htall
  have hbd : l.blk < (w.drew).heap.size := hbl
  have hsp : (splice c2 (l.off + (i + 1) * 3 + 0) t').size = c2.size := splice_size _ _ _ (by omega)
  have st2 := store_run (P := Tryz.prog) (w := setBlk w.drew l.blk (.cells (splice c2 (l.off + (i + 1) * 3 + 0) t') 124 (0, 0))) ((cx.toList.drop voff).take 3) 0 (b := l.blk) (o := l.off + i * 3)
    (by rw [setBlk_get _ hbd, if_pos rfl]) (by rw [hsp, hvlen]; omega) hvall
  have eW : setBlk (setBlk w.drew l.blk (.cells (splice c2 (l.off + (i + 1) * 3 + 0) t') 124 (0, 0))) l.blk (.cells (splice (splice c2 (l.off + (i + 1) * 3 + 0) t') (l.off + i * 3 + 0) ((cx.toList.drop voff).take 3)) 124 (0, 0)) =
      setBlk (drawn w 1) l.blk (.cells (splice c2 (l.off + 0 + i * 3) ((cx.toList.drop voff).take 3 ++ t')) 124 (0, 0)) := by
    simp only [setBlk_setBlk, Nat.add_zero]
    rw [← splice_two c2 (l.off + i * 3) ((cx.toList.drop voff).take 3) t' (by rw [hvlen, htlen]; omega), hvlen, show l.off + (i + 1) * 3 = l.off + i * 3 + 3 by omega]
    rfl
  have eL : (cs.drop 0).take (i * 3) ++ (v ++ cs.drop (i * 3)) = cs.take (i * 3) ++ v ++ cs.drop (i * 3) := by rw [List.drop_zero, List.append_assoc]
  rw [eL, ← eW] at q1 q2
  refine (ins_shift l.blk l.off n c' i lx.blk voff vc w (setBlk w.drew l.blk (.cells (splice c2 (l.off + (i + 1) * 3 + 0) t') 124 (0, 0)))
    (setBlk (setBlk w.drew l.blk (.cells (splice c2 (l.off + (i + 1) * 3 + 0) t') 124 (0, 0))) l.blk (.cells (splice (splice c2 (l.off + (i + 1) * 3 + 0) t') (l.off + i * 3 + 0) ((cx.toList.drop voff).take 3)) 124 (0, 0))) hin hr h63 ?_ ?_ ?_).mono ?_
  · intro lb cb
    rw [run_callFunc_extern (fn := Tryz.f244) (by kernel_rfl) (by kernel_rfl) (by kernel_rfl) (by kernel_rfl) (e := Extern.SlicesOverlaps.overlaps #[121, 121] #[4]) (by kernel_rfl),
      Lib.run_overlaps_apart w 121 4 124 u121 3 (fun w => run_size s124 w) ⟨lx.blk, voff, none⟩ ⟨l.blk, l.off + (i + 1) * 3, none⟩ 1 vc lb cb hblk 124 124 cx.size c2.size (by simp [World.shape?, hcx]) (by simp [World.shape?, hc]) (by omega) (by simp [World.frozen?, hcx]) (by simp [World.frozen?, hcx])]
    rfl
  · intro ty dc sc
    refine copy_fact u121 s124 (by show min _ _ = _; omega) (cs := t'.toArray) ?_ st1
    rw [load_run hdr (by omega), htv]
  · intro ty dc
    refine copy_fact u121 s124 (k := 1) (by show min _ _ = _; omega) (cs := ((cx.toList.drop voff).take 3).toArray) ?_ st2
    have : (setBlk w.drew l.blk (.cells (splice c2 (l.off + (i + 1) * 3 + 0) t') 124 (0, 0))).heap[lx.blk]? = some (.cells cx 124 (0, 0)) := by
      rw [setBlk_get _ hbd, if_neg hblk]; exact hcx
    rw [load_run this (by omega)]
  · rintro e w' ⟨rfl, rfl⟩
    refine ⟨_, _, rfl, .slice _ _ _ _ _ ⟨l.blk, l.off, none⟩ _ _ (Where.add_at _ _ _ rfl) (Nat.le_refl _) (fun _ => by simp) (.inr ⟨3, rfl, hr, ?_, ?_⟩), q1, (Step.draw ρ h w 1).trans q2⟩
    · simp only [List.length_append, List.length_drop]; omega
    · simp only []; omega

theorem ins_out {B : Nat} {ρ : Where} {h : Heap} {w : World} (H : HRel B ρ h w) {r n i voff vc : Nat} {l lx : Loc} {cs v v' : List Value} (hl : At ρ r l)
    (hg : h.get r = some (.row cs 124)) (hin : i < n) (hcs : cs.length = n * 3) (hv3 : v.length = 3) (hcell : v.all isCell = true) (hcell2 : cs.all isCell = true)
    (h63 : (4 * (n + 1) + 4096) * 24 ≤ 281474976710656) (h32 : n + 1 ≤ 4294967296)
    (hvc : ∃ cx, w.heap[lx.blk]? = some (.cells cx 124 (0, 0)) ∧ voff + 3 ≤ cx.size ∧ (cx.toList.drop voff).take 3 = v') (hvr : VRels ρ v v') :
    Calls Tryz.prog 218 #[.slice (some ⟨l.blk, l.off, none⟩) n n, .int .i64 i, .slice (some ⟨lx.blk, voff, none⟩) 1 vc] w fun e w' =>
      ∃ u ρ', e = .returned u ∧ VRel ρ' (.slice (some ⟨h.next, 0, some 3⟩) (n + 1) (n + 1)) u ∧ HRel B ρ' ((h.kill r).new (.row (cs.take (i * 3) ++ v ++ cs.drop (i * 3)) 124)) w' ∧ Step ρ h w ρ' ((h.kill r).new (.row (cs.take (i * 3) ++ v ++ cs.drop (i * 3)) 124)) w' := by
  obtain ⟨h1, h2, h3, c, hc, hsz, hlk, hlo, hlr⟩ := H.cells hl hg
  obtain ⟨cx, hcx, hvo, rfl⟩ := hvc
  have hbl : l.blk < w.heap.size := H.far hl.1 hg
  have hbx : lx.blk < w.heap.size := by
    rcases Nat.lt_or_ge lx.blk w.heap.size with hlt | hge
    · exact hlt
    · rw [Array.getElem?_eq_none hge] at hcx; cases hcx
  have hkn : i * 3 + (n - i) * 3 = n * 3 := by rw [← Nat.add_mul]; congr 1; omega
  have hvlen : ((cx.toList.drop voff).take 3).length = 3 := by simp; omega
  have hvall : ((cx.toList.drop voff).take 3).all isCell = true := by rw [isCells_rel hvr]; exact hcell
  have htl : VRels ρ (cs.drop (i * 3)) ((c.toList.drop (l.off + i * 3)).take ((n - i) * 3)) := by
    have := hlr.drop (i * 3)
    rw [List.drop_take, List.drop_drop, show cs.length - i * 3 = (n - i) * 3 by omega] at this
    exact this
  have hhd : VRels ρ (cs.take (i * 3)) ((c.toList.drop l.off).take (i * 3)) := by
    have := hlr.take (i * 3)
    rw [List.take_take, show min (i * 3) cs.length = i * 3 by omega] at this
    exact this
  generalize htv : (c.toList.drop (l.off + i * 3)).take ((n - i) * 3) = t' at htl
  generalize hhv : (c.toList.drop l.off).take (i * 3) = d' at hhd
  have htlen : t'.length = (n - i) * 3 := by rw [← htl.length, List.length_drop]; omega
  have hhlen : d'.length = i * 3 := by rw [← hhd.length, List.length_take]; omega
  have htall : t'.all isCell = true := by
    rw [isCells_rel htl]
    rw [List.all_eq_true] at hcell2 ⊢
    intro y hy
    exact hcell2 y (List.mem_of_mem_drop hy)
  obtain ⟨inf, hinf, hz⟩ : ∃ i, Tryz.prog.info? 124 = some i ∧ (i.size = 3 ∧ i.bytes = 24 ∧ ∃ z, i.zero = some z ∧ z.cells.size = 3) := by
    refine ⟨(Tryz.prog.info? 124).getD default, by kernel_rfl, by kernel_rfl, by kernel_rfl, ((Tryz.prog.info? 124).getD default).zero.getD undef, by kernel_rfl, by kernel_rfl⟩
  obtain ⟨hz3, hzb, z, hzz, hzc⟩ := hz
  have hrz := fun ty => Lib.run_append_grow_zeros (P := Tryz.prog) w 121 3 ty 124 inf z .i64 .i64 u121 u3 hinf hzz (some ⟨l.blk, l.off, none⟩) i n d' (by
      rw [hz3]
      have hdr : (w.drew).heap[l.blk]? = some (.cells c 124 (0, 0)) := hc
      simp only [Builtin.firstCells]
      rw [load_run hdr (by omega), hhv]) (n + 1 - i) (by omega) (by omega) (by omega) (by omega) (by rw [hzb]; omega) (by
      rw [hzb]
      have := nextcap_le (i + (n + 1 - i)) n (by omega)
      omega)
  have en : i + (n + 1 - i) = n + 1 := by omega
  simp only [en] at hrz
  have hzs : ∀ k, (Builtin.zeroCells z.cells k).size = k * 3 := by
    intro k
    have : (Builtin.zeroCells z.cells k).toList = reps k z.cells.toList := by rw [Builtin.zeroCells, range_reps]
    rw [← Array.length_toList, this, reps_length, Array.length_toList, hzc]
  have hG : n + 1 ≤ grownCap w (n + 1) n 124 := by simp [grownCap, Question.cut]
  generalize hGe : grownCap w (n + 1) n 124 = G at hrz hG
  generalize hq : w.heap.size = q at hrz
  generalize hc1 : d'.toArray ++ Builtin.zeroCells z.cells (n + 1 - i) ++ Builtin.zeroCells z.cells (G - (n + 1)) = c1 at hrz
  have hrz1 : ∀ ty, (Builtin.append_ #[121, 3] ty #[.slice (some ⟨l.blk, l.off, none⟩) i n, .int .i64 ((n + 1 - i : Nat) : Int)]).run Tryz.prog w = .ok (.slice (some ⟨q, 0, none⟩) (n + 1) G) (newBlk (drawn w 1) (.cells c1 124 (0, 0))) := fun ty => hrz ty
  have hc1s : c1.size = G * 3 := by
    rw [← hc1]
    simp only [Array.size_append, List.size_toArray, hzs, hhlen]
    omega
  have hc1t : c1.toList.take (i * 3) = d' := by
    rw [← hc1]
    simp only [Array.toList_append, List.append_assoc]
    rw [List.take_append_of_le_length (by omega), List.take_of_length_le (by omega)]
  have hw1 : (newBlk (drawn w 1) (.cells c1 124 (0, 0))).heap[q]? = some (.cells c1 124 (0, 0)) := by
    rw [newBlk_get, if_pos (show q = (drawn w 1).heap.size from hq.symm)]
  have hw1o : ∀ b, b < w.heap.size → (newBlk (drawn w 1) (.cells c1 124 (0, 0))).heap[b]? = w.heap[b]? := by
    intro b hb
    rw [newBlk_get, if_neg (show ¬ (b = (drawn w 1).heap.size) from fun e => by have : b = w.heap.size := e; omega)]; rfl
  have hqs : q < (newBlk (drawn w 1) (.cells c1 124 (0, 0))).heap.size := by
    rw [← hq]
    show w.heap.size < (w.heap.push _).size
    rw [Array.size_push]; exact Nat.lt_succ_self _
  have st1 := store_run (P := Tryz.prog) (w := newBlk (drawn w 1) (.cells c1 124 (0, 0))) ((cx.toList.drop voff).take 3) 0 (b := q) (o := i * 3) hw1 (by rw [hc1s, hvlen]; omega) hvall
  have hsp : (splice c1 (i * 3 + 0) ((cx.toList.drop voff).take 3)).size = c1.size := splice_size _ _ _ (by rw [hvlen]; omega)
  have hw2 : ((setBlk (newBlk (drawn w 1) (.cells c1 124 (0, 0))) q (.cells (splice c1 (i * 3 + 0) ((cx.toList.drop voff).take 3)) 124 (0, 0))).drew).heap[q]? = some (.cells (splice c1 (i * 3 + 0) ((cx.toList.drop voff).take 3)) 124 (0, 0)) := by
    show (setBlk _ _ _).heap[q]? = _
    rw [setBlk_get _ hqs, if_pos rfl]
  have hw2o : ((setBlk (newBlk (drawn w 1) (.cells c1 124 (0, 0))) q (.cells (splice c1 (i * 3 + 0) ((cx.toList.drop voff).take 3)) 124 (0, 0))).drew).heap[l.blk]? = some (.cells c 124 (0, 0)) := by
    show (setBlk _ _ _).heap[l.blk]? = _
    rw [setBlk_get _ hqs, if_neg (by omega), hw1o _ hbl, hc]
  have st2 := store_run (P := Tryz.prog) (w := (setBlk (newBlk (drawn w 1) (.cells c1 124 (0, 0))) q (.cells (splice c1 (i * 3 + 0) ((cx.toList.drop voff).take 3)) 124 (0, 0))).drew) t' 0 (b := q) (o := (i + 1) * 3) hw2 (by rw [hsp, hc1s, htlen]; omega) htall
  obtain ⟨k1, k2⟩ := H.kill hl.1
  obtain ⟨q1, q2⟩ := (k1.draw 2).new (cs.take (i * 3) ++ v ++ cs.drop (i * 3)) 124 (splice (splice c1 (i * 3 + 0) ((cx.toList.drop voff).take 3)) ((i + 1) * 3 + 0) t') (by
      rw [splice_size _ _ _ (by rw [hsp, hc1s, htlen]; omega), hsp, hc1s]
      simp only [List.length_append, List.length_take, List.length_drop]; omega) (by
      have e0 : (cs.take (i * 3) ++ v ++ cs.drop (i * 3)).length = i * 3 + ((cx.toList.drop voff).take 3).length + t'.length := by
        simp only [List.length_append, List.length_take, List.length_drop, htlen, hvlen]; omega
      have e1 : (i + 1) * 3 + 0 = i * 3 + ((cx.toList.drop voff).take 3).length := by rw [hvlen]; omega
      rw [e1, Nat.add_zero, splice_end c1 (i * 3) _ _ _ e0 (by rw [e0, hvlen, htlen, hc1s]; omega), hc1t]
      exact (hhd.append hvr).append htl)
  have eW : setBlk ((setBlk (newBlk (drawn w 1) (.cells c1 124 (0, 0))) q (.cells (splice c1 (i * 3 + 0) ((cx.toList.drop voff).take 3)) 124 (0, 0))).drew) q (.cells (splice (splice c1 (i * 3 + 0) ((cx.toList.drop voff).take 3)) ((i + 1) * 3 + 0) t') 124 (0, 0)) =
      newBlk (drawn w 2) (.cells (splice (splice c1 (i * 3 + 0) ((cx.toList.drop voff).take 3)) ((i + 1) * 3 + 0) t') 124 (0, 0)) := by
    have eA : ∀ a b d : Obj, ((w.heap.push a).setIfInBounds q b).setIfInBounds q d = w.heap.push d := by
      intro a b d
      subst hq
      apply Array.ext_getElem?
      intro k
      simp only [Array.getElem?_setIfInBounds, Array.getElem?_push, Array.size_push, Array.size_setIfInBounds]
      (repeat' split) <;> first | rfl | (exfalso; omega)
    show ({ (drawn w 2) with heap := ((w.heap.push _).setIfInBounds q _).setIfInBounds q _ } : World) = _
    rw [eA]; rfl
  rw [← eW] at q1 q2
  refine (ins_grow l.blk l.off n n i lx.blk voff vc q G w (newBlk (drawn w 1) (.cells c1 124 (0, 0))) (setBlk (newBlk (drawn w 1) (.cells c1 124 (0, 0))) q (.cells (splice c1 (i * 3 + 0) ((cx.toList.drop voff).take 3)) 124 (0, 0)))
    (setBlk ((setBlk (newBlk (drawn w 1) (.cells c1 124 (0, 0))) q (.cells (splice c1 (i * 3 + 0) ((cx.toList.drop voff).take 3)) 124 (0, 0))).drew) q (.cells (splice (splice c1 (i * 3 + 0) ((cx.toList.drop voff).take 3)) ((i + 1) * 3 + 0) t') 124 (0, 0))) hin (Nat.le_refl _) (by omega) h32 ?_ hG ?_ ?_).mono ?_
  · intro ty
    rw [← hrz1 ty, show ((n : Int) + 1 - (i : Int)) = ((n + 1 - i : Nat) : Int) by omega]
  · intro ty dc
    refine copy_fact u121 s124 (k := 1) (by show min _ _ = _; omega) (cs := ((cx.toList.drop voff).take 3).toArray) ?_ (by simpa using st1)
    rw [load_run (by rw [hw1o _ hbx]; exact hcx) (by omega)]
  · intro ty dc sc
    refine copy_fact u121 s124 (by show min _ _ = _; omega) (cs := t'.toArray) ?_ st2
    rw [load_run hw2o (by omega), htv]
  · rintro e w' ⟨rfl, rfl⟩
    refine ⟨_, _, rfl, .slice _ _ _ _ _ ⟨q, 0, none⟩ _ _ (Where.add_at _ _ _ rfl) (Nat.le_refl _) (fun _ => by simp [← hq, drawn]) (.inr ⟨3, rfl, hG, ?_, ?_⟩), q1, (k2.trans (Step.draw ρ (h.kill r) w 2)).trans q2⟩
    · simp only [List.length_append, List.length_take, List.length_drop]; omega
    · simp only []
      rw [splice_size _ _ _ (by rw [hsp, hc1s, htlen]; omega), hsp, hc1s]; omega

theorem insDue_sim (B : Nat) : Sim Tryz.prog B insDue := by
  intro f args h v h' hr ρ w args' H ha
  unfold insDue at hr
  split at hr
  · rename_i r sp n c i x spx xc
    split at hr
    · rename_i cs v3 hg hgx
      split at hr
      · rename_i hb
        obtain ⟨hne, hi0, hin, hnc, hcs, hv3, hcell, hcell2, h63, h32⟩ := hb
        obtain ⟨rfl, rfl⟩ := Prod.mk.inj (Option.some.inj hr)
        subst hnc
        obtain ⟨i, rfl⟩ := Int.eq_ofNat_of_zero_le hi0
        simp only [Int.toNat_natCast] at hin ⊢
        cases ha with
        | cons _ _ _ _ hs ha =>
          cases ha with
          | cons _ _ _ _ hi ha =>
            cases ha with
            | cons _ _ _ _ hx ha =>
              cases ha
              cases hi
              cases hs with
              | slice _ _ _ _ _ a' c' l hl _ haa hc =>
                cases hx with
                | slice _ _ _ _ _ b' d' lx hlx _ hbb hd =>
                  obtain ⟨_, _, h3, cc, hcc, hsz, hlk, hlo, hlr⟩ := H.cells hl hg
                  obtain ⟨_, _, h3x, cx, hcx, hszx, hlkx, hlox, hlrx⟩ := H.cells hlx hgx
                  obtain ⟨r1, r2⟩ := room (by omega) (by rw [hlk, hcs]) (by omega) hc
                  have ea := haa (by omega)
                  have hd0 : d' ≠ 0 := by
                    rcases hd with rfl | ⟨_, _, h, _⟩ <;> omega
                  have eb := hbb hd0
                  subst ea eb
                  rw [hv3] at hlrx
                  have hvx : ∃ c, w.heap[lx.blk]? = some (.cells c 124 (0, 0)) ∧ lx.off + 0 + 3 ≤ c.size ∧ (c.toList.drop (lx.off + 0)).take 3 = (cx.toList.drop lx.off).take 3 := ⟨cx, hcx, by omega, by rw [Nat.add_zero]⟩
                  by_cases hroom : n + 1 ≤ c'
                  · exact ins_in H hl hlx.1 hg hgx hne hin hcs hv3 hcell hcell2 hc hroom h32 hvx hlrx
                  · have : c' = n := by omega
                    subst this
                    exact ins_out H hl hg hin hcs hv3 hcell hcell2 h63 h32 hvx hlrx
      · cases hr
    · cases hr
  · cases hr
theorem insDue_next : NextMono insDue := by
  intro f args h v h' hk hr
  unfold insDue at hr
  split at hr
  · split at hr
    · split at hr
      · obtain ⟨rfl, rfl⟩ := Prod.mk.inj (Option.some.inj hr)
        exact ⟨by rw [Heap.next_new, Heap.next_kill]; omega, Heap.ok_new (Heap.ok_kill hk _) _⟩
      · cases hr
    · cases hr
  · cases hr
end Go.Proofs.YthijllagngkbgaaGreat.Eng
