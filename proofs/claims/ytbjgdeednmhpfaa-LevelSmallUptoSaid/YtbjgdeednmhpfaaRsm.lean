/-
  LevelSmall, on data.
-/
import Derived.Test.YtbjgdeednmhpfaaRone
import Derived.Test.YtbjgdeednmhpfaaLpt2
set_option linter.unusedSimpArgs false
set_option linter.unusedVariables false
set_option maxHeartbeats 10000000
set_option maxRecDepth 20000
namespace Go.Proofs.Ytbjgdeednmhpfaa
open Go.RowKit

/-- rows that are not great -/
def smallL (ls : List LV) : Prop := ∀ x, x ∈ ls → x.length ≤ 6
theorem smallL_app {a b : List LV} (ha : smallL a) (hb : smallL b) : smallL (a ++ b) := fun x hx => (List.mem_append.1 hx).elim (ha x) (hb x)

theorem rowP_len (bys : List LV) (hb : smallL bys) (p : Int × Int) : (rowP bys p).length ≤ 6 := by
  unfold rowP xsP
  rw [List.length_map]
  unfold orZero
  split
  · simp
  · unfold levOf
    split
    · refine Nat.le_trans (normOf_le _) ?_
      rename_i h
      have hj : (p.1 - 1).toNat < bys.length := by omega
      rw [List.getD_eq_getElem?_getD, List.getElem?_eq_getElem hj]
      exact hb _ (List.getElem_mem hj)
    · simp
theorem flatP_len {f : Int × Int → LV} {n : Nat} (h : ∀ p, (f p).length ≤ n) : ∀ l : LV, ((l.map f).flatten).length ≤ l.length * n
  | [] => by simp
  | p :: r => by
    rw [List.map_cons, List.flatten_cons, List.length_append, List.length_cons, Nat.succ_mul]
    have := flatP_len h r
    have := h p
    omega
theorem putL_len (l : LV) (bys : List LV) (hl : l.length ≤ 6) (hb : smallL bys) : (putL l bys).length ≤ 36 := by
  unfold putL
  have h1 := flatP_len (rowP_len bys hb) (normOf l)
  have h2 := normOf_le l
  have : (normOf l).length * 6 ≤ 36 := by omega
  omega

/-- the same is put -/
theorem both_put (l : LV) (bys : List LV) (hl : l.length ≤ 6) (hbl : bys.length ≤ 100) (hb : smallL bys) :
    Spec Try.prog glob 14 [encL l, Lvs bys] [] (fun o _ => o.fgt = .ret (encL (normOf (putL l bys)))) ∧ Spec Try.prog glob 18 [encL l, Lvs bys] [] (fun o _ => o.fgt = .ret (encL (normOf (putL l bys)))) :=
  ⟨put_spec l bys (by unfold LMax; omega) (by unfold LMax; omega) (fun x hx => by have := hb x hx; unfold LMax; omega),
   rPut_spec l bys (by unfold LMax; omega) (by unfold LMax; omega) (fun x hx => by have := hb x hx; unfold LMax; omega) (by have := putL_len l bys hl hb; unfold LMax; omega)⟩

def numsL : List Int := [-9223372036854775808, -1, 0, 1, 999, 1000, 1001, 1048575, 1048576, 1048577, 9223372036854775807]

set_option maxHeartbeats 40000000 in
theorem small1_spec : Spec Try.prog glob 4 [] [] (fun o _ => o.fgt = .ret (.bool true)) := by
  refine Spec.movd globPure (wpD_spec tyOK Try.func4 rfl (enters _ _ Try.func4 rfl (by decide)) rfl rfl ?_)
  (refine wpD_seqk fun K hK => ?_; refine wpD_region tyOK ?_; ((try simp only [wpAft_ret, wpAft_pan, putS, updS, setS]); (repeat (rw [wpS_cons]; simp [wpAft_ret, wpAft_pan, wantD, evOp, opD, tmOf, putS, updS, setS, hOf, isFree, isTok, fillD, TK.isAgg, TK.known, partD, thenD, blockD, putAll, D.ofV, inB, binX, binD, binE, isCst, bndD, capB, IntKind.min, IntKind.max, IntKind.signed, IntKind.bits, dstOf])); (try simp only [wpS_nil, thenD, blockD])); refine hK _ _ _ ?_; clear hK K)
  (refine wpD_seqk fun K hK => ?_; refine wpD_region tyOK ?_; ((try simp only [wpAft_ret, wpAft_pan, putS, updS, setS]); (repeat (rw [wpS_cons]; simp [wpAft_ret, wpAft_pan, wantD, evOp, opD, tmOf, putS, updS, setS, hOf, isFree, isTok, fillD, TK.isAgg, TK.known, partD, thenD, blockD, putAll, D.ofV, inB, binX, binD, binE, isCst, bndD, capB, IntKind.min, IntKind.max, IntKind.signed, IntKind.bits, dstOf])); (try simp only [wpS_nil, thenD, blockD])); refine hK _ _ _ ?_; clear hK K)
  refine wpD_tokT 1 ?_
  simp [D.tokd]
  refine wpD_seqk fun K1 hK1 => ?_
  (refine wpD_seqk fun K hK => ?_; refine wpD_region tyOK ?_; ((try simp only [wpAft_ret, wpAft_pan, putS, updS, setS]); (repeat (rw [wpS_cons]; simp [wpAft_ret, wpAft_pan, wantD, evOp, opD, tmOf, putS, updS, setS, hOf, isFree, isTok, fillD, TK.isAgg, TK.known, partD, thenD, blockD, putAll, D.ofV, inB, binX, binD, binE, isCst, bndD, capB, IntKind.min, IntKind.max, IntKind.signed, IntKind.bits, dstOf])); (try simp only [wpS_nil, thenD, blockD])); refine hK _ _ _ ?_; clear hK K)
  refine wpD_block ?_
  refine wpD_loopMJ globPure [12, 13, 14, 15, 16, 17, 18, 19, 20, 21, 22, 23, 24, 25, 26, 27, 28, 29, 30, 31] [1, 2] (fun n ys hl => ∃ (k : Nat) (ls : List LV), ys = [.slice (ls.map encL) (.tok 0), .int .i64 k] ∧ n + k = 81 ∧ ls.length = k ∧ smallL ls ∧ hl = [.tok]) (81) (by kernel_rfl) ?_ ?_
  · exact ⟨0, [], rfl, rfl, rfl, (fun _ h => nomatch h), rfl⟩
  · rintro n ys hl A hA hA2 ⟨k, ls, rfl, hk, hls, hsm, rfl⟩
    simp only [putAll, List.set, List.map_cons, List.map_nil, List.cons_append, List.nil_append]
    refine wpD_seqk fun K2 hK2 => ?_
    by_cases hkl : k < 81
    · have hkl' : (k : Int) < 81 := by omega
      have hw1 : IntKind.i64.wrap ((k : Int) + 1) = (k : Int) + 1 := i64w (by omega) (by omega)
      (refine wpD_seqk fun K hK => ?_; refine wpD_region tyOK ?_; ((try simp only [wpAft_ret, wpAft_pan, putS, updS, setS]); (repeat (rw [wpS_cons]; simp [wpAft_ret, wpAft_pan, wantD, evOp, opD, tmOf, putS, updS, setS, hOf, isFree, isTok, fillD, TK.isAgg, TK.known, partD, thenD, blockD, putAll, D.ofV, inB, binX, binD, binE, isCst, bndD, capB, IntKind.min, IntKind.max, IntKind.signed, IntKind.bits, dstOf, hkl, hkl'])); (try simp only [wpS_nil, thenD, blockD])); refine hK _ _ _ ?_; clear hK K)
      refine wpD_part rfl (fun _ => ?_) (fun h => by simp at h)
      refine wpD_skip (hK2 _ _ _ ?_)
      clear hK2 K2
      refine wpD_seqk fun K3 hK3 => ?_
      refine wpD_block ?_
      obtain ⟨x1, hx1⟩ : ∃ x, (k : Int).tmod 3 = x := ⟨_, rfl⟩
      obtain ⟨x2, hx2⟩ : ∃ x, (IntKind.i64.wrap ((k : Int) / 3)).tmod 3 = x := ⟨_, rfl⟩
      obtain ⟨x3, hx3⟩ : ∃ x, (IntKind.i64.wrap ((k : Int) / 9)).tmod 3 = x := ⟨_, rfl⟩
      obtain ⟨x4, hx4⟩ : ∃ x, (IntKind.i64.wrap ((k : Int) / 27)).tmod 3 = x := ⟨_, rfl⟩
      have hof := ofl_spec [x1, x2, x3, x4] (by simp)
      simp only [ofL] at hof
      have hl1 : ls.length + 1 ≤ LMax := by unfold LMax; omega
      (refine wpD_region tyOK ?_; ((try simp only [wpAft_ret, wpAft_pan, putS, updS, setS]); (repeat (rw [wpS_cons]; simp [wpAft_ret, wpAft_pan, wantD, evOp, opD, tmOf, putS, updS, setS, hOf, isFree, isTok, fillD, TK.isAgg, TK.known, partD, thenD, blockD, putAll, D.ofV, inB, binX, binD, binE, isCst, bndD, capB, IntKind.min, IntKind.max, IntKind.signed, IntKind.bits, dstOf, hkl, hkl', hx1, hx2, hx3, hx4])); (try simp only [wpS_nil, thenD, blockD])))
      refine CallX.pure globPure (hof) ?_ (by simp [D.fgts, D.fgt, Ints]) (by simp [D.pures, D.pure, Cp.free, D.pures_map, Ints]) (by simp [Out.pure, D.pure, D.pures, Cp.free, D.pures_map, Ints])
      ((try simp only [wpAft_ret, wpAft_pan, putS, updS, setS]); (repeat (rw [wpS_cons]; simp [wpAft_ret, wpAft_pan, wantD, evOp, opD, tmOf, putS, updS, setS, hOf, isFree, isTok, fillD, TK.isAgg, TK.known, partD, thenD, blockD, putAll, D.ofV, inB, binX, binD, binE, isCst, bndD, capB, IntKind.min, IntKind.max, IntKind.signed, IntKind.bits, dstOf, hl1])); (try simp only [wpS_nil, thenD, blockD]))
      refine hK3 _ _ _ ?_
      clear hK3 K3
      (refine wpD_region tyOK ?_; ((try simp only [wpAft_ret, wpAft_pan, putS, updS, setS]); (repeat (rw [wpS_cons]; simp [wpAft_ret, wpAft_pan, wantD, evOp, opD, tmOf, putS, updS, setS, hOf, isFree, isTok, fillD, TK.isAgg, TK.known, partD, thenD, blockD, putAll, D.ofV, inB, binX, binD, binE, isCst, bndD, capB, IntKind.min, IntKind.max, IntKind.signed, IntKind.bits, dstOf, hw1])); (try simp only [wpS_nil, thenD, blockD])))
      (refine hA2 ([1]) (n - 1) _ _ (by decide) (by simp) (by omega) (by simp [movT, movH, movD, D.mov, HO.mov, okM, renM, getW, D.ren, D.rens, D.okN, D.okNs, Cp.ren, Cp.okN, HO.ren, HO.okN, okA, renA, renO, hOf, handed, D.fgt, D.fgts, List.range_succ, List.idxOf_cons, putAll]) ?_; simp [movT, movH, movD, D.mov, HO.mov, okM, renM, getW, D.ren, D.rens, D.okN, D.okNs, Cp.ren, Cp.okN, HO.ren, HO.okN, okA, renA, renO, hOf, handed, D.fgt, D.fgts, List.range_succ, List.idxOf_cons])
      refine ⟨k + 1, ls ++ [[(x1, x2), (x3, x4)]], ⟨?_, by omega⟩, by omega, by simp [hls], smallL_app hsm (by intro x hx; simp at hx; subst hx; simp)⟩
      rw [show ls.map encL ++ [encL [(x1, x2), (x3, x4)]] = (ls ++ [[(x1, x2), (x3, x4)]]).map encL by simp, mapL_ren]
    · have hkl' : ¬ (k : Int) < 81 := by omega
      (refine wpD_seqk fun K hK => ?_; refine wpD_region tyOK ?_; ((try simp only [wpAft_ret, wpAft_pan, putS, updS, setS]); (repeat (rw [wpS_cons]; simp [wpAft_ret, wpAft_pan, wantD, evOp, opD, tmOf, putS, updS, setS, hOf, isFree, isTok, fillD, TK.isAgg, TK.known, partD, thenD, blockD, putAll, D.ofV, inB, binX, binD, binE, isCst, bndD, capB, IntKind.min, IntKind.max, IntKind.signed, IntKind.bits, dstOf, hkl, hkl'])); (try simp only [wpS_nil, thenD, blockD])); refine hK _ _ _ ?_; clear hK K)
      refine wpD_part rfl (fun h => by simp at h) (fun _ => ?_)
      refine wpD_exit ?_
      refine hK1 _ _ _ ?_
      clear hK1 K1 hK2 K2 hA hA2 A
      have a1 := ofl_spec [] (by decide)
      have a2 := ofl_spec [1, 2] (by decide)
      have a3 := ofl_spec [0, 1, 1, 1] (by decide)
      have a4 := ofl_spec [2, 3, 1, 0, 0, 5] (by decide)
      simp only [ofL] at a1 a2 a3 a4
      have hl4 : ls.length + 4 ≤ LMax := by unfold LMax; omega
      (refine wpD_seqk fun K hK => ?_; refine wpD_region tyOK ?_; ((try simp only [wpAft_ret, wpAft_pan, putS, updS, setS]); (repeat (rw [wpS_cons]; simp [wpAft_ret, wpAft_pan, wantD, evOp, opD, tmOf, putS, updS, setS, hOf, isFree, isTok, fillD, TK.isAgg, TK.known, partD, thenD, blockD, putAll, D.ofV, inB, binX, binD, binE, isCst, bndD, capB, IntKind.min, IntKind.max, IntKind.signed, IntKind.bits, dstOf])); (try simp only [wpS_nil, thenD, blockD])))
      refine CallX.pure globPure (a1) ?_ (by simp [D.fgts, D.fgt, Ints]) (by simp [D.pures, D.pure, Cp.free, D.pures_map, Ints]) (by simp [Out.pure, D.pure, D.pures, Cp.free, D.pures_map, Ints])
      ((try simp only [wpAft_ret, wpAft_pan, putS, updS, setS]); (repeat (rw [wpS_cons]; simp [wpAft_ret, wpAft_pan, wantD, evOp, opD, tmOf, putS, updS, setS, hOf, isFree, isTok, fillD, TK.isAgg, TK.known, partD, thenD, blockD, putAll, D.ofV, inB, binX, binD, binE, isCst, bndD, capB, IntKind.min, IntKind.max, IntKind.signed, IntKind.bits, dstOf])); (try simp only [wpS_nil, thenD, blockD]))
      refine CallX.pure globPure (a2) ?_ (by simp [D.fgts, D.fgt, Ints]) (by simp [D.pures, D.pure, Cp.free, D.pures_map, Ints]) (by simp [Out.pure, D.pure, D.pures, Cp.free, D.pures_map, Ints])
      ((try simp only [wpAft_ret, wpAft_pan, putS, updS, setS]); (repeat (rw [wpS_cons]; simp [wpAft_ret, wpAft_pan, wantD, evOp, opD, tmOf, putS, updS, setS, hOf, isFree, isTok, fillD, TK.isAgg, TK.known, partD, thenD, blockD, putAll, D.ofV, inB, binX, binD, binE, isCst, bndD, capB, IntKind.min, IntKind.max, IntKind.signed, IntKind.bits, dstOf])); (try simp only [wpS_nil, thenD, blockD]))
      refine CallX.pure globPure (a3) ?_ (by simp [D.fgts, D.fgt, Ints]) (by simp [D.pures, D.pure, Cp.free, D.pures_map, Ints]) (by simp [Out.pure, D.pure, D.pures, Cp.free, D.pures_map, Ints])
      ((try simp only [wpAft_ret, wpAft_pan, putS, updS, setS]); (repeat (rw [wpS_cons]; simp [wpAft_ret, wpAft_pan, wantD, evOp, opD, tmOf, putS, updS, setS, hOf, isFree, isTok, fillD, TK.isAgg, TK.known, partD, thenD, blockD, putAll, D.ofV, inB, binX, binD, binE, isCst, bndD, capB, IntKind.min, IntKind.max, IntKind.signed, IntKind.bits, dstOf])); (try simp only [wpS_nil, thenD, blockD]))
      refine CallX.pure globPure (a4) ?_ (by simp [D.fgts, D.fgt, Ints]) (by simp [D.pures, D.pure, Cp.free, D.pures_map, Ints]) (by simp [Out.pure, D.pure, D.pures, Cp.free, D.pures_map, Ints])
      ((try simp only [wpAft_ret, wpAft_pan, putS, updS, setS]); (repeat (rw [wpS_cons]; simp [wpAft_ret, wpAft_pan, wantD, evOp, opD, tmOf, putS, updS, setS, hOf, isFree, isTok, fillD, TK.isAgg, TK.known, partD, thenD, blockD, putAll, D.ofV, inB, binX, binD, binE, isCst, bndD, capB, IntKind.min, IntKind.max, IntKind.signed, IntKind.bits, dstOf, hl4])); (try simp only [wpS_nil, thenD, blockD]))
      (refine hK _ _ _ ?_; clear hK K)
      rw [show ls.map encL ++ [encL [], encL [(1, 2)], encL [(0, 1), (1, 1)], encL [(2, 3), (1, 0), (0, 5)]] = (ls ++ [[], [(1, 2)], [(0, 1), (1, 1)], [(2, 3), (1, 0), (0, 5)]]).map encL by simp]
      have hsm2 : smallL (ls ++ [[], [(1, 2)], [(0, 1), (1, 1)], [(2, 3), (1, 0), (0, 5)]]) := smallL_app hsm (by intro x hx; simp at hx; rcases hx with rfl | rfl | rfl | rfl <;> simp)
      have hln2 : (ls ++ [[], [(1, 2)], [(0, 1), (1, 1)], [(2, 3), (1, 0), (0, 5)]]).length ≤ 100 := by simp; omega
      clear hsm hls hl4
      generalize ls ++ [[], [(1, 2)], [(0, 1), (1, 1)], [(2, 3), (1, 0), (0, 5)]] = L at hsm2 hln2
      refine wpD_fgtT 1 ?_
      simp [D.fgt]
      (refine wpD_junkW [2, 12, 13, 14, 15, 16, 17, 18, 19, 20, 21, 22, 23, 24, 25, 26, 27, 28, 29, 30, 31, 32, 33, 34, 35, 36, 37, 38, 39, 40, 41] ?_; simp only [putAll, List.set, List.map_cons, List.map_nil])
      clear a1 a2 a3 a4 hk hkl hkl' k n
      refine wpD_seqk fun K1 hK1 => ?_
      (refine wpD_seqk fun K hK => ?_; refine wpD_region tyOK ?_; ((try simp only [wpAft_ret, wpAft_pan, putS, updS, setS]); (repeat (rw [wpS_cons]; simp [wpAft_ret, wpAft_pan, wantD, evOp, opD, tmOf, putS, updS, setS, hOf, isFree, isTok, fillD, TK.isAgg, TK.known, partD, thenD, blockD, putAll, D.ofV, inB, binX, binD, binE, isCst, bndD, capB, IntKind.min, IntKind.max, IntKind.signed, IntKind.bits, dstOf])); (try simp only [wpS_nil, thenD, blockD])); refine hK _ _ _ ?_; clear hK K)
      refine wpD_block ?_
      refine wpD_loopWJ [0, 4, 42, 43, 44, 45, 46, 47, 48, 49, 50, 51, 52, 53, 54, 55, 56, 57, 58, 59, 60, 61, 62, 63, 64, 65, 66, 67, 68, 69, 70, 71, 72, 73, 74, 75, 76, 77, 78, 79, 80, 81, 82, 83, 84, 85, 86, 87, 88, 89, 90, 91, 92, 93, 94, 95, 96, 97, 98, 99, 100, 101, 102, 103, 104, 105, 106, 107, 108, 109, 110, 111, 112, 113, 114, 115, 116, 117, 118, 119, 120, 121, 122, 123] [3] (fun n ys hl => ∃ (i : Nat), ys = [.int .i64 i] ∧ n + i = L.length ∧ hl = [.dead, .tok]) (L.length) (by kernel_rfl) ?_ ?_
      · exact ⟨0, rfl, rfl, rfl⟩
      · rintro n ys hl A hA ⟨i, rfl, hi, rfl⟩
        simp only [putAll, List.set, List.map_cons, List.map_nil, List.cons_append, List.nil_append]
        refine wpD_seqk fun K2 hK2 => ?_
        have hwi : IntKind.i64.wrap ((i : Int) + 1) = (i : Int) + 1 := i64w (by omega) (by omega)
        by_cases hil : i < L.length
        · have hil' : (i : Int) < L.length := by omega
          (refine wpD_seqk fun K hK => ?_; refine wpD_region tyOK ?_; ((try simp only [wpAft_ret, wpAft_pan, putS, updS, setS]); (repeat (rw [wpS_cons]; simp [wpAft_ret, wpAft_pan, wantD, evOp, opD, tmOf, putS, updS, setS, hOf, isFree, isTok, fillD, TK.isAgg, TK.known, partD, thenD, blockD, putAll, D.ofV, inB, binX, binD, binE, isCst, bndD, capB, IntKind.min, IntKind.max, IntKind.signed, IntKind.bits, dstOf, hil, hil'])); (try simp only [wpS_nil, thenD, blockD])); refine hK _ _ _ ?_; clear hK K)
          refine wpD_part rfl (fun _ => ?_) (fun h => by simp at h)
          refine wpD_skip (hK2 _ _ _ ?_)
          clear hK2 K2
          refine wpD_seqk fun K3 hK3 => ?_
          refine wpD_block ?_
          (refine wpD_seqk fun K hK => ?_; refine wpD_region tyOK ?_; ((try simp only [wpAft_ret, wpAft_pan, putS, updS, setS]); (repeat (rw [wpS_cons]; simp [wpAft_ret, wpAft_pan, wantD, evOp, opD, tmOf, putS, updS, setS, hOf, isFree, isTok, fillD, TK.isAgg, TK.known, partD, thenD, blockD, putAll, D.ofV, inB, binX, binD, binE, isCst, bndD, capB, IntKind.min, IntKind.max, IntKind.signed, IntKind.bits, dstOf])); (try simp only [wpS_nil, thenD, blockD])); refine hK _ _ _ ?_; clear hK K)
          refine wpD_block ?_
          have hA0 := hA
          refine wpD_loopWJ [0, 48, 49, 50, 51, 52, 53, 54, 55, 56, 57, 58, 59, 60, 61, 62, 63, 64, 65, 66, 67, 68, 69, 70, 71, 72, 73, 74, 75, 76, 77, 78, 79, 80, 81, 82, 83, 84, 85, 86, 87, 88, 89, 90, 91, 92, 93, 94, 95, 96, 97, 98, 99, 100, 101, 102, 103, 104, 105, 106, 107, 108, 109, 110, 111, 112, 113, 114, 115, 116, 117, 118, 119, 120, 121, 122, 123] [4] (fun n ys hl => ∃ (k : Nat), ys = [.int .i64 k] ∧ n + k = L.length ∧ hl = [.dead, .tok]) (L.length) (by kernel_rfl) ?_ ?_
          · exact ⟨0, rfl, rfl, rfl⟩
          · rintro n2 ys hl Ab hA ⟨k, rfl, hk, rfl⟩
            simp only [putAll, List.set, List.map_cons, List.map_nil, List.cons_append, List.nil_append]
            refine wpD_seqk fun K4 hK4 => ?_
            by_cases hkl : k < L.length
            · have hkl' : (k : Int) < L.length := by omega
              (refine wpD_seqk fun K hK => ?_; refine wpD_region tyOK ?_; ((try simp only [wpAft_ret, wpAft_pan, putS, updS, setS]); (repeat (rw [wpS_cons]; simp [wpAft_ret, wpAft_pan, wantD, evOp, opD, tmOf, putS, updS, setS, hOf, isFree, isTok, fillD, TK.isAgg, TK.known, partD, thenD, blockD, putAll, D.ofV, inB, binX, binD, binE, isCst, bndD, capB, IntKind.min, IntKind.max, IntKind.signed, IntKind.bits, dstOf, hkl, hkl'])); (try simp only [wpS_nil, thenD, blockD])); refine hK _ _ _ ?_; clear hK K)
              refine wpD_part rfl (fun _ => ?_) (fun h => by simp at h)
              refine wpD_skip (hK4 _ _ _ ?_)
              clear hK4 K4
              refine wpD_seqk fun K5 hK5 => ?_
              refine wpD_block ?_
              have hxl := hsm2 L[i] (List.getElem_mem hil)
              have hyl := hsm2 L[k] (List.getElem_mem hkl)
              obtain ⟨a, hga⟩ : ∃ a, L[i] = a := ⟨_, rfl⟩
              obtain ⟨b, hgb⟩ : ∃ b, L[k] = b := ⟨_, rfl⟩
              rw [hga] at hxl
              rw [hgb] at hyl
              obtain ⟨m4, hm4⟩ : ∃ x, ((i : Int) + k).tmod 4 = x := ⟨_, rfl⟩
              obtain ⟨v7, hv7⟩ : ∃ x, (i : Int).tmod 7 = x := ⟨_, rfl⟩
              have hwik : IntKind.i64.wrap ((i : Int) + k) = (i : Int) + k := i64w (by omega) (by omega)
              have hwk2 : IntKind.i64.wrap ((k : Int) + 2) = (k : Int) + 2 := i64w (by omega) (by omega)
              have hwk : IntKind.i64.wrap ((k : Int) + 1) = (k : Int) + 1 := i64w (by omega) (by omega)
              have o1 := one1_spec a b m4 (by unfold LMax; omega) (by unfold LMax; omega)
              have hEa : encL a = .agg [.slice (a.map encP) .any] := rfl
              have hEb : encL b = .agg [.slice (b.map encP) .any] := rfl
              simp only [hEa, hEb] at o1
              by_cases h9 : (k : Int).tmod 9 = 0
              · obtain ⟨M, hM, hkM, hML⟩ : ∃ M : Nat, min ((k : Int) + 2) L.length = M ∧ k ≤ M ∧ M ≤ L.length := ⟨min (k + 2) L.length, by omega, by omega, by omega⟩
                obtain ⟨ys, hys⟩ : ∃ ys, ys = (L.take M).drop k := ⟨_, rfl⟩
                have hdt : List.drop k (List.take M (L.map encL)) = ys.map encL := by rw [hys, List.map_drop, List.map_take]
                have hysm : smallL ys := fun x hx => hsm2 x (by rw [hys] at hx; exact List.mem_of_mem_take (List.mem_of_mem_drop hx))
                have hysl : ys.length ≤ 100 := by rw [hys, List.length_drop, List.length_take]; omega
                obtain ⟨b1, b2⟩ := both_put a ys hxl hysl hysm
                have b3 := same1_spec (normOf (putL a ys)) (normOf (putL a ys)) (normOf_lmax _) (normOf_lmax _)
                rw [decide_eq_true rfl] at b3
                have c1 := value_spec a [(k : Int), v7] (by unfold LMax; omega) (by simp [LMax])
                have c2 := rvalue_spec a [(k : Int), v7] (by unfold LMax; omega) (by simp [LMax])
                generalize normOf (putL a ys) = Z at b1 b2 b3
                generalize valN [(k : Int), v7] (normOf a) = VV at c1 c2
                unfold Lvs at b1 b2
                unfold Ints at c1 c2
                simp only [List.map_cons, List.map_nil, hEa] at c1 c2
                rw [hEa] at b1 b2
                (refine wpD_seqk fun K hK => ?_; refine wpD_drawk tyOK (by kernel_rfl) (by kernel_rfl) fun KT hKT => ?_; (simp only [List.append_eq, List.cons_append, List.nil_append, List.toList_toArray]); ((try simp only [wpAftT_ret, wpAftT_pan, putS, updS, setS]); (repeat (rw [wpT_cons]; simp [wpAft_ret, wpAft_pan, wantD, evOp, opD, tmOf, putS, updS, setS, hOf, isFree, isTok, fillD, TK.isAgg, TK.known, partD, thenD, blockD, putAll, D.ofV, inB, binX, binD, binE, isCst, bndD, capB, IntKind.min, IntKind.max, IntKind.signed, IntKind.bits, dstOf, late, hil, hil', hkl, hkl', hga, hgb, hEa, hEb, hwik, hm4])); (try simp only [wpT_nil])))
                refine CallY.pure globPure (o1) ?_ (by simp [D.fgts, D.fgt, encPs_pure]) (by simp [D.pures, D.pure, Cp.free, D.pures_map, encPs_pure]) (by simp [Out.pure, D.pure, D.pures, Cp.free, D.pures_map, encPs_pure])
                ((try simp only [wpAftT_ret, wpAftT_pan, putS, updS, setS]); (repeat (rw [wpT_cons]; simp [wpAft_ret, wpAft_pan, wantD, evOp, opD, tmOf, putS, updS, setS, hOf, isFree, isTok, fillD, TK.isAgg, TK.known, partD, thenD, blockD, putAll, D.ofV, inB, binX, binD, binE, isCst, bndD, capB, IntKind.min, IntKind.max, IntKind.signed, IntKind.bits, dstOf, late, hil, hil', hkl, hkl', hga, hgb, hEa, hEb, h9, hwk2, hM, hkM, hML, hdt])); (try simp only [wpT_nil]))
                refine CallY.pure globPure (b1) ?_ (by simp [D.fgts, D.fgt]) (by simp [D.pures, D.pure, Cp.free, D.pures_map]) (by simp [Out.pure, D.pure, D.pures, Cp.free, D.pures_map])
                ((try simp only [wpAftT_ret, wpAftT_pan, putS, updS, setS]); (repeat (rw [wpT_cons]; simp [wpAft_ret, wpAft_pan, wantD, evOp, opD, tmOf, putS, updS, setS, hOf, isFree, isTok, fillD, TK.isAgg, TK.known, partD, thenD, blockD, putAll, D.ofV, inB, binX, binD, binE, isCst, bndD, capB, IntKind.min, IntKind.max, IntKind.signed, IntKind.bits, dstOf, late, hil, hil', hkl, hkl', hga, hgb, hEa, hEb, hwk2, hM, hkM, hML, hdt])); (try simp only [wpT_nil]))
                refine CallY.pure globPure (b2) ?_ (by simp [D.fgts, D.fgt]) (by simp [D.pures, D.pure, Cp.free, D.pures_map]) (by simp [Out.pure, D.pure, D.pures, Cp.free, D.pures_map])
                ((try simp only [wpAftT_ret, wpAftT_pan, putS, updS, setS]); (repeat (rw [wpT_cons]; simp [wpAft_ret, wpAft_pan, wantD, evOp, opD, tmOf, putS, updS, setS, hOf, isFree, isTok, fillD, TK.isAgg, TK.known, partD, thenD, blockD, putAll, D.ofV, inB, binX, binD, binE, isCst, bndD, capB, IntKind.min, IntKind.max, IntKind.signed, IntKind.bits, dstOf, late])); (try simp only [wpT_nil]))
                refine CallY.pure globPure (b3) ?_ (by simp [D.fgts, D.fgt]) (by simp [D.pures, D.pure, Cp.free, D.pures_map]) (by simp [Out.pure, D.pure, D.pures, Cp.free, D.pures_map])
                ((try simp only [wpAftT_ret, wpAftT_pan, putS, updS, setS]); (repeat (rw [wpT_cons]; simp [wpAft_ret, wpAft_pan, wantD, evOp, opD, tmOf, putS, updS, setS, hOf, isFree, isTok, fillD, TK.isAgg, TK.known, partD, thenD, blockD, putAll, D.ofV, inB, binX, binD, binE, isCst, bndD, capB, IntKind.min, IntKind.max, IntKind.signed, IntKind.bits, dstOf, late, hil, hil', hga, hEa, hv7])); (try simp only [wpT_nil]))
                refine CallY.pure globPure (c1) ?_ (by simp [D.fgts, D.fgt]) (by simp [D.pures, D.pure, Cp.free, D.pures_map]) (by simp [Out.pure, D.pure, D.pures, Cp.free, D.pures_map])
                ((try simp only [wpAftT_ret, wpAftT_pan, putS, updS, setS]); (repeat (rw [wpT_cons]; simp [wpAft_ret, wpAft_pan, wantD, evOp, opD, tmOf, putS, updS, setS, hOf, isFree, isTok, fillD, TK.isAgg, TK.known, partD, thenD, blockD, putAll, D.ofV, inB, binX, binD, binE, isCst, bndD, capB, IntKind.min, IntKind.max, IntKind.signed, IntKind.bits, dstOf, late, hil, hil', hga, hEa, hv7])); (try simp only [wpT_nil]))
                refine CallY.pure globPure (c2) ?_ (by simp [D.fgts, D.fgt]) (by simp [D.pures, D.pure, Cp.free, D.pures_map]) (by simp [Out.pure, D.pure, D.pures, Cp.free, D.pures_map])
                ((try simp only [wpAftT_ret, wpAftT_pan, putS, updS, setS]); (repeat (rw [wpT_cons]; simp [wpAft_ret, wpAft_pan, wantD, evOp, opD, tmOf, putS, updS, setS, hOf, isFree, isTok, fillD, TK.isAgg, TK.known, partD, thenD, blockD, putAll, D.ofV, inB, binX, binD, binE, isCst, bndD, capB, IntKind.min, IntKind.max, IntKind.signed, IntKind.bits, dstOf, late])); (try simp only [wpT_nil]))
                (refine hKT _ _ _ _ (by kernel_rfl) ?_; clear hKT KT; (try simp only [thenD, blockD]))
                (refine hK _ _ _ ?_; clear hK K)
                refine wpD_part rfl (fun h => by simp at h) (fun _ => ?_)
                refine wpD_skip (hK5 _ _ _ ?_)
                clear hK5 K5
                (refine wpD_region tyOK ?_; ((try simp only [wpAft_ret, wpAft_pan, putS, updS, setS]); (repeat (rw [wpS_cons]; simp [wpAft_ret, wpAft_pan, wantD, evOp, opD, tmOf, putS, updS, setS, hOf, isFree, isTok, fillD, TK.isAgg, TK.known, partD, thenD, blockD, putAll, D.ofV, inB, binX, binD, binE, isCst, bndD, capB, IntKind.min, IntKind.max, IntKind.signed, IntKind.bits, dstOf, hwk])); (try simp only [wpS_nil, thenD, blockD])))
                refine hA (n2 - 1) _ _ (by omega) (by kernel_rfl) ?_
                exact ⟨k + 1, rfl, by omega, rfl⟩
              · (refine wpD_seqk fun K hK => ?_; refine wpD_drawk tyOK (by kernel_rfl) (by kernel_rfl) fun KT hKT => ?_; (simp only [List.append_eq, List.cons_append, List.nil_append, List.toList_toArray]); ((try simp only [wpAftT_ret, wpAftT_pan, putS, updS, setS]); (repeat (rw [wpT_cons]; simp [wpAft_ret, wpAft_pan, wantD, evOp, opD, tmOf, putS, updS, setS, hOf, isFree, isTok, fillD, TK.isAgg, TK.known, partD, thenD, blockD, putAll, D.ofV, inB, binX, binD, binE, isCst, bndD, capB, IntKind.min, IntKind.max, IntKind.signed, IntKind.bits, dstOf, late, hil, hil', hkl, hkl', hga, hgb, hEa, hEb, hwik, hm4])); (try simp only [wpT_nil])))
                refine CallY.pure globPure (o1) ?_ (by simp [D.fgts, D.fgt, encPs_pure]) (by simp [D.pures, D.pure, Cp.free, D.pures_map, encPs_pure]) (by simp [Out.pure, D.pure, D.pures, Cp.free, D.pures_map, encPs_pure])
                ((try simp only [wpAftT_ret, wpAftT_pan, putS, updS, setS]); (repeat (rw [wpT_cons]; simp [wpAft_ret, wpAft_pan, wantD, evOp, opD, tmOf, putS, updS, setS, hOf, isFree, isTok, fillD, TK.isAgg, TK.known, partD, thenD, blockD, putAll, D.ofV, inB, binX, binD, binE, isCst, bndD, capB, IntKind.min, IntKind.max, IntKind.signed, IntKind.bits, dstOf, late, h9])); (try simp only [wpT_nil]))
                (refine hKT _ _ _ _ (by kernel_rfl) ?_; clear hKT KT; (try simp only [thenD, blockD]))
                (refine hK _ _ _ ?_; clear hK K)
                refine wpD_part rfl (fun h => by simp at h) (fun _ => ?_)
                refine wpD_skip (hK5 _ _ _ ?_)
                clear hK5 K5
                (refine wpD_region tyOK ?_; ((try simp only [wpAft_ret, wpAft_pan, putS, updS, setS]); (repeat (rw [wpS_cons]; simp [wpAft_ret, wpAft_pan, wantD, evOp, opD, tmOf, putS, updS, setS, hOf, isFree, isTok, fillD, TK.isAgg, TK.known, partD, thenD, blockD, putAll, D.ofV, inB, binX, binD, binE, isCst, bndD, capB, IntKind.min, IntKind.max, IntKind.signed, IntKind.bits, dstOf, hwk])); (try simp only [wpS_nil, thenD, blockD])))
                refine hA (n2 - 1) _ _ (by omega) (by kernel_rfl) ?_
                exact ⟨k + 1, rfl, by omega, rfl⟩
            · have hkl' : ¬ (k : Int) < L.length := by omega
              (refine wpD_seqk fun K hK => ?_; refine wpD_region tyOK ?_; ((try simp only [wpAft_ret, wpAft_pan, putS, updS, setS]); (repeat (rw [wpS_cons]; simp [wpAft_ret, wpAft_pan, wantD, evOp, opD, tmOf, putS, updS, setS, hOf, isFree, isTok, fillD, TK.isAgg, TK.known, partD, thenD, blockD, putAll, D.ofV, inB, binX, binD, binE, isCst, bndD, capB, IntKind.min, IntKind.max, IntKind.signed, IntKind.bits, dstOf, hkl, hkl'])); (try simp only [wpS_nil, thenD, blockD])); refine hK _ _ _ ?_; clear hK K)
              refine wpD_part rfl (fun h => by simp at h) (fun _ => ?_)
              refine wpD_exit ?_
              refine hK3 _ _ _ ?_
              clear hK3 K3 hK4 K4 hA Ab
              have hA := hA0
              (refine wpD_region tyOK ?_; ((try simp only [wpAft_ret, wpAft_pan, putS, updS, setS]); (repeat (rw [wpS_cons]; simp [wpAft_ret, wpAft_pan, wantD, evOp, opD, tmOf, putS, updS, setS, hOf, isFree, isTok, fillD, TK.isAgg, TK.known, partD, thenD, blockD, putAll, D.ofV, inB, binX, binD, binE, isCst, bndD, capB, IntKind.min, IntKind.max, IntKind.signed, IntKind.bits, dstOf, hwi])); (try simp only [wpS_nil, thenD, blockD])))
              refine hA (n - 1) _ _ (by omega) (by kernel_rfl) ?_
              exact ⟨i + 1, rfl, by omega, rfl⟩
        · have hil' : ¬ (i : Int) < L.length := by omega
          (refine wpD_seqk fun K hK => ?_; refine wpD_region tyOK ?_; ((try simp only [wpAft_ret, wpAft_pan, putS, updS, setS]); (repeat (rw [wpS_cons]; simp [wpAft_ret, wpAft_pan, wantD, evOp, opD, tmOf, putS, updS, setS, hOf, isFree, isTok, fillD, TK.isAgg, TK.known, partD, thenD, blockD, putAll, D.ofV, inB, binX, binD, binE, isCst, bndD, capB, IntKind.min, IntKind.max, IntKind.signed, IntKind.bits, dstOf, hil, hil'])); (try simp only [wpS_nil, thenD, blockD])); refine hK _ _ _ ?_; clear hK K)
          refine wpD_part rfl (fun h => by simp at h) (fun _ => ?_)
          refine wpD_exit ?_
          refine hK1 _ _ _ ?_
          clear hK1 K1 hK2 K2 hA A
          (refine wpD_seqk fun K hK => ?_; refine wpD_region tyOK ?_; ((try simp only [wpAft_ret, wpAft_pan, putS, updS, setS]); (repeat (rw [wpS_cons]; simp [wpAft_ret, wpAft_pan, wantD, evOp, opD, tmOf, putS, updS, setS, hOf, isFree, isTok, fillD, TK.isAgg, TK.known, partD, thenD, blockD, putAll, D.ofV, inB, binX, binD, binE, isCst, bndD, capB, IntKind.min, IntKind.max, IntKind.signed, IntKind.bits, dstOf])); (try simp only [wpS_nil, thenD, blockD])); refine hK _ _ _ ?_; clear hK K)
          rw [show [D.int .i64 (-9223372036854775808), D.int .i64 (-1), D.int .i64 0, D.int .i64 1, D.int .i64 999, D.int .i64 1000, D.int .i64 1001, D.int .i64 1048575, D.int .i64 1048576, D.int .i64 1048577, D.int .i64 9223372036854775807] = numsL.map (D.int .i64) from rfl]
          have hnl : numsL.length = 11 := rfl
          generalize numsL = ns at hnl
          clear hi hil hil' hwi hsm2 hln2
          refine wpD_seqk fun K1 hK1 => ?_
          (refine wpD_seqk fun K hK => ?_; refine wpD_region tyOK ?_; ((try simp only [wpAft_ret, wpAft_pan, putS, updS, setS]); (repeat (rw [wpS_cons]; simp [wpAft_ret, wpAft_pan, wantD, evOp, opD, tmOf, putS, updS, setS, hOf, isFree, isTok, fillD, TK.isAgg, TK.known, partD, thenD, blockD, putAll, D.ofV, inB, binX, binD, binE, isCst, bndD, capB, IntKind.min, IntKind.max, IntKind.signed, IntKind.bits, dstOf])); (try simp only [wpS_nil, thenD, blockD])); refine hK _ _ _ ?_; clear hK K)
          refine wpD_block ?_
          refine wpD_loopVJ globPure [0, 7, 8, 9, 125, 126, 127, 128, 129, 130, 131, 132, 133, 134, 135, 136, 137, 138, 139, 140, 141, 142, 143, 144, 145, 146, 147, 148, 149, 150, 151, 152, 153, 154, 155, 156, 157, 158, 159, 160, 161, 162, 163, 164, 165, 166, 167, 168, 169, 170, 171, 172, 173, 174, 175, 176, 177, 178, 179, 180, 181, 182, 183, 184, 185, 186, 187, 188, 189, 190, 191, 192, 193, 194, 195, 196, 197, 198, 199] [6] (fun m ys hl => ∃ (i : Nat), ys = [.int .i64 i] ∧ m + i = ns.length ∧ hl = [.dead, .tok]) (ns.length) (by kernel_rfl) ?_ ?_
          · exact ⟨0, rfl, rfl, rfl⟩
          · rintro m ys hl A hA ⟨i, rfl, hi, rfl⟩
            simp only [putAll, List.set, List.map_cons, List.map_nil, List.cons_append, List.nil_append]
            refine wpD_seqk fun K2 hK2 => ?_
            have hwi : IntKind.i64.wrap ((i : Int) + 1) = (i : Int) + 1 := i64w (by omega) (by omega)
            by_cases hil : i < ns.length
            · have hil' : (i : Int) < ns.length := by omega
              obtain ⟨x, hgx⟩ : ∃ x, ns[i] = x := ⟨_, rfl⟩
              (refine wpD_seqk fun K hK => ?_; refine wpD_region tyOK ?_; ((try simp only [wpAft_ret, wpAft_pan, putS, updS, setS]); (repeat (rw [wpS_cons]; simp [wpAft_ret, wpAft_pan, wantD, evOp, opD, tmOf, putS, updS, setS, hOf, isFree, isTok, fillD, TK.isAgg, TK.known, partD, thenD, blockD, putAll, D.ofV, inB, binX, binD, binE, isCst, bndD, capB, IntKind.min, IntKind.max, IntKind.signed, IntKind.bits, dstOf, hil, hil'])); (try simp only [wpS_nil, thenD, blockD])); refine hK _ _ _ ?_; clear hK K)
              refine wpD_part rfl (fun _ => ?_) (fun h => by simp at h)
              refine wpD_skip (hK2 _ _ _ ?_)
              clear hK2 K2
              refine wpD_seqk fun K3 hK3 => ?_
              refine wpD_block ?_
              (refine wpD_seqk fun K hK => ?_; refine wpD_region tyOK ?_; ((try simp only [wpAft_ret, wpAft_pan, putS, updS, setS]); (repeat (rw [wpS_cons]; simp [wpAft_ret, wpAft_pan, wantD, evOp, opD, tmOf, putS, updS, setS, hOf, isFree, isTok, fillD, TK.isAgg, TK.known, partD, thenD, blockD, putAll, D.ofV, inB, binX, binD, binE, isCst, bndD, capB, IntKind.min, IntKind.max, IntKind.signed, IntKind.bits, dstOf])); (try simp only [wpS_nil, thenD, blockD])); refine hK _ _ _ ?_; clear hK K)
              refine wpD_block ?_
              have hA0 := hA
              refine wpD_loopVJ globPure [0, 8, 9, 131, 132, 133, 134, 135, 136, 137, 138, 139, 140, 141, 142, 143, 144, 145, 146, 147, 148, 149, 150, 151, 152, 153, 154, 155, 156, 157, 158, 159, 160, 161, 162, 163, 164, 165, 166, 167, 168, 169, 170, 171, 172, 173, 174, 175, 176, 177, 178, 179, 180, 181, 182, 183, 184, 185, 186, 187, 188, 189, 190, 191, 192, 193, 194, 195, 196, 197, 198, 199] [7] (fun m ys hl => ∃ (k : Nat), ys = [.int .i64 k] ∧ m + k = ns.length ∧ hl = [.dead, .tok]) (ns.length) (by kernel_rfl) ?_ ?_
              · exact ⟨0, rfl, rfl, rfl⟩
              · rintro m2 ys hl Ab hA ⟨k, rfl, hk, rfl⟩
                simp only [putAll, List.set, List.map_cons, List.map_nil, List.cons_append, List.nil_append]
                refine wpD_seqk fun K4 hK4 => ?_
                by_cases hkl : k < ns.length
                · have hkl' : (k : Int) < ns.length := by omega
                  have hwk : IntKind.i64.wrap ((k : Int) + 1) = (k : Int) + 1 := i64w (by omega) (by omega)
                  obtain ⟨y, hgy⟩ : ∃ y, ns[k] = y := ⟨_, rfl⟩
                  have a1 := ofl_spec [1, x, 2, y] (by simp)
                  have a2 := ofl_spec [x, 1, y, 2] (by simp)
                  have o1 := one1_spec [(1, x), (2, y)] [(x, 1), (y, 2)] y (by simp [LMax]) (by simp [LMax])
                  have o2 := one1_spec [(x, 1), (y, 2)] [(1, x), (2, y)] x (by simp [LMax]) (by simp [LMax])
                  have v1 := value_spec [(x, 1), (y, 2)] [x, y] (by simp [LMax]) (by simp [LMax])
                  have v2 := rvalue_spec [(x, 1), (y, 2)] [x, y] (by simp [LMax]) (by simp [LMax])
                  generalize valN [x, y] (normOf [(x, 1), (y, 2)]) = VV at v1 v2
                  simp only [ofL] at a1 a2
                  unfold Ints at a1 a2 v1 v2
                  unfold encL at a1 a2 o1 o2 v1 v2
                  simp only [List.map_cons, List.map_nil] at a1 a2 o1 o2 v1 v2
                  (refine wpD_seqk fun K hK => ?_; refine wpD_region tyOK ?_; ((try simp only [wpAft_ret, wpAft_pan, putS, updS, setS]); (repeat (rw [wpS_cons]; simp [wpAft_ret, wpAft_pan, wantD, evOp, opD, tmOf, putS, updS, setS, hOf, isFree, isTok, fillD, TK.isAgg, TK.known, partD, thenD, blockD, putAll, D.ofV, inB, binX, binD, binE, isCst, bndD, capB, IntKind.min, IntKind.max, IntKind.signed, IntKind.bits, dstOf, hkl, hkl'])); (try simp only [wpS_nil, thenD, blockD])); refine hK _ _ _ ?_; clear hK K)
                  refine wpD_part rfl (fun _ => ?_) (fun h => by simp at h)
                  refine wpD_skip (hK4 _ _ _ ?_)
                  clear hK4 K4
                  refine wpD_seqk fun K5 hK5 => ?_
                  refine wpD_block ?_
                  (refine wpD_seqk fun K hK => ?_; refine wpD_drawk tyOK (by kernel_rfl) (by kernel_rfl) fun KT hKT => ?_; ((try simp only [wpAftT_ret, wpAftT_pan, putS, updS, setS]); (repeat (rw [wpT_cons]; simp [wpAft_ret, wpAft_pan, wantD, evOp, opD, tmOf, putS, updS, setS, hOf, isFree, isTok, fillD, TK.isAgg, TK.known, partD, thenD, blockD, putAll, D.ofV, inB, binX, binD, binE, isCst, bndD, capB, IntKind.min, IntKind.max, IntKind.signed, IntKind.bits, dstOf, late, hil, hil', hkl, hkl', hgx, hgy])); (try simp only [wpT_nil])))
                  refine CallY.pure globPure (a1) ?_ (by simp [D.fgts, D.fgt]) (by simp [D.pures, D.pure, Cp.free, D.pures_map]) (by simp [Out.pure, D.pure, D.pures, Cp.free, D.pures_map])
                  ((try simp only [wpAftT_ret, wpAftT_pan, putS, updS, setS]); (repeat (rw [wpT_cons]; simp [wpAft_ret, wpAft_pan, wantD, evOp, opD, tmOf, putS, updS, setS, hOf, isFree, isTok, fillD, TK.isAgg, TK.known, partD, thenD, blockD, putAll, D.ofV, inB, binX, binD, binE, isCst, bndD, capB, IntKind.min, IntKind.max, IntKind.signed, IntKind.bits, dstOf, late, hil, hil', hkl, hkl', hgx, hgy])); (try simp only [wpT_nil]))
                  refine CallY.pure globPure (a2) ?_ (by simp [D.fgts, D.fgt]) (by simp [D.pures, D.pure, Cp.free, D.pures_map]) (by simp [Out.pure, D.pure, D.pures, Cp.free, D.pures_map])
                  ((try simp only [wpAftT_ret, wpAftT_pan, putS, updS, setS]); (repeat (rw [wpT_cons]; simp [wpAft_ret, wpAft_pan, wantD, evOp, opD, tmOf, putS, updS, setS, hOf, isFree, isTok, fillD, TK.isAgg, TK.known, partD, thenD, blockD, putAll, D.ofV, inB, binX, binD, binE, isCst, bndD, capB, IntKind.min, IntKind.max, IntKind.signed, IntKind.bits, dstOf, late])); (try simp only [wpT_nil]))
                  (refine hKT _ _ _ _ (by kernel_rfl) ?_; clear hKT KT; (try simp only [thenD, blockD]))
                  (refine hK _ _ _ ?_; clear hK K)
                  (refine wpD_seqk fun K hK => ?_; refine wpD_drawk tyOK (by kernel_rfl) (by kernel_rfl) fun KT hKT => ?_; ((try simp only [wpAftT_ret, wpAftT_pan, putS, updS, setS]); (repeat (rw [wpT_cons]; simp [wpAft_ret, wpAft_pan, wantD, evOp, opD, tmOf, putS, updS, setS, hOf, isFree, isTok, fillD, TK.isAgg, TK.known, partD, thenD, blockD, putAll, D.ofV, inB, binX, binD, binE, isCst, bndD, capB, IntKind.min, IntKind.max, IntKind.signed, IntKind.bits, dstOf, late, hil, hil', hkl, hkl', hgx, hgy])); (try simp only [wpT_nil])))
                  refine CallY.pure globPure (o1) ?_ (by simp [D.fgts, D.fgt]) (by simp [D.pures, D.pure, Cp.free, D.pures_map]) (by simp [Out.pure, D.pure, D.pures, Cp.free, D.pures_map])
                  ((try simp only [wpAftT_ret, wpAftT_pan, putS, updS, setS]); (repeat (rw [wpT_cons]; simp [wpAft_ret, wpAft_pan, wantD, evOp, opD, tmOf, putS, updS, setS, hOf, isFree, isTok, fillD, TK.isAgg, TK.known, partD, thenD, blockD, putAll, D.ofV, inB, binX, binD, binE, isCst, bndD, capB, IntKind.min, IntKind.max, IntKind.signed, IntKind.bits, dstOf, late, hil, hil', hkl, hkl', hgx, hgy])); (try simp only [wpT_nil]))
                  refine CallY.pure globPure (o2) ?_ (by simp [D.fgts, D.fgt]) (by simp [D.pures, D.pure, Cp.free, D.pures_map]) (by simp [Out.pure, D.pure, D.pures, Cp.free, D.pures_map])
                  ((try simp only [wpAftT_ret, wpAftT_pan, putS, updS, setS]); (repeat (rw [wpT_cons]; simp [wpAft_ret, wpAft_pan, wantD, evOp, opD, tmOf, putS, updS, setS, hOf, isFree, isTok, fillD, TK.isAgg, TK.known, partD, thenD, blockD, putAll, D.ofV, inB, binX, binD, binE, isCst, bndD, capB, IntKind.min, IntKind.max, IntKind.signed, IntKind.bits, dstOf, late, hil, hil', hkl, hkl', hgx, hgy])); (try simp only [wpT_nil]))
                  refine CallY.pure globPure (v1) ?_ (by simp [D.fgts, D.fgt]) (by simp [D.pures, D.pure, Cp.free, D.pures_map]) (by simp [Out.pure, D.pure, D.pures, Cp.free, D.pures_map])
                  ((try simp only [wpAftT_ret, wpAftT_pan, putS, updS, setS]); (repeat (rw [wpT_cons]; simp [wpAft_ret, wpAft_pan, wantD, evOp, opD, tmOf, putS, updS, setS, hOf, isFree, isTok, fillD, TK.isAgg, TK.known, partD, thenD, blockD, putAll, D.ofV, inB, binX, binD, binE, isCst, bndD, capB, IntKind.min, IntKind.max, IntKind.signed, IntKind.bits, dstOf, late, hil, hil', hkl, hkl', hgx, hgy])); (try simp only [wpT_nil]))
                  refine CallY.pure globPure (v2) ?_ (by simp [D.fgts, D.fgt]) (by simp [D.pures, D.pure, Cp.free, D.pures_map]) (by simp [Out.pure, D.pure, D.pures, Cp.free, D.pures_map])
                  ((try simp only [wpAftT_ret, wpAftT_pan, putS, updS, setS]); (repeat (rw [wpT_cons]; simp [wpAft_ret, wpAft_pan, wantD, evOp, opD, tmOf, putS, updS, setS, hOf, isFree, isTok, fillD, TK.isAgg, TK.known, partD, thenD, blockD, putAll, D.ofV, inB, binX, binD, binE, isCst, bndD, capB, IntKind.min, IntKind.max, IntKind.signed, IntKind.bits, dstOf, late])); (try simp only [wpT_nil]))
                  (refine hKT _ _ _ _ (by kernel_rfl) ?_; clear hKT KT; (try simp only [thenD, blockD]))
                  (refine hK _ _ _ ?_; clear hK K)
                  refine wpD_part rfl (fun h => by simp at h) (fun _ => ?_)
                  refine wpD_skip (hK5 _ _ _ ?_)
                  clear hK5 K5
                  (refine wpD_region tyOK ?_; ((try simp only [wpAft_ret, wpAft_pan, putS, updS, setS]); (repeat (rw [wpS_cons]; simp [wpAft_ret, wpAft_pan, wantD, evOp, opD, tmOf, putS, updS, setS, hOf, isFree, isTok, fillD, TK.isAgg, TK.known, partD, thenD, blockD, putAll, D.ofV, inB, binX, binD, binE, isCst, bndD, capB, IntKind.min, IntKind.max, IntKind.signed, IntKind.bits, dstOf, hwk])); (try simp only [wpS_nil, thenD, blockD])))
                  (refine hA (m2 - 1) _ _ (by omega) (by simp [D.cut, D.low, D.lows, Cp.low, putAll, getW]) ?_)
                  exact ⟨k + 1, rfl, by omega, rfl⟩
                · have hkl' : ¬ (k : Int) < ns.length := by omega
                  (refine wpD_seqk fun K hK => ?_; refine wpD_region tyOK ?_; ((try simp only [wpAft_ret, wpAft_pan, putS, updS, setS]); (repeat (rw [wpS_cons]; simp [wpAft_ret, wpAft_pan, wantD, evOp, opD, tmOf, putS, updS, setS, hOf, isFree, isTok, fillD, TK.isAgg, TK.known, partD, thenD, blockD, putAll, D.ofV, inB, binX, binD, binE, isCst, bndD, capB, IntKind.min, IntKind.max, IntKind.signed, IntKind.bits, dstOf, hkl, hkl'])); (try simp only [wpS_nil, thenD, blockD])); refine hK _ _ _ ?_; clear hK K)
                  refine wpD_part rfl (fun h => by simp at h) (fun _ => ?_)
                  refine wpD_exit ?_
                  refine hK3 _ _ _ ?_
                  clear hK3 K3 hK4 K4 hA Ab
                  have hA := hA0
                  (refine wpD_region tyOK ?_; ((try simp only [wpAft_ret, wpAft_pan, putS, updS, setS]); (repeat (rw [wpS_cons]; simp [wpAft_ret, wpAft_pan, wantD, evOp, opD, tmOf, putS, updS, setS, hOf, isFree, isTok, fillD, TK.isAgg, TK.known, partD, thenD, blockD, putAll, D.ofV, inB, binX, binD, binE, isCst, bndD, capB, IntKind.min, IntKind.max, IntKind.signed, IntKind.bits, dstOf, hwi])); (try simp only [wpS_nil, thenD, blockD])))
                  (refine hA (m - 1) _ _ (by omega) (by simp [D.cut, D.low, D.lows, Cp.low, putAll, getW]) ?_)
                  exact ⟨i + 1, rfl, by omega, rfl⟩
            · have hil' : ¬ (i : Int) < ns.length := by omega
              (refine wpD_seqk fun K hK => ?_; refine wpD_region tyOK ?_; ((try simp only [wpAft_ret, wpAft_pan, putS, updS, setS]); (repeat (rw [wpS_cons]; simp [wpAft_ret, wpAft_pan, wantD, evOp, opD, tmOf, putS, updS, setS, hOf, isFree, isTok, fillD, TK.isAgg, TK.known, partD, thenD, blockD, putAll, D.ofV, inB, binX, binD, binE, isCst, bndD, capB, IntKind.min, IntKind.max, IntKind.signed, IntKind.bits, dstOf, hil, hil'])); (try simp only [wpS_nil, thenD, blockD])); refine hK _ _ _ ?_; clear hK K)
              refine wpD_part rfl (fun h => by simp at h) (fun _ => ?_)
              refine wpD_exit ?_
              refine hK1 _ _ _ ?_
              clear hK1 K1 hK2 K2 hA A hi hil hil' hwi
              (refine wpD_seqk fun K hK => ?_; refine wpD_region tyOK ?_; ((try simp only [wpAft_ret, wpAft_pan, putS, updS, setS]); (repeat (rw [wpS_cons]; simp [wpAft_ret, wpAft_pan, wantD, evOp, opD, tmOf, putS, updS, setS, hOf, isFree, isTok, fillD, TK.isAgg, TK.known, partD, thenD, blockD, putAll, D.ofV, inB, binX, binD, binE, isCst, bndD, capB, IntKind.min, IntKind.max, IntKind.signed, IntKind.bits, dstOf])); (try simp only [wpS_nil, thenD, blockD])); refine hK _ _ _ ?_; clear hK K)
              refine wpD_tokO 2 0 (ty := 24) (ds := [.slice [] .full]) rfl ?_
              simp [D.tokd]
              refine wpD_seqk fun K1 hK1 => ?_
              (refine wpD_seqk fun K hK => ?_; refine wpD_region tyOK ?_; ((try simp only [wpAft_ret, wpAft_pan, putS, updS, setS]); (repeat (rw [wpS_cons]; simp [wpAft_ret, wpAft_pan, wantD, evOp, opD, tmOf, putS, updS, setS, hOf, isFree, isTok, fillD, TK.isAgg, TK.known, partD, thenD, blockD, putAll, D.ofV, inB, binX, binD, binE, isCst, bndD, capB, IntKind.min, IntKind.max, IntKind.signed, IntKind.bits, dstOf])); (try simp only [wpS_nil, thenD, blockD])); refine hK _ _ _ ?_; clear hK K)
              refine wpD_block ?_
              refine wpD_loopMJ globPure [0, 200, 201, 202, 203, 204, 205, 206, 207, 208, 209, 210, 211, 212, 213, 214, 215, 216, 217, 218, 219, 220, 221, 222, 223] [11] (fun n ys hl => ∃ (k : Nat) (es : LV), ys = [.int .i64 k] ∧ n + k = 12 ∧ es.length = k ∧ hl = [.dead, .tok, .cells 24 [.slice (es.map encP) (.tok 3)], .tok]) (12) (by kernel_rfl) ?_ ?_
              · exact ⟨0, [], rfl, rfl, rfl, rfl⟩
              · rintro n ys hl A hA hA2 ⟨k, es, rfl, hk, hes, rfl⟩
                simp only [putAll, List.set, List.map_cons, List.map_nil, List.cons_append, List.nil_append]
                refine wpD_seqk fun K2 hK2 => ?_
                by_cases hkl : k < 12
                · have hkl' : (k : Int) < 12 := by omega
                  have hwk : IntKind.i64.wrap ((k : Int) + 1) = (k : Int) + 1 := i64w (by omega) (by omega)
                  have hel : es.length + 1 ≤ LMax := by unfold LMax; omega
                  have a1 := ofl_spec [1, 0] (by simp)
                  have o1 := one1_spec es [(1, 0)] k (by unfold LMax; omega) (by simp [LMax])
                  have o2 := one1_spec es es 20 (by unfold LMax; omega) (by unfold LMax; omega)
                  simp only [ofL] at a1
                  unfold Ints at a1
                  unfold encL at a1 o1 o2
                  simp only [List.map_cons, List.map_nil] at a1 o1
                  (refine wpD_seqk fun K hK => ?_; refine wpD_region tyOK ?_; ((try simp only [wpAft_ret, wpAft_pan, putS, updS, setS]); (repeat (rw [wpS_cons]; simp [wpAft_ret, wpAft_pan, wantD, evOp, opD, tmOf, putS, updS, setS, hOf, isFree, isTok, fillD, TK.isAgg, TK.known, partD, thenD, blockD, putAll, D.ofV, inB, binX, binD, binE, isCst, bndD, capB, IntKind.min, IntKind.max, IntKind.signed, IntKind.bits, dstOf, hkl, hkl'])); (try simp only [wpS_nil, thenD, blockD])); refine hK _ _ _ ?_; clear hK K)
                  refine wpD_part rfl (fun _ => ?_) (fun h => by simp at h)
                  refine wpD_skip (hK2 _ _ _ ?_)
                  clear hK2 K2
                  refine wpD_seqk fun K3 hK3 => ?_
                  refine wpD_block ?_
                  refine wpD_seqk fun K4 hK4 => ?_
                  (refine wpD_seqk fun K hK => ?_; refine wpD_drawk tyOK (by kernel_rfl) (by kernel_rfl) fun KT hKT => ?_; ((try simp only [wpAftT_ret, wpAftT_pan, putS, updS, setS]); (repeat (rw [wpT_cons]; simp [wpAft_ret, wpAft_pan, wantD, evOp, opD, tmOf, putS, updS, setS, hOf, isFree, isTok, fillD, TK.isAgg, TK.known, partD, thenD, blockD, putAll, D.ofV, inB, binX, binD, binE, isCst, bndD, capB, IntKind.min, IntKind.max, IntKind.signed, IntKind.bits, dstOf, late])); (try simp only [wpT_nil])))
                  refine CallY.pure globPure (a1) ?_ (by simp [D.fgts, D.fgt]) (by simp [D.pures, D.pure, Cp.free, D.pures_map]) (by simp [Out.pure, D.pure, D.pures, Cp.free, D.pures_map])
                  ((try simp only [wpAftT_ret, wpAftT_pan, putS, updS, setS]); (repeat (rw [wpT_cons]; simp [wpAft_ret, wpAft_pan, wantD, evOp, opD, tmOf, putS, updS, setS, hOf, isFree, isTok, fillD, TK.isAgg, TK.known, partD, thenD, blockD, putAll, D.ofV, inB, binX, binD, binE, isCst, bndD, capB, IntKind.min, IntKind.max, IntKind.signed, IntKind.bits, dstOf, late])); (try simp only [wpT_nil]))
                  refine CallY.pure globPure (o1) ?_ (by simp [D.fgts, D.fgt]) (by simp [D.pures, D.pure, Cp.free, D.pures_map]) (by simp [Out.pure, D.pure, D.pures, Cp.free, D.pures_map])
                  ((try simp only [wpAftT_ret, wpAftT_pan, putS, updS, setS]); (repeat (rw [wpT_cons]; simp [wpAft_ret, wpAft_pan, wantD, evOp, opD, tmOf, putS, updS, setS, hOf, isFree, isTok, fillD, TK.isAgg, TK.known, partD, thenD, blockD, putAll, D.ofV, inB, binX, binD, binE, isCst, bndD, capB, IntKind.min, IntKind.max, IntKind.signed, IntKind.bits, dstOf, late])); (try simp only [wpT_nil]))
                  refine CallY.pure globPure (o2) ?_ (by simp [D.fgts, D.fgt]) (by simp [D.pures, D.pure, Cp.free, D.pures_map]) (by simp [Out.pure, D.pure, D.pures, Cp.free, D.pures_map])
                  ((try simp only [wpAftT_ret, wpAftT_pan, putS, updS, setS]); (repeat (rw [wpT_cons]; simp [wpAft_ret, wpAft_pan, wantD, evOp, opD, tmOf, putS, updS, setS, hOf, isFree, isTok, fillD, TK.isAgg, TK.known, partD, thenD, blockD, putAll, D.ofV, inB, binX, binD, binE, isCst, bndD, capB, IntKind.min, IntKind.max, IntKind.signed, IntKind.bits, dstOf, late])); (try simp only [wpT_nil]))
                  (refine hKT _ _ _ _ (by kernel_rfl) ?_; clear hKT KT; (try simp only [thenD, blockD]))
                  (refine hK _ _ _ ?_; clear hK K)
                  refine wpD_part rfl (fun h => by simp at h) (fun _ => ?_)
                  refine wpD_skip (hK4 _ _ _ ?_)
                  clear hK4 K4
                  (refine wpD_region tyOK ?_; ((try simp only [wpAft_ret, wpAft_pan, putS, updS, setS]); (repeat (rw [wpS_cons]; simp [wpAft_ret, wpAft_pan, wantD, evOp, opD, tmOf, putS, updS, setS, hOf, isFree, isTok, fillD, TK.isAgg, TK.known, partD, thenD, blockD, putAll, D.ofV, inB, binX, binD, binE, isCst, bndD, capB, IntKind.min, IntKind.max, IntKind.signed, IntKind.bits, dstOf, hel])); (try simp only [wpS_nil, thenD, blockD])))
                  refine hK3 _ _ _ ?_
                  clear hK3 K3
                  (refine wpD_region tyOK ?_; ((try simp only [wpAft_ret, wpAft_pan, putS, updS, setS]); (repeat (rw [wpS_cons]; simp [wpAft_ret, wpAft_pan, wantD, evOp, opD, tmOf, putS, updS, setS, hOf, isFree, isTok, fillD, TK.isAgg, TK.known, partD, thenD, blockD, putAll, D.ofV, inB, binX, binD, binE, isCst, bndD, capB, IntKind.min, IntKind.max, IntKind.signed, IntKind.bits, dstOf, hwk])); (try simp only [wpS_nil, thenD, blockD])))
                  (refine hA2 ([0, 1, 2, 4]) (n - 1) _ _ (by decide) (by simp) (by omega) (by simp [movT, movH, movD, D.mov, HO.mov, okM, renM, getW, D.ren, D.rens, D.okN, D.okNs, Cp.ren, Cp.okN, HO.ren, HO.okN, okA, renA, renO, hOf, handed, D.fgt, D.fgts, List.range_succ, List.idxOf_cons, putAll]) ?_; simp [movT, movH, movD, D.mov, HO.mov, okM, renM, getW, D.ren, D.rens, D.okN, D.okNs, Cp.ren, Cp.okN, HO.ren, HO.okN, okA, renA, renO, hOf, handed, D.fgt, D.fgts, List.range_succ, List.idxOf_cons])
                  first
                    | refine ⟨k + 1, by omega, by omega, es ++ [((k : Int), (k : Int))], by simp [hes], ?_⟩
                    | refine ⟨k + 1, ⟨by omega, by omega⟩, es ++ [((k : Int), (k : Int))], by simp [hes], ?_⟩
                    | refine ⟨k + 1, es ++ [((k : Int), (k : Int))], by omega, by omega, by simp [hes], ?_⟩
                    | refine ⟨by omega, es ++ [((k : Int), (k : Int))], by simp [hes], ?_⟩
                  rw [show es.map encP ++ [D.agg [.int .i64 (k : Int), .int .i64 (k : Int)]] = (es ++ [((k : Int), (k : Int))]).map encP by simp [encP], mapP_ren]
                · have hkl' : ¬ (k : Int) < 12 := by omega
                  (refine wpD_seqk fun K hK => ?_; refine wpD_region tyOK ?_; ((try simp only [wpAft_ret, wpAft_pan, putS, updS, setS]); (repeat (rw [wpS_cons]; simp [wpAft_ret, wpAft_pan, wantD, evOp, opD, tmOf, putS, updS, setS, hOf, isFree, isTok, fillD, TK.isAgg, TK.known, partD, thenD, blockD, putAll, D.ofV, inB, binX, binD, binE, isCst, bndD, capB, IntKind.min, IntKind.max, IntKind.signed, IntKind.bits, dstOf, hkl, hkl'])); (try simp only [wpS_nil, thenD, blockD])); refine hK _ _ _ ?_; clear hK K)
                  refine wpD_part rfl (fun h => by simp at h) (fun _ => ?_)
                  refine wpD_exit ?_
                  refine hK1 _ _ _ ?_
                  clear hK1 K1 hK2 K2 hA hA2 A
                  (refine wpD_seqk fun K hK => ?_; refine wpD_region tyOK ?_; ((try simp only [wpAft_ret, wpAft_pan, putS, updS, setS]); (repeat (rw [wpS_cons]; simp [wpAft_ret, wpAft_pan, wantD, evOp, opD, tmOf, putS, updS, setS, hOf, isFree, isTok, fillD, TK.isAgg, TK.known, partD, thenD, blockD, putAll, D.ofV, inB, binX, binD, binE, isCst, bndD, capB, IntKind.min, IntKind.max, IntKind.signed, IntKind.bits, dstOf])); (try simp only [wpS_nil, thenD, blockD])))
                  refine CallX.pure globPure (awake_spec) ?_ (by simp [D.fgts, D.fgt]) (by simp [D.pures, D.pure, Cp.free, D.pures_map]) (by simp [Out.pure, D.pure, D.pures, Cp.free, D.pures_map])
                  ((try simp only [wpAft_ret, wpAft_pan, putS, updS, setS]); (repeat (rw [wpS_cons]; simp [wpAft_ret, wpAft_pan, wantD, evOp, opD, tmOf, putS, updS, setS, hOf, isFree, isTok, fillD, TK.isAgg, TK.known, partD, thenD, blockD, putAll, D.ofV, inB, binX, binD, binE, isCst, bndD, capB, IntKind.min, IntKind.max, IntKind.signed, IntKind.bits, dstOf])); (try simp only [wpS_nil, thenD, blockD]))
                  (refine hK _ _ _ ?_; clear hK K)
                  (refine wpD_ret ?_; (try simp only [thenD, blockD]); refine EndQ.ret rfl (.inl ?_); simp [tmOf, Out.fgt, D.fgt, D.fgts])
end Go.Proofs.Ytbjgdeednmhpfaa
