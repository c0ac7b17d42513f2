/-
  level: normal forms, on data.
-/
import Derived.Test.YtbjgdeednmhpfaaLsort
set_option linter.unusedSimpArgs false
set_option linter.unusedVariables false
set_option maxHeartbeats 10000000
set_option maxRecDepth 20000
namespace Go.Proofs.Ytbjgdeednmhpfaa
open Go.RowKit

theorem keys_spec (es : List (D × D)) : Spec Try.prog glob 55 [.map 0] [.mp es] (fun o hc => o = .ret (.fn (.func 60) [] [.box 1 0]) ∧ hc = [.mp es, .cells 46 [.map 0]]) := by
  refine Spec.movd globPure (wpD_spec tyOK Try.func55 rfl (enters _ _ Try.func55 rfl (by decide)) rfl rfl ?_)
  (refine wpD_seqk fun K hK => ?_; refine wpD_region tyOK ?_; ((try simp only [wpAft_ret, wpAft_pan, putS, updS, setS]); (repeat (rw [wpS_cons]; simp [wpAft_ret, wpAft_pan, wantD, evOp, opD, tmOf, putS, updS, setS, hOf, isFree, isTok, fillD, TK.isAgg, TK.known, partD, thenD, blockD, putAll, D.ofV, inB, binX, binD, binE, isCst, bndD, capB, IntKind.min, IntKind.max, IntKind.signed, IntKind.bits, dstOf])); (try simp only [wpS_nil, thenD, blockD])); refine hK _ _ _ ?_; clear hK K)
  (refine wpD_seqk fun K hK => ?_; refine wpD_region tyOK ?_; ((try simp only [wpAft_ret, wpAft_pan, putS, updS, setS]); (repeat (rw [wpS_cons]; simp [wpAft_ret, wpAft_pan, wantD, evOp, opD, tmOf, putS, updS, setS, hOf, isFree, isTok, fillD, TK.isAgg, TK.known, partD, thenD, blockD, putAll, D.ofV, inB, binX, binD, binE, isCst, bndD, capB, IntKind.min, IntKind.max, IntKind.signed, IntKind.bits, dstOf])); (try simp only [wpS_nil, thenD, blockD])); refine hK _ _ _ ?_; clear hK K)
  (refine wpD_ret ?_; (try simp only [thenD, blockD]); refine EndQ.ret rfl (.inl ?_); simp [tmOf, Out.fgt, D.fgt, D.fgts])

/-- is a variable's part in the normal form? -/
def keepM (m : MP) (v : Int) : Option (Int × Int) :=
  if 0 < v ∨ (0 < (findM m v).getD 0 ∧ hiddenM m ((findM m v).getD 0) = false) then some (v, (findM m v).getD 0) else none
def levM (m : MP) : LV := (sortK m).filterMap (keepM m)

theorem sortK_len (m : MP) : (sortK m).length = m.length := by unfold sortK; rw [List.length_mergeSort, List.length_map]
theorem levM_len (m : MP) : (levM m).length ≤ m.length := by
  have := List.length_filterMap_le (keepM m) (sortK m)
  rw [sortK_len] at this
  exact this

theorem level_spec (m : MP) (hm : MOK m) : Spec Try.prog glob 46 [.agg [.map 0]] [.mp (encM m)] (fun o hc => o = .ret (.agg [.own 1 (levM m).length]) ∧ hc = [.mp (encM m), .row 2 ((levM m).map encP)]) := by
  have hml := hm.len
  have hsl := sortK_len m
  refine Spec.movd globPure (wpD_spec tyOK Try.func46 rfl (enters _ _ Try.func46 rfl (by decide)) rfl rfl ?_)
  (refine wpD_seqk fun K hK => ?_; refine wpD_region tyOK ?_; ((try simp only [wpAft_ret, wpAft_pan, putS, updS, setS]); (repeat (rw [wpS_cons]; simp [wpAft_ret, wpAft_pan, wantD, evOp, opD, tmOf, putS, updS, setS, hOf, isFree, isTok, fillD, TK.isAgg, TK.known, partD, thenD, blockD, putAll, D.ofV, inB, binX, binD, binE, isCst, bndD, capB, IntKind.min, IntKind.max, IntKind.signed, IntKind.bits, dstOf])); (try simp only [wpS_nil, thenD, blockD])); refine hK _ _ _ ?_; clear hK K)
  refine wpD_ownO 2 0 2 (ty := 24) (ds := [.slice [] .full]) rfl ?_
  simp [D.ownd]
  refine wpD_seqk fun K1 hK1 => ?_
  (refine wpD_seqk fun K hK => ?_; refine wpD_region tyOK ?_; ((try simp only [wpAft_ret, wpAft_pan, putS, updS, setS]); (repeat (rw [wpS_cons]; simp [wpAft_ret, wpAft_pan, wantD, evOp, opD, tmOf, putS, updS, setS, hOf, isFree, isTok, fillD, TK.isAgg, TK.known, partD, thenD, blockD, putAll, D.ofV, inB, binX, binD, binE, isCst, bndD, capB, IntKind.min, IntKind.max, IntKind.signed, IntKind.bits, dstOf])); (try simp only [wpS_nil, thenD, blockD])))
  refine CallX.objs globPure [0] true (keys_spec (encM m)) ?_ (by rintro o hc ⟨_, rfl⟩; simp) (by decide) (by simp) (by simp [D.ren, D.rens, D.okN, D.okNs, Cp.ren, Cp.okN, HO.ren, HO.okN, okA, renA, renO, hOf, handed, D.fgt, D.fgts, List.range_succ, List.idxOf_cons]) (by simp [D.ren, D.rens, D.okN, D.okNs, Cp.ren, Cp.okN, HO.ren, HO.okN, okA, renA, renO, hOf, handed, D.fgt, D.fgts, List.range_succ, List.idxOf_cons]) (by simp [D.ren, D.rens, D.okN, D.okNs, Cp.ren, Cp.okN, HO.ren, HO.okN, okA, renA, renO, hOf, handed, D.fgt, D.fgts, List.range_succ, List.idxOf_cons]) (by simp [D.ren, D.rens, D.okN, D.okNs, Cp.ren, Cp.okN, HO.ren, HO.okN, okA, renA, renO, hOf, handed, D.fgt, D.fgts, List.range_succ, List.idxOf_cons])
  (rintro o hc ⟨rfl, rfl⟩; refine ⟨false, ?_⟩; simp [D.ren, D.rens, D.okN, D.okNs, Cp.ren, Cp.okN, HO.ren, HO.okN, okA, renA, renO, hOf, handed, D.fgt, D.fgts, List.range_succ, List.idxOf_cons, Out.ren, told, Out.fgt, upO, updS, setS])
  ((try simp only [wpAft_ret, wpAft_pan, putS, updS, setS]); (repeat (rw [wpS_cons]; simp [wpAft_ret, wpAft_pan, wantD, evOp, opD, tmOf, putS, updS, setS, hOf, isFree, isTok, fillD, TK.isAgg, TK.known, partD, thenD, blockD, putAll, D.ofV, inB, binX, binD, binE, isCst, bndD, capB, IntKind.min, IntKind.max, IntKind.signed, IntKind.bits, dstOf])); (try simp only [wpS_nil, thenD, blockD]))
  refine CallX.objs globPure [0, 4] true (sorted_spec m hm) ?_ (by rintro o hc ⟨_, rfl⟩; simp) (by decide) (by simp) (by simp [D.ren, D.rens, D.okN, D.okNs, Cp.ren, Cp.okN, HO.ren, HO.okN, okA, renA, renO, hOf, handed, D.fgt, D.fgts, List.range_succ, List.idxOf_cons]) (by simp [D.ren, D.rens, D.okN, D.okNs, Cp.ren, Cp.okN, HO.ren, HO.okN, okA, renA, renO, hOf, handed, D.fgt, D.fgts, List.range_succ, List.idxOf_cons]) (by simp [D.ren, D.rens, D.okN, D.okNs, Cp.ren, Cp.okN, HO.ren, HO.okN, okA, renA, renO, hOf, handed, D.fgt, D.fgts, List.range_succ, List.idxOf_cons]) (by simp [D.ren, D.rens, D.okN, D.okNs, Cp.ren, Cp.okN, HO.ren, HO.okN, okA, renA, renO, hOf, handed, D.fgt, D.fgts, List.range_succ, List.idxOf_cons])
  (rintro o hc ⟨ho, rfl⟩; refine ⟨true, ?_⟩; rw [show told true o = _ from ho]; clear ho; simp [D.ren, D.rens, D.okN, D.okNs, Cp.ren, Cp.okN, HO.ren, HO.okN, okA, renA, renO, hOf, handed, D.fgt, D.fgts, List.range_succ, List.idxOf_cons, Out.ren, told, Out.fgt, upO, updS, setS, Ints])
  ((try simp only [wpAft_ret, wpAft_pan, putS, updS, setS]); (repeat (rw [wpS_cons]; simp [wpAft_ret, wpAft_pan, wantD, evOp, opD, tmOf, putS, updS, setS, hOf, isFree, isTok, fillD, TK.isAgg, TK.known, partD, thenD, blockD, putAll, D.ofV, inB, binX, binD, binE, isCst, bndD, capB, IntKind.min, IntKind.max, IntKind.signed, IntKind.bits, dstOf])); (try simp only [wpS_nil, thenD, blockD]))
  (refine hK _ _ _ ?_; clear hK K)
  refine wpD_range tyOK globPure (ti := 3) (tk := 12) (tn := 11) (td := 13) (ts := 41) [4, 5, 12, 13, 14, 15, 16, 17, 18, 19, 20, 21, 22, 23, 24, 25, 26, 27, 28, 29, 30, 31, 32, 33, 34, 35, 36, 37, 38, 39, 40, 41] ((sortK m).length) (fun k ys hl => ∃  (x4 x5 x12 x13 x14 x15 x16 x17 x18 x19 x20 x21 x22 x23 x24 x25 x26 x27 x28 x29 x30 x31 x32 x33 x34 x35 x36 x37 x38 x39 x40 x41 : D), ys = [x4, x5, x12, x13, x14, x15, x16, x17, x18, x19, x20, x21, x22, x23, x24, x25, x26, x27, x28, x29, x30, x31, x32, x33, x34, x35, x36, x37, x38, x39, x40, x41] ∧ hl = [.mp (encM m), .cells 50 [.map 0], .cells 24 [.own 3 (((sortK m).take k).filterMap (keepM m)).length], .row 2 ((((sortK m).take k).filterMap (keepM m)).map encP), .cells 46 [.map 0]]) rfl rfl rfl rfl rfl rfl rfl rfl rfl rfl rfl rfl (by simp) (by decide) rfl (by first | assumption | omega | (unfold LMax; omega)) rfl (by kernel_rfl) (by decide) ?_ ?_ ?_
  · exact ⟨_, _, _, _, _, _, _, _, _, _, _, _, _, _, _, _, _, _, _, _, _, _, _, _, _, _, _, _, _, _, _, _, rfl, rfl⟩
  · rintro k ys hl A hk ⟨x4, x5, x12, x13, x14, x15, x16, x17, x18, x19, x20, x21, x22, x23, x24, x25, x26, x27, x28, x29, x30, x31, x32, x33, x34, x35, x36, x37, x38, x39, x40, x41, rfl, rfl⟩ hA hA2
    simp only [putAll, List.set]
    have htk : (sortK m).take (k + 1) = (sortK m).take k ++ [(sortK m)[k]] := List.take_succ_eq_append_getElem hk
    generalize hes : ((sortK m).take k).filterMap (keepM m) = es
    have hel : es.length + 1 ≤ LMax := by
      have h1 := List.length_filterMap_le (keepM m) ((sortK m).take k)
      rw [hes, List.length_take] at h1
      unfold LMax; omega
    have hnx : ((sortK m).take (k + 1)).filterMap (keepM m) = es ++ (keepM m (sortK m)[k]).toList := by
      rw [htk, List.filterMap_append, hes]
      cases hq : keepM m (sortK m)[k] <;> simp [hq]
    obtain ⟨v, hv⟩ : ∃ v, v = (sortK m)[k] := ⟨_, rfl⟩
    have hvm : v ∈ m.map (·.1) := by
      rw [hv]; exact (List.mergeSort_perm _ _).mem_iff.1 (List.getElem_mem hk)
    obtain ⟨n, hn⟩ : ∃ n, findM m v = some n := by
      cases hq : findM m v with
      | some n => exact ⟨n, rfl⟩
      | none => exact absurd hvm (findM_none hq)
    have e1 := encM_all m
    have e2 := encM_find v m
    (refine wpD_seqk fun K hK => ?_; refine wpD_region tyOK ?_; ((try simp only [wpAft_ret, wpAft_pan, putS, updS, setS]); (repeat (rw [wpS_cons]; simp [wpAft_ret, wpAft_pan, wantD, evOp, opD, tmOf, putS, updS, setS, hOf, isFree, isTok, fillD, TK.isAgg, TK.known, partD, thenD, blockD, putAll, D.ofV, inB, binX, binD, binE, isCst, bndD, capB, IntKind.min, IntKind.max, IntKind.signed, IntKind.bits, dstOf, hk, ← hv])); (try simp only [wpS_nil, thenD, blockD])); refine hK _ _ _ ?_; clear hK K)
    (refine wpD_seqk fun K hK => ?_; refine wpD_region tyOK ?_; ((try simp only [wpAft_ret, wpAft_pan, putS, updS, setS]); (repeat (rw [wpS_cons]; simp [wpAft_ret, wpAft_pan, wantD, evOp, opD, tmOf, putS, updS, setS, hOf, isFree, isTok, fillD, TK.isAgg, TK.known, partD, thenD, blockD, putAll, D.ofV, inB, binX, binD, binE, isCst, bndD, capB, IntKind.min, IntKind.max, IntKind.signed, IntKind.bits, dstOf, e1, e2, hn])); (try simp only [wpS_nil, thenD, blockD])); refine hK _ _ _ ?_; clear hK K)
    rw [← hv] at hnx
    have hpush : List.map encP es ++ [D.agg [.int .i64 v, .int .i64 n]] = (es ++ [(v, n)]).map encP := by simp [encP]
    by_cases h1 : 0 < v
    · have hkp : keepM m v = some (v, n) := by simp [keepM, h1, hn]
      rw [hkp] at hnx
      (refine wpD_seqk fun K hK => ?_; refine wpD_region tyOK ?_; ((try simp only [wpAft_ret, wpAft_pan, putS, updS, setS]); (repeat (rw [wpS_cons]; simp [wpAft_ret, wpAft_pan, wantD, evOp, opD, tmOf, putS, updS, setS, hOf, isFree, isTok, fillD, TK.isAgg, TK.known, partD, thenD, blockD, putAll, D.ofV, inB, binX, binD, binE, isCst, bndD, capB, IntKind.min, IntKind.max, IntKind.signed, IntKind.bits, dstOf, h1])); (try simp only [wpS_nil, thenD, blockD])); refine hK _ _ _ ?_; clear hK K)
      refine wpD_part rfl (fun _ => ?_) (fun h => by simp at h)
      (refine wpD_region tyOK ?_; ((try simp only [wpAft_ret, wpAft_pan, putS, updS, setS]); (repeat (rw [wpS_cons]; simp [wpAft_ret, wpAft_pan, wantD, evOp, opD, tmOf, putS, updS, setS, hOf, isFree, isTok, fillD, TK.isAgg, TK.known, partD, thenD, blockD, putAll, D.ofV, inB, binX, binD, binE, isCst, bndD, capB, IntKind.min, IntKind.max, IntKind.signed, IntKind.bits, dstOf, hel])); (try simp only [wpS_nil, thenD, blockD])))
      rw [hpush]
      (refine hA2 ([1, 2, 5, 4]) _ _ (by decide) (by simp) (by simp [movT, movH, movD, D.mov, HO.mov, okM, renM, getW, D.ren, D.rens, D.okN, D.okNs, Cp.ren, Cp.okN, HO.ren, HO.okN, okA, renA, renO, hOf, handed, D.fgt, D.fgts, List.range_succ, List.idxOf_cons, putAll]) ?_ rfl; simp [movT, movH, movD, D.mov, HO.mov, okM, renM, getW, D.ren, D.rens, D.okN, D.okNs, Cp.ren, Cp.okN, HO.ren, HO.okN, okA, renA, renO, hOf, handed, D.fgt, D.fgts, List.range_succ, List.idxOf_cons])
      rw [hnx]
      simp
    · by_cases h2 : 0 < n
      · cases h3 : hiddenM m n with
        | true =>
          have hkp : keepM m v = none := by simp [keepM, h1, hn, h3]
          rw [hkp] at hnx
          (refine wpD_seqk fun K hK => ?_; refine wpD_region tyOK ?_; ((try simp only [wpAft_ret, wpAft_pan, putS, updS, setS]); (repeat (rw [wpS_cons]; simp [wpAft_ret, wpAft_pan, wantD, evOp, opD, tmOf, putS, updS, setS, hOf, isFree, isTok, fillD, TK.isAgg, TK.known, partD, thenD, blockD, putAll, D.ofV, inB, binX, binD, binE, isCst, bndD, capB, IntKind.min, IntKind.max, IntKind.signed, IntKind.bits, dstOf, h1, h2])); (try simp only [wpS_nil, thenD, blockD])))
          refine CallX.objs globPure [0] true (hidden_spec m n) ?_ (by rintro o hc ⟨_, rfl⟩; simp) (by decide) (by simp) (by simp [D.ren, D.rens, D.okN, D.okNs, Cp.ren, Cp.okN, HO.ren, HO.okN, okA, renA, renO, hOf, handed, D.fgt, D.fgts, List.range_succ, List.idxOf_cons]) (by simp [D.ren, D.rens, D.okN, D.okNs, Cp.ren, Cp.okN, HO.ren, HO.okN, okA, renA, renO, hOf, handed, D.fgt, D.fgts, List.range_succ, List.idxOf_cons]) (by simp [D.ren, D.rens, D.okN, D.okNs, Cp.ren, Cp.okN, HO.ren, HO.okN, okA, renA, renO, hOf, handed, D.fgt, D.fgts, List.range_succ, List.idxOf_cons]) (by simp [D.ren, D.rens, D.okN, D.okNs, Cp.ren, Cp.okN, HO.ren, HO.okN, okA, renA, renO, hOf, handed, D.fgt, D.fgts, List.range_succ, List.idxOf_cons])
          (rintro o hc ⟨ho, rfl⟩; refine ⟨true, ?_⟩; rw [show told true o = _ from ho]; clear ho; simp [D.ren, D.rens, D.okN, D.okNs, Cp.ren, Cp.okN, HO.ren, HO.okN, okA, renA, renO, hOf, handed, D.fgt, D.fgts, List.range_succ, List.idxOf_cons, Out.ren, told, Out.fgt, upO, updS, setS])
          ((try simp only [wpAft_ret, wpAft_pan, putS, updS, setS]); (repeat (rw [wpS_cons]; simp [wpAft_ret, wpAft_pan, wantD, evOp, opD, tmOf, putS, updS, setS, hOf, isFree, isTok, fillD, TK.isAgg, TK.known, partD, thenD, blockD, putAll, D.ofV, inB, binX, binD, binE, isCst, bndD, capB, IntKind.min, IntKind.max, IntKind.signed, IntKind.bits, dstOf, h3])); (try simp only [wpS_nil, thenD, blockD]))
          (refine hK _ _ _ ?_; clear hK K)
          refine wpD_part rfl (fun h => by simp at h) (fun _ => ?_)
          refine wpD_skip ?_
          (refine hA _ _ (by kernel_rfl) ?_ rfl; simp only [getW, List.map_cons, List.map_nil])
          exact ⟨_, _, _, _, _, _, _, _, _, _, _, _, _, _, _, _, _, _, _, _, _, _, _, _, _, _, _, _, _, _, _, _, rfl, by rw [hnx]; simp⟩
        | false =>
          have hkp : keepM m v = some (v, n) := by simp [keepM, h1, hn, h2, h3]
          rw [hkp] at hnx
          (refine wpD_seqk fun K hK => ?_; refine wpD_region tyOK ?_; ((try simp only [wpAft_ret, wpAft_pan, putS, updS, setS]); (repeat (rw [wpS_cons]; simp [wpAft_ret, wpAft_pan, wantD, evOp, opD, tmOf, putS, updS, setS, hOf, isFree, isTok, fillD, TK.isAgg, TK.known, partD, thenD, blockD, putAll, D.ofV, inB, binX, binD, binE, isCst, bndD, capB, IntKind.min, IntKind.max, IntKind.signed, IntKind.bits, dstOf, h1, h2])); (try simp only [wpS_nil, thenD, blockD])))
          refine CallX.objs globPure [0] true (hidden_spec m n) ?_ (by rintro o hc ⟨_, rfl⟩; simp) (by decide) (by simp) (by simp [D.ren, D.rens, D.okN, D.okNs, Cp.ren, Cp.okN, HO.ren, HO.okN, okA, renA, renO, hOf, handed, D.fgt, D.fgts, List.range_succ, List.idxOf_cons]) (by simp [D.ren, D.rens, D.okN, D.okNs, Cp.ren, Cp.okN, HO.ren, HO.okN, okA, renA, renO, hOf, handed, D.fgt, D.fgts, List.range_succ, List.idxOf_cons]) (by simp [D.ren, D.rens, D.okN, D.okNs, Cp.ren, Cp.okN, HO.ren, HO.okN, okA, renA, renO, hOf, handed, D.fgt, D.fgts, List.range_succ, List.idxOf_cons]) (by simp [D.ren, D.rens, D.okN, D.okNs, Cp.ren, Cp.okN, HO.ren, HO.okN, okA, renA, renO, hOf, handed, D.fgt, D.fgts, List.range_succ, List.idxOf_cons])
          (rintro o hc ⟨ho, rfl⟩; refine ⟨true, ?_⟩; rw [show told true o = _ from ho]; clear ho; simp [D.ren, D.rens, D.okN, D.okNs, Cp.ren, Cp.okN, HO.ren, HO.okN, okA, renA, renO, hOf, handed, D.fgt, D.fgts, List.range_succ, List.idxOf_cons, Out.ren, told, Out.fgt, upO, updS, setS])
          ((try simp only [wpAft_ret, wpAft_pan, putS, updS, setS]); (repeat (rw [wpS_cons]; simp [wpAft_ret, wpAft_pan, wantD, evOp, opD, tmOf, putS, updS, setS, hOf, isFree, isTok, fillD, TK.isAgg, TK.known, partD, thenD, blockD, putAll, D.ofV, inB, binX, binD, binE, isCst, bndD, capB, IntKind.min, IntKind.max, IntKind.signed, IntKind.bits, dstOf, h3])); (try simp only [wpS_nil, thenD, blockD]))
          (refine hK _ _ _ ?_; clear hK K)
          refine wpD_part rfl (fun _ => ?_) (fun h => by simp at h)
          (refine wpD_region tyOK ?_; ((try simp only [wpAft_ret, wpAft_pan, putS, updS, setS]); (repeat (rw [wpS_cons]; simp [wpAft_ret, wpAft_pan, wantD, evOp, opD, tmOf, putS, updS, setS, hOf, isFree, isTok, fillD, TK.isAgg, TK.known, partD, thenD, blockD, putAll, D.ofV, inB, binX, binD, binE, isCst, bndD, capB, IntKind.min, IntKind.max, IntKind.signed, IntKind.bits, dstOf, hel])); (try simp only [wpS_nil, thenD, blockD])))
          rw [hpush]
          (refine hA2 ([1, 2, 5, 4]) _ _ (by decide) (by simp) (by simp [movT, movH, movD, D.mov, HO.mov, okM, renM, getW, D.ren, D.rens, D.okN, D.okNs, Cp.ren, Cp.okN, HO.ren, HO.okN, okA, renA, renO, hOf, handed, D.fgt, D.fgts, List.range_succ, List.idxOf_cons, putAll]) ?_ rfl; simp [movT, movH, movD, D.mov, HO.mov, okM, renM, getW, D.ren, D.rens, D.okN, D.okNs, Cp.ren, Cp.okN, HO.ren, HO.okN, okA, renA, renO, hOf, handed, D.fgt, D.fgts, List.range_succ, List.idxOf_cons])
          rw [hnx]
          simp
      · have hkp : keepM m v = none := by simp [keepM, h1, hn, h2]
        rw [hkp] at hnx
        (refine wpD_seqk fun K hK => ?_; refine wpD_region tyOK ?_; ((try simp only [wpAft_ret, wpAft_pan, putS, updS, setS]); (repeat (rw [wpS_cons]; simp [wpAft_ret, wpAft_pan, wantD, evOp, opD, tmOf, putS, updS, setS, hOf, isFree, isTok, fillD, TK.isAgg, TK.known, partD, thenD, blockD, putAll, D.ofV, inB, binX, binD, binE, isCst, bndD, capB, IntKind.min, IntKind.max, IntKind.signed, IntKind.bits, dstOf, h1, h2])); (try simp only [wpS_nil, thenD, blockD])); refine hK _ _ _ ?_; clear hK K)
        refine wpD_part rfl (fun h => by simp at h) (fun _ => ?_)
        refine wpD_skip ?_
        (refine hA _ _ (by kernel_rfl) ?_ rfl; simp only [getW, List.map_cons, List.map_nil])
        exact ⟨_, _, _, _, _, _, _, _, _, _, _, _, _, _, _, _, _, _, _, _, _, _, _, _, _, _, _, _, _, _, _, _, rfl, by rw [hnx]; simp⟩
  · rintro ys hl ⟨x4, x5, x12, x13, x14, x15, x16, x17, x18, x19, x20, x21, x22, x23, x24, x25, x26, x27, x28, x29, x30, x31, x32, x33, x34, x35, x36, x37, x38, x39, x40, x41, rfl, rfl⟩
    simp only [putAll, List.set]
    refine hK1 _ _ _ ?_
    clear hK1 K1
    have htk : ((sortK m).take (sortK m).length).filterMap (keepM m) = levM m := by rw [List.take_length]; rfl
    rw [htk]
    (refine wpD_seqk fun K hK => ?_; refine wpD_region tyOK ?_; ((try simp only [wpAft_ret, wpAft_pan, putS, updS, setS]); (repeat (rw [wpS_cons]; simp [wpAft_ret, wpAft_pan, wantD, evOp, opD, tmOf, putS, updS, setS, hOf, isFree, isTok, fillD, TK.isAgg, TK.known, partD, thenD, blockD, putAll, D.ofV, inB, binX, binD, binE, isCst, bndD, capB, IntKind.min, IntKind.max, IntKind.signed, IntKind.bits, dstOf])); (try simp only [wpS_nil, thenD, blockD])); refine hK _ _ _ ?_; clear hK K)
    (refine wpD_ret ?_; (try simp only [thenD, blockD]); refine EndQ.ret rfl (.inr ⟨[3], by decide, by simp, ?_⟩); simp [Out.mov, movT, movH, movD, D.mov, HO.mov, okM, renM, getW, D.ren, D.rens, D.okN, D.okNs, Cp.ren, Cp.okN, HO.ren, HO.okN, okA, renA, renO, hOf, handed, D.fgt, D.fgts, List.range_succ, List.idxOf_cons, tmOf, Out.fgt, D.fgt, D.fgts])
end Go.Proofs.Ytbjgdeednmhpfaa
