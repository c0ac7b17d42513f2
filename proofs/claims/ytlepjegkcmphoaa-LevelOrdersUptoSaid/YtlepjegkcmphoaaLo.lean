/-
  LevelOrders, on data.
-/
import Derived.Test.YtlepjegkcmphoaaLpt2
import Derived.Test.YtlepjegkcmphoaaDfor
set_option linter.unusedSimpArgs false
set_option linter.unusedVariables false
set_option maxHeartbeats 10000000
set_option maxRecDepth 20000
namespace Go.Proofs.Ytlepjegkcmphoaa
open Go.RowKit

theorem succL_lmax (l : LV) : (succL l).length ≤ LMax := by
  unfold succL; split <;> exact normOf_lmax _

set_option maxHeartbeats 40000000 in
theorem orders_spec (a b c : LV) (bys : List LV) (ha : a.length ≤ LMax) (hb : b.length ≤ LMax) (hc : c.length ≤ LMax) (hbl : bys.length + 3 ≤ LMax) (hby : ∀ x, x ∈ bys → x.length ≤ LMax) (hab3 : a.length + b.length ≤ LMax) : Spec Try.prog glob 4 [encL a, encL b, encL c, Lvs bys] [] (fun o _ => o.fgt = .ret (.bool true)) := by
  have hgr := great_spec ([a, b, c] ++ bys) (by simpa using (by omega : bys.length + 1 + 1 + 1 ≤ LMax)) (by intro l hl; simp at hl; rcases hl with rfl | rfl | rfl | hl <;> first | assumption | exact hby _ hl)
  have hsa := small_spec a ha
  have hsb := small_spec b hb
  have hsc := small_spec c hc
  have hLM : LMax = 274877906944 := rfl
  have hbm : bys.length + 3 ≤ maxLen := by unfold maxLen; omega
  have hel : [D.agg [.slice (a.map encP) .any], D.agg [.slice (b.map encP) .any], D.agg [.slice (c.map encP) .any]] ++ bys.map encL = ([a, b, c] ++ bys).map encL := by simp [encL]
  generalize hG : greatB ([a, b, c] ++ bys) = G at hgr
  have hll : ([a, b, c] ++ bys).length = 3 + bys.length := by simp; omega
  generalize [a, b, c] ++ bys = L at hgr hel hll
  refine Spec.movd globPure (wpD_spec tyOK Try.func4 rfl (enters _ _ Try.func4 rfl (by decide)) rfl rfl ?_)
  unfold encL at hsa hsb hsc ⊢
  unfold Lvs at hgr ⊢
  (refine wpD_seqk fun K hK => ?_; refine wpD_region tyOK ?_; ((try simp only [wpAft_ret, wpAft_pan, putS, updS, setS]); (repeat (rw [wpS_cons]; simp [wpAft_ret, wpAft_pan, wantD, evOp, opD, tmOf, putS, updS, setS, hOf, isFree, isTok, fillD, TK.isAgg, TK.known, partD, thenD, blockD, putAll, D.ofV, inB, binX, binD, isCst, bndD, capB, IntKind.min, IntKind.max, IntKind.signed, IntKind.bits, dstOf])); (try simp only [wpS_nil, thenD, blockD])); refine hK _ _ _ ?_; clear hK K)
  refine wpD_seqk fun K1 hK1 => ?_
  (refine wpD_seqk fun K hK => ?_; refine wpD_region tyOK ?_; ((try simp only [wpAft_ret, wpAft_pan, putS, updS, setS]); (repeat (rw [wpS_cons]; simp [wpAft_ret, wpAft_pan, wantD, evOp, opD, tmOf, putS, updS, setS, hOf, isFree, isTok, fillD, TK.isAgg, TK.known, partD, thenD, blockD, putAll, D.ofV, inB, binX, binD, isCst, bndD, capB, IntKind.min, IntKind.max, IntKind.signed, IntKind.bits, dstOf])); (try simp only [wpS_nil, thenD, blockD])))
  refine CallX.pure globPure (awake_spec) ?_ (by simp [D.fgts, D.fgt]) (by simp [D.pures, D.pure, Cp.free, D.pures_map]) (by simp [Out.pure, D.pure, D.pures, Cp.free, D.pures_map])
  ((try simp only [wpAft_ret, wpAft_pan, putS, updS, setS]); (repeat (rw [wpS_cons]; simp [wpAft_ret, wpAft_pan, wantD, evOp, opD, tmOf, putS, updS, setS, hOf, isFree, isTok, fillD, TK.isAgg, TK.known, partD, thenD, blockD, putAll, D.ofV, inB, binX, binD, isCst, bndD, capB, IntKind.min, IntKind.max, IntKind.signed, IntKind.bits, dstOf])); (try simp only [wpS_nil, thenD, blockD]))
  (refine hK _ _ _ ?_; clear hK K)
  refine wpD_part rfl (fun h => by simp at h) (fun _ => wpD_skip (hK1 _ _ _ ?_))
  clear hK1 K1
  refine wpD_seqk fun K1 hK1 => ?_
  have hbl3 : 3 + bys.length ≤ LMax := by omega
  cases G with
  | true =>
    (refine wpD_seqk fun K hK => ?_; refine wpD_region tyOK ?_; ((try simp only [wpAft_ret, wpAft_pan, putS, updS, setS]); (repeat (rw [wpS_cons]; simp [wpAft_ret, wpAft_pan, wantD, evOp, opD, tmOf, putS, updS, setS, hOf, isFree, isTok, fillD, TK.isAgg, TK.known, partD, thenD, blockD, putAll, D.ofV, inB, binX, binD, isCst, bndD, capB, IntKind.min, IntKind.max, IntKind.signed, IntKind.bits, dstOf, hel, hbl3])); (try simp only [wpS_nil, thenD, blockD])))
    refine CallX.pure globPure (hgr) ?_ (by simp [D.fgts, D.fgt]) (by simp [D.pures, D.pure, Cp.free, D.pures_map]) (by simp [Out.pure, D.pure, D.pures, Cp.free, D.pures_map])
    ((try simp only [wpAft_ret, wpAft_pan, putS, updS, setS]); (repeat (rw [wpS_cons]; simp [wpAft_ret, wpAft_pan, wantD, evOp, opD, tmOf, putS, updS, setS, hOf, isFree, isTok, fillD, TK.isAgg, TK.known, partD, thenD, blockD, putAll, D.ofV, inB, binX, binD, isCst, bndD, capB, IntKind.min, IntKind.max, IntKind.signed, IntKind.bits, dstOf])); (try simp only [wpS_nil, thenD, blockD]))
    (refine hK _ _ _ ?_; clear hK K)
    refine wpD_part rfl (fun _ => ?_) (fun h => by simp at h)
    (refine wpD_seqk fun K hK => ?_; refine wpD_region tyOK ?_; ((try simp only [wpAft_ret, wpAft_pan, putS, updS, setS]); (repeat (rw [wpS_cons]; simp [wpAft_ret, wpAft_pan, wantD, evOp, opD, tmOf, putS, updS, setS, hOf, isFree, isTok, fillD, TK.isAgg, TK.known, partD, thenD, blockD, putAll, D.ofV, inB, binX, binD, isCst, bndD, capB, IntKind.min, IntKind.max, IntKind.signed, IntKind.bits, dstOf])); (try simp only [wpS_nil, thenD, blockD])); refine hK _ _ _ ?_; clear hK K)
    (refine wpD_ret ?_; (try simp only [thenD, blockD]); refine EndQ.ret rfl (.inl ?_); simp [tmOf, Out.fgt, D.fgt, D.fgts])
  | false =>
    cases hs1 : a.all smallP with
    | false =>
      rw [hs1] at hsa
      (refine wpD_seqk fun K hK => ?_; refine wpD_region tyOK ?_; ((try simp only [wpAft_ret, wpAft_pan, putS, updS, setS]); (repeat (rw [wpS_cons]; simp [wpAft_ret, wpAft_pan, wantD, evOp, opD, tmOf, putS, updS, setS, hOf, isFree, isTok, fillD, TK.isAgg, TK.known, partD, thenD, blockD, putAll, D.ofV, inB, binX, binD, isCst, bndD, capB, IntKind.min, IntKind.max, IntKind.signed, IntKind.bits, dstOf, hel, hbl3])); (try simp only [wpS_nil, thenD, blockD])))
      refine CallX.pure globPure (hgr) ?_ (by simp [D.fgts, D.fgt]) (by simp [D.pures, D.pure, Cp.free, D.pures_map]) (by simp [Out.pure, D.pure, D.pures, Cp.free, D.pures_map])
      ((try simp only [wpAft_ret, wpAft_pan, putS, updS, setS]); (repeat (rw [wpS_cons]; simp [wpAft_ret, wpAft_pan, wantD, evOp, opD, tmOf, putS, updS, setS, hOf, isFree, isTok, fillD, TK.isAgg, TK.known, partD, thenD, blockD, putAll, D.ofV, inB, binX, binD, isCst, bndD, capB, IntKind.min, IntKind.max, IntKind.signed, IntKind.bits, dstOf])); (try simp only [wpS_nil, thenD, blockD]))
      refine CallX.pure globPure (hsa) ?_ (by simp [D.fgts, D.fgt, encP_pure]) (by simp [D.pures, D.pure, Cp.free, D.pures_map, encP_pure]) (by simp [Out.pure, D.pure, D.pures, Cp.free, D.pures_map, encP_pure])
      ((try simp only [wpAft_ret, wpAft_pan, putS, updS, setS]); (repeat (rw [wpS_cons]; simp [wpAft_ret, wpAft_pan, wantD, evOp, opD, tmOf, putS, updS, setS, hOf, isFree, isTok, fillD, TK.isAgg, TK.known, partD, thenD, blockD, putAll, D.ofV, inB, binX, binD, isCst, bndD, capB, IntKind.min, IntKind.max, IntKind.signed, IntKind.bits, dstOf])); (try simp only [wpS_nil, thenD, blockD]))
      (refine hK _ _ _ ?_; clear hK K)
      refine wpD_part rfl (fun _ => ?_) (fun h => by simp at h)
      (refine wpD_seqk fun K hK => ?_; refine wpD_region tyOK ?_; ((try simp only [wpAft_ret, wpAft_pan, putS, updS, setS]); (repeat (rw [wpS_cons]; simp [wpAft_ret, wpAft_pan, wantD, evOp, opD, tmOf, putS, updS, setS, hOf, isFree, isTok, fillD, TK.isAgg, TK.known, partD, thenD, blockD, putAll, D.ofV, inB, binX, binD, isCst, bndD, capB, IntKind.min, IntKind.max, IntKind.signed, IntKind.bits, dstOf])); (try simp only [wpS_nil, thenD, blockD])); refine hK _ _ _ ?_; clear hK K)
      (refine wpD_ret ?_; (try simp only [thenD, blockD]); refine EndQ.ret rfl (.inl ?_); simp [tmOf, Out.fgt, D.fgt, D.fgts])
    | true =>
      rw [hs1] at hsa
      cases hs2 : b.all smallP with
      | false =>
        rw [hs2] at hsb
        (refine wpD_seqk fun K hK => ?_; refine wpD_region tyOK ?_; ((try simp only [wpAft_ret, wpAft_pan, putS, updS, setS]); (repeat (rw [wpS_cons]; simp [wpAft_ret, wpAft_pan, wantD, evOp, opD, tmOf, putS, updS, setS, hOf, isFree, isTok, fillD, TK.isAgg, TK.known, partD, thenD, blockD, putAll, D.ofV, inB, binX, binD, isCst, bndD, capB, IntKind.min, IntKind.max, IntKind.signed, IntKind.bits, dstOf, hel, hbl3])); (try simp only [wpS_nil, thenD, blockD])))
        refine CallX.pure globPure (hgr) ?_ (by simp [D.fgts, D.fgt]) (by simp [D.pures, D.pure, Cp.free, D.pures_map]) (by simp [Out.pure, D.pure, D.pures, Cp.free, D.pures_map])
        ((try simp only [wpAft_ret, wpAft_pan, putS, updS, setS]); (repeat (rw [wpS_cons]; simp [wpAft_ret, wpAft_pan, wantD, evOp, opD, tmOf, putS, updS, setS, hOf, isFree, isTok, fillD, TK.isAgg, TK.known, partD, thenD, blockD, putAll, D.ofV, inB, binX, binD, isCst, bndD, capB, IntKind.min, IntKind.max, IntKind.signed, IntKind.bits, dstOf])); (try simp only [wpS_nil, thenD, blockD]))
        refine CallX.pure globPure (hsa) ?_ (by simp [D.fgts, D.fgt, encP_pure]) (by simp [D.pures, D.pure, Cp.free, D.pures_map, encP_pure]) (by simp [Out.pure, D.pure, D.pures, Cp.free, D.pures_map, encP_pure])
        ((try simp only [wpAft_ret, wpAft_pan, putS, updS, setS]); (repeat (rw [wpS_cons]; simp [wpAft_ret, wpAft_pan, wantD, evOp, opD, tmOf, putS, updS, setS, hOf, isFree, isTok, fillD, TK.isAgg, TK.known, partD, thenD, blockD, putAll, D.ofV, inB, binX, binD, isCst, bndD, capB, IntKind.min, IntKind.max, IntKind.signed, IntKind.bits, dstOf])); (try simp only [wpS_nil, thenD, blockD]))
        refine CallX.pure globPure (hsb) ?_ (by simp [D.fgts, D.fgt, encP_pure]) (by simp [D.pures, D.pure, Cp.free, D.pures_map, encP_pure]) (by simp [Out.pure, D.pure, D.pures, Cp.free, D.pures_map, encP_pure])
        ((try simp only [wpAft_ret, wpAft_pan, putS, updS, setS]); (repeat (rw [wpS_cons]; simp [wpAft_ret, wpAft_pan, wantD, evOp, opD, tmOf, putS, updS, setS, hOf, isFree, isTok, fillD, TK.isAgg, TK.known, partD, thenD, blockD, putAll, D.ofV, inB, binX, binD, isCst, bndD, capB, IntKind.min, IntKind.max, IntKind.signed, IntKind.bits, dstOf])); (try simp only [wpS_nil, thenD, blockD]))
        (refine hK _ _ _ ?_; clear hK K)
        refine wpD_part rfl (fun _ => ?_) (fun h => by simp at h)
        (refine wpD_seqk fun K hK => ?_; refine wpD_region tyOK ?_; ((try simp only [wpAft_ret, wpAft_pan, putS, updS, setS]); (repeat (rw [wpS_cons]; simp [wpAft_ret, wpAft_pan, wantD, evOp, opD, tmOf, putS, updS, setS, hOf, isFree, isTok, fillD, TK.isAgg, TK.known, partD, thenD, blockD, putAll, D.ofV, inB, binX, binD, isCst, bndD, capB, IntKind.min, IntKind.max, IntKind.signed, IntKind.bits, dstOf])); (try simp only [wpS_nil, thenD, blockD])); refine hK _ _ _ ?_; clear hK K)
        (refine wpD_ret ?_; (try simp only [thenD, blockD]); refine EndQ.ret rfl (.inl ?_); simp [tmOf, Out.fgt, D.fgt, D.fgts])
      | true =>
        rw [hs2] at hsb
        cases hs3 : c.all smallP with
        | false =>
          rw [hs3] at hsc
          (refine wpD_seqk fun K hK => ?_; refine wpD_region tyOK ?_; ((try simp only [wpAft_ret, wpAft_pan, putS, updS, setS]); (repeat (rw [wpS_cons]; simp [wpAft_ret, wpAft_pan, wantD, evOp, opD, tmOf, putS, updS, setS, hOf, isFree, isTok, fillD, TK.isAgg, TK.known, partD, thenD, blockD, putAll, D.ofV, inB, binX, binD, isCst, bndD, capB, IntKind.min, IntKind.max, IntKind.signed, IntKind.bits, dstOf, hel, hbl3])); (try simp only [wpS_nil, thenD, blockD])))
          refine CallX.pure globPure (hgr) ?_ (by simp [D.fgts, D.fgt]) (by simp [D.pures, D.pure, Cp.free, D.pures_map]) (by simp [Out.pure, D.pure, D.pures, Cp.free, D.pures_map])
          ((try simp only [wpAft_ret, wpAft_pan, putS, updS, setS]); (repeat (rw [wpS_cons]; simp [wpAft_ret, wpAft_pan, wantD, evOp, opD, tmOf, putS, updS, setS, hOf, isFree, isTok, fillD, TK.isAgg, TK.known, partD, thenD, blockD, putAll, D.ofV, inB, binX, binD, isCst, bndD, capB, IntKind.min, IntKind.max, IntKind.signed, IntKind.bits, dstOf])); (try simp only [wpS_nil, thenD, blockD]))
          refine CallX.pure globPure (hsa) ?_ (by simp [D.fgts, D.fgt, encP_pure]) (by simp [D.pures, D.pure, Cp.free, D.pures_map, encP_pure]) (by simp [Out.pure, D.pure, D.pures, Cp.free, D.pures_map, encP_pure])
          ((try simp only [wpAft_ret, wpAft_pan, putS, updS, setS]); (repeat (rw [wpS_cons]; simp [wpAft_ret, wpAft_pan, wantD, evOp, opD, tmOf, putS, updS, setS, hOf, isFree, isTok, fillD, TK.isAgg, TK.known, partD, thenD, blockD, putAll, D.ofV, inB, binX, binD, isCst, bndD, capB, IntKind.min, IntKind.max, IntKind.signed, IntKind.bits, dstOf])); (try simp only [wpS_nil, thenD, blockD]))
          refine CallX.pure globPure (hsb) ?_ (by simp [D.fgts, D.fgt, encP_pure]) (by simp [D.pures, D.pure, Cp.free, D.pures_map, encP_pure]) (by simp [Out.pure, D.pure, D.pures, Cp.free, D.pures_map, encP_pure])
          ((try simp only [wpAft_ret, wpAft_pan, putS, updS, setS]); (repeat (rw [wpS_cons]; simp [wpAft_ret, wpAft_pan, wantD, evOp, opD, tmOf, putS, updS, setS, hOf, isFree, isTok, fillD, TK.isAgg, TK.known, partD, thenD, blockD, putAll, D.ofV, inB, binX, binD, isCst, bndD, capB, IntKind.min, IntKind.max, IntKind.signed, IntKind.bits, dstOf])); (try simp only [wpS_nil, thenD, blockD]))
          refine CallX.pure globPure (hsc) ?_ (by simp [D.fgts, D.fgt, encP_pure]) (by simp [D.pures, D.pure, Cp.free, D.pures_map, encP_pure]) (by simp [Out.pure, D.pure, D.pures, Cp.free, D.pures_map, encP_pure])
          ((try simp only [wpAft_ret, wpAft_pan, putS, updS, setS]); (repeat (rw [wpS_cons]; simp [wpAft_ret, wpAft_pan, wantD, evOp, opD, tmOf, putS, updS, setS, hOf, isFree, isTok, fillD, TK.isAgg, TK.known, partD, thenD, blockD, putAll, D.ofV, inB, binX, binD, isCst, bndD, capB, IntKind.min, IntKind.max, IntKind.signed, IntKind.bits, dstOf])); (try simp only [wpS_nil, thenD, blockD]))
          (refine hK _ _ _ ?_; clear hK K)
          refine wpD_part rfl (fun _ => ?_) (fun h => by simp at h)
          (refine wpD_seqk fun K hK => ?_; refine wpD_region tyOK ?_; ((try simp only [wpAft_ret, wpAft_pan, putS, updS, setS]); (repeat (rw [wpS_cons]; simp [wpAft_ret, wpAft_pan, wantD, evOp, opD, tmOf, putS, updS, setS, hOf, isFree, isTok, fillD, TK.isAgg, TK.known, partD, thenD, blockD, putAll, D.ofV, inB, binX, binD, isCst, bndD, capB, IntKind.min, IntKind.max, IntKind.signed, IntKind.bits, dstOf])); (try simp only [wpS_nil, thenD, blockD])); refine hK _ _ _ ?_; clear hK K)
          (refine wpD_ret ?_; (try simp only [thenD, blockD]); refine EndQ.ret rfl (.inl ?_); simp [tmOf, Out.fgt, D.fgt, D.fgts])
        | true =>
          rw [hs3] at hsc
          (refine wpD_seqk fun K hK => ?_; refine wpD_region tyOK ?_; ((try simp only [wpAft_ret, wpAft_pan, putS, updS, setS]); (repeat (rw [wpS_cons]; simp [wpAft_ret, wpAft_pan, wantD, evOp, opD, tmOf, putS, updS, setS, hOf, isFree, isTok, fillD, TK.isAgg, TK.known, partD, thenD, blockD, putAll, D.ofV, inB, binX, binD, isCst, bndD, capB, IntKind.min, IntKind.max, IntKind.signed, IntKind.bits, dstOf, hel, hbl3])); (try simp only [wpS_nil, thenD, blockD])))
          refine CallX.pure globPure (hgr) ?_ (by simp [D.fgts, D.fgt]) (by simp [D.pures, D.pure, Cp.free, D.pures_map]) (by simp [Out.pure, D.pure, D.pures, Cp.free, D.pures_map])
          ((try simp only [wpAft_ret, wpAft_pan, putS, updS, setS]); (repeat (rw [wpS_cons]; simp [wpAft_ret, wpAft_pan, wantD, evOp, opD, tmOf, putS, updS, setS, hOf, isFree, isTok, fillD, TK.isAgg, TK.known, partD, thenD, blockD, putAll, D.ofV, inB, binX, binD, isCst, bndD, capB, IntKind.min, IntKind.max, IntKind.signed, IntKind.bits, dstOf])); (try simp only [wpS_nil, thenD, blockD]))
          refine CallX.pure globPure (hsa) ?_ (by simp [D.fgts, D.fgt, encP_pure]) (by simp [D.pures, D.pure, Cp.free, D.pures_map, encP_pure]) (by simp [Out.pure, D.pure, D.pures, Cp.free, D.pures_map, encP_pure])
          ((try simp only [wpAft_ret, wpAft_pan, putS, updS, setS]); (repeat (rw [wpS_cons]; simp [wpAft_ret, wpAft_pan, wantD, evOp, opD, tmOf, putS, updS, setS, hOf, isFree, isTok, fillD, TK.isAgg, TK.known, partD, thenD, blockD, putAll, D.ofV, inB, binX, binD, isCst, bndD, capB, IntKind.min, IntKind.max, IntKind.signed, IntKind.bits, dstOf])); (try simp only [wpS_nil, thenD, blockD]))
          refine CallX.pure globPure (hsb) ?_ (by simp [D.fgts, D.fgt, encP_pure]) (by simp [D.pures, D.pure, Cp.free, D.pures_map, encP_pure]) (by simp [Out.pure, D.pure, D.pures, Cp.free, D.pures_map, encP_pure])
          ((try simp only [wpAft_ret, wpAft_pan, putS, updS, setS]); (repeat (rw [wpS_cons]; simp [wpAft_ret, wpAft_pan, wantD, evOp, opD, tmOf, putS, updS, setS, hOf, isFree, isTok, fillD, TK.isAgg, TK.known, partD, thenD, blockD, putAll, D.ofV, inB, binX, binD, isCst, bndD, capB, IntKind.min, IntKind.max, IntKind.signed, IntKind.bits, dstOf])); (try simp only [wpS_nil, thenD, blockD]))
          refine CallX.pure globPure (hsc) ?_ (by simp [D.fgts, D.fgt, encP_pure]) (by simp [D.pures, D.pure, Cp.free, D.pures_map, encP_pure]) (by simp [Out.pure, D.pure, D.pures, Cp.free, D.pures_map, encP_pure])
          ((try simp only [wpAft_ret, wpAft_pan, putS, updS, setS]); (repeat (rw [wpS_cons]; simp [wpAft_ret, wpAft_pan, wantD, evOp, opD, tmOf, putS, updS, setS, hOf, isFree, isTok, fillD, TK.isAgg, TK.known, partD, thenD, blockD, putAll, D.ofV, inB, binX, binD, isCst, bndD, capB, IntKind.min, IntKind.max, IntKind.signed, IntKind.bits, dstOf])); (try simp only [wpS_nil, thenD, blockD]))
          (refine hK _ _ _ ?_; clear hK K)
          refine wpD_part rfl (fun h => by simp at h) (fun _ => ?_)
          refine wpD_skip (hK1 _ _ _ ?_)
          (refine wpD_junkW [15, 16, 17, 18, 19, 20, 21, 22, 23, 24, 25, 26, 27, 28, 29, 30, 31, 32, 33, 34, 35, 36, 37, 38] ?_; simp only [putAll, List.set, List.map_cons, List.map_nil])
          clear hK1 K1 hel hgr hG hbl3 hll L
          refine wpD_seqk fun K1 hK1 => ?_
          (refine wpD_seqk fun K hK => ?_; refine wpD_region tyOK ?_; ((try simp only [wpAft_ret, wpAft_pan, putS, updS, setS]); (repeat (rw [wpS_cons]; simp [wpAft_ret, wpAft_pan, wantD, evOp, opD, tmOf, putS, updS, setS, hOf, isFree, isTok, fillD, TK.isAgg, TK.known, partD, thenD, blockD, putAll, D.ofV, inB, binX, binD, isCst, bndD, capB, IntKind.min, IntKind.max, IntKind.signed, IntKind.bits, dstOf])); (try simp only [wpS_nil, thenD, blockD])); refine hK _ _ _ ?_; clear hK K)
          refine wpD_block ?_
          refine wpD_loopV globPure [8, 9, 39, 40, 41, 42, 43, 44, 45, 46, 47, 48, 49, 50] (fun m ys hl => ∃ (k : Nat) (x8 x39 x40 x41 x42 x43 x44 x45 x46 x47 x48 x49 x50 : D), ys = [x8, .int .i64 k, x39, x40, x41, x42, x43, x44, x45, x46, x47, x48, x49, x50] ∧ m + k = bys.length ∧ (bys.all fun l => l.all smallP) = ((bys.drop k).all fun l => l.all smallP) ∧ hl = [.cells 24 [.slice (a.map encP) .any], .cells 24 [.slice (b.map encP) .any], .cells 24 [.slice (c.map encP) .any], .tok]) (bys.length) (by kernel_rfl) ?_ ?_
          · exact ⟨0, _, _, _, _, _, _, _, _, _, _, _, _, _, rfl, rfl, rfl, rfl⟩
          · rintro m ys hl A hA ⟨k, x8, x39, x40, x41, x42, x43, x44, x45, x46, x47, x48, x49, x50, rfl, hk, he, rfl⟩
            simp only [putAll, List.set]
            refine wpD_seqk fun K2 hK2 => ?_
            (refine wpD_seqk fun K hK => ?_; refine wpD_region tyOK ?_; ((try simp only [wpAft_ret, wpAft_pan, putS, updS, setS]); (repeat (rw [wpS_cons]; simp [wpAft_ret, wpAft_pan, wantD, evOp, opD, tmOf, putS, updS, setS, hOf, isFree, isTok, fillD, TK.isAgg, TK.known, partD, thenD, blockD, putAll, D.ofV, inB, binX, binD, isCst, bndD, capB, IntKind.min, IntKind.max, IntKind.signed, IntKind.bits, dstOf])); (try simp only [wpS_nil, thenD, blockD])); refine hK _ _ _ ?_; clear hK K)
            refine wpD_part rfl (fun hkl => ?_) (fun hkl => ?_)
            · replace hkl : k < bys.length := by simpa using hkl
              refine wpD_skip (hK2 _ _ _ ?_)
              clear hK2 K2
              refine wpD_seqk fun K3 hK3 => ?_
              refine wpD_block ?_
              have hd : bys.drop k = bys[k] :: bys.drop (k + 1) := List.drop_eq_getElem_cons hkl
              have hsl := small_spec bys[k] (hby _ (List.getElem_mem hkl))
              have hw1 : IntKind.i64.wrap ((k : Int) + 1) = (k : Int) + 1 := i64w (by omega) (by omega)
              cases hb1 : bys[k].all smallP with
              | false =>
                rw [hb1] at hsl
                (refine wpD_seqk fun K hK => ?_; refine wpD_region tyOK ?_; ((try simp only [wpAft_ret, wpAft_pan, putS, updS, setS]); (repeat (rw [wpS_cons]; simp [wpAft_ret, wpAft_pan, wantD, evOp, opD, tmOf, putS, updS, setS, hOf, isFree, isTok, fillD, TK.isAgg, TK.known, partD, thenD, blockD, putAll, D.ofV, inB, binX, binD, isCst, bndD, capB, IntKind.min, IntKind.max, IntKind.signed, IntKind.bits, dstOf, hkl, encL])); (try simp only [wpS_nil, thenD, blockD])))
                refine CallX.pure globPure (hsl) ?_ (by simp [D.fgts, D.fgt, encL, encP_pure]) (by simp [D.pures, D.pure, Cp.free, D.pures_map, encL, encP_pure]) (by simp [Out.pure, D.pure, D.pures, Cp.free, D.pures_map, encL, encP_pure])
                ((try simp only [wpAft_ret, wpAft_pan, putS, updS, setS]); (repeat (rw [wpS_cons]; simp [wpAft_ret, wpAft_pan, wantD, evOp, opD, tmOf, putS, updS, setS, hOf, isFree, isTok, fillD, TK.isAgg, TK.known, partD, thenD, blockD, putAll, D.ofV, inB, binX, binD, isCst, bndD, capB, IntKind.min, IntKind.max, IntKind.signed, IntKind.bits, dstOf])); (try simp only [wpS_nil, thenD, blockD]))
                (refine hK _ _ _ ?_; clear hK K)
                refine wpD_part rfl (fun _ => ?_) (fun h => by simp at h)
                (refine wpD_seqk fun K hK => ?_; refine wpD_region tyOK ?_; ((try simp only [wpAft_ret, wpAft_pan, putS, updS, setS]); (repeat (rw [wpS_cons]; simp [wpAft_ret, wpAft_pan, wantD, evOp, opD, tmOf, putS, updS, setS, hOf, isFree, isTok, fillD, TK.isAgg, TK.known, partD, thenD, blockD, putAll, D.ofV, inB, binX, binD, isCst, bndD, capB, IntKind.min, IntKind.max, IntKind.signed, IntKind.bits, dstOf])); (try simp only [wpS_nil, thenD, blockD])); refine hK _ _ _ ?_; clear hK K)
                (refine wpD_ret ?_; (try simp only [thenD, blockD]); refine EndQ.ret rfl (.inl ?_); simp [tmOf, Out.fgt, D.fgt, D.fgts])
              | true =>
                rw [hb1] at hsl
                (refine wpD_seqk fun K hK => ?_; refine wpD_region tyOK ?_; ((try simp only [wpAft_ret, wpAft_pan, putS, updS, setS]); (repeat (rw [wpS_cons]; simp [wpAft_ret, wpAft_pan, wantD, evOp, opD, tmOf, putS, updS, setS, hOf, isFree, isTok, fillD, TK.isAgg, TK.known, partD, thenD, blockD, putAll, D.ofV, inB, binX, binD, isCst, bndD, capB, IntKind.min, IntKind.max, IntKind.signed, IntKind.bits, dstOf, hkl, encL])); (try simp only [wpS_nil, thenD, blockD])))
                refine CallX.pure globPure (hsl) ?_ (by simp [D.fgts, D.fgt, encL, encP_pure]) (by simp [D.pures, D.pure, Cp.free, D.pures_map, encL, encP_pure]) (by simp [Out.pure, D.pure, D.pures, Cp.free, D.pures_map, encL, encP_pure])
                ((try simp only [wpAft_ret, wpAft_pan, putS, updS, setS]); (repeat (rw [wpS_cons]; simp [wpAft_ret, wpAft_pan, wantD, evOp, opD, tmOf, putS, updS, setS, hOf, isFree, isTok, fillD, TK.isAgg, TK.known, partD, thenD, blockD, putAll, D.ofV, inB, binX, binD, isCst, bndD, capB, IntKind.min, IntKind.max, IntKind.signed, IntKind.bits, dstOf])); (try simp only [wpS_nil, thenD, blockD]))
                (refine hK _ _ _ ?_; clear hK K)
                refine wpD_part rfl (fun h => by simp at h) (fun _ => ?_)
                refine wpD_skip (hK3 _ _ _ ?_)
                clear hK3 K3
                (refine wpD_region tyOK ?_; ((try simp only [wpAft_ret, wpAft_pan, putS, updS, setS]); (repeat (rw [wpS_cons]; simp [wpAft_ret, wpAft_pan, wantD, evOp, opD, tmOf, putS, updS, setS, hOf, isFree, isTok, fillD, TK.isAgg, TK.known, partD, thenD, blockD, putAll, D.ofV, inB, binX, binD, isCst, bndD, capB, IntKind.min, IntKind.max, IntKind.signed, IntKind.bits, dstOf, hw1])); (try simp only [wpS_nil, thenD, blockD])))
                (refine hA (m - 1) _ _ (by omega) (by simp [D.cut, D.low, D.lows, Cp.low, putAll, getW]) ?_)
                refine ⟨k + 1, _, _, _, _, _, _, _, _, _, _, _, _, _, rfl, by omega, ?_, by simp [HO.cut, D.lows_pure _ _ (Ps_pures _)]⟩
                rw [he, hd, List.all_cons, hb1]; simp
            · replace hkl : ¬ k < bys.length := by simpa using hkl
              refine wpD_exit ?_
              refine hK1 _ _ _ ?_
              clear hK1 K1 hK2 K2 hA A
              have hsm : (bys.all fun l => l.all smallP) = true := by rw [he, List.drop_eq_nil_of_le (by omega), List.all_nil]
              clear he hk hkl
              (refine wpD_junkW [8, 39, 40, 41, 42, 43, 44, 45, 46, 47, 48, 49, 50] ?_; simp only [putAll, List.set, List.map_cons, List.map_nil])
              have hby1 : ∀ l, l ∈ bys → l.all smallP = true := List.all_eq_true.1 hsm
              have hoa := small_okV hs1
              have hob := small_okV hs2
              have hoc := small_okV hs3
              have lab := leq_spec a b ha hb
              have lba := leq_spec b a hb ha
              have laa := leq_spec a a ha ha
              have lbc := leq_spec b c hb hc
              have lac := leq_spec a c ha hc
              have sab := same_spec a b ha hb
              have na := norm_spec a ha
              have nb := norm_spec b hb
              have nna := norm_spec (normOf a) (normOf_lmax a)
              have eab := same1_spec (normOf a) (normOf b) (normOf_lmax a) (normOf_lmax b)
              have eaa := same1_spec (normOf (normOf a)) (normOf a) (normOf_lmax _) (normOf_lmax a)
              rw [norm_norm, decide_eq_true rfl] at eaa
              rw [norm_norm] at nna
              rw [leqM_refl hoa] at laa
              have hsame := same_leq hoa hob
              rw [hsame] at sab eab
              have htr : leqM a b = true → leqM b c = true → leqM a c = true := leqM_trans hoa hob hoc
              have hput : leqM a b = true → leqM (normOf (putL a bys)) (normOf (putL b bys)) = true := put_le hby1 hs1 hs2
              have hmx := max_spec [a, b] (by simp [LMax]) (by intro l hl; simp at hl; rcases hl with rfl | rfl <;> assumption)
              rw [show [a, b].flatten = a ++ b by simp, show normOf (a ++ b) = maxL a b from rfl] at hmx
              have hml : (maxL a b).length ≤ LMax := normOf_lmax _
              have lam := leq_spec a (maxL a b) ha hml
              rw [(le_maxL hoa hob).1] at lam
              have lbm := leq_spec b (maxL a b) hb hml
              rw [(le_maxL hoa hob).2] at lbm
              have lmc := leq_spec (maxL a b) c hml hc
              have hmc : leqM a c = true → leqM b c = true → leqM (maxL a b) c = true := maxL_le hoa hob hoc
              have sua := succ_spec a ha
              have las := leq_spec a (succL a) ha (succL_lmax a)
              rw [le_succ hs1] at las
              have lsa := leq_spec (succL a) a (succL_lmax a) ha
              rw [succ_not hs1] at lsa
              have hbl' : bys.length ≤ LMax := by omega
              have pa := put_spec a bys ha hbl' hby
              have pb := put_spec b bys hb hbl' hby
              have pm := put_spec (maxL a b) bys hml hbl' hby
              have hxl : (normOf (putL a bys)).length ≤ LMax := normOf_lmax _
              have hyl : (normOf (putL b bys)).length ≤ LMax := normOf_lmax _
              have hzl : (normOf (putL (maxL a b) bys)).length ≤ LMax := normOf_lmax _
              have lxy := leq_spec (normOf (putL a bys)) (normOf (putL b bys)) hxl hyl
              have mxy := max_spec [normOf (putL a bys), normOf (putL b bys)] (by simp [LMax]) (by intro l hl; simp at hl; rcases hl with rfl | rfl <;> assumption)
              have spx := same_spec (normOf (putL (maxL a b) bys)) (maxL (normOf (putL a bys)) (normOf (putL b bys))) hzl (normOf_lmax _)
              rw [decide_eq_true (put_max hby1 hs1 hs2)] at spx
              rw [show [normOf (putL a bys), normOf (putL b bys)].flatten = normOf (putL a bys) ++ normOf (putL b bys) by simp, show normOf (normOf (putL a bys) ++ normOf (putL b bys)) = maxL (normOf (putL a bys)) (normOf (putL b bys)) from rfl] at mxy
              have vm := value_spec (maxL a b) [3, 5] hml (by simp [LMax])
              have va := value_spec a [3, 5] ha (by simp [LMax])
              have vb := value_spec b [3, 5] hb (by simp [LMax])
              rw [val_max [3, 5] hoa hob] at vm
              unfold Ints at vm va vb
              unfold Lvs at hmx pa pb pm mxy
              generalize valN [3, 5] (normOf a) = VA at *
              generalize valN [3, 5] (normOf b) = VB at *
              generalize normOf (putL (maxL a b) bys) = Z at *
              generalize normOf (putL a bys) = X at *
              generalize normOf (putL b bys) = Y at *
              generalize maxL X Y = XY at *
              generalize maxL a b = m at *
              generalize succL a = sa at *
              generalize hAB : leqM a b = AB at *
              generalize hBA : leqM b a = BA at *
              generalize hBC : leqM b c = BC at *
              generalize hAC : leqM a c = AC at *
              have hE : ∀ l : LV, encL l = .agg [.slice (l.map encP) .any] := fun _ => rfl
              simp only [List.map_cons, List.map_nil, hE a, hE b, hE c, hE m, hE X, hE Y, hE XY, hE sa, hE Z] at hmx lam lbm lmc sua las lsa pa pb pm lxy mxy spx vm va vb
              unfold encL at lab lba laa lbc lac sab na nb nna eab eaa
              (refine wpD_seqk fun K hK => ?_; refine wpD_drawk tyOK (by kernel_rfl) (by kernel_rfl) fun KT hKT => ?_; ((try simp only [wpAftT_ret, wpAftT_pan, putS, updS, setS]); (repeat (rw [wpT_cons]; simp [wpAft_ret, wpAft_pan, wantD, evOp, opD, tmOf, putS, updS, setS, hOf, isFree, isTok, fillD, TK.isAgg, TK.known, partD, thenD, blockD, putAll, D.ofV, inB, binX, binD, isCst, bndD, capB, IntKind.min, IntKind.max, IntKind.signed, IntKind.bits, dstOf, late])); (try simp only [wpT_nil])))
              refine CallY.pure globPure (lab) ?_ (by simp [D.fgts, D.fgt, encP_pure]) (by simp [D.pures, D.pure, Cp.free, D.pures_map, encP_pure]) (by simp [Out.pure, D.pure, D.pures, Cp.free, D.pures_map, encP_pure])
              ((try simp only [wpAftT_ret, wpAftT_pan, putS, updS, setS]); (repeat (rw [wpT_cons]; simp [wpAft_ret, wpAft_pan, wantD, evOp, opD, tmOf, putS, updS, setS, hOf, isFree, isTok, fillD, TK.isAgg, TK.known, partD, thenD, blockD, putAll, D.ofV, inB, binX, binD, isCst, bndD, capB, IntKind.min, IntKind.max, IntKind.signed, IntKind.bits, dstOf, late])); (try simp only [wpT_nil]))
              refine CallY.pure globPure (lba) ?_ (by simp [D.fgts, D.fgt, encP_pure]) (by simp [D.pures, D.pure, Cp.free, D.pures_map, encP_pure]) (by simp [Out.pure, D.pure, D.pures, Cp.free, D.pures_map, encP_pure])
              ((try simp only [wpAftT_ret, wpAftT_pan, putS, updS, setS]); (repeat (rw [wpT_cons]; simp [wpAft_ret, wpAft_pan, wantD, evOp, opD, tmOf, putS, updS, setS, hOf, isFree, isTok, fillD, TK.isAgg, TK.known, partD, thenD, blockD, putAll, D.ofV, inB, binX, binD, isCst, bndD, capB, IntKind.min, IntKind.max, IntKind.signed, IntKind.bits, dstOf, late])); (try simp only [wpT_nil]))
              (refine hKT _ _ _ _ (by kernel_rfl) ?_; clear hKT KT; (try simp only [thenD, blockD]))
              (refine hK _ _ _ ?_; clear hK K)
              refine wpD_seqf [57, 58, 59, 60, 61, 62, 63, 64, 65, 66, 67, 68, 69, 70, 71, 72, 73, 74, 75, 76, 77, 78, 79, 80, 81, 82, 83, 84, 85, 86, 87, 88, 89, 90, 91, 92, 93, 94, 95, 96, 97, 98, 99, 100, 101, 102, 103, 104] [.junk, .junk, .junk, .junk, .junk, .junk, .junk, .junk, .junk, .junk, .junk, .junk, .junk, .junk, .junk, .junk, .junk, .junk, .junk, .junk, .junk, .junk, .junk, .junk, .junk, .junk, .junk, .junk, .junk, .junk, .junk, .junk, .junk, .junk, .junk, .junk, .junk, .junk, .junk, .junk, .junk, .junk, .junk, .junk, .junk, .junk, .junk, .junk] [.cells 24 [.slice (a.map encP) .any], .cells 24 [.slice (b.map encP) .any], .cells 24 [.slice (c.map encP) .any], .tok] ?_ ?_
              rotate_left
              · intro K hK
                cases AB with
                | false =>
                  simp only [Bool.false_and] at sab eab
                  (refine wpD_seqk fun K hK => ?_; refine wpD_drawk tyOK (by kernel_rfl) (by kernel_rfl) fun KT hKT => ?_; ((try simp only [wpAftT_ret, wpAftT_pan, putS, updS, setS]); (repeat (rw [wpT_cons]; simp [wpAft_ret, wpAft_pan, wantD, evOp, opD, tmOf, putS, updS, setS, hOf, isFree, isTok, fillD, TK.isAgg, TK.known, partD, thenD, blockD, putAll, D.ofV, inB, binX, binD, isCst, bndD, capB, IntKind.min, IntKind.max, IntKind.signed, IntKind.bits, dstOf, late])); (try simp only [wpT_nil])))
                  refine CallY.pure globPure (laa) ?_ (by simp [D.fgts, D.fgt, encP_pure]) (by simp [D.pures, D.pure, Cp.free, D.pures_map, encP_pure]) (by simp [Out.pure, D.pure, D.pures, Cp.free, D.pures_map, encP_pure])
                  ((try simp only [wpAftT_ret, wpAftT_pan, putS, updS, setS]); (repeat (rw [wpT_cons]; simp [wpAft_ret, wpAft_pan, wantD, evOp, opD, tmOf, putS, updS, setS, hOf, isFree, isTok, fillD, TK.isAgg, TK.known, partD, thenD, blockD, putAll, D.ofV, inB, binX, binD, isCst, bndD, capB, IntKind.min, IntKind.max, IntKind.signed, IntKind.bits, dstOf, late])); (try simp only [wpT_nil]))
                  refine CallY.pure globPure (sab) ?_ (by simp [D.fgts, D.fgt, encP_pure]) (by simp [D.pures, D.pure, Cp.free, D.pures_map, encP_pure]) (by simp [Out.pure, D.pure, D.pures, Cp.free, D.pures_map, encP_pure])
                  ((try simp only [wpAftT_ret, wpAftT_pan, putS, updS, setS]); (repeat (rw [wpT_cons]; simp [wpAft_ret, wpAft_pan, wantD, evOp, opD, tmOf, putS, updS, setS, hOf, isFree, isTok, fillD, TK.isAgg, TK.known, partD, thenD, blockD, putAll, D.ofV, inB, binX, binD, isCst, bndD, capB, IntKind.min, IntKind.max, IntKind.signed, IntKind.bits, dstOf, late, pairX])); (try simp only [wpT_nil]))
                  refine CallY.pure globPure (sab) ?_ (by simp [D.fgts, D.fgt, encP_pure]) (by simp [D.pures, D.pure, Cp.free, D.pures_map, encP_pure]) (by simp [Out.pure, D.pure, D.pures, Cp.free, D.pures_map, encP_pure])
                  ((try simp only [wpAftT_ret, wpAftT_pan, putS, updS, setS]); (repeat (rw [wpT_cons]; simp [wpAft_ret, wpAft_pan, wantD, evOp, opD, tmOf, putS, updS, setS, hOf, isFree, isTok, fillD, TK.isAgg, TK.known, partD, thenD, blockD, putAll, D.ofV, inB, binX, binD, isCst, bndD, capB, IntKind.min, IntKind.max, IntKind.signed, IntKind.bits, dstOf, late, pairX])); (try simp only [wpT_nil]))
                  refine CallY.pure globPure (na) ?_ (by simp [D.fgts, D.fgt, encP_pure]) (by simp [D.pures, D.pure, Cp.free, D.pures_map, encP_pure]) (by simp [Out.pure, D.pure, D.pures, Cp.free, D.pures_map, encP_pure])
                  ((try simp only [wpAftT_ret, wpAftT_pan, putS, updS, setS]); (repeat (rw [wpT_cons]; simp [wpAft_ret, wpAft_pan, wantD, evOp, opD, tmOf, putS, updS, setS, hOf, isFree, isTok, fillD, TK.isAgg, TK.known, partD, thenD, blockD, putAll, D.ofV, inB, binX, binD, isCst, bndD, capB, IntKind.min, IntKind.max, IntKind.signed, IntKind.bits, dstOf, late])); (try simp only [wpT_nil]))
                  refine CallY.pure globPure (nb) ?_ (by simp [D.fgts, D.fgt, encP_pure]) (by simp [D.pures, D.pure, Cp.free, D.pures_map, encP_pure]) (by simp [Out.pure, D.pure, D.pures, Cp.free, D.pures_map, encP_pure])
                  ((try simp only [wpAftT_ret, wpAftT_pan, putS, updS, setS]); (repeat (rw [wpT_cons]; simp [wpAft_ret, wpAft_pan, wantD, evOp, opD, tmOf, putS, updS, setS, hOf, isFree, isTok, fillD, TK.isAgg, TK.known, partD, thenD, blockD, putAll, D.ofV, inB, binX, binD, isCst, bndD, capB, IntKind.min, IntKind.max, IntKind.signed, IntKind.bits, dstOf, late])); (try simp only [wpT_nil]))
                  refine CallY.pure globPure (eab) ?_ (by simp [D.fgts, D.fgt, encP_pure]) (by simp [D.pures, D.pure, Cp.free, D.pures_map, encP_pure]) (by simp [Out.pure, D.pure, D.pures, Cp.free, D.pures_map, encP_pure])
                  ((try simp only [wpAftT_ret, wpAftT_pan, putS, updS, setS]); (repeat (rw [wpT_cons]; simp [wpAft_ret, wpAft_pan, wantD, evOp, opD, tmOf, putS, updS, setS, hOf, isFree, isTok, fillD, TK.isAgg, TK.known, partD, thenD, blockD, putAll, D.ofV, inB, binX, binD, isCst, bndD, capB, IntKind.min, IntKind.max, IntKind.signed, IntKind.bits, dstOf, late, pairX])); (try simp only [wpT_nil]))
                  refine CallY.pure globPure (na) ?_ (by simp [D.fgts, D.fgt, encP_pure]) (by simp [D.pures, D.pure, Cp.free, D.pures_map, encP_pure]) (by simp [Out.pure, D.pure, D.pures, Cp.free, D.pures_map, encP_pure])
                  ((try simp only [wpAftT_ret, wpAftT_pan, putS, updS, setS]); (repeat (rw [wpT_cons]; simp [wpAft_ret, wpAft_pan, wantD, evOp, opD, tmOf, putS, updS, setS, hOf, isFree, isTok, fillD, TK.isAgg, TK.known, partD, thenD, blockD, putAll, D.ofV, inB, binX, binD, isCst, bndD, capB, IntKind.min, IntKind.max, IntKind.signed, IntKind.bits, dstOf, late])); (try simp only [wpT_nil]))
                  refine CallY.pure globPure (nna) ?_ (by simp [D.fgts, D.fgt, encP_pure]) (by simp [D.pures, D.pure, Cp.free, D.pures_map, encP_pure]) (by simp [Out.pure, D.pure, D.pures, Cp.free, D.pures_map, encP_pure])
                  ((try simp only [wpAftT_ret, wpAftT_pan, putS, updS, setS]); (repeat (rw [wpT_cons]; simp [wpAft_ret, wpAft_pan, wantD, evOp, opD, tmOf, putS, updS, setS, hOf, isFree, isTok, fillD, TK.isAgg, TK.known, partD, thenD, blockD, putAll, D.ofV, inB, binX, binD, isCst, bndD, capB, IntKind.min, IntKind.max, IntKind.signed, IntKind.bits, dstOf, late])); (try simp only [wpT_nil]))
                  refine CallY.pure globPure (na) ?_ (by simp [D.fgts, D.fgt, encP_pure]) (by simp [D.pures, D.pure, Cp.free, D.pures_map, encP_pure]) (by simp [Out.pure, D.pure, D.pures, Cp.free, D.pures_map, encP_pure])
                  ((try simp only [wpAftT_ret, wpAftT_pan, putS, updS, setS]); (repeat (rw [wpT_cons]; simp [wpAft_ret, wpAft_pan, wantD, evOp, opD, tmOf, putS, updS, setS, hOf, isFree, isTok, fillD, TK.isAgg, TK.known, partD, thenD, blockD, putAll, D.ofV, inB, binX, binD, isCst, bndD, capB, IntKind.min, IntKind.max, IntKind.signed, IntKind.bits, dstOf, late])); (try simp only [wpT_nil]))
                  refine CallY.pure globPure (eaa) ?_ (by simp [D.fgts, D.fgt, encP_pure]) (by simp [D.pures, D.pure, Cp.free, D.pures_map, encP_pure]) (by simp [Out.pure, D.pure, D.pures, Cp.free, D.pures_map, encP_pure])
                  ((try simp only [wpAftT_ret, wpAftT_pan, putS, updS, setS]); (repeat (rw [wpT_cons]; simp [wpAft_ret, wpAft_pan, wantD, evOp, opD, tmOf, putS, updS, setS, hOf, isFree, isTok, fillD, TK.isAgg, TK.known, partD, thenD, blockD, putAll, D.ofV, inB, binX, binD, isCst, bndD, capB, IntKind.min, IntKind.max, IntKind.signed, IntKind.bits, dstOf, late])); (try simp only [wpT_nil]))
                  (refine hKT _ _ _ _ (by kernel_rfl) ?_; clear hKT KT; (try simp only [thenD, blockD]))
                  (refine hK _ _ _ ?_; clear hK K)
                  refine wpD_part rfl (fun h => by simp at h) (fun _ => wpD_skip (hK _ ?_))
                  simp [leT, putAll]
                | true =>
                  simp only [Bool.true_and] at sab eab
                  cases BC with
                  | false =>
                    (refine wpD_seqk fun K hK => ?_; refine wpD_drawk tyOK (by kernel_rfl) (by kernel_rfl) fun KT hKT => ?_; ((try simp only [wpAftT_ret, wpAftT_pan, putS, updS, setS]); (repeat (rw [wpT_cons]; simp [wpAft_ret, wpAft_pan, wantD, evOp, opD, tmOf, putS, updS, setS, hOf, isFree, isTok, fillD, TK.isAgg, TK.known, partD, thenD, blockD, putAll, D.ofV, inB, binX, binD, isCst, bndD, capB, IntKind.min, IntKind.max, IntKind.signed, IntKind.bits, dstOf, late])); (try simp only [wpT_nil])))
                    refine CallY.pure globPure (laa) ?_ (by simp [D.fgts, D.fgt, encP_pure]) (by simp [D.pures, D.pure, Cp.free, D.pures_map, encP_pure]) (by simp [Out.pure, D.pure, D.pures, Cp.free, D.pures_map, encP_pure])
                    ((try simp only [wpAftT_ret, wpAftT_pan, putS, updS, setS]); (repeat (rw [wpT_cons]; simp [wpAft_ret, wpAft_pan, wantD, evOp, opD, tmOf, putS, updS, setS, hOf, isFree, isTok, fillD, TK.isAgg, TK.known, partD, thenD, blockD, putAll, D.ofV, inB, binX, binD, isCst, bndD, capB, IntKind.min, IntKind.max, IntKind.signed, IntKind.bits, dstOf, late])); (try simp only [wpT_nil]))
                    refine CallY.pure globPure (lbc) ?_ (by simp [D.fgts, D.fgt, encP_pure]) (by simp [D.pures, D.pure, Cp.free, D.pures_map, encP_pure]) (by simp [Out.pure, D.pure, D.pures, Cp.free, D.pures_map, encP_pure])
                    ((try simp only [wpAftT_ret, wpAftT_pan, putS, updS, setS]); (repeat (rw [wpT_cons]; simp [wpAft_ret, wpAft_pan, wantD, evOp, opD, tmOf, putS, updS, setS, hOf, isFree, isTok, fillD, TK.isAgg, TK.known, partD, thenD, blockD, putAll, D.ofV, inB, binX, binD, isCst, bndD, capB, IntKind.min, IntKind.max, IntKind.signed, IntKind.bits, dstOf, late])); (try simp only [wpT_nil]))
                    refine CallY.pure globPure (sab) ?_ (by simp [D.fgts, D.fgt, encP_pure]) (by simp [D.pures, D.pure, Cp.free, D.pures_map, encP_pure]) (by simp [Out.pure, D.pure, D.pures, Cp.free, D.pures_map, encP_pure])
                    ((try simp only [wpAftT_ret, wpAftT_pan, putS, updS, setS]); (repeat (rw [wpT_cons]; simp [wpAft_ret, wpAft_pan, wantD, evOp, opD, tmOf, putS, updS, setS, hOf, isFree, isTok, fillD, TK.isAgg, TK.known, partD, thenD, blockD, putAll, D.ofV, inB, binX, binD, isCst, bndD, capB, IntKind.min, IntKind.max, IntKind.signed, IntKind.bits, dstOf, late, pairX])); (try simp only [wpT_nil]))
                    refine CallY.pure globPure (sab) ?_ (by simp [D.fgts, D.fgt, encP_pure]) (by simp [D.pures, D.pure, Cp.free, D.pures_map, encP_pure]) (by simp [Out.pure, D.pure, D.pures, Cp.free, D.pures_map, encP_pure])
                    ((try simp only [wpAftT_ret, wpAftT_pan, putS, updS, setS]); (repeat (rw [wpT_cons]; simp [wpAft_ret, wpAft_pan, wantD, evOp, opD, tmOf, putS, updS, setS, hOf, isFree, isTok, fillD, TK.isAgg, TK.known, partD, thenD, blockD, putAll, D.ofV, inB, binX, binD, isCst, bndD, capB, IntKind.min, IntKind.max, IntKind.signed, IntKind.bits, dstOf, late, pairX])); (try simp only [wpT_nil]))
                    refine CallY.pure globPure (na) ?_ (by simp [D.fgts, D.fgt, encP_pure]) (by simp [D.pures, D.pure, Cp.free, D.pures_map, encP_pure]) (by simp [Out.pure, D.pure, D.pures, Cp.free, D.pures_map, encP_pure])
                    ((try simp only [wpAftT_ret, wpAftT_pan, putS, updS, setS]); (repeat (rw [wpT_cons]; simp [wpAft_ret, wpAft_pan, wantD, evOp, opD, tmOf, putS, updS, setS, hOf, isFree, isTok, fillD, TK.isAgg, TK.known, partD, thenD, blockD, putAll, D.ofV, inB, binX, binD, isCst, bndD, capB, IntKind.min, IntKind.max, IntKind.signed, IntKind.bits, dstOf, late])); (try simp only [wpT_nil]))
                    refine CallY.pure globPure (nb) ?_ (by simp [D.fgts, D.fgt, encP_pure]) (by simp [D.pures, D.pure, Cp.free, D.pures_map, encP_pure]) (by simp [Out.pure, D.pure, D.pures, Cp.free, D.pures_map, encP_pure])
                    ((try simp only [wpAftT_ret, wpAftT_pan, putS, updS, setS]); (repeat (rw [wpT_cons]; simp [wpAft_ret, wpAft_pan, wantD, evOp, opD, tmOf, putS, updS, setS, hOf, isFree, isTok, fillD, TK.isAgg, TK.known, partD, thenD, blockD, putAll, D.ofV, inB, binX, binD, isCst, bndD, capB, IntKind.min, IntKind.max, IntKind.signed, IntKind.bits, dstOf, late])); (try simp only [wpT_nil]))
                    refine CallY.pure globPure (eab) ?_ (by simp [D.fgts, D.fgt, encP_pure]) (by simp [D.pures, D.pure, Cp.free, D.pures_map, encP_pure]) (by simp [Out.pure, D.pure, D.pures, Cp.free, D.pures_map, encP_pure])
                    ((try simp only [wpAftT_ret, wpAftT_pan, putS, updS, setS]); (repeat (rw [wpT_cons]; simp [wpAft_ret, wpAft_pan, wantD, evOp, opD, tmOf, putS, updS, setS, hOf, isFree, isTok, fillD, TK.isAgg, TK.known, partD, thenD, blockD, putAll, D.ofV, inB, binX, binD, isCst, bndD, capB, IntKind.min, IntKind.max, IntKind.signed, IntKind.bits, dstOf, late, pairX])); (try simp only [wpT_nil]))
                    refine CallY.pure globPure (na) ?_ (by simp [D.fgts, D.fgt, encP_pure]) (by simp [D.pures, D.pure, Cp.free, D.pures_map, encP_pure]) (by simp [Out.pure, D.pure, D.pures, Cp.free, D.pures_map, encP_pure])
                    ((try simp only [wpAftT_ret, wpAftT_pan, putS, updS, setS]); (repeat (rw [wpT_cons]; simp [wpAft_ret, wpAft_pan, wantD, evOp, opD, tmOf, putS, updS, setS, hOf, isFree, isTok, fillD, TK.isAgg, TK.known, partD, thenD, blockD, putAll, D.ofV, inB, binX, binD, isCst, bndD, capB, IntKind.min, IntKind.max, IntKind.signed, IntKind.bits, dstOf, late])); (try simp only [wpT_nil]))
                    refine CallY.pure globPure (nna) ?_ (by simp [D.fgts, D.fgt, encP_pure]) (by simp [D.pures, D.pure, Cp.free, D.pures_map, encP_pure]) (by simp [Out.pure, D.pure, D.pures, Cp.free, D.pures_map, encP_pure])
                    ((try simp only [wpAftT_ret, wpAftT_pan, putS, updS, setS]); (repeat (rw [wpT_cons]; simp [wpAft_ret, wpAft_pan, wantD, evOp, opD, tmOf, putS, updS, setS, hOf, isFree, isTok, fillD, TK.isAgg, TK.known, partD, thenD, blockD, putAll, D.ofV, inB, binX, binD, isCst, bndD, capB, IntKind.min, IntKind.max, IntKind.signed, IntKind.bits, dstOf, late])); (try simp only [wpT_nil]))
                    refine CallY.pure globPure (na) ?_ (by simp [D.fgts, D.fgt, encP_pure]) (by simp [D.pures, D.pure, Cp.free, D.pures_map, encP_pure]) (by simp [Out.pure, D.pure, D.pures, Cp.free, D.pures_map, encP_pure])
                    ((try simp only [wpAftT_ret, wpAftT_pan, putS, updS, setS]); (repeat (rw [wpT_cons]; simp [wpAft_ret, wpAft_pan, wantD, evOp, opD, tmOf, putS, updS, setS, hOf, isFree, isTok, fillD, TK.isAgg, TK.known, partD, thenD, blockD, putAll, D.ofV, inB, binX, binD, isCst, bndD, capB, IntKind.min, IntKind.max, IntKind.signed, IntKind.bits, dstOf, late])); (try simp only [wpT_nil]))
                    refine CallY.pure globPure (eaa) ?_ (by simp [D.fgts, D.fgt, encP_pure]) (by simp [D.pures, D.pure, Cp.free, D.pures_map, encP_pure]) (by simp [Out.pure, D.pure, D.pures, Cp.free, D.pures_map, encP_pure])
                    ((try simp only [wpAftT_ret, wpAftT_pan, putS, updS, setS]); (repeat (rw [wpT_cons]; simp [wpAft_ret, wpAft_pan, wantD, evOp, opD, tmOf, putS, updS, setS, hOf, isFree, isTok, fillD, TK.isAgg, TK.known, partD, thenD, blockD, putAll, D.ofV, inB, binX, binD, isCst, bndD, capB, IntKind.min, IntKind.max, IntKind.signed, IntKind.bits, dstOf, late])); (try simp only [wpT_nil]))
                    (refine hKT _ _ _ _ (by kernel_rfl) ?_; clear hKT KT; (try simp only [thenD, blockD]))
                    (refine hK _ _ _ ?_; clear hK K)
                    refine wpD_part rfl (fun h => by simp at h) (fun _ => wpD_skip (hK _ ?_))
                    simp [leT, putAll]
                  | true =>
                    rw [htr rfl rfl] at lac
                    (refine wpD_seqk fun K hK => ?_; refine wpD_drawk tyOK (by kernel_rfl) (by kernel_rfl) fun KT hKT => ?_; ((try simp only [wpAftT_ret, wpAftT_pan, putS, updS, setS]); (repeat (rw [wpT_cons]; simp [wpAft_ret, wpAft_pan, wantD, evOp, opD, tmOf, putS, updS, setS, hOf, isFree, isTok, fillD, TK.isAgg, TK.known, partD, thenD, blockD, putAll, D.ofV, inB, binX, binD, isCst, bndD, capB, IntKind.min, IntKind.max, IntKind.signed, IntKind.bits, dstOf, late])); (try simp only [wpT_nil])))
                    refine CallY.pure globPure (laa) ?_ (by simp [D.fgts, D.fgt, encP_pure]) (by simp [D.pures, D.pure, Cp.free, D.pures_map, encP_pure]) (by simp [Out.pure, D.pure, D.pures, Cp.free, D.pures_map, encP_pure])
                    ((try simp only [wpAftT_ret, wpAftT_pan, putS, updS, setS]); (repeat (rw [wpT_cons]; simp [wpAft_ret, wpAft_pan, wantD, evOp, opD, tmOf, putS, updS, setS, hOf, isFree, isTok, fillD, TK.isAgg, TK.known, partD, thenD, blockD, putAll, D.ofV, inB, binX, binD, isCst, bndD, capB, IntKind.min, IntKind.max, IntKind.signed, IntKind.bits, dstOf, late])); (try simp only [wpT_nil]))
                    refine CallY.pure globPure (lbc) ?_ (by simp [D.fgts, D.fgt, encP_pure]) (by simp [D.pures, D.pure, Cp.free, D.pures_map, encP_pure]) (by simp [Out.pure, D.pure, D.pures, Cp.free, D.pures_map, encP_pure])
                    ((try simp only [wpAftT_ret, wpAftT_pan, putS, updS, setS]); (repeat (rw [wpT_cons]; simp [wpAft_ret, wpAft_pan, wantD, evOp, opD, tmOf, putS, updS, setS, hOf, isFree, isTok, fillD, TK.isAgg, TK.known, partD, thenD, blockD, putAll, D.ofV, inB, binX, binD, isCst, bndD, capB, IntKind.min, IntKind.max, IntKind.signed, IntKind.bits, dstOf, late])); (try simp only [wpT_nil]))
                    refine CallY.pure globPure (lac) ?_ (by simp [D.fgts, D.fgt, encP_pure]) (by simp [D.pures, D.pure, Cp.free, D.pures_map, encP_pure]) (by simp [Out.pure, D.pure, D.pures, Cp.free, D.pures_map, encP_pure])
                    ((try simp only [wpAftT_ret, wpAftT_pan, putS, updS, setS]); (repeat (rw [wpT_cons]; simp [wpAft_ret, wpAft_pan, wantD, evOp, opD, tmOf, putS, updS, setS, hOf, isFree, isTok, fillD, TK.isAgg, TK.known, partD, thenD, blockD, putAll, D.ofV, inB, binX, binD, isCst, bndD, capB, IntKind.min, IntKind.max, IntKind.signed, IntKind.bits, dstOf, late])); (try simp only [wpT_nil]))
                    refine CallY.pure globPure (sab) ?_ (by simp [D.fgts, D.fgt, encP_pure]) (by simp [D.pures, D.pure, Cp.free, D.pures_map, encP_pure]) (by simp [Out.pure, D.pure, D.pures, Cp.free, D.pures_map, encP_pure])
                    ((try simp only [wpAftT_ret, wpAftT_pan, putS, updS, setS]); (repeat (rw [wpT_cons]; simp [wpAft_ret, wpAft_pan, wantD, evOp, opD, tmOf, putS, updS, setS, hOf, isFree, isTok, fillD, TK.isAgg, TK.known, partD, thenD, blockD, putAll, D.ofV, inB, binX, binD, isCst, bndD, capB, IntKind.min, IntKind.max, IntKind.signed, IntKind.bits, dstOf, late, pairX])); (try simp only [wpT_nil]))
                    refine CallY.pure globPure (sab) ?_ (by simp [D.fgts, D.fgt, encP_pure]) (by simp [D.pures, D.pure, Cp.free, D.pures_map, encP_pure]) (by simp [Out.pure, D.pure, D.pures, Cp.free, D.pures_map, encP_pure])
                    ((try simp only [wpAftT_ret, wpAftT_pan, putS, updS, setS]); (repeat (rw [wpT_cons]; simp [wpAft_ret, wpAft_pan, wantD, evOp, opD, tmOf, putS, updS, setS, hOf, isFree, isTok, fillD, TK.isAgg, TK.known, partD, thenD, blockD, putAll, D.ofV, inB, binX, binD, isCst, bndD, capB, IntKind.min, IntKind.max, IntKind.signed, IntKind.bits, dstOf, late, pairX])); (try simp only [wpT_nil]))
                    refine CallY.pure globPure (na) ?_ (by simp [D.fgts, D.fgt, encP_pure]) (by simp [D.pures, D.pure, Cp.free, D.pures_map, encP_pure]) (by simp [Out.pure, D.pure, D.pures, Cp.free, D.pures_map, encP_pure])
                    ((try simp only [wpAftT_ret, wpAftT_pan, putS, updS, setS]); (repeat (rw [wpT_cons]; simp [wpAft_ret, wpAft_pan, wantD, evOp, opD, tmOf, putS, updS, setS, hOf, isFree, isTok, fillD, TK.isAgg, TK.known, partD, thenD, blockD, putAll, D.ofV, inB, binX, binD, isCst, bndD, capB, IntKind.min, IntKind.max, IntKind.signed, IntKind.bits, dstOf, late])); (try simp only [wpT_nil]))
                    refine CallY.pure globPure (nb) ?_ (by simp [D.fgts, D.fgt, encP_pure]) (by simp [D.pures, D.pure, Cp.free, D.pures_map, encP_pure]) (by simp [Out.pure, D.pure, D.pures, Cp.free, D.pures_map, encP_pure])
                    ((try simp only [wpAftT_ret, wpAftT_pan, putS, updS, setS]); (repeat (rw [wpT_cons]; simp [wpAft_ret, wpAft_pan, wantD, evOp, opD, tmOf, putS, updS, setS, hOf, isFree, isTok, fillD, TK.isAgg, TK.known, partD, thenD, blockD, putAll, D.ofV, inB, binX, binD, isCst, bndD, capB, IntKind.min, IntKind.max, IntKind.signed, IntKind.bits, dstOf, late])); (try simp only [wpT_nil]))
                    refine CallY.pure globPure (eab) ?_ (by simp [D.fgts, D.fgt, encP_pure]) (by simp [D.pures, D.pure, Cp.free, D.pures_map, encP_pure]) (by simp [Out.pure, D.pure, D.pures, Cp.free, D.pures_map, encP_pure])
                    ((try simp only [wpAftT_ret, wpAftT_pan, putS, updS, setS]); (repeat (rw [wpT_cons]; simp [wpAft_ret, wpAft_pan, wantD, evOp, opD, tmOf, putS, updS, setS, hOf, isFree, isTok, fillD, TK.isAgg, TK.known, partD, thenD, blockD, putAll, D.ofV, inB, binX, binD, isCst, bndD, capB, IntKind.min, IntKind.max, IntKind.signed, IntKind.bits, dstOf, late, pairX])); (try simp only [wpT_nil]))
                    refine CallY.pure globPure (na) ?_ (by simp [D.fgts, D.fgt, encP_pure]) (by simp [D.pures, D.pure, Cp.free, D.pures_map, encP_pure]) (by simp [Out.pure, D.pure, D.pures, Cp.free, D.pures_map, encP_pure])
                    ((try simp only [wpAftT_ret, wpAftT_pan, putS, updS, setS]); (repeat (rw [wpT_cons]; simp [wpAft_ret, wpAft_pan, wantD, evOp, opD, tmOf, putS, updS, setS, hOf, isFree, isTok, fillD, TK.isAgg, TK.known, partD, thenD, blockD, putAll, D.ofV, inB, binX, binD, isCst, bndD, capB, IntKind.min, IntKind.max, IntKind.signed, IntKind.bits, dstOf, late])); (try simp only [wpT_nil]))
                    refine CallY.pure globPure (nna) ?_ (by simp [D.fgts, D.fgt, encP_pure]) (by simp [D.pures, D.pure, Cp.free, D.pures_map, encP_pure]) (by simp [Out.pure, D.pure, D.pures, Cp.free, D.pures_map, encP_pure])
                    ((try simp only [wpAftT_ret, wpAftT_pan, putS, updS, setS]); (repeat (rw [wpT_cons]; simp [wpAft_ret, wpAft_pan, wantD, evOp, opD, tmOf, putS, updS, setS, hOf, isFree, isTok, fillD, TK.isAgg, TK.known, partD, thenD, blockD, putAll, D.ofV, inB, binX, binD, isCst, bndD, capB, IntKind.min, IntKind.max, IntKind.signed, IntKind.bits, dstOf, late])); (try simp only [wpT_nil]))
                    refine CallY.pure globPure (na) ?_ (by simp [D.fgts, D.fgt, encP_pure]) (by simp [D.pures, D.pure, Cp.free, D.pures_map, encP_pure]) (by simp [Out.pure, D.pure, D.pures, Cp.free, D.pures_map, encP_pure])
                    ((try simp only [wpAftT_ret, wpAftT_pan, putS, updS, setS]); (repeat (rw [wpT_cons]; simp [wpAft_ret, wpAft_pan, wantD, evOp, opD, tmOf, putS, updS, setS, hOf, isFree, isTok, fillD, TK.isAgg, TK.known, partD, thenD, blockD, putAll, D.ofV, inB, binX, binD, isCst, bndD, capB, IntKind.min, IntKind.max, IntKind.signed, IntKind.bits, dstOf, late])); (try simp only [wpT_nil]))
                    refine CallY.pure globPure (eaa) ?_ (by simp [D.fgts, D.fgt, encP_pure]) (by simp [D.pures, D.pure, Cp.free, D.pures_map, encP_pure]) (by simp [Out.pure, D.pure, D.pures, Cp.free, D.pures_map, encP_pure])
                    ((try simp only [wpAftT_ret, wpAftT_pan, putS, updS, setS]); (repeat (rw [wpT_cons]; simp [wpAft_ret, wpAft_pan, wantD, evOp, opD, tmOf, putS, updS, setS, hOf, isFree, isTok, fillD, TK.isAgg, TK.known, partD, thenD, blockD, putAll, D.ofV, inB, binX, binD, isCst, bndD, capB, IntKind.min, IntKind.max, IntKind.signed, IntKind.bits, dstOf, late])); (try simp only [wpT_nil]))
                    (refine hKT _ _ _ _ (by kernel_rfl) ?_; clear hKT KT; (try simp only [thenD, blockD]))
                    (refine hK _ _ _ ?_; clear hK K)
                    refine wpD_part rfl (fun h => by simp at h) (fun _ => wpD_skip (hK _ ?_))
                    simp [leT, putAll]
              · simp only [putAll, List.set]
                (refine wpD_seqk fun K hK => ?_; refine wpD_region tyOK ?_; ((try simp only [wpAft_ret, wpAft_pan, putS, updS, setS]); (repeat (rw [wpS_cons]; simp [wpAft_ret, wpAft_pan, wantD, evOp, opD, tmOf, putS, updS, setS, hOf, isFree, isTok, fillD, TK.isAgg, TK.known, partD, thenD, blockD, putAll, D.ofV, inB, binX, binD, isCst, bndD, capB, IntKind.min, IntKind.max, IntKind.signed, IntKind.bits, dstOf])); (try simp only [wpS_nil, thenD, blockD])))
                refine CallX.pure globPure (hmx) ?_ (by simp [D.fgts, D.fgt, encP_pure]) (by simp [D.pures, D.pure, Cp.free, D.pures_map, encP_pure]) (by simp [Out.pure, D.pure, D.pures, Cp.free, D.pures_map, encP_pure])
                ((try simp only [wpAft_ret, wpAft_pan, putS, updS, setS]); (repeat (rw [wpS_cons]; simp [wpAft_ret, wpAft_pan, wantD, evOp, opD, tmOf, putS, updS, setS, hOf, isFree, isTok, fillD, TK.isAgg, TK.known, partD, thenD, blockD, putAll, D.ofV, inB, binX, binD, isCst, bndD, capB, IntKind.min, IntKind.max, IntKind.signed, IntKind.bits, dstOf])); (try simp only [wpS_nil, thenD, blockD]))
                (refine hK _ _ _ ?_; clear hK K)
                refine wpD_seqf [109, 110, 111, 112, 113, 114, 115, 116, 117, 118, 119, 120, 121, 122, 123, 124, 125, 126, 127, 128, 129, 130, 131, 132, 133, 134, 135, 136, 137, 138, 139, 140, 141, 142, 143, 144, 145, 146, 147] [.junk, .junk, .junk, .junk, .junk, .junk, .junk, .junk, .junk, .junk, .junk, .junk, .junk, .junk, .junk, .junk, .junk, .junk, .junk, .junk, .junk, .junk, .junk, .junk, .junk, .junk, .junk, .junk, .junk, .junk, .junk, .junk, .junk, .junk, .junk, .junk, .junk, .junk, .junk] [.cells 24 [.slice (a.map encP) .any], .cells 24 [.slice (b.map encP) .any], .cells 24 [.slice (c.map encP) .any], .tok, .cells 24 [.slice (m.map encP) .any]] ?_ ?_
                rotate_left
                · intro K hK
                  cases AC with
                  | false =>
                    (refine wpD_seqk fun K hK => ?_; refine wpD_drawk tyOK (by kernel_rfl) (by kernel_rfl) fun KT hKT => ?_; ((try simp only [wpAftT_ret, wpAftT_pan, putS, updS, setS]); (repeat (rw [wpT_cons]; simp [wpAft_ret, wpAft_pan, wantD, evOp, opD, tmOf, putS, updS, setS, hOf, isFree, isTok, fillD, TK.isAgg, TK.known, partD, thenD, blockD, putAll, D.ofV, inB, binX, binD, isCst, bndD, capB, IntKind.min, IntKind.max, IntKind.signed, IntKind.bits, dstOf, late])); (try simp only [wpT_nil])))
                    refine CallY.pure globPure (lam) ?_ (by simp [D.fgts, D.fgt, encP_pure, D.pures_map]) (by simp [D.pures, D.pure, Cp.free, D.pures_map, encP_pure, D.pures_map]) (by simp [Out.pure, D.pure, D.pures, Cp.free, D.pures_map, encP_pure, D.pures_map])
                    ((try simp only [wpAftT_ret, wpAftT_pan, putS, updS, setS]); (repeat (rw [wpT_cons]; simp [wpAft_ret, wpAft_pan, wantD, evOp, opD, tmOf, putS, updS, setS, hOf, isFree, isTok, fillD, TK.isAgg, TK.known, partD, thenD, blockD, putAll, D.ofV, inB, binX, binD, isCst, bndD, capB, IntKind.min, IntKind.max, IntKind.signed, IntKind.bits, dstOf, late])); (try simp only [wpT_nil]))
                    refine CallY.pure globPure (lbm) ?_ (by simp [D.fgts, D.fgt, encP_pure, D.pures_map]) (by simp [D.pures, D.pure, Cp.free, D.pures_map, encP_pure, D.pures_map]) (by simp [Out.pure, D.pure, D.pures, Cp.free, D.pures_map, encP_pure, D.pures_map])
                    ((try simp only [wpAftT_ret, wpAftT_pan, putS, updS, setS]); (repeat (rw [wpT_cons]; simp [wpAft_ret, wpAft_pan, wantD, evOp, opD, tmOf, putS, updS, setS, hOf, isFree, isTok, fillD, TK.isAgg, TK.known, partD, thenD, blockD, putAll, D.ofV, inB, binX, binD, isCst, bndD, capB, IntKind.min, IntKind.max, IntKind.signed, IntKind.bits, dstOf, late])); (try simp only [wpT_nil]))
                    refine CallY.pure globPure (lac) ?_ (by simp [D.fgts, D.fgt, encP_pure, D.pures_map]) (by simp [D.pures, D.pure, Cp.free, D.pures_map, encP_pure, D.pures_map]) (by simp [Out.pure, D.pure, D.pures, Cp.free, D.pures_map, encP_pure, D.pures_map])
                    ((try simp only [wpAftT_ret, wpAftT_pan, putS, updS, setS]); (repeat (rw [wpT_cons]; simp [wpAft_ret, wpAft_pan, wantD, evOp, opD, tmOf, putS, updS, setS, hOf, isFree, isTok, fillD, TK.isAgg, TK.known, partD, thenD, blockD, putAll, D.ofV, inB, binX, binD, isCst, bndD, capB, IntKind.min, IntKind.max, IntKind.signed, IntKind.bits, dstOf, late])); (try simp only [wpT_nil]))
                    refine CallY.pure globPure (sua) ?_ (by simp [D.fgts, D.fgt, encP_pure, D.pures_map]) (by simp [D.pures, D.pure, Cp.free, D.pures_map, encP_pure, D.pures_map]) (by simp [Out.pure, D.pure, D.pures, Cp.free, D.pures_map, encP_pure, D.pures_map])
                    ((try simp only [wpAftT_ret, wpAftT_pan, putS, updS, setS]); (repeat (rw [wpT_cons]; simp [wpAft_ret, wpAft_pan, wantD, evOp, opD, tmOf, putS, updS, setS, hOf, isFree, isTok, fillD, TK.isAgg, TK.known, partD, thenD, blockD, putAll, D.ofV, inB, binX, binD, isCst, bndD, capB, IntKind.min, IntKind.max, IntKind.signed, IntKind.bits, dstOf, late])); (try simp only [wpT_nil]))
                    refine CallY.pure globPure (las) ?_ (by simp [D.fgts, D.fgt, encP_pure, D.pures_map]) (by simp [D.pures, D.pure, Cp.free, D.pures_map, encP_pure, D.pures_map]) (by simp [Out.pure, D.pure, D.pures, Cp.free, D.pures_map, encP_pure, D.pures_map])
                    ((try simp only [wpAftT_ret, wpAftT_pan, putS, updS, setS]); (repeat (rw [wpT_cons]; simp [wpAft_ret, wpAft_pan, wantD, evOp, opD, tmOf, putS, updS, setS, hOf, isFree, isTok, fillD, TK.isAgg, TK.known, partD, thenD, blockD, putAll, D.ofV, inB, binX, binD, isCst, bndD, capB, IntKind.min, IntKind.max, IntKind.signed, IntKind.bits, dstOf, late])); (try simp only [wpT_nil]))
                    refine CallY.pure globPure (sua) ?_ (by simp [D.fgts, D.fgt, encP_pure, D.pures_map]) (by simp [D.pures, D.pure, Cp.free, D.pures_map, encP_pure, D.pures_map]) (by simp [Out.pure, D.pure, D.pures, Cp.free, D.pures_map, encP_pure, D.pures_map])
                    ((try simp only [wpAftT_ret, wpAftT_pan, putS, updS, setS]); (repeat (rw [wpT_cons]; simp [wpAft_ret, wpAft_pan, wantD, evOp, opD, tmOf, putS, updS, setS, hOf, isFree, isTok, fillD, TK.isAgg, TK.known, partD, thenD, blockD, putAll, D.ofV, inB, binX, binD, isCst, bndD, capB, IntKind.min, IntKind.max, IntKind.signed, IntKind.bits, dstOf, late])); (try simp only [wpT_nil]))
                    refine CallY.pure globPure (lsa) ?_ (by simp [D.fgts, D.fgt, encP_pure, D.pures_map]) (by simp [D.pures, D.pure, Cp.free, D.pures_map, encP_pure, D.pures_map]) (by simp [Out.pure, D.pure, D.pures, Cp.free, D.pures_map, encP_pure, D.pures_map])
                    ((try simp only [wpAftT_ret, wpAftT_pan, putS, updS, setS]); (repeat (rw [wpT_cons]; simp [wpAft_ret, wpAft_pan, wantD, evOp, opD, tmOf, putS, updS, setS, hOf, isFree, isTok, fillD, TK.isAgg, TK.known, partD, thenD, blockD, putAll, D.ofV, inB, binX, binD, isCst, bndD, capB, IntKind.min, IntKind.max, IntKind.signed, IntKind.bits, dstOf, late])); (try simp only [wpT_nil]))
                    (refine hKT _ _ _ _ (by kernel_rfl) ?_; clear hKT KT; (try simp only [thenD, blockD]))
                    (refine hK _ _ _ ?_; clear hK K)
                    refine wpD_part rfl (fun h => by simp at h) (fun _ => wpD_skip (hK _ ?_))
                    simp [leT, putAll]
                  | true =>
                    cases BC with
                    | false =>
                      (refine wpD_seqk fun K hK => ?_; refine wpD_drawk tyOK (by kernel_rfl) (by kernel_rfl) fun KT hKT => ?_; ((try simp only [wpAftT_ret, wpAftT_pan, putS, updS, setS]); (repeat (rw [wpT_cons]; simp [wpAft_ret, wpAft_pan, wantD, evOp, opD, tmOf, putS, updS, setS, hOf, isFree, isTok, fillD, TK.isAgg, TK.known, partD, thenD, blockD, putAll, D.ofV, inB, binX, binD, isCst, bndD, capB, IntKind.min, IntKind.max, IntKind.signed, IntKind.bits, dstOf, late])); (try simp only [wpT_nil])))
                      refine CallY.pure globPure (lam) ?_ (by simp [D.fgts, D.fgt, encP_pure, D.pures_map]) (by simp [D.pures, D.pure, Cp.free, D.pures_map, encP_pure, D.pures_map]) (by simp [Out.pure, D.pure, D.pures, Cp.free, D.pures_map, encP_pure, D.pures_map])
                      ((try simp only [wpAftT_ret, wpAftT_pan, putS, updS, setS]); (repeat (rw [wpT_cons]; simp [wpAft_ret, wpAft_pan, wantD, evOp, opD, tmOf, putS, updS, setS, hOf, isFree, isTok, fillD, TK.isAgg, TK.known, partD, thenD, blockD, putAll, D.ofV, inB, binX, binD, isCst, bndD, capB, IntKind.min, IntKind.max, IntKind.signed, IntKind.bits, dstOf, late])); (try simp only [wpT_nil]))
                      refine CallY.pure globPure (lbm) ?_ (by simp [D.fgts, D.fgt, encP_pure, D.pures_map]) (by simp [D.pures, D.pure, Cp.free, D.pures_map, encP_pure, D.pures_map]) (by simp [Out.pure, D.pure, D.pures, Cp.free, D.pures_map, encP_pure, D.pures_map])
                      ((try simp only [wpAftT_ret, wpAftT_pan, putS, updS, setS]); (repeat (rw [wpT_cons]; simp [wpAft_ret, wpAft_pan, wantD, evOp, opD, tmOf, putS, updS, setS, hOf, isFree, isTok, fillD, TK.isAgg, TK.known, partD, thenD, blockD, putAll, D.ofV, inB, binX, binD, isCst, bndD, capB, IntKind.min, IntKind.max, IntKind.signed, IntKind.bits, dstOf, late])); (try simp only [wpT_nil]))
                      refine CallY.pure globPure (lac) ?_ (by simp [D.fgts, D.fgt, encP_pure, D.pures_map]) (by simp [D.pures, D.pure, Cp.free, D.pures_map, encP_pure, D.pures_map]) (by simp [Out.pure, D.pure, D.pures, Cp.free, D.pures_map, encP_pure, D.pures_map])
                      ((try simp only [wpAftT_ret, wpAftT_pan, putS, updS, setS]); (repeat (rw [wpT_cons]; simp [wpAft_ret, wpAft_pan, wantD, evOp, opD, tmOf, putS, updS, setS, hOf, isFree, isTok, fillD, TK.isAgg, TK.known, partD, thenD, blockD, putAll, D.ofV, inB, binX, binD, isCst, bndD, capB, IntKind.min, IntKind.max, IntKind.signed, IntKind.bits, dstOf, late])); (try simp only [wpT_nil]))
                      refine CallY.pure globPure (lbc) ?_ (by simp [D.fgts, D.fgt, encP_pure, D.pures_map]) (by simp [D.pures, D.pure, Cp.free, D.pures_map, encP_pure, D.pures_map]) (by simp [Out.pure, D.pure, D.pures, Cp.free, D.pures_map, encP_pure, D.pures_map])
                      ((try simp only [wpAftT_ret, wpAftT_pan, putS, updS, setS]); (repeat (rw [wpT_cons]; simp [wpAft_ret, wpAft_pan, wantD, evOp, opD, tmOf, putS, updS, setS, hOf, isFree, isTok, fillD, TK.isAgg, TK.known, partD, thenD, blockD, putAll, D.ofV, inB, binX, binD, isCst, bndD, capB, IntKind.min, IntKind.max, IntKind.signed, IntKind.bits, dstOf, late])); (try simp only [wpT_nil]))
                      refine CallY.pure globPure (sua) ?_ (by simp [D.fgts, D.fgt, encP_pure, D.pures_map]) (by simp [D.pures, D.pure, Cp.free, D.pures_map, encP_pure, D.pures_map]) (by simp [Out.pure, D.pure, D.pures, Cp.free, D.pures_map, encP_pure, D.pures_map])
                      ((try simp only [wpAftT_ret, wpAftT_pan, putS, updS, setS]); (repeat (rw [wpT_cons]; simp [wpAft_ret, wpAft_pan, wantD, evOp, opD, tmOf, putS, updS, setS, hOf, isFree, isTok, fillD, TK.isAgg, TK.known, partD, thenD, blockD, putAll, D.ofV, inB, binX, binD, isCst, bndD, capB, IntKind.min, IntKind.max, IntKind.signed, IntKind.bits, dstOf, late])); (try simp only [wpT_nil]))
                      refine CallY.pure globPure (las) ?_ (by simp [D.fgts, D.fgt, encP_pure, D.pures_map]) (by simp [D.pures, D.pure, Cp.free, D.pures_map, encP_pure, D.pures_map]) (by simp [Out.pure, D.pure, D.pures, Cp.free, D.pures_map, encP_pure, D.pures_map])
                      ((try simp only [wpAftT_ret, wpAftT_pan, putS, updS, setS]); (repeat (rw [wpT_cons]; simp [wpAft_ret, wpAft_pan, wantD, evOp, opD, tmOf, putS, updS, setS, hOf, isFree, isTok, fillD, TK.isAgg, TK.known, partD, thenD, blockD, putAll, D.ofV, inB, binX, binD, isCst, bndD, capB, IntKind.min, IntKind.max, IntKind.signed, IntKind.bits, dstOf, late])); (try simp only [wpT_nil]))
                      refine CallY.pure globPure (sua) ?_ (by simp [D.fgts, D.fgt, encP_pure, D.pures_map]) (by simp [D.pures, D.pure, Cp.free, D.pures_map, encP_pure, D.pures_map]) (by simp [Out.pure, D.pure, D.pures, Cp.free, D.pures_map, encP_pure, D.pures_map])
                      ((try simp only [wpAftT_ret, wpAftT_pan, putS, updS, setS]); (repeat (rw [wpT_cons]; simp [wpAft_ret, wpAft_pan, wantD, evOp, opD, tmOf, putS, updS, setS, hOf, isFree, isTok, fillD, TK.isAgg, TK.known, partD, thenD, blockD, putAll, D.ofV, inB, binX, binD, isCst, bndD, capB, IntKind.min, IntKind.max, IntKind.signed, IntKind.bits, dstOf, late])); (try simp only [wpT_nil]))
                      refine CallY.pure globPure (lsa) ?_ (by simp [D.fgts, D.fgt, encP_pure, D.pures_map]) (by simp [D.pures, D.pure, Cp.free, D.pures_map, encP_pure, D.pures_map]) (by simp [Out.pure, D.pure, D.pures, Cp.free, D.pures_map, encP_pure, D.pures_map])
                      ((try simp only [wpAftT_ret, wpAftT_pan, putS, updS, setS]); (repeat (rw [wpT_cons]; simp [wpAft_ret, wpAft_pan, wantD, evOp, opD, tmOf, putS, updS, setS, hOf, isFree, isTok, fillD, TK.isAgg, TK.known, partD, thenD, blockD, putAll, D.ofV, inB, binX, binD, isCst, bndD, capB, IntKind.min, IntKind.max, IntKind.signed, IntKind.bits, dstOf, late])); (try simp only [wpT_nil]))
                      (refine hKT _ _ _ _ (by kernel_rfl) ?_; clear hKT KT; (try simp only [thenD, blockD]))
                      (refine hK _ _ _ ?_; clear hK K)
                      refine wpD_part rfl (fun h => by simp at h) (fun _ => wpD_skip (hK _ ?_))
                      simp [leT, putAll]
                    | true =>
                      rw [hmc rfl rfl] at lmc
                      (refine wpD_seqk fun K hK => ?_; refine wpD_drawk tyOK (by kernel_rfl) (by kernel_rfl) fun KT hKT => ?_; ((try simp only [wpAftT_ret, wpAftT_pan, putS, updS, setS]); (repeat (rw [wpT_cons]; simp [wpAft_ret, wpAft_pan, wantD, evOp, opD, tmOf, putS, updS, setS, hOf, isFree, isTok, fillD, TK.isAgg, TK.known, partD, thenD, blockD, putAll, D.ofV, inB, binX, binD, isCst, bndD, capB, IntKind.min, IntKind.max, IntKind.signed, IntKind.bits, dstOf, late])); (try simp only [wpT_nil])))
                      refine CallY.pure globPure (lam) ?_ (by simp [D.fgts, D.fgt, encP_pure, D.pures_map]) (by simp [D.pures, D.pure, Cp.free, D.pures_map, encP_pure, D.pures_map]) (by simp [Out.pure, D.pure, D.pures, Cp.free, D.pures_map, encP_pure, D.pures_map])
                      ((try simp only [wpAftT_ret, wpAftT_pan, putS, updS, setS]); (repeat (rw [wpT_cons]; simp [wpAft_ret, wpAft_pan, wantD, evOp, opD, tmOf, putS, updS, setS, hOf, isFree, isTok, fillD, TK.isAgg, TK.known, partD, thenD, blockD, putAll, D.ofV, inB, binX, binD, isCst, bndD, capB, IntKind.min, IntKind.max, IntKind.signed, IntKind.bits, dstOf, late])); (try simp only [wpT_nil]))
                      refine CallY.pure globPure (lbm) ?_ (by simp [D.fgts, D.fgt, encP_pure, D.pures_map]) (by simp [D.pures, D.pure, Cp.free, D.pures_map, encP_pure, D.pures_map]) (by simp [Out.pure, D.pure, D.pures, Cp.free, D.pures_map, encP_pure, D.pures_map])
                      ((try simp only [wpAftT_ret, wpAftT_pan, putS, updS, setS]); (repeat (rw [wpT_cons]; simp [wpAft_ret, wpAft_pan, wantD, evOp, opD, tmOf, putS, updS, setS, hOf, isFree, isTok, fillD, TK.isAgg, TK.known, partD, thenD, blockD, putAll, D.ofV, inB, binX, binD, isCst, bndD, capB, IntKind.min, IntKind.max, IntKind.signed, IntKind.bits, dstOf, late])); (try simp only [wpT_nil]))
                      refine CallY.pure globPure (lac) ?_ (by simp [D.fgts, D.fgt, encP_pure, D.pures_map]) (by simp [D.pures, D.pure, Cp.free, D.pures_map, encP_pure, D.pures_map]) (by simp [Out.pure, D.pure, D.pures, Cp.free, D.pures_map, encP_pure, D.pures_map])
                      ((try simp only [wpAftT_ret, wpAftT_pan, putS, updS, setS]); (repeat (rw [wpT_cons]; simp [wpAft_ret, wpAft_pan, wantD, evOp, opD, tmOf, putS, updS, setS, hOf, isFree, isTok, fillD, TK.isAgg, TK.known, partD, thenD, blockD, putAll, D.ofV, inB, binX, binD, isCst, bndD, capB, IntKind.min, IntKind.max, IntKind.signed, IntKind.bits, dstOf, late])); (try simp only [wpT_nil]))
                      refine CallY.pure globPure (lbc) ?_ (by simp [D.fgts, D.fgt, encP_pure, D.pures_map]) (by simp [D.pures, D.pure, Cp.free, D.pures_map, encP_pure, D.pures_map]) (by simp [Out.pure, D.pure, D.pures, Cp.free, D.pures_map, encP_pure, D.pures_map])
                      ((try simp only [wpAftT_ret, wpAftT_pan, putS, updS, setS]); (repeat (rw [wpT_cons]; simp [wpAft_ret, wpAft_pan, wantD, evOp, opD, tmOf, putS, updS, setS, hOf, isFree, isTok, fillD, TK.isAgg, TK.known, partD, thenD, blockD, putAll, D.ofV, inB, binX, binD, isCst, bndD, capB, IntKind.min, IntKind.max, IntKind.signed, IntKind.bits, dstOf, late])); (try simp only [wpT_nil]))
                      refine CallY.pure globPure (lmc) ?_ (by simp [D.fgts, D.fgt, encP_pure, D.pures_map]) (by simp [D.pures, D.pure, Cp.free, D.pures_map, encP_pure, D.pures_map]) (by simp [Out.pure, D.pure, D.pures, Cp.free, D.pures_map, encP_pure, D.pures_map])
                      ((try simp only [wpAftT_ret, wpAftT_pan, putS, updS, setS]); (repeat (rw [wpT_cons]; simp [wpAft_ret, wpAft_pan, wantD, evOp, opD, tmOf, putS, updS, setS, hOf, isFree, isTok, fillD, TK.isAgg, TK.known, partD, thenD, blockD, putAll, D.ofV, inB, binX, binD, isCst, bndD, capB, IntKind.min, IntKind.max, IntKind.signed, IntKind.bits, dstOf, late])); (try simp only [wpT_nil]))
                      refine CallY.pure globPure (sua) ?_ (by simp [D.fgts, D.fgt, encP_pure, D.pures_map]) (by simp [D.pures, D.pure, Cp.free, D.pures_map, encP_pure, D.pures_map]) (by simp [Out.pure, D.pure, D.pures, Cp.free, D.pures_map, encP_pure, D.pures_map])
                      ((try simp only [wpAftT_ret, wpAftT_pan, putS, updS, setS]); (repeat (rw [wpT_cons]; simp [wpAft_ret, wpAft_pan, wantD, evOp, opD, tmOf, putS, updS, setS, hOf, isFree, isTok, fillD, TK.isAgg, TK.known, partD, thenD, blockD, putAll, D.ofV, inB, binX, binD, isCst, bndD, capB, IntKind.min, IntKind.max, IntKind.signed, IntKind.bits, dstOf, late])); (try simp only [wpT_nil]))
                      refine CallY.pure globPure (las) ?_ (by simp [D.fgts, D.fgt, encP_pure, D.pures_map]) (by simp [D.pures, D.pure, Cp.free, D.pures_map, encP_pure, D.pures_map]) (by simp [Out.pure, D.pure, D.pures, Cp.free, D.pures_map, encP_pure, D.pures_map])
                      ((try simp only [wpAftT_ret, wpAftT_pan, putS, updS, setS]); (repeat (rw [wpT_cons]; simp [wpAft_ret, wpAft_pan, wantD, evOp, opD, tmOf, putS, updS, setS, hOf, isFree, isTok, fillD, TK.isAgg, TK.known, partD, thenD, blockD, putAll, D.ofV, inB, binX, binD, isCst, bndD, capB, IntKind.min, IntKind.max, IntKind.signed, IntKind.bits, dstOf, late])); (try simp only [wpT_nil]))
                      refine CallY.pure globPure (sua) ?_ (by simp [D.fgts, D.fgt, encP_pure, D.pures_map]) (by simp [D.pures, D.pure, Cp.free, D.pures_map, encP_pure, D.pures_map]) (by simp [Out.pure, D.pure, D.pures, Cp.free, D.pures_map, encP_pure, D.pures_map])
                      ((try simp only [wpAftT_ret, wpAftT_pan, putS, updS, setS]); (repeat (rw [wpT_cons]; simp [wpAft_ret, wpAft_pan, wantD, evOp, opD, tmOf, putS, updS, setS, hOf, isFree, isTok, fillD, TK.isAgg, TK.known, partD, thenD, blockD, putAll, D.ofV, inB, binX, binD, isCst, bndD, capB, IntKind.min, IntKind.max, IntKind.signed, IntKind.bits, dstOf, late])); (try simp only [wpT_nil]))
                      refine CallY.pure globPure (lsa) ?_ (by simp [D.fgts, D.fgt, encP_pure, D.pures_map]) (by simp [D.pures, D.pure, Cp.free, D.pures_map, encP_pure, D.pures_map]) (by simp [Out.pure, D.pure, D.pures, Cp.free, D.pures_map, encP_pure, D.pures_map])
                      ((try simp only [wpAftT_ret, wpAftT_pan, putS, updS, setS]); (repeat (rw [wpT_cons]; simp [wpAft_ret, wpAft_pan, wantD, evOp, opD, tmOf, putS, updS, setS, hOf, isFree, isTok, fillD, TK.isAgg, TK.known, partD, thenD, blockD, putAll, D.ofV, inB, binX, binD, isCst, bndD, capB, IntKind.min, IntKind.max, IntKind.signed, IntKind.bits, dstOf, late])); (try simp only [wpT_nil]))
                      (refine hKT _ _ _ _ (by kernel_rfl) ?_; clear hKT KT; (try simp only [thenD, blockD]))
                      (refine hK _ _ _ ?_; clear hK K)
                      refine wpD_part rfl (fun h => by simp at h) (fun _ => wpD_skip (hK _ ?_))
                      simp [leT, putAll]
                · simp only [putAll, List.set]
                  (refine wpD_seqk fun K hK => ?_; refine wpD_drawk tyOK (by kernel_rfl) (by kernel_rfl) fun KT hKT => ?_; ((try simp only [wpAftT_ret, wpAftT_pan, putS, updS, setS]); (repeat (rw [wpT_cons]; simp [wpAft_ret, wpAft_pan, wantD, evOp, opD, tmOf, putS, updS, setS, hOf, isFree, isTok, fillD, TK.isAgg, TK.known, partD, thenD, blockD, putAll, D.ofV, inB, binX, binD, isCst, bndD, capB, IntKind.min, IntKind.max, IntKind.signed, IntKind.bits, dstOf, late])); (try simp only [wpT_nil])))
                  refine CallY.pure globPure (pa) ?_ (by simp [D.fgts, D.fgt, encP_pure, D.pures_map]) (by simp [D.pures, D.pure, Cp.free, D.pures_map, encP_pure, D.pures_map]) (by simp [Out.pure, D.pure, D.pures, Cp.free, D.pures_map, encP_pure, D.pures_map])
                  ((try simp only [wpAftT_ret, wpAftT_pan, putS, updS, setS]); (repeat (rw [wpT_cons]; simp [wpAft_ret, wpAft_pan, wantD, evOp, opD, tmOf, putS, updS, setS, hOf, isFree, isTok, fillD, TK.isAgg, TK.known, partD, thenD, blockD, putAll, D.ofV, inB, binX, binD, isCst, bndD, capB, IntKind.min, IntKind.max, IntKind.signed, IntKind.bits, dstOf, late])); (try simp only [wpT_nil]))
                  refine CallY.pure globPure (pb) ?_ (by simp [D.fgts, D.fgt, encP_pure, D.pures_map]) (by simp [D.pures, D.pure, Cp.free, D.pures_map, encP_pure, D.pures_map]) (by simp [Out.pure, D.pure, D.pures, Cp.free, D.pures_map, encP_pure, D.pures_map])
                  ((try simp only [wpAftT_ret, wpAftT_pan, putS, updS, setS]); (repeat (rw [wpT_cons]; simp [wpAft_ret, wpAft_pan, wantD, evOp, opD, tmOf, putS, updS, setS, hOf, isFree, isTok, fillD, TK.isAgg, TK.known, partD, thenD, blockD, putAll, D.ofV, inB, binX, binD, isCst, bndD, capB, IntKind.min, IntKind.max, IntKind.signed, IntKind.bits, dstOf, late])); (try simp only [wpT_nil]))
                  (refine hKT _ _ _ _ (by kernel_rfl) ?_; clear hKT KT; (try simp only [thenD, blockD]))
                  (refine hK _ _ _ ?_; clear hK K)
                  cases AB with
                  | false =>
                    (refine wpD_seqk fun K hK => ?_; refine wpD_drawk tyOK (by kernel_rfl) (by kernel_rfl) fun KT hKT => ?_; ((try simp only [wpAftT_ret, wpAftT_pan, putS, updS, setS]); (repeat (rw [wpT_cons]; simp [wpAft_ret, wpAft_pan, wantD, evOp, opD, tmOf, putS, updS, setS, hOf, isFree, isTok, fillD, TK.isAgg, TK.known, partD, thenD, blockD, putAll, D.ofV, inB, binX, binD, isCst, bndD, capB, IntKind.min, IntKind.max, IntKind.signed, IntKind.bits, dstOf, late])); (try simp only [wpT_nil])))
                    refine CallY.pure globPure (pm) ?_ (by simp [D.fgts, D.fgt, encP_pure, D.pures_map]) (by simp [D.pures, D.pure, Cp.free, D.pures_map, encP_pure, D.pures_map]) (by simp [Out.pure, D.pure, D.pures, Cp.free, D.pures_map, encP_pure, D.pures_map])
                    ((try simp only [wpAftT_ret, wpAftT_pan, putS, updS, setS]); (repeat (rw [wpT_cons]; simp [wpAft_ret, wpAft_pan, wantD, evOp, opD, tmOf, putS, updS, setS, hOf, isFree, isTok, fillD, TK.isAgg, TK.known, partD, thenD, blockD, putAll, D.ofV, inB, binX, binD, isCst, bndD, capB, IntKind.min, IntKind.max, IntKind.signed, IntKind.bits, dstOf, late])); (try simp only [wpT_nil]))
                    refine CallY.pure globPure (mxy) ?_ (by simp [D.fgts, D.fgt, encP_pure, D.pures_map]) (by simp [D.pures, D.pure, Cp.free, D.pures_map, encP_pure, D.pures_map]) (by simp [Out.pure, D.pure, D.pures, Cp.free, D.pures_map, encP_pure, D.pures_map])
                    ((try simp only [wpAftT_ret, wpAftT_pan, putS, updS, setS]); (repeat (rw [wpT_cons]; simp [wpAft_ret, wpAft_pan, wantD, evOp, opD, tmOf, putS, updS, setS, hOf, isFree, isTok, fillD, TK.isAgg, TK.known, partD, thenD, blockD, putAll, D.ofV, inB, binX, binD, isCst, bndD, capB, IntKind.min, IntKind.max, IntKind.signed, IntKind.bits, dstOf, late])); (try simp only [wpT_nil]))
                    refine CallY.pure globPure (spx) ?_ (by simp [D.fgts, D.fgt, encP_pure, D.pures_map]) (by simp [D.pures, D.pure, Cp.free, D.pures_map, encP_pure, D.pures_map]) (by simp [Out.pure, D.pure, D.pures, Cp.free, D.pures_map, encP_pure, D.pures_map])
                    ((try simp only [wpAftT_ret, wpAftT_pan, putS, updS, setS]); (repeat (rw [wpT_cons]; simp [wpAft_ret, wpAft_pan, wantD, evOp, opD, tmOf, putS, updS, setS, hOf, isFree, isTok, fillD, TK.isAgg, TK.known, partD, thenD, blockD, putAll, D.ofV, inB, binX, binD, isCst, bndD, capB, IntKind.min, IntKind.max, IntKind.signed, IntKind.bits, dstOf, late])); (try simp only [wpT_nil]))
                    refine CallY.pure globPure (vm) ?_ (by simp [D.fgts, D.fgt, encP_pure, D.pures_map]) (by simp [D.pures, D.pure, Cp.free, D.pures_map, encP_pure, D.pures_map]) (by simp [Out.pure, D.pure, D.pures, Cp.free, D.pures_map, encP_pure, D.pures_map])
                    ((try simp only [wpAftT_ret, wpAftT_pan, putS, updS, setS]); (repeat (rw [wpT_cons]; simp [wpAft_ret, wpAft_pan, wantD, evOp, opD, tmOf, putS, updS, setS, hOf, isFree, isTok, fillD, TK.isAgg, TK.known, partD, thenD, blockD, putAll, D.ofV, inB, binX, binD, isCst, bndD, capB, IntKind.min, IntKind.max, IntKind.signed, IntKind.bits, dstOf, late])); (try simp only [wpT_nil]))
                    refine CallY.pure globPure (va) ?_ (by simp [D.fgts, D.fgt, encP_pure, D.pures_map]) (by simp [D.pures, D.pure, Cp.free, D.pures_map, encP_pure, D.pures_map]) (by simp [Out.pure, D.pure, D.pures, Cp.free, D.pures_map, encP_pure, D.pures_map])
                    ((try simp only [wpAftT_ret, wpAftT_pan, putS, updS, setS]); (repeat (rw [wpT_cons]; simp [wpAft_ret, wpAft_pan, wantD, evOp, opD, tmOf, putS, updS, setS, hOf, isFree, isTok, fillD, TK.isAgg, TK.known, partD, thenD, blockD, putAll, D.ofV, inB, binX, binD, isCst, bndD, capB, IntKind.min, IntKind.max, IntKind.signed, IntKind.bits, dstOf, late])); (try simp only [wpT_nil]))
                    refine CallY.pure globPure (vb) ?_ (by simp [D.fgts, D.fgt, encP_pure, D.pures_map]) (by simp [D.pures, D.pure, Cp.free, D.pures_map, encP_pure, D.pures_map]) (by simp [Out.pure, D.pure, D.pures, Cp.free, D.pures_map, encP_pure, D.pures_map])
                    ((try simp only [wpAftT_ret, wpAftT_pan, putS, updS, setS]); (repeat (rw [wpT_cons]; simp [wpAft_ret, wpAft_pan, wantD, evOp, opD, tmOf, putS, updS, setS, hOf, isFree, isTok, fillD, TK.isAgg, TK.known, partD, thenD, blockD, putAll, D.ofV, inB, binX, binD, isCst, bndD, capB, IntKind.min, IntKind.max, IntKind.signed, IntKind.bits, dstOf, late])); (try simp only [wpT_nil]))
                    (refine hKT _ _ _ _ (by kernel_rfl) ?_; clear hKT KT; (try simp only [thenD, blockD]))
                    (refine hK _ _ _ ?_; clear hK K)
                    (refine wpD_ret ?_; (try simp only [thenD, blockD]); refine EndQ.ret rfl (.inl ?_); simp [tmOf, Out.fgt, D.fgt, D.fgts])
                  | true =>
                    rw [hput rfl] at lxy
                    (refine wpD_seqk fun K hK => ?_; refine wpD_drawk tyOK (by kernel_rfl) (by kernel_rfl) fun KT hKT => ?_; ((try simp only [wpAftT_ret, wpAftT_pan, putS, updS, setS]); (repeat (rw [wpT_cons]; simp [wpAft_ret, wpAft_pan, wantD, evOp, opD, tmOf, putS, updS, setS, hOf, isFree, isTok, fillD, TK.isAgg, TK.known, partD, thenD, blockD, putAll, D.ofV, inB, binX, binD, isCst, bndD, capB, IntKind.min, IntKind.max, IntKind.signed, IntKind.bits, dstOf, late])); (try simp only [wpT_nil])))
                    refine CallY.pure globPure (lxy) ?_ (by simp [D.fgts, D.fgt, encP_pure, D.pures_map]) (by simp [D.pures, D.pure, Cp.free, D.pures_map, encP_pure, D.pures_map]) (by simp [Out.pure, D.pure, D.pures, Cp.free, D.pures_map, encP_pure, D.pures_map])
                    ((try simp only [wpAftT_ret, wpAftT_pan, putS, updS, setS]); (repeat (rw [wpT_cons]; simp [wpAft_ret, wpAft_pan, wantD, evOp, opD, tmOf, putS, updS, setS, hOf, isFree, isTok, fillD, TK.isAgg, TK.known, partD, thenD, blockD, putAll, D.ofV, inB, binX, binD, isCst, bndD, capB, IntKind.min, IntKind.max, IntKind.signed, IntKind.bits, dstOf, late])); (try simp only [wpT_nil]))
                    refine CallY.pure globPure (pm) ?_ (by simp [D.fgts, D.fgt, encP_pure, D.pures_map]) (by simp [D.pures, D.pure, Cp.free, D.pures_map, encP_pure, D.pures_map]) (by simp [Out.pure, D.pure, D.pures, Cp.free, D.pures_map, encP_pure, D.pures_map])
                    ((try simp only [wpAftT_ret, wpAftT_pan, putS, updS, setS]); (repeat (rw [wpT_cons]; simp [wpAft_ret, wpAft_pan, wantD, evOp, opD, tmOf, putS, updS, setS, hOf, isFree, isTok, fillD, TK.isAgg, TK.known, partD, thenD, blockD, putAll, D.ofV, inB, binX, binD, isCst, bndD, capB, IntKind.min, IntKind.max, IntKind.signed, IntKind.bits, dstOf, late])); (try simp only [wpT_nil]))
                    refine CallY.pure globPure (mxy) ?_ (by simp [D.fgts, D.fgt, encP_pure, D.pures_map]) (by simp [D.pures, D.pure, Cp.free, D.pures_map, encP_pure, D.pures_map]) (by simp [Out.pure, D.pure, D.pures, Cp.free, D.pures_map, encP_pure, D.pures_map])
                    ((try simp only [wpAftT_ret, wpAftT_pan, putS, updS, setS]); (repeat (rw [wpT_cons]; simp [wpAft_ret, wpAft_pan, wantD, evOp, opD, tmOf, putS, updS, setS, hOf, isFree, isTok, fillD, TK.isAgg, TK.known, partD, thenD, blockD, putAll, D.ofV, inB, binX, binD, isCst, bndD, capB, IntKind.min, IntKind.max, IntKind.signed, IntKind.bits, dstOf, late])); (try simp only [wpT_nil]))
                    refine CallY.pure globPure (spx) ?_ (by simp [D.fgts, D.fgt, encP_pure, D.pures_map]) (by simp [D.pures, D.pure, Cp.free, D.pures_map, encP_pure, D.pures_map]) (by simp [Out.pure, D.pure, D.pures, Cp.free, D.pures_map, encP_pure, D.pures_map])
                    ((try simp only [wpAftT_ret, wpAftT_pan, putS, updS, setS]); (repeat (rw [wpT_cons]; simp [wpAft_ret, wpAft_pan, wantD, evOp, opD, tmOf, putS, updS, setS, hOf, isFree, isTok, fillD, TK.isAgg, TK.known, partD, thenD, blockD, putAll, D.ofV, inB, binX, binD, isCst, bndD, capB, IntKind.min, IntKind.max, IntKind.signed, IntKind.bits, dstOf, late])); (try simp only [wpT_nil]))
                    refine CallY.pure globPure (vm) ?_ (by simp [D.fgts, D.fgt, encP_pure, D.pures_map]) (by simp [D.pures, D.pure, Cp.free, D.pures_map, encP_pure, D.pures_map]) (by simp [Out.pure, D.pure, D.pures, Cp.free, D.pures_map, encP_pure, D.pures_map])
                    ((try simp only [wpAftT_ret, wpAftT_pan, putS, updS, setS]); (repeat (rw [wpT_cons]; simp [wpAft_ret, wpAft_pan, wantD, evOp, opD, tmOf, putS, updS, setS, hOf, isFree, isTok, fillD, TK.isAgg, TK.known, partD, thenD, blockD, putAll, D.ofV, inB, binX, binD, isCst, bndD, capB, IntKind.min, IntKind.max, IntKind.signed, IntKind.bits, dstOf, late])); (try simp only [wpT_nil]))
                    refine CallY.pure globPure (va) ?_ (by simp [D.fgts, D.fgt, encP_pure, D.pures_map]) (by simp [D.pures, D.pure, Cp.free, D.pures_map, encP_pure, D.pures_map]) (by simp [Out.pure, D.pure, D.pures, Cp.free, D.pures_map, encP_pure, D.pures_map])
                    ((try simp only [wpAftT_ret, wpAftT_pan, putS, updS, setS]); (repeat (rw [wpT_cons]; simp [wpAft_ret, wpAft_pan, wantD, evOp, opD, tmOf, putS, updS, setS, hOf, isFree, isTok, fillD, TK.isAgg, TK.known, partD, thenD, blockD, putAll, D.ofV, inB, binX, binD, isCst, bndD, capB, IntKind.min, IntKind.max, IntKind.signed, IntKind.bits, dstOf, late])); (try simp only [wpT_nil]))
                    refine CallY.pure globPure (vb) ?_ (by simp [D.fgts, D.fgt, encP_pure, D.pures_map]) (by simp [D.pures, D.pure, Cp.free, D.pures_map, encP_pure, D.pures_map]) (by simp [Out.pure, D.pure, D.pures, Cp.free, D.pures_map, encP_pure, D.pures_map])
                    ((try simp only [wpAftT_ret, wpAftT_pan, putS, updS, setS]); (repeat (rw [wpT_cons]; simp [wpAft_ret, wpAft_pan, wantD, evOp, opD, tmOf, putS, updS, setS, hOf, isFree, isTok, fillD, TK.isAgg, TK.known, partD, thenD, blockD, putAll, D.ofV, inB, binX, binD, isCst, bndD, capB, IntKind.min, IntKind.max, IntKind.signed, IntKind.bits, dstOf, late])); (try simp only [wpT_nil]))
                    (refine hKT _ _ _ _ (by kernel_rfl) ?_; clear hKT KT; (try simp only [thenD, blockD]))
                    (refine hK _ _ _ ?_; clear hK K)
                    (refine wpD_ret ?_; (try simp only [thenD, blockD]); refine EndQ.ret rfl (.inl ?_); simp [tmOf, Out.fgt, D.fgt, D.fgts])
end Go.Proofs.Ytlepjegkcmphoaa
