/-
  The program's functions of levels against the reference's: all alike.
-/
import Derived.Test.YtbjgdeednmhpfaaRpv
set_option linter.unusedSimpArgs false
set_option linter.unusedVariables false
set_option maxHeartbeats 10000000
set_option maxRecDepth 20000
namespace Go.Proofs.Ytbjgdeednmhpfaa
open Go.RowKit

theorem normOf_le (l : LV) : (normOf l).length ≤ l.length := by
  rw [← normR_eq]
  unfold normR
  split
  · simp
  · refine Nat.le_trans ?_ (foldR_len l)
    generalize foldR l = o
    cases o with
    | nil => exact Nat.le_refl _
    | cons q r =>
      rw [hideR]
      split <;> simp
theorem succL_len (l : LV) : (succL l).length ≤ LMax := by
  unfold succL; split <;> exact normOf_lmax _

set_option maxHeartbeats 20000000 in
theorem one1_spec (a b : LV) (n : Int) (ha : a.length < LMax) (hb : b.length < LMax) : Spec Try.prog glob 17 [encL a, encL b, .int .i64 n] [] (fun o _ => o.fgt = .ret (.bool true)) := by
  have ha' := Nat.le_of_lt ha
  have hb' := Nat.le_of_lt hb
  have p1 := levelRight_spec a n ha'
  have q1 := rright_spec a n ha'
  have p2 := norm_spec a ha'
  have q2 := rnormN_spec a ha
  have e2 := same1_spec (normOf a) (normOf a) (normOf_lmax a) (normOf_lmax a)
  have p3 := succ_spec a ha'
  have q3 := rsucc_spec a ha
  have e3 := same1_spec (succL a) (succL a) (succL_len a) (succL_len a)
  have p4 := leq_spec a b ha' hb'
  have q4 := rleq_spec a b ha hb
  have p5 := leq_spec b a hb' ha'
  have q5 := rleq_spec b a hb ha
  have p6 := same_spec a b ha' hb'
  have q6 := rsame_spec a b ha hb
  have p7 := num_spec n
  have q7 := rnum_spec n
  have e7 := same1_spec (normOf [(0, n)]) (normOf [(0, n)]) (normOf_lmax _) (normOf_lmax _)
  have p8 := var_spec n
  have q8 := rvar_spec n
  have e8 := same1_spec (normOf [(n, 0)]) (normOf [(n, 0)]) (normOf_lmax _) (normOf_lmax _)
  simp only [decide_true] at e2 e3 e7 e8
  generalize levelRight a n = b1 at p1 q1
  generalize leqM a b = b4 at p4 q4
  generalize leqM b a = b5 at p5 q5
  generalize decide (normOf a = normOf b) = b6 at p6 q6
  generalize normOf a = A at p2 q2 e2
  generalize succL a = S at p3 q3 e3
  generalize normOf [(0, n)] = N at p7 q7 e7
  generalize normOf [(n, 0)] = V at p8 q8 e8
  unfold encL at *
  refine Spec.movd globPure (wpD_spec tyOK Try.func17 rfl (enters _ _ Try.func17 rfl (by decide)) rfl rfl ?_)
  (refine wpD_seqk fun K hK => ?_; refine wpD_region tyOK ?_; ((try simp only [wpAft_ret, wpAft_pan, putS, updS, setS]); (repeat (rw [wpS_cons]; simp [wpAft_ret, wpAft_pan, wantD, evOp, opD, tmOf, putS, updS, setS, hOf, isFree, isTok, fillD, TK.isAgg, TK.known, partD, thenD, blockD, putAll, D.ofV, inB, binX, binD, binE, isCst, bndD, capB, IntKind.min, IntKind.max, IntKind.signed, IntKind.bits, dstOf])); (try simp only [wpS_nil, thenD, blockD])); refine hK _ _ _ ?_; clear hK K)
  (refine wpD_seqk fun K hK => ?_; refine wpD_drawk tyOK (by kernel_rfl) (by kernel_rfl) fun KT hKT => ?_; ((try simp only [wpAftT_ret, wpAftT_pan, putS, updS, setS]); (repeat (rw [wpT_cons]; simp [wpAft_ret, wpAft_pan, wantD, evOp, opD, tmOf, putS, updS, setS, hOf, isFree, isTok, fillD, TK.isAgg, TK.known, partD, thenD, blockD, putAll, D.ofV, inB, binX, binD, binE, isCst, bndD, capB, IntKind.min, IntKind.max, IntKind.signed, IntKind.bits, dstOf, late])); (try simp only [wpT_nil])))
  refine CallY.pure globPure (p1) ?_ (by simp [D.fgts, D.fgt, encPs_pure]) (by simp [D.pures, D.pure, Cp.free, D.pures_map, encPs_pure]) (by simp [Out.pure, D.pure, D.pures, Cp.free, D.pures_map, encPs_pure])
  ((try simp only [wpAftT_ret, wpAftT_pan, putS, updS, setS]); (repeat (rw [wpT_cons]; simp [wpAft_ret, wpAft_pan, wantD, evOp, opD, tmOf, putS, updS, setS, hOf, isFree, isTok, fillD, TK.isAgg, TK.known, partD, thenD, blockD, putAll, D.ofV, inB, binX, binD, binE, isCst, bndD, capB, IntKind.min, IntKind.max, IntKind.signed, IntKind.bits, dstOf, late])); (try simp only [wpT_nil]))
  refine CallY.pure globPure (q1) ?_ (by simp [D.fgts, D.fgt, encPs_pure]) (by simp [D.pures, D.pure, Cp.free, D.pures_map, encPs_pure]) (by simp [Out.pure, D.pure, D.pures, Cp.free, D.pures_map, encPs_pure])
  ((try simp only [wpAftT_ret, wpAftT_pan, putS, updS, setS]); (repeat (rw [wpT_cons]; simp [wpAft_ret, wpAft_pan, wantD, evOp, opD, tmOf, putS, updS, setS, hOf, isFree, isTok, fillD, TK.isAgg, TK.known, partD, thenD, blockD, putAll, D.ofV, inB, binX, binD, binE, isCst, bndD, capB, IntKind.min, IntKind.max, IntKind.signed, IntKind.bits, dstOf, late, pairX])); (try simp only [wpT_nil]))
  refine CallY.pure globPure (p2) ?_ (by simp [D.fgts, D.fgt, encPs_pure]) (by simp [D.pures, D.pure, Cp.free, D.pures_map, encPs_pure]) (by simp [Out.pure, D.pure, D.pures, Cp.free, D.pures_map, encPs_pure])
  ((try simp only [wpAftT_ret, wpAftT_pan, putS, updS, setS]); (repeat (rw [wpT_cons]; simp [wpAft_ret, wpAft_pan, wantD, evOp, opD, tmOf, putS, updS, setS, hOf, isFree, isTok, fillD, TK.isAgg, TK.known, partD, thenD, blockD, putAll, D.ofV, inB, binX, binD, binE, isCst, bndD, capB, IntKind.min, IntKind.max, IntKind.signed, IntKind.bits, dstOf, late])); (try simp only [wpT_nil]))
  refine CallY.pure globPure (q2) ?_ (by simp [D.fgts, D.fgt, encPs_pure]) (by simp [D.pures, D.pure, Cp.free, D.pures_map, encPs_pure]) (by simp [Out.pure, D.pure, D.pures, Cp.free, D.pures_map, encPs_pure])
  ((try simp only [wpAftT_ret, wpAftT_pan, putS, updS, setS]); (repeat (rw [wpT_cons]; simp [wpAft_ret, wpAft_pan, wantD, evOp, opD, tmOf, putS, updS, setS, hOf, isFree, isTok, fillD, TK.isAgg, TK.known, partD, thenD, blockD, putAll, D.ofV, inB, binX, binD, binE, isCst, bndD, capB, IntKind.min, IntKind.max, IntKind.signed, IntKind.bits, dstOf, late])); (try simp only [wpT_nil]))
  refine CallY.pure globPure (e2) ?_ (by simp [D.fgts, D.fgt, encPs_pure]) (by simp [D.pures, D.pure, Cp.free, D.pures_map, encPs_pure]) (by simp [Out.pure, D.pure, D.pures, Cp.free, D.pures_map, encPs_pure])
  ((try simp only [wpAftT_ret, wpAftT_pan, putS, updS, setS]); (repeat (rw [wpT_cons]; simp [wpAft_ret, wpAft_pan, wantD, evOp, opD, tmOf, putS, updS, setS, hOf, isFree, isTok, fillD, TK.isAgg, TK.known, partD, thenD, blockD, putAll, D.ofV, inB, binX, binD, binE, isCst, bndD, capB, IntKind.min, IntKind.max, IntKind.signed, IntKind.bits, dstOf, late])); (try simp only [wpT_nil]))
  refine CallY.pure globPure (p3) ?_ (by simp [D.fgts, D.fgt, encPs_pure]) (by simp [D.pures, D.pure, Cp.free, D.pures_map, encPs_pure]) (by simp [Out.pure, D.pure, D.pures, Cp.free, D.pures_map, encPs_pure])
  ((try simp only [wpAftT_ret, wpAftT_pan, putS, updS, setS]); (repeat (rw [wpT_cons]; simp [wpAft_ret, wpAft_pan, wantD, evOp, opD, tmOf, putS, updS, setS, hOf, isFree, isTok, fillD, TK.isAgg, TK.known, partD, thenD, blockD, putAll, D.ofV, inB, binX, binD, binE, isCst, bndD, capB, IntKind.min, IntKind.max, IntKind.signed, IntKind.bits, dstOf, late])); (try simp only [wpT_nil]))
  refine CallY.pure globPure (q3) ?_ (by simp [D.fgts, D.fgt, encPs_pure]) (by simp [D.pures, D.pure, Cp.free, D.pures_map, encPs_pure]) (by simp [Out.pure, D.pure, D.pures, Cp.free, D.pures_map, encPs_pure])
  ((try simp only [wpAftT_ret, wpAftT_pan, putS, updS, setS]); (repeat (rw [wpT_cons]; simp [wpAft_ret, wpAft_pan, wantD, evOp, opD, tmOf, putS, updS, setS, hOf, isFree, isTok, fillD, TK.isAgg, TK.known, partD, thenD, blockD, putAll, D.ofV, inB, binX, binD, binE, isCst, bndD, capB, IntKind.min, IntKind.max, IntKind.signed, IntKind.bits, dstOf, late])); (try simp only [wpT_nil]))
  refine CallY.pure globPure (e3) ?_ (by simp [D.fgts, D.fgt, encPs_pure]) (by simp [D.pures, D.pure, Cp.free, D.pures_map, encPs_pure]) (by simp [Out.pure, D.pure, D.pures, Cp.free, D.pures_map, encPs_pure])
  ((try simp only [wpAftT_ret, wpAftT_pan, putS, updS, setS]); (repeat (rw [wpT_cons]; simp [wpAft_ret, wpAft_pan, wantD, evOp, opD, tmOf, putS, updS, setS, hOf, isFree, isTok, fillD, TK.isAgg, TK.known, partD, thenD, blockD, putAll, D.ofV, inB, binX, binD, binE, isCst, bndD, capB, IntKind.min, IntKind.max, IntKind.signed, IntKind.bits, dstOf, late])); (try simp only [wpT_nil]))
  refine CallY.pure globPure (p4) ?_ (by simp [D.fgts, D.fgt, encPs_pure]) (by simp [D.pures, D.pure, Cp.free, D.pures_map, encPs_pure]) (by simp [Out.pure, D.pure, D.pures, Cp.free, D.pures_map, encPs_pure])
  ((try simp only [wpAftT_ret, wpAftT_pan, putS, updS, setS]); (repeat (rw [wpT_cons]; simp [wpAft_ret, wpAft_pan, wantD, evOp, opD, tmOf, putS, updS, setS, hOf, isFree, isTok, fillD, TK.isAgg, TK.known, partD, thenD, blockD, putAll, D.ofV, inB, binX, binD, binE, isCst, bndD, capB, IntKind.min, IntKind.max, IntKind.signed, IntKind.bits, dstOf, late])); (try simp only [wpT_nil]))
  refine CallY.pure globPure (q4) ?_ (by simp [D.fgts, D.fgt, encPs_pure]) (by simp [D.pures, D.pure, Cp.free, D.pures_map, encPs_pure]) (by simp [Out.pure, D.pure, D.pures, Cp.free, D.pures_map, encPs_pure])
  ((try simp only [wpAftT_ret, wpAftT_pan, putS, updS, setS]); (repeat (rw [wpT_cons]; simp [wpAft_ret, wpAft_pan, wantD, evOp, opD, tmOf, putS, updS, setS, hOf, isFree, isTok, fillD, TK.isAgg, TK.known, partD, thenD, blockD, putAll, D.ofV, inB, binX, binD, binE, isCst, bndD, capB, IntKind.min, IntKind.max, IntKind.signed, IntKind.bits, dstOf, late, pairX])); (try simp only [wpT_nil]))
  refine CallY.pure globPure (p5) ?_ (by simp [D.fgts, D.fgt, encPs_pure]) (by simp [D.pures, D.pure, Cp.free, D.pures_map, encPs_pure]) (by simp [Out.pure, D.pure, D.pures, Cp.free, D.pures_map, encPs_pure])
  ((try simp only [wpAftT_ret, wpAftT_pan, putS, updS, setS]); (repeat (rw [wpT_cons]; simp [wpAft_ret, wpAft_pan, wantD, evOp, opD, tmOf, putS, updS, setS, hOf, isFree, isTok, fillD, TK.isAgg, TK.known, partD, thenD, blockD, putAll, D.ofV, inB, binX, binD, binE, isCst, bndD, capB, IntKind.min, IntKind.max, IntKind.signed, IntKind.bits, dstOf, late])); (try simp only [wpT_nil]))
  refine CallY.pure globPure (q5) ?_ (by simp [D.fgts, D.fgt, encPs_pure]) (by simp [D.pures, D.pure, Cp.free, D.pures_map, encPs_pure]) (by simp [Out.pure, D.pure, D.pures, Cp.free, D.pures_map, encPs_pure])
  ((try simp only [wpAftT_ret, wpAftT_pan, putS, updS, setS]); (repeat (rw [wpT_cons]; simp [wpAft_ret, wpAft_pan, wantD, evOp, opD, tmOf, putS, updS, setS, hOf, isFree, isTok, fillD, TK.isAgg, TK.known, partD, thenD, blockD, putAll, D.ofV, inB, binX, binD, binE, isCst, bndD, capB, IntKind.min, IntKind.max, IntKind.signed, IntKind.bits, dstOf, late, pairX])); (try simp only [wpT_nil]))
  refine CallY.pure globPure (p6) ?_ (by simp [D.fgts, D.fgt, encPs_pure]) (by simp [D.pures, D.pure, Cp.free, D.pures_map, encPs_pure]) (by simp [Out.pure, D.pure, D.pures, Cp.free, D.pures_map, encPs_pure])
  ((try simp only [wpAftT_ret, wpAftT_pan, putS, updS, setS]); (repeat (rw [wpT_cons]; simp [wpAft_ret, wpAft_pan, wantD, evOp, opD, tmOf, putS, updS, setS, hOf, isFree, isTok, fillD, TK.isAgg, TK.known, partD, thenD, blockD, putAll, D.ofV, inB, binX, binD, binE, isCst, bndD, capB, IntKind.min, IntKind.max, IntKind.signed, IntKind.bits, dstOf, late])); (try simp only [wpT_nil]))
  refine CallY.pure globPure (q6) ?_ (by simp [D.fgts, D.fgt, encPs_pure]) (by simp [D.pures, D.pure, Cp.free, D.pures_map, encPs_pure]) (by simp [Out.pure, D.pure, D.pures, Cp.free, D.pures_map, encPs_pure])
  ((try simp only [wpAftT_ret, wpAftT_pan, putS, updS, setS]); (repeat (rw [wpT_cons]; simp [wpAft_ret, wpAft_pan, wantD, evOp, opD, tmOf, putS, updS, setS, hOf, isFree, isTok, fillD, TK.isAgg, TK.known, partD, thenD, blockD, putAll, D.ofV, inB, binX, binD, binE, isCst, bndD, capB, IntKind.min, IntKind.max, IntKind.signed, IntKind.bits, dstOf, late, pairX])); (try simp only [wpT_nil]))
  refine CallY.pure globPure (p7) ?_ (by simp [D.fgts, D.fgt, encPs_pure]) (by simp [D.pures, D.pure, Cp.free, D.pures_map, encPs_pure]) (by simp [Out.pure, D.pure, D.pures, Cp.free, D.pures_map, encPs_pure])
  ((try simp only [wpAftT_ret, wpAftT_pan, putS, updS, setS]); (repeat (rw [wpT_cons]; simp [wpAft_ret, wpAft_pan, wantD, evOp, opD, tmOf, putS, updS, setS, hOf, isFree, isTok, fillD, TK.isAgg, TK.known, partD, thenD, blockD, putAll, D.ofV, inB, binX, binD, binE, isCst, bndD, capB, IntKind.min, IntKind.max, IntKind.signed, IntKind.bits, dstOf, late])); (try simp only [wpT_nil]))
  refine CallY.pure globPure (q7) ?_ (by simp [D.fgts, D.fgt, encPs_pure]) (by simp [D.pures, D.pure, Cp.free, D.pures_map, encPs_pure]) (by simp [Out.pure, D.pure, D.pures, Cp.free, D.pures_map, encPs_pure])
  ((try simp only [wpAftT_ret, wpAftT_pan, putS, updS, setS]); (repeat (rw [wpT_cons]; simp [wpAft_ret, wpAft_pan, wantD, evOp, opD, tmOf, putS, updS, setS, hOf, isFree, isTok, fillD, TK.isAgg, TK.known, partD, thenD, blockD, putAll, D.ofV, inB, binX, binD, binE, isCst, bndD, capB, IntKind.min, IntKind.max, IntKind.signed, IntKind.bits, dstOf, late])); (try simp only [wpT_nil]))
  refine CallY.pure globPure (e7) ?_ (by simp [D.fgts, D.fgt, encPs_pure]) (by simp [D.pures, D.pure, Cp.free, D.pures_map, encPs_pure]) (by simp [Out.pure, D.pure, D.pures, Cp.free, D.pures_map, encPs_pure])
  ((try simp only [wpAftT_ret, wpAftT_pan, putS, updS, setS]); (repeat (rw [wpT_cons]; simp [wpAft_ret, wpAft_pan, wantD, evOp, opD, tmOf, putS, updS, setS, hOf, isFree, isTok, fillD, TK.isAgg, TK.known, partD, thenD, blockD, putAll, D.ofV, inB, binX, binD, binE, isCst, bndD, capB, IntKind.min, IntKind.max, IntKind.signed, IntKind.bits, dstOf, late])); (try simp only [wpT_nil]))
  refine CallY.pure globPure (p8) ?_ (by simp [D.fgts, D.fgt, encPs_pure]) (by simp [D.pures, D.pure, Cp.free, D.pures_map, encPs_pure]) (by simp [Out.pure, D.pure, D.pures, Cp.free, D.pures_map, encPs_pure])
  ((try simp only [wpAftT_ret, wpAftT_pan, putS, updS, setS]); (repeat (rw [wpT_cons]; simp [wpAft_ret, wpAft_pan, wantD, evOp, opD, tmOf, putS, updS, setS, hOf, isFree, isTok, fillD, TK.isAgg, TK.known, partD, thenD, blockD, putAll, D.ofV, inB, binX, binD, binE, isCst, bndD, capB, IntKind.min, IntKind.max, IntKind.signed, IntKind.bits, dstOf, late])); (try simp only [wpT_nil]))
  refine CallY.pure globPure (q8) ?_ (by simp [D.fgts, D.fgt, encPs_pure]) (by simp [D.pures, D.pure, Cp.free, D.pures_map, encPs_pure]) (by simp [Out.pure, D.pure, D.pures, Cp.free, D.pures_map, encPs_pure])
  ((try simp only [wpAftT_ret, wpAftT_pan, putS, updS, setS]); (repeat (rw [wpT_cons]; simp [wpAft_ret, wpAft_pan, wantD, evOp, opD, tmOf, putS, updS, setS, hOf, isFree, isTok, fillD, TK.isAgg, TK.known, partD, thenD, blockD, putAll, D.ofV, inB, binX, binD, binE, isCst, bndD, capB, IntKind.min, IntKind.max, IntKind.signed, IntKind.bits, dstOf, late])); (try simp only [wpT_nil]))
  refine CallY.pure globPure (e8) ?_ (by simp [D.fgts, D.fgt, encPs_pure]) (by simp [D.pures, D.pure, Cp.free, D.pures_map, encPs_pure]) (by simp [Out.pure, D.pure, D.pures, Cp.free, D.pures_map, encPs_pure])
  ((try simp only [wpAftT_ret, wpAftT_pan, putS, updS, setS]); (repeat (rw [wpT_cons]; simp [wpAft_ret, wpAft_pan, wantD, evOp, opD, tmOf, putS, updS, setS, hOf, isFree, isTok, fillD, TK.isAgg, TK.known, partD, thenD, blockD, putAll, D.ofV, inB, binX, binD, binE, isCst, bndD, capB, IntKind.min, IntKind.max, IntKind.signed, IntKind.bits, dstOf, late])); (try simp only [wpT_nil]))
  (refine hKT _ _ _ _ (by kernel_rfl) ?_; clear hKT KT; (try simp only [thenD, blockD]))
  (refine hK _ _ _ ?_; clear hK K)
  (refine wpD_ret ?_; (try simp only [thenD, blockD]); refine EndQ.ret rfl (.inl ?_); simp [tmOf, Out.fgt, D.fgt, D.fgts])
end Go.Proofs.Ytbjgdeednmhpfaa
