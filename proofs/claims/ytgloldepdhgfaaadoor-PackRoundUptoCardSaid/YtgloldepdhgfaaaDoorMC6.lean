/-
  MC6: the texts Pmb Pmc Ccw Ccr Ccl Tl2 Ddp Tl3 C5 Pmd Pmf Dopen Dcard Hdd Dot Pkv Dla, one behind the other.
-/
import Derived.Test.YtgloldepdhgfaaaDoorRows
import Derived.ProofKit
import Derived.OpenShut
import Derived.Carry
import Derived.Below
import Derived.Lib.LaidTab
import Derived.Test.YtgloldepdhgfaaaDoorMC5
namespace Go.Proofs.YtgloldepdhgfaaaDoor
set_option linter.unusedSimpArgs false
set_option linter.unusedVariables false
set_option linter.unusedSimpArgs false
set_option linter.unusedVariables false
set_option maxHeartbeats 10000000
set_option maxRecDepth 20000
open Go.RowKit
attribute [local simp] wpAft_ret wpAft_pan wantD evOp opD tmOf putS updS setS hOf isFree isTok fillD TK.isAgg TK.known partD thenD blockD putAll D.ofV inB nilTest isNilS binX binD binE isCst bndD capB IntKind.min IntKind.max IntKind.signed IntKind.bits dstOf late
@[simp high] theorem byD_frz (bx : FK) (i : Nat) (x : D) (B : List Int) : D.frzs bx i x (byD B) = byD B := D.frzs_pure bx i x _ (byD_pures B)
theorem cI_bo (x : Bool) (b : Bool) : SpecD Tryd.prog glob 59 [.box 0 0, .box 1 0] [.cells 4 [.bool x], .cells 4 [.bool b]] none (fun hc => hc = [.cells 4 [.bool x], .cells 4 [.bool b]]) := by
  refine wpD_specd tyOK Tryd.func59 rfl rfl (fun a w => rfl) rfl (enters _ _ Tryd.func59 rfl (by decide)) rfl rfl ?_
  ((try simp only [wpAft_ret, wpAft_pan, putS, updS, setS]); (repeat (rw [wpS_cons]; simp)); (try simp only [wpS_nil, thenD, blockD]))
  (refine wpD_seqk fun K hK => ?_; refine wpD_region tyOK ?_; ((repeat (rw [wpS_cons]; simp)); (try simp only [wpS_nil, thenD, blockD])); refine hK _ _ _ ?_; clear hK K)
  refine wpD_part rfl (fun h => by simp at h) (fun _ => ?_)
  refine wpD_skip ?_
  refine EndQ.nrm rfl ?_
  simp [updS]
theorem cN_bo : SpecD Tryd.prog glob 59 [.box 0 0, .box 1 0] [.cells 4 [.bool false], .cells 4 [.bool false]] (some pnoneD) (fun hc => hc = [.cells 4 [.bool false], .cells 4 [.bool false], .cells 113 []]) := by
  refine wpD_specd tyOK Tryd.func59 rfl rfl (fun a w => rfl) rfl (enters _ _ Tryd.func59 rfl (by decide)) rfl rfl ?_
  unfold pnoneD
  ((try simp only [wpAft_ret, wpAft_pan, putS, updS, setS]); (repeat (rw [wpS_cons]; simp)); (try simp only [wpS_nil, thenD, blockD]))
  (refine wpD_seqk fun K hK => ?_; refine wpD_region tyOK ?_; ((repeat (rw [wpS_cons]; simp)); (try simp only [wpS_nil, thenD, blockD])); refine hK _ _ _ ?_; clear hK K)
  refine wpD_part rfl (fun _ => ?_) (fun h => by simp at h)
  refine wpD_seqk fun K1 hK1 => ?_
  (refine wpD_seqk fun K hK => ?_; refine wpD_region tyOK ?_; ((repeat (rw [wpS_cons]; simp)); (try simp only [wpS_nil, thenD, blockD])); refine hK _ _ _ ?_; clear hK K)
  (refine wpD_seqk fun K hK => ?_; refine wpD_region tyOK ?_; ((repeat (rw [wpS_cons]; simp)); (try simp only [wpS_nil, thenD, blockD])); refine hK _ _ _ ?_; clear hK K)
  refine wpD_part rfl (fun h => by simp at h) (fun _ => ?_)
  refine wpD_skip (hK1 _ _ _ ?_)
  (refine wpD_seqk fun K hK => ?_; refine wpD_region tyOK ?_; ((repeat (rw [wpS_cons]; simp)); (try simp only [wpS_nil, thenD, blockD])); refine hK _ _ _ ?_; clear hK K)
  (refine wpD_region tyOK ?_; ((repeat (rw [wpS_cons]; simp)); (try simp only [wpS_nil, thenD, blockD])))
  refine EndQ.nrm rfl ?_
  simp [updS]
theorem cI_tm (t : T) (b : Bool) : SpecD Tryd.prog glob 84 [.box 0 0, .box 1 0] [.cells 27 [.int .i64 t.k, .int .i64 t.n, .int .i64 t.a, .slice (t.ls.map encL) .any, .slice (t.ks.map encT) .any], .cells 4 [.bool b]] none (fun hc => hc = [.cells 27 [.int .i64 t.k, .int .i64 t.n, .int .i64 t.a, .slice (t.ls.map encL) .any, .slice (t.ks.map encT) .any], .cells 4 [.bool b]]) := by
  refine wpD_specd tyOK Tryd.func84 rfl rfl (fun a w => rfl) rfl (enters _ _ Tryd.func84 rfl (by decide)) rfl rfl ?_
  ((try simp only [wpAft_ret, wpAft_pan, putS, updS, setS]); (repeat (rw [wpS_cons]; simp)); (try simp only [wpS_nil, thenD, blockD]))
  (refine wpD_seqk fun K hK => ?_; refine wpD_region tyOK ?_; ((repeat (rw [wpS_cons]; simp)); (try simp only [wpS_nil, thenD, blockD])); refine hK _ _ _ ?_; clear hK K)
  refine wpD_part rfl (fun h => by simp at h) (fun _ => ?_)
  refine wpD_skip ?_
  refine EndQ.nrm rfl ?_
  simp [updS]
theorem cN_tm : SpecD Tryd.prog glob 84 [.box 0 0, .box 1 0] [.cells 27 [.int .i64 0, .int .i64 0, .int .i64 0, .slice [] .full, .slice [] .full], .cells 4 [.bool false]] (some pnoneD) (fun hc => hc = [.cells 27 [.int .i64 0, .int .i64 0, .int .i64 0, .slice [] .full, .slice [] .full], .cells 4 [.bool false], .cells 113 [], .cells 27 [.int .i64 0, .int .i64 0, .int .i64 0, .slice [] .full, .slice [] .full]]) := by
  refine wpD_specd tyOK Tryd.func84 rfl rfl (fun a w => rfl) rfl (enters _ _ Tryd.func84 rfl (by decide)) rfl rfl ?_
  unfold pnoneD
  ((try simp only [wpAft_ret, wpAft_pan, putS, updS, setS]); (repeat (rw [wpS_cons]; simp)); (try simp only [wpS_nil, thenD, blockD]))
  (refine wpD_seqk fun K hK => ?_; refine wpD_region tyOK ?_; ((repeat (rw [wpS_cons]; simp)); (try simp only [wpS_nil, thenD, blockD])); refine hK _ _ _ ?_; clear hK K)
  refine wpD_part rfl (fun _ => ?_) (fun h => by simp at h)
  refine wpD_seqk fun K1 hK1 => ?_
  (refine wpD_seqk fun K hK => ?_; refine wpD_region tyOK ?_; ((repeat (rw [wpS_cons]; simp)); (try simp only [wpS_nil, thenD, blockD])); refine hK _ _ _ ?_; clear hK K)
  (refine wpD_seqk fun K hK => ?_; refine wpD_region tyOK ?_; ((repeat (rw [wpS_cons]; simp)); (try simp only [wpS_nil, thenD, blockD])); refine hK _ _ _ ?_; clear hK K)
  refine wpD_part rfl (fun h => by simp at h) (fun _ => ?_)
  refine wpD_skip (hK1 _ _ _ ?_)
  (refine wpD_seqk fun K hK => ?_; refine wpD_region tyOK ?_; ((repeat (rw [wpS_cons]; simp)); (try simp only [wpS_nil, thenD, blockD])); refine hK _ _ _ ?_; clear hK K)
  (refine wpD_region tyOK ?_; ((repeat (rw [wpS_cons]; simp)); (try simp only [wpS_nil, thenD, blockD])))
  refine EndQ.nrm rfl ?_
  simp [updS]
theorem cI_de (d : De) (b : Bool) : SpecD Tryd.prog glob 80 [.box 0 0, .box 1 0] [.cells 34 [.int .i64 d.kd, .int .i64 d.lv, .int .i64 d.ty.k, .int .i64 d.ty.n, .int .i64 d.ty.a, .slice (d.ty.ls.map encL) .any, .slice (d.ty.ks.map encT) .any, .int .i64 d.bo.k, .int .i64 d.bo.n, .int .i64 d.bo.a, .slice (d.bo.ls.map encL) .any, .slice (d.bo.ks.map encT) .any, .slice (d.ps.map encT) .any, .slice (d.so.map encP) .any, .slice (d.ms.map encMb) .any, .slice (d.cs.map encCt) .any], .cells 4 [.bool b]] none (fun hc => hc = [.cells 34 [.int .i64 d.kd, .int .i64 d.lv, .int .i64 d.ty.k, .int .i64 d.ty.n, .int .i64 d.ty.a, .slice (d.ty.ls.map encL) .any, .slice (d.ty.ks.map encT) .any, .int .i64 d.bo.k, .int .i64 d.bo.n, .int .i64 d.bo.a, .slice (d.bo.ls.map encL) .any, .slice (d.bo.ks.map encT) .any, .slice (d.ps.map encT) .any, .slice (d.so.map encP) .any, .slice (d.ms.map encMb) .any, .slice (d.cs.map encCt) .any], .cells 4 [.bool b]]) := by
  refine wpD_specd tyOK Tryd.func80 rfl rfl (fun a w => rfl) rfl (enters _ _ Tryd.func80 rfl (by decide)) rfl rfl ?_
  ((try simp only [wpAft_ret, wpAft_pan, putS, updS, setS]); (repeat (rw [wpS_cons]; simp)); (try simp only [wpS_nil, thenD, blockD]))
  (refine wpD_seqk fun K hK => ?_; refine wpD_region tyOK ?_; ((repeat (rw [wpS_cons]; simp)); (try simp only [wpS_nil, thenD, blockD])); refine hK _ _ _ ?_; clear hK K)
  refine wpD_part rfl (fun h => by simp at h) (fun _ => ?_)
  refine wpD_skip ?_
  refine EndQ.nrm rfl ?_
  simp [updS]
theorem cN_de : SpecD Tryd.prog glob 80 [.box 0 0, .box 1 0] [.cells 34 [.int .i64 0, .int .i64 0, .int .i64 0, .int .i64 0, .int .i64 0, .slice [] .full, .slice [] .full, .int .i64 0, .int .i64 0, .int .i64 0, .slice [] .full, .slice [] .full, .slice [] .full, .slice [] .full, .slice [] .full, .slice [] .full], .cells 4 [.bool false]] (some pnoneD) (fun hc => hc = [.cells 34 [.int .i64 0, .int .i64 0, .int .i64 0, .int .i64 0, .int .i64 0, .slice [] .full, .slice [] .full, .int .i64 0, .int .i64 0, .int .i64 0, .slice [] .full, .slice [] .full, .slice [] .full, .slice [] .full, .slice [] .full, .slice [] .full], .cells 4 [.bool false], .cells 113 [], .cells 34 [.int .i64 0, .int .i64 0, .int .i64 0, .int .i64 0, .int .i64 0, .slice [] .full, .slice [] .full, .int .i64 0, .int .i64 0, .int .i64 0, .slice [] .full, .slice [] .full, .slice [] .full, .slice [] .full, .slice [] .full, .slice [] .full]]) := by
  refine wpD_specd tyOK Tryd.func80 rfl rfl (fun a w => rfl) rfl (enters _ _ Tryd.func80 rfl (by decide)) rfl rfl ?_
  unfold pnoneD
  ((try simp only [wpAft_ret, wpAft_pan, putS, updS, setS]); (repeat (rw [wpS_cons]; simp)); (try simp only [wpS_nil, thenD, blockD]))
  (refine wpD_seqk fun K hK => ?_; refine wpD_region tyOK ?_; ((repeat (rw [wpS_cons]; simp)); (try simp only [wpS_nil, thenD, blockD])); refine hK _ _ _ ?_; clear hK K)
  refine wpD_part rfl (fun _ => ?_) (fun h => by simp at h)
  refine wpD_seqk fun K1 hK1 => ?_
  (refine wpD_seqk fun K hK => ?_; refine wpD_region tyOK ?_; ((repeat (rw [wpS_cons]; simp)); (try simp only [wpS_nil, thenD, blockD])); refine hK _ _ _ ?_; clear hK K)
  (refine wpD_seqk fun K hK => ?_; refine wpD_region tyOK ?_; ((repeat (rw [wpS_cons]; simp)); (try simp only [wpS_nil, thenD, blockD])); refine hK _ _ _ ?_; clear hK K)
  refine wpD_part rfl (fun h => by simp at h) (fun _ => ?_)
  refine wpD_skip (hK1 _ _ _ ?_)
  (refine wpD_seqk fun K hK => ?_; refine wpD_region tyOK ?_; ((repeat (rw [wpS_cons]; simp)); (try simp only [wpS_nil, thenD, blockD])); refine hK _ _ _ ?_; clear hK K)
  (refine wpD_region tyOK ?_; ((repeat (rw [wpS_cons]; simp)); (try simp only [wpS_nil, thenD, blockD])))
  refine EndQ.nrm rfl ?_
  simp [updS]
theorem cI_ds (els : List D) (cl : Cp) (b : Bool) : SpecD Tryd.prog glob 74 [.box 0 0, .box 1 0] [.cells 51 [.slice els cl], .cells 4 [.bool b]] none (fun hc => hc = [.cells 51 [.slice els cl], .cells 4 [.bool b]]) := by
  refine wpD_specd tyOK Tryd.func74 rfl rfl (fun a w => rfl) rfl (enters _ _ Tryd.func74 rfl (by decide)) rfl rfl ?_
  ((try simp only [wpAft_ret, wpAft_pan, putS, updS, setS]); (repeat (rw [wpS_cons]; simp)); (try simp only [wpS_nil, thenD, blockD]))
  (refine wpD_seqk fun K hK => ?_; refine wpD_region tyOK ?_; ((repeat (rw [wpS_cons]; simp)); (try simp only [wpS_nil, thenD, blockD])); refine hK _ _ _ ?_; clear hK K)
  refine wpD_part rfl (fun h => by simp at h) (fun _ => ?_)
  refine wpD_skip ?_
  refine EndQ.nrm rfl ?_
  simp [updS]
theorem cN_ds : SpecD Tryd.prog glob 74 [.box 0 0, .box 1 0] [.cells 51 [.slice [] .full], .cells 4 [.bool false]] (some pnoneD) (fun hc => hc = [.cells 51 [.slice [] .full], .cells 4 [.bool false], .cells 113 []]) := by
  refine wpD_specd tyOK Tryd.func74 rfl rfl (fun a w => rfl) rfl (enters _ _ Tryd.func74 rfl (by decide)) rfl rfl ?_
  unfold pnoneD
  ((try simp only [wpAft_ret, wpAft_pan, putS, updS, setS]); (repeat (rw [wpS_cons]; simp)); (try simp only [wpS_nil, thenD, blockD]))
  (refine wpD_seqk fun K hK => ?_; refine wpD_region tyOK ?_; ((repeat (rw [wpS_cons]; simp)); (try simp only [wpS_nil, thenD, blockD])); refine hK _ _ _ ?_; clear hK K)
  refine wpD_part rfl (fun _ => ?_) (fun h => by simp at h)
  refine wpD_seqk fun K1 hK1 => ?_
  (refine wpD_seqk fun K hK => ?_; refine wpD_region tyOK ?_; ((repeat (rw [wpS_cons]; simp)); (try simp only [wpS_nil, thenD, blockD])); refine hK _ _ _ ?_; clear hK K)
  (refine wpD_seqk fun K hK => ?_; refine wpD_region tyOK ?_; ((repeat (rw [wpS_cons]; simp)); (try simp only [wpS_nil, thenD, blockD])); refine hK _ _ _ ?_; clear hK K)
  refine wpD_part rfl (fun h => by simp at h) (fun _ => ?_)
  refine wpD_skip (hK1 _ _ _ ?_)
  (refine wpD_seqk fun K hK => ?_; refine wpD_region tyOK ?_; ((repeat (rw [wpS_cons]; simp)); (try simp only [wpS_nil, thenD, blockD])); refine hK _ _ _ ?_; clear hK K)
  (refine wpD_region tyOK ?_; ((repeat (rw [wpS_cons]; simp)); (try simp only [wpS_nil, thenD, blockD])))
  refine EndQ.nrm rfl ?_
  simp [updS]
theorem packRight_spec (d : De) (h : okDe d) : Spec Tryd.prog glob 11 [encDe d] [] (fun o _ => o.fgt = .ret (.bool (rightDe d))) := by
  have c0 := pright_spec d h
  rw [encDe_eq] at c0 ⊢
  have h2 : Spec Tryd.prog glob 32 [.fn (.func 33) [] [.ref (.agg [.int .i64 d.kd, .int .i64 d.lv, .int .i64 d.ty.k, .int .i64 d.ty.n, .int .i64 d.ty.a, .slice (d.ty.ls.map encL) .any, .slice (d.ty.ks.map encT) .any, .int .i64 d.bo.k, .int .i64 d.bo.n, .int .i64 d.bo.a, .slice (d.bo.ls.map encL) .any, .slice (d.bo.ks.map encT) .any, .slice (d.ps.map encT) .any, .slice (d.so.map encP) .any, .slice (d.ms.map encMb) .any, .slice (d.cs.map encCt) .any])]] [] (fun o _ => o.fgt = .ret (.tuple [.bool (rightDe d), .bool (rightDe d)])) := by
    cases hB : rightDe d with
    | true =>
      rw [hB, pkOut_t] at c0
      have h1 : Spec Tryd.prog glob 33 [.ref (.agg [.int .i64 d.kd, .int .i64 d.lv, .int .i64 d.ty.k, .int .i64 d.ty.n, .int .i64 d.ty.a, .slice (d.ty.ls.map encL) .any, .slice (d.ty.ks.map encT) .any, .int .i64 d.bo.k, .int .i64 d.bo.n, .int .i64 d.bo.a, .slice (d.bo.ls.map encL) .any, .slice (d.bo.ks.map encT) .any, .slice (d.ps.map encT) .any, .slice (d.so.map encP) .any, .slice (d.ms.map encMb) .any, .slice (d.cs.map encCt) .any])] [] (fun o _ => o.fgt = .ret (.bool true)) := by
        refine Spec.movd globPure (wpD_spec tyOK Tryd.func33 rfl (enters _ _ Tryd.func33 rfl (by decide)) rfl rfl ?_)
        (refine wpD_seqk fun K hK => ?_; refine wpD_region tyOK ?_; ((repeat (rw [wpS_cons]; simp)); (try simp only [wpS_nil, thenD, blockD])); refine hK _ _ _ ?_; clear hK K)
        (refine wpD_seqk fun K hK => ?_; refine wpD_region tyOK ?_; ((repeat (rw [wpS_cons]; simp)); (try simp only [wpS_nil, thenD, blockD])))
        refine cXp (c0) ?_
        ((try simp only [wpAft_ret, wpAft_pan, putS, updS, setS]); (repeat (rw [wpS_cons]; simp)); (try simp only [wpS_nil, thenD, blockD]))
        (refine hK _ _ _ ?_; clear hK K)
        (refine wpD_seqk fun K hK => ?_; refine wpD_region tyOK ?_; ((repeat (rw [wpS_cons]; simp)); (try simp only [wpS_nil, thenD, blockD])); refine hK _ _ _ ?_; clear hK K)
        (refine wpD_ret ?_; (try simp only [thenD, blockD]); refine EndQ.ret rfl (.inl ?_); simp [tmOf, Out.fgt, D.fgt, D.fgts])
      refine Spec.movd globPure (wpD_specD tyOK Tryd.func32 rfl (enters _ _ Tryd.func32 rfl (by decide)) rfl rfl ?_)
      (refine wpD_seqk fun K hK => ?_; refine wpD_region tyOK ?_; ((repeat (rw [wpS_cons]; simp)); (try simp only [wpS_nil, thenD, blockD])); refine hK _ _ _ ?_; clear hK K)
      (refine wpD_seqk fun K hK => ?_; refine wpD_region tyOK ?_; ((repeat (rw [wpS_cons]; simp)); (try simp only [wpS_nil, thenD, blockD])); refine hK _ _ _ ?_; clear hK K)
      (refine wpD_seqk fun K hK => ?_; refine wpD_region tyOK ?_; ((repeat (rw [wpS_cons]; simp)); (try simp only [wpS_nil, thenD, blockD])))
      refine cXp (h1) ?_
      ((try simp only [wpAft_ret, wpAft_pan, putS, updS, setS]); (repeat (rw [wpS_cons]; simp)); (try simp only [wpS_nil, thenD, blockD]))
      (refine hK _ _ _ ?_; clear hK K)
      refine wpD_ret ?_
      refine DefX.objs globPure [0, 1] (cI_bo true true) ?_ ?_ (fun d h => by cases h) (by decide) (by simp) (by simp [D.ren, D.rens, D.okN, D.okNs, Cp.ren, Cp.okN, HO.ren, HO.okN, okA, renA, renO, hOf, handed, D.fgt, D.fgts, List.range_succ, List.idxOf_cons]) (by simp [D.ren, D.rens, D.okN, D.okNs, Cp.ren, Cp.okN, HO.ren, HO.okN, okA, renA, renO, hOf, handed, D.fgt, D.fgts, List.range_succ, List.idxOf_cons]) (by simp [D.ren, D.rens, D.okN, D.okNs, Cp.ren, Cp.okN, HO.ren, HO.okN, okA, renA, renO, hOf, handed, D.fgt, D.fgts, List.range_succ, List.idxOf_cons]) (by simp [D.ren, D.rens, D.okN, D.okNs, Cp.ren, Cp.okN, HO.ren, HO.okN, okA, renA, renO, hOf, handed, D.fgt, D.fgts, List.range_succ, List.idxOf_cons])
      · rintro hc rfl
        simp [D.ren, D.rens, D.okN, D.okNs, Cp.ren, Cp.okN, HO.ren, HO.okN, okA, renA, renO, hOf, handed, D.fgt, D.fgts, List.range_succ, List.idxOf_cons, upO, updS, setS]
        refine endD.intro rfl (.inr ⟨[], by decide, by simp, ?_⟩)
        simp [Out.mov, movT, movH, movD, D.mov, HO.mov, okM, renM, getW, D.ren, D.rens, D.okN, D.okNs, Cp.ren, Cp.okN, HO.ren, HO.okN, okA, renA, renO, hOf, handed, D.fgt, D.fgts, List.range_succ, List.idxOf_cons]
        try simp [Out.fgt, D.fgt, D.fgts]
      · rintro hc rfl
        simp
    | false =>
      rw [hB, pkOut_f] at c0
      have h1 : Spec Tryd.prog glob 33 [.ref (.agg [.int .i64 d.kd, .int .i64 d.lv, .int .i64 d.ty.k, .int .i64 d.ty.n, .int .i64 d.ty.a, .slice (d.ty.ls.map encL) .any, .slice (d.ty.ks.map encT) .any, .int .i64 d.bo.k, .int .i64 d.bo.n, .int .i64 d.bo.a, .slice (d.bo.ls.map encL) .any, .slice (d.bo.ks.map encT) .any, .slice (d.ps.map encT) .any, .slice (d.so.map encP) .any, .slice (d.ms.map encMb) .any, .slice (d.cs.map encCt) .any])] [] (fun o _ => o.fgt = .pan pnoneD) := by
        refine Spec.movd globPure (wpD_spec tyOK Tryd.func33 rfl (enters _ _ Tryd.func33 rfl (by decide)) rfl rfl ?_)
        (refine wpD_seqk fun K hK => ?_; refine wpD_region tyOK ?_; ((repeat (rw [wpS_cons]; simp)); (try simp only [wpS_nil, thenD, blockD])); refine hK _ _ _ ?_; clear hK K)
        (refine wpD_seqk fun K hK => ?_; refine wpD_region tyOK ?_; ((repeat (rw [wpS_cons]; simp)); (try simp only [wpS_nil, thenD, blockD])))
        refine CallX.pure globPure (c0) ?_ (by simp [D.fgts, D.fgt, pnoneD]) (by simp [D.pures, D.pure, Cp.free, D.pures_map, pnoneD]) (by simp [Out.pure, D.pure, D.pures, Cp.free, D.pures_map, pnoneD])
        ((try simp only [wpAft_ret, wpAft_pan, putS, updS, setS]); (repeat (rw [wpS_cons]; simp)); (try simp only [wpS_nil, thenD, blockD]))
        ((try simp only [thenD, blockD]); refine EndQ.pan (.inl ?_); simp [Out.fgt, D.fgt, D.fgts])
      refine Spec.movd globPure (wpD_specD tyOK Tryd.func32 rfl (enters _ _ Tryd.func32 rfl (by decide)) rfl rfl ?_)
      (refine wpD_seqk fun K hK => ?_; refine wpD_region tyOK ?_; ((repeat (rw [wpS_cons]; simp)); (try simp only [wpS_nil, thenD, blockD])); refine hK _ _ _ ?_; clear hK K)
      (refine wpD_seqk fun K hK => ?_; refine wpD_region tyOK ?_; ((repeat (rw [wpS_cons]; simp)); (try simp only [wpS_nil, thenD, blockD])); refine hK _ _ _ ?_; clear hK K)
      (refine wpD_seqk fun K hK => ?_; refine wpD_region tyOK ?_; ((repeat (rw [wpS_cons]; simp)); (try simp only [wpS_nil, thenD, blockD])))
      refine CallX.pure globPure (h1) ?_ (by simp [D.fgts, D.fgt, pnoneD]) (by simp [D.pures, D.pure, Cp.free, D.pures_map, pnoneD]) (by simp [Out.pure, D.pure, D.pures, Cp.free, D.pures_map, pnoneD])
      ((try simp only [wpAft_ret, wpAft_pan, putS, updS, setS]); (repeat (rw [wpS_cons]; simp)); (try simp only [wpS_nil, thenD, blockD]))
      (try simp only [thenD, blockD])
      refine DefX.objs globPure [0, 1] (cN_bo) ?_ ?_ (fun d h => by cases h <;> rfl) (by decide) (by simp) (by simp [D.ren, D.rens, D.okN, D.okNs, Cp.ren, Cp.okN, HO.ren, HO.okN, okA, renA, renO, hOf, handed, D.fgt, D.fgts, List.range_succ, List.idxOf_cons]) (by simp [D.ren, D.rens, D.okN, D.okNs, Cp.ren, Cp.okN, HO.ren, HO.okN, okA, renA, renO, hOf, handed, D.fgt, D.fgts, List.range_succ, List.idxOf_cons]) (by simp [D.ren, D.rens, D.okN, D.okNs, Cp.ren, Cp.okN, HO.ren, HO.okN, okA, renA, renO, hOf, handed, D.fgt, D.fgts, List.range_succ, List.idxOf_cons]) (by simp [D.ren, D.rens, D.okN, D.okNs, Cp.ren, Cp.okN, HO.ren, HO.okN, okA, renA, renO, hOf, handed, D.fgt, D.fgts, List.range_succ, List.idxOf_cons])
      · rintro hc rfl
        simp [D.ren, D.rens, D.okN, D.okNs, Cp.ren, Cp.okN, HO.ren, HO.okN, okA, renA, renO, hOf, handed, D.fgt, D.fgts, List.range_succ, List.idxOf_cons, upO, updS, setS]
        refine endD.intro rfl (.inr ⟨[], by decide, by simp, ?_⟩)
        simp [Out.mov, movT, movH, movD, D.mov, HO.mov, okM, renM, getW, D.ren, D.rens, D.okN, D.okNs, Cp.ren, Cp.okN, HO.ren, HO.okN, okA, renA, renO, hOf, handed, D.fgt, D.fgts, List.range_succ, List.idxOf_cons]
        try simp [Out.fgt, D.fgt, D.fgts]
      · rintro hc rfl
        simp
  generalize rightDe d = B at h2 ⊢
  refine Spec.movd globPure (wpD_spec tyOK Tryd.func11 rfl (enters _ _ Tryd.func11 rfl (by decide)) rfl rfl ?_)
  (refine wpD_seqk fun K hK => ?_; refine wpD_region tyOK ?_; ((repeat (rw [wpS_cons]; simp)); (try simp only [wpS_nil, thenD, blockD])); refine hK _ _ _ ?_; clear hK K)
  refine wpD_stay (T := tyOf) 0 (ty := 34) (ds := [.int .i64 d.kd, .int .i64 d.lv, .int .i64 d.ty.k, .int .i64 d.ty.n, .int .i64 d.ty.a, .slice (d.ty.ls.map encL) .any, .slice (d.ty.ks.map encT) .any, .int .i64 d.bo.k, .int .i64 d.bo.n, .int .i64 d.bo.a, .slice (d.bo.ls.map encL) .any, .slice (d.bo.ks.map encT) .any, .slice (d.ps.map encT) .any, .slice (d.so.map encP) .any, .slice (d.ms.map encMb) .any, .slice (d.cs.map encCt) .any]) rfl rfl (by first | exact ⟨rfl, .inr ⟨_, rfl, rfl⟩⟩ | exact ⟨rfl, .inl rfl⟩) ?_
  simp [D.frzs, D.frz, HO.frz, dfFrz, refOf, TK.isAgg, FK.isB, FK.isM, FK.isO, D.isLen]
  (refine wpD_seqk fun K hK => ?_; refine wpD_region tyOK ?_; ((repeat (rw [wpS_cons]; simp)); (try simp only [wpS_nil, thenD, blockD])))
  refine cXp (h2) ?_
  ((try simp only [wpAft_ret, wpAft_pan, putS, updS, setS]); (repeat (rw [wpS_cons]; simp)); (try simp only [wpS_nil, thenD, blockD]))
  (refine hK _ _ _ ?_; clear hK K)
  (refine wpD_seqk fun K hK => ?_; refine wpD_region tyOK ?_; ((repeat (rw [wpS_cons]; simp)); (try simp only [wpS_nil, thenD, blockD])); refine hK _ _ _ ?_; clear hK K)
  (refine wpD_ret ?_; (try simp only [thenD, blockD]); refine EndQ.ret rfl (.inl ?_); simp [tmOf, Out.fgt, D.fgt, D.fgts])
theorem read_spec (s : List Int) : Spec Tryd.prog glob 51 [.slice (byD s) .any] [] (fun o hc => o = .ret (.box 0 0) ∧ hc = RO s s.length 0) := by
  have kd := kpk_spec
  rw [show D.mapc (kindsE.map (·.1)) (kindsE.map (·.2)) = kmD from rfl] at kd
  unfold RO
  refine Spec.movd globPure (wpD_spec tyOK Tryd.func51 rfl (enters _ _ Tryd.func51 rfl (by decide)) rfl rfl ?_)
  (refine wpD_seqk fun K hK => ?_; refine wpD_region tyOK ?_; ((repeat (rw [wpS_cons]; simp)); (try simp only [wpS_nil, thenD, blockD])); refine hK _ _ _ ?_; clear hK K)
  (refine wpD_seqk fun K hK => ?_; refine wpD_region tyOK ?_; ((repeat (rw [wpS_cons]; simp)); (try simp only [wpS_nil, thenD, blockD])))
  refine cXp (kd) ?_
  ((try simp only [wpAft_ret, wpAft_pan, putS, updS, setS]); (repeat (rw [wpS_cons]; simp)); (try simp only [wpS_nil, thenD, blockD]))
  (refine hK _ _ _ ?_; clear hK K)
  (refine wpD_ret ?_; (try simp only [thenD, blockD]); refine EndQ.ret rfl (.inr ⟨[0], by decide, by simp, ?_⟩); simp [Out.mov, movT, movH, movD, D.mov, HO.mov, okM, renM, getW, D.ren, D.rens, D.okN, D.okNs, Cp.ren, Cp.okN, HO.ren, HO.okN, okA, renA, renO, hOf, handed, D.fgt, D.fgts, List.range_succ, List.idxOf_cons, tmOf, Out.fgt, D.fgt, D.fgts])
theorem taken_spec (s : List Int) (all nd : Int) (hw : IntKind.i64.wrap (all - s.length) = all - s.length) : Spec Tryd.prog glob 64 [.box 0 0] (RO s all nd) (fun o hc => o.fgt = .ret (.int .i64 (all - s.length)) ∧ hc = RO s all nd) := by
  unfold RO
  refine Spec.movd globPure (wpD_spec tyOK Tryd.func64 rfl (enters _ _ Tryd.func64 rfl (by decide)) rfl rfl ?_)
  (refine wpD_seqk fun K hK => ?_; refine wpD_region tyOK ?_; ((repeat (rw [wpS_cons]; simp)); (try simp only [wpS_nil, thenD, blockD])); refine hK _ _ _ ?_; clear hK K)
  (refine wpD_seqk fun K hK => ?_; refine wpD_drawk tyOK (by kernel_rfl) (by kernel_rfl) fun KT hKT => ?_; ((repeat (rw [wpT_cons]; simp [hw])); (try simp only [wpT_nil])))
  (refine hKT _ _ _ _ (by kernel_rfl) ?_; clear hKT KT; (try simp only [thenD, blockD]))
  (refine hK _ _ _ ?_; clear hK K)
  (refine wpD_ret ?_; (try simp only [thenD, blockD]); refine EndQ.ret rfl (.inr ⟨[], by decide, by simp, ?_⟩); simp [Out.mov, movT, movH, movD, D.mov, HO.mov, okM, renM, getW, D.ren, D.rens, D.okN, D.okNs, Cp.ren, Cp.okN, HO.ren, HO.okN, okA, renA, renO, hOf, handed, D.fgt, D.fgts, List.range_succ, List.idxOf_cons, tmOf, Out.fgt, D.fgt, D.fgts])
/-- what is told, and where the reader is kept -/
def FsP {α : Type} (enc : α → D) (all : Int) : Option (α × NS) → Out → List HO → Prop
  | some (x, (nd, s)) => fun o hc => o.fgt = .ret (enc x) ∧ hc = [.cells 79 [.box 1 0], .cells 98 [.slice (byD s) .any, .int .i64 all, kmD, .int .i64 nd]]
  | none => fun o hc => o = .pan pnoneD ∧ hc = [.dead, .dead]
theorem f1T_spec (s : List Int) (hs : bytesOk s) (all nd : Int) : Spec Tryd.prog glob 71 [.ref (.fn (.func 42) [] []), .box 0 0] [.cells 79 [.box 1 0], .cells 98 [.slice (byD s) .any, .int .i64 all, kmD, .int .i64 nd]] (FsP encT all (termN s)) := by
  have c := rterm_spec s hs all nd
  unfold RO at c
  cases h : termN s with
  | none =>
    rw [h] at c
    unfold RdP at c
    refine Spec.kill2 ?_
    refine Spec.movd globPure (wpD_spec tyOK Tryd.func71 rfl (enters _ _ Tryd.func71 rfl (by decide)) rfl rfl ?_)
    (refine wpD_seqk fun K hK => ?_; refine wpD_region tyOK ?_; ((repeat (rw [wpS_cons]; simp)); (try simp only [wpS_nil, thenD, blockD])); refine hK _ _ _ ?_; clear hK K)
    (refine wpD_seqk fun K hK => ?_; refine wpD_region tyOK ?_; ((repeat (rw [wpS_cons]; simp)); (try simp only [wpS_nil, thenD, blockD])))
    refine cXo [1] true (c) ?_
    (rintro o hc ⟨rfl, rfl⟩; refine ⟨false, ?_⟩; simp [D.ren, D.rens, D.okN, D.okNs, Cp.ren, Cp.okN, HO.ren, HO.okN, okA, renA, renO, hOf, handed, D.fgt, D.fgts, List.range_succ, List.idxOf_cons, Out.ren, told, Out.fgt, upO, updS, setS])
    ((try simp only [thenD, blockD]); refine EndQ.pan (.inr ⟨[], by decide, by simp, ?_⟩); simp [Out.mov, movT, movH, movD, D.mov, HO.mov, okM, renM, getW, D.ren, D.rens, D.okN, D.okNs, Cp.ren, Cp.okN, HO.ren, HO.okN, okA, renA, renO, hOf, handed, D.fgt, D.fgts, List.range_succ, List.idxOf_cons, tmOf, Out.fgt, D.fgt, D.fgts])
  | some p =>
    obtain ⟨x, nd2, s2⟩ := p
    have hE : encT x = .agg [.int .i64 x.k, .int .i64 x.n, .int .i64 x.a, .slice (x.ls.map encL) .any, .slice (x.ks.map encT) .any] := encT_eq x
    rw [h] at c
    unfold RdP at c
    dsimp only at c
    rw [RO, hE] at c
    unfold FsP
    dsimp only
    rw [hE]
    refine Spec.movd globPure (wpD_spec tyOK Tryd.func71 rfl (enters _ _ Tryd.func71 rfl (by decide)) rfl rfl ?_)
    (refine wpD_seqk fun K hK => ?_; refine wpD_region tyOK ?_; ((repeat (rw [wpS_cons]; simp)); (try simp only [wpS_nil, thenD, blockD])); refine hK _ _ _ ?_; clear hK K)
    (refine wpD_seqk fun K hK => ?_; refine wpD_region tyOK ?_; ((repeat (rw [wpS_cons]; simp)); (try simp only [wpS_nil, thenD, blockD])))
    refine cXo [1] true (c) ?_
    (rintro o hc ⟨ho, rfl⟩; refine ⟨true, ?_⟩; rw [show told true o = _ from ho]; clear ho; simp [D.ren, D.rens, D.okN, D.okNs, Cp.ren, Cp.okN, HO.ren, HO.okN, okA, renA, renO, hOf, handed, D.fgt, D.fgts, List.range_succ, List.idxOf_cons, Out.ren, told, Out.fgt, upO, updS, setS])
    ((try simp only [wpAft_ret, wpAft_pan, putS, updS, setS]); (repeat (rw [wpS_cons]; simp)); (try simp only [wpS_nil, thenD, blockD]))
    (refine hK _ _ _ ?_; clear hK K)
    (refine wpD_ret ?_; (try simp only [thenD, blockD]); refine EndQ.ret rfl (.inr ⟨[], by decide, by simp, ?_⟩); simp [Out.mov, movT, movH, movD, D.mov, HO.mov, okM, renM, getW, D.ren, D.rens, D.okN, D.okNs, Cp.ren, Cp.okN, HO.ren, HO.okN, okA, renA, renO, hOf, handed, D.fgt, D.fgts, List.range_succ, List.idxOf_cons, tmOf, Out.fgt, D.fgt, D.fgts])
def TrP_T (all : Int) : Option (T × NS) → Out → List HO → Prop
  | some (x, (nd, s)) => fun o hc => o.fgt = .ret (.tuple [encT x, .bool true]) ∧ hc = [.cells 79 [.box 1 0], .cells 98 [.slice (byD s) .any, .int .i64 all, kmD, .int .i64 nd]]
  | none => fun o hc => o.fgt = .ret (.tuple [encT zeroTm, .bool false]) ∧ hc = [.dead, .dead]
theorem t1T_spec (s : List Int) (hs : bytesOk s) (all nd : Int) : Spec Tryd.prog glob 70 [.fn (.func 71) [] [.ref (.fn (.func 42) [] []), .box 0 0]] [.cells 79 [.box 1 0], .cells 98 [.slice (byD s) .any, .int .i64 all, kmD, .int .i64 nd]] (TrP_T all (termN s)) := by
  have c := f1T_spec s hs all nd
  cases h : termN s with
  | none =>
    rw [h] at c
    unfold FsP at c
    unfold TrP_T
    rw [show encT zeroTm = .agg [.int .i64 0, .int .i64 0, .int .i64 0, .slice [] .any, .slice [] .any] from rfl]
    refine Spec.movd globPure (wpD_specD tyOK Tryd.func70 rfl (enters _ _ Tryd.func70 rfl (by decide)) rfl rfl ?_)
    (refine wpD_seqk fun K hK => ?_; refine wpD_region tyOK ?_; ((repeat (rw [wpS_cons]; simp)); (try simp only [wpS_nil, thenD, blockD])); refine hK _ _ _ ?_; clear hK K)
    (refine wpD_seqk fun K hK => ?_; refine wpD_region tyOK ?_; ((repeat (rw [wpS_cons]; simp)); (try simp only [wpS_nil, thenD, blockD])); refine hK _ _ _ ?_; clear hK K)
    (refine wpD_seqk fun K hK => ?_; refine wpD_region tyOK ?_; ((repeat (rw [wpS_cons]; simp)); (try simp only [wpS_nil, thenD, blockD])))
    refine cXo [0, 1] true (c) ?_
    (rintro o hc ⟨rfl, rfl⟩; refine ⟨false, ?_⟩; simp [D.ren, D.rens, D.okN, D.okNs, Cp.ren, Cp.okN, HO.ren, HO.okN, okA, renA, renO, hOf, handed, D.fgt, D.fgts, List.range_succ, List.idxOf_cons, Out.ren, told, Out.fgt, upO, updS, setS])
    (try simp only [thenD, blockD])
    refine DefX.objs globPure [2, 3] (cN_tm) ?_ ?_ (fun d h => by cases h <;> rfl) (by decide) (by simp) (by simp [D.ren, D.rens, D.okN, D.okNs, Cp.ren, Cp.okN, HO.ren, HO.okN, okA, renA, renO, hOf, handed, D.fgt, D.fgts, List.range_succ, List.idxOf_cons]) (by simp [D.ren, D.rens, D.okN, D.okNs, Cp.ren, Cp.okN, HO.ren, HO.okN, okA, renA, renO, hOf, handed, D.fgt, D.fgts, List.range_succ, List.idxOf_cons]) (by simp [D.ren, D.rens, D.okN, D.okNs, Cp.ren, Cp.okN, HO.ren, HO.okN, okA, renA, renO, hOf, handed, D.fgt, D.fgts, List.range_succ, List.idxOf_cons]) (by simp [D.ren, D.rens, D.okN, D.okNs, Cp.ren, Cp.okN, HO.ren, HO.okN, okA, renA, renO, hOf, handed, D.fgt, D.fgts, List.range_succ, List.idxOf_cons])
    · rintro hc rfl
      simp [D.ren, D.rens, D.okN, D.okNs, Cp.ren, Cp.okN, HO.ren, HO.okN, okA, renA, renO, hOf, handed, D.fgt, D.fgts, List.range_succ, List.idxOf_cons, upO, updS, setS]
      refine endD.intro rfl (.inr ⟨[], by decide, by simp, ?_⟩)
      simp [Out.mov, movT, movH, movD, D.mov, HO.mov, okM, renM, getW, D.ren, D.rens, D.okN, D.okNs, Cp.ren, Cp.okN, HO.ren, HO.okN, okA, renA, renO, hOf, handed, D.fgt, D.fgts, List.range_succ, List.idxOf_cons]
      try simp [Out.fgt, D.fgt, D.fgts]
    · rintro hc rfl
      simp
  | some p =>
    obtain ⟨x, nd2, s2⟩ := p
    have hE : encT x = .agg [.int .i64 x.k, .int .i64 x.n, .int .i64 x.a, .slice (x.ls.map encL) .any, .slice (x.ks.map encT) .any] := encT_eq x
    rw [h] at c
    unfold FsP at c
    unfold TrP_T
    dsimp only at c ⊢
    rw [hE] at c ⊢
    refine Spec.movd globPure (wpD_specD tyOK Tryd.func70 rfl (enters _ _ Tryd.func70 rfl (by decide)) rfl rfl ?_)
    (refine wpD_seqk fun K hK => ?_; refine wpD_region tyOK ?_; ((repeat (rw [wpS_cons]; simp)); (try simp only [wpS_nil, thenD, blockD])); refine hK _ _ _ ?_; clear hK K)
    (refine wpD_seqk fun K hK => ?_; refine wpD_region tyOK ?_; ((repeat (rw [wpS_cons]; simp)); (try simp only [wpS_nil, thenD, blockD])); refine hK _ _ _ ?_; clear hK K)
    (refine wpD_seqk fun K hK => ?_; refine wpD_region tyOK ?_; ((repeat (rw [wpS_cons]; simp)); (try simp only [wpS_nil, thenD, blockD])))
    refine cXo [0, 1] true (c) ?_
    (rintro o hc ⟨ho, rfl⟩; refine ⟨true, ?_⟩; rw [show told true o = _ from ho]; clear ho; simp [D.ren, D.rens, D.okN, D.okNs, Cp.ren, Cp.okN, HO.ren, HO.okN, okA, renA, renO, hOf, handed, D.fgt, D.fgts, List.range_succ, List.idxOf_cons, Out.ren, told, Out.fgt, upO, updS, setS])
    ((try simp only [wpAft_ret, wpAft_pan, putS, updS, setS]); (repeat (rw [wpS_cons]; simp)); (try simp only [wpS_nil, thenD, blockD]))
    (refine hK _ _ _ ?_; clear hK K)
    refine wpD_ret ?_
    refine DefX.objs globPure [2, 3] (cI_tm x true) ?_ ?_ (fun d h => by cases h) (by decide) (by simp) (by simp [D.ren, D.rens, D.okN, D.okNs, Cp.ren, Cp.okN, HO.ren, HO.okN, okA, renA, renO, hOf, handed, D.fgt, D.fgts, List.range_succ, List.idxOf_cons]) (by simp [D.ren, D.rens, D.okN, D.okNs, Cp.ren, Cp.okN, HO.ren, HO.okN, okA, renA, renO, hOf, handed, D.fgt, D.fgts, List.range_succ, List.idxOf_cons]) (by simp [D.ren, D.rens, D.okN, D.okNs, Cp.ren, Cp.okN, HO.ren, HO.okN, okA, renA, renO, hOf, handed, D.fgt, D.fgts, List.range_succ, List.idxOf_cons]) (by simp [D.ren, D.rens, D.okN, D.okNs, Cp.ren, Cp.okN, HO.ren, HO.okN, okA, renA, renO, hOf, handed, D.fgt, D.fgts, List.range_succ, List.idxOf_cons])
    · rintro hc rfl
      simp [D.ren, D.rens, D.okN, D.okNs, Cp.ren, Cp.okN, HO.ren, HO.okN, okA, renA, renO, hOf, handed, D.fgt, D.fgts, List.range_succ, List.idxOf_cons, upO, updS, setS]
      refine endD.intro rfl (.inr ⟨[], by decide, by simp, ?_⟩)
      simp [Out.mov, movT, movH, movD, D.mov, HO.mov, okM, renM, getW, D.ren, D.rens, D.okN, D.okNs, Cp.ren, Cp.okN, HO.ren, HO.okN, okA, renA, renO, hOf, handed, D.fgt, D.fgts, List.range_succ, List.idxOf_cons]
      try simp [Out.fgt, D.fgt, D.fgts]
    · rintro hc rfl
      simp
def firstT_D (s : List Int) : Option (T × NS) → D
  | some (x, (_, r)) => .tuple [encT x, .int .i64 (s.length - r.length)]
  | none => .tuple [encT zeroTm, .int .i64 0]
theorem firstT_spec (s : List Int) (hs : bytesOk s) (hl : s.length ≤ 1048576000) (hle : ∀ x nd r, termN s = some (x, (nd, r)) → r.length ≤ s.length) : Spec Tryd.prog glob 41 [.slice (byD s) .any, .fn (.func 42) [] []] [] (fun o _ => o.fgt = .ret (firstT_D s (termN s))) := by
  have c0 := read_spec s
  have c := t1T_spec s hs s.length 0
  unfold RO at c0
  cases h : termN s with
  | none =>
    rw [h] at c
    unfold TrP_T at c
    unfold firstT_D
    rw [show encT zeroTm = .agg [.int .i64 0, .int .i64 0, .int .i64 0, .slice [] .any, .slice [] .any] from rfl] at c ⊢
    refine Spec.movd globPure (wpD_spec tyOK Tryd.func41 rfl (enters _ _ Tryd.func41 rfl (by decide)) rfl rfl ?_)
    (refine wpD_seqk fun K hK => ?_; refine wpD_region tyOK ?_; ((repeat (rw [wpS_cons]; simp)); (try simp only [wpS_nil, thenD, blockD])); refine hK _ _ _ ?_; clear hK K)
    refine wpD_stay (T := tyOf) 0 (ty := 85) (ds := [.fn (.func 42) [] []]) rfl rfl (by first | exact ⟨rfl, .inr ⟨_, rfl, rfl⟩⟩ | exact ⟨rfl, .inl rfl⟩) ?_
    simp [D.frzs, D.frz, HO.frz, dfFrz, refOf, TK.isAgg, FK.isB, FK.isM, FK.isO, D.isLen]
    (refine wpD_seqk fun K hK => ?_; refine wpD_region tyOK ?_; ((repeat (rw [wpS_cons]; simp)); (try simp only [wpS_nil, thenD, blockD])))
    refine cXo [] false (c0) ?_
    (rintro o hc ⟨rfl, rfl⟩; refine ⟨false, ?_⟩; simp [D.ren, D.rens, D.okN, D.okNs, Cp.ren, Cp.okN, HO.ren, HO.okN, okA, renA, renO, hOf, handed, D.fgt, D.fgts, List.range_succ, List.idxOf_cons, Out.ren, told, Out.fgt, upO, updS, setS])
    ((try simp only [wpAft_ret, wpAft_pan, putS, updS, setS]); (repeat (rw [wpS_cons]; simp)); (try simp only [wpS_nil, thenD, blockD]))
    (refine hK _ _ _ ?_; clear hK K)
    (refine wpD_seqk fun K hK => ?_; refine wpD_region tyOK ?_; ((repeat (rw [wpS_cons]; simp)); (try simp only [wpS_nil, thenD, blockD])))
    refine cXo [3, 2] true (c) ?_
    (rintro o hc ⟨ho, rfl⟩; refine ⟨true, ?_⟩; rw [show told true o = _ from ho]; clear ho; simp [D.ren, D.rens, D.okN, D.okNs, Cp.ren, Cp.okN, HO.ren, HO.okN, okA, renA, renO, hOf, handed, D.fgt, D.fgts, List.range_succ, List.idxOf_cons, Out.ren, told, Out.fgt, upO, updS, setS])
    ((try simp only [wpAft_ret, wpAft_pan, putS, updS, setS]); (repeat (rw [wpS_cons]; simp)); (try simp only [wpS_nil, thenD, blockD]))
    (refine hK _ _ _ ?_; clear hK K)
    refine wpD_seqk fun K1 hK1 => ?_
    (refine wpD_seqk fun K hK => ?_; refine wpD_region tyOK ?_; ((repeat (rw [wpS_cons]; simp)); (try simp only [wpS_nil, thenD, blockD])); refine hK _ _ _ ?_; clear hK K)
    refine wpD_part rfl (fun _ => ?_) (fun h => by simp at h)
    (refine wpD_seqk fun K hK => ?_; refine wpD_region tyOK ?_; ((repeat (rw [wpS_cons]; simp)); (try simp only [wpS_nil, thenD, blockD])); refine hK _ _ _ ?_; clear hK K)
    (refine wpD_ret ?_; (try simp only [thenD, blockD]); refine EndQ.ret rfl (.inl ?_); simp [tmOf, Out.fgt, D.fgt, D.fgts])
  | some p =>
    obtain ⟨x, nd2, s2⟩ := p
    have hE : encT x = .agg [.int .i64 x.k, .int .i64 x.n, .int .i64 x.a, .slice (x.ls.map encL) .any, .slice (x.ks.map encT) .any] := encT_eq x
    have hl2 := hle x nd2 s2 h
    have tk := taken_spec s2 s.length nd2 (i64w (by omega) (by omega))
    unfold RO at tk
    rw [h] at c
    unfold TrP_T at c
    unfold firstT_D
    dsimp only at c ⊢
    rw [hE] at c ⊢
    refine Spec.movd globPure (wpD_spec tyOK Tryd.func41 rfl (enters _ _ Tryd.func41 rfl (by decide)) rfl rfl ?_)
    (refine wpD_seqk fun K hK => ?_; refine wpD_region tyOK ?_; ((repeat (rw [wpS_cons]; simp)); (try simp only [wpS_nil, thenD, blockD])); refine hK _ _ _ ?_; clear hK K)
    refine wpD_stay (T := tyOf) 0 (ty := 85) (ds := [.fn (.func 42) [] []]) rfl rfl (by first | exact ⟨rfl, .inr ⟨_, rfl, rfl⟩⟩ | exact ⟨rfl, .inl rfl⟩) ?_
    simp [D.frzs, D.frz, HO.frz, dfFrz, refOf, TK.isAgg, FK.isB, FK.isM, FK.isO, D.isLen]
    (refine wpD_seqk fun K hK => ?_; refine wpD_region tyOK ?_; ((repeat (rw [wpS_cons]; simp)); (try simp only [wpS_nil, thenD, blockD])))
    refine cXo [] false (c0) ?_
    (rintro o hc ⟨rfl, rfl⟩; refine ⟨false, ?_⟩; simp [D.ren, D.rens, D.okN, D.okNs, Cp.ren, Cp.okN, HO.ren, HO.okN, okA, renA, renO, hOf, handed, D.fgt, D.fgts, List.range_succ, List.idxOf_cons, Out.ren, told, Out.fgt, upO, updS, setS])
    ((try simp only [wpAft_ret, wpAft_pan, putS, updS, setS]); (repeat (rw [wpS_cons]; simp)); (try simp only [wpS_nil, thenD, blockD]))
    (refine hK _ _ _ ?_; clear hK K)
    (refine wpD_seqk fun K hK => ?_; refine wpD_region tyOK ?_; ((repeat (rw [wpS_cons]; simp)); (try simp only [wpS_nil, thenD, blockD])))
    refine cXo [3, 2] true (c) ?_
    (rintro o hc ⟨ho, rfl⟩; refine ⟨true, ?_⟩; rw [show told true o = _ from ho]; clear ho; simp [D.ren, D.rens, D.okN, D.okNs, Cp.ren, Cp.okN, HO.ren, HO.okN, okA, renA, renO, hOf, handed, D.fgt, D.fgts, List.range_succ, List.idxOf_cons, Out.ren, told, Out.fgt, upO, updS, setS])
    ((try simp only [wpAft_ret, wpAft_pan, putS, updS, setS]); (repeat (rw [wpS_cons]; simp)); (try simp only [wpS_nil, thenD, blockD]))
    (refine hK _ _ _ ?_; clear hK K)
    refine wpD_seqk fun K1 hK1 => ?_
    (refine wpD_seqk fun K hK => ?_; refine wpD_region tyOK ?_; ((repeat (rw [wpS_cons]; simp)); (try simp only [wpS_nil, thenD, blockD])); refine hK _ _ _ ?_; clear hK K)
    refine wpD_part rfl (fun h => by simp at h) (fun _ => ?_)
    refine wpD_skip (hK1 _ _ _ ?_)
    clear hK1 K1
    (refine wpD_seqk fun K hK => ?_; refine wpD_drawk tyOK (by kernel_rfl) (by kernel_rfl) fun KT hKT => ?_; ((repeat (rw [wpT_cons]; simp)); (try simp only [wpT_nil])))
    refine cYo [2] true true (tk) (fun o h e => e) ?_; simp [D.ren, D.rens, D.okN, D.okNs, Cp.ren, Cp.okN, HO.ren, HO.okN, okA, renA, renO, hOf, handed, D.fgt, D.fgts, List.range_succ, List.idxOf_cons, Out.ren, upO, renO, rdO]
    ((try simp only [wpAftT_ret, wpAftT_pan, putS, updS, setS]); (repeat (rw [wpT_cons]; simp)); (try simp only [wpT_nil]))
    (refine hKT _ _ _ _ (by kernel_rfl) ?_; clear hKT KT; (try simp only [thenD, blockD]))
    (refine hK _ _ _ ?_; clear hK K)
    (refine wpD_ret ?_; (try simp only [thenD, blockD]); refine EndQ.ret rfl (.inl ?_); simp [tmOf, Out.fgt, D.fgt, D.fgts])
theorem f1D_spec (s : List Int) (hs : bytesOk s) (all nd : Int) : Spec Tryd.prog glob 63 [.ref (.fn (.func 36) [] []), .box 0 0] [.cells 79 [.box 1 0], .cells 98 [.slice (byD s) .any, .int .i64 all, kmD, .int .i64 nd]] (FsP encDe all (declN (nd, s))) := by
  have c := rdecl_spec s hs all nd
  unfold RO at c
  cases h : declN (nd, s) with
  | none =>
    rw [h] at c
    unfold RdP at c
    refine Spec.kill2 ?_
    refine Spec.movd globPure (wpD_spec tyOK Tryd.func63 rfl (enters _ _ Tryd.func63 rfl (by decide)) rfl rfl ?_)
    (refine wpD_seqk fun K hK => ?_; refine wpD_region tyOK ?_; ((repeat (rw [wpS_cons]; simp)); (try simp only [wpS_nil, thenD, blockD])); refine hK _ _ _ ?_; clear hK K)
    (refine wpD_seqk fun K hK => ?_; refine wpD_region tyOK ?_; ((repeat (rw [wpS_cons]; simp)); (try simp only [wpS_nil, thenD, blockD])))
    refine cXo [1] true (c) ?_
    (rintro o hc ⟨rfl, rfl⟩; refine ⟨false, ?_⟩; simp [D.ren, D.rens, D.okN, D.okNs, Cp.ren, Cp.okN, HO.ren, HO.okN, okA, renA, renO, hOf, handed, D.fgt, D.fgts, List.range_succ, List.idxOf_cons, Out.ren, told, Out.fgt, upO, updS, setS])
    ((try simp only [thenD, blockD]); refine EndQ.pan (.inr ⟨[], by decide, by simp, ?_⟩); simp [Out.mov, movT, movH, movD, D.mov, HO.mov, okM, renM, getW, D.ren, D.rens, D.okN, D.okNs, Cp.ren, Cp.okN, HO.ren, HO.okN, okA, renA, renO, hOf, handed, D.fgt, D.fgts, List.range_succ, List.idxOf_cons, tmOf, Out.fgt, D.fgt, D.fgts])
  | some p =>
    obtain ⟨x, nd2, s2⟩ := p
    have hE : encDe x = .agg [.int .i64 x.kd, .int .i64 x.lv, .int .i64 x.ty.k, .int .i64 x.ty.n, .int .i64 x.ty.a, .slice (x.ty.ls.map encL) .any, .slice (x.ty.ks.map encT) .any, .int .i64 x.bo.k, .int .i64 x.bo.n, .int .i64 x.bo.a, .slice (x.bo.ls.map encL) .any, .slice (x.bo.ks.map encT) .any, .slice (x.ps.map encT) .any, .slice (x.so.map encP) .any, .slice (x.ms.map encMb) .any, .slice (x.cs.map encCt) .any] := encDe_eq x
    rw [h] at c
    unfold RdP at c
    dsimp only at c
    rw [RO, hE] at c
    unfold FsP
    dsimp only
    rw [hE]
    refine Spec.movd globPure (wpD_spec tyOK Tryd.func63 rfl (enters _ _ Tryd.func63 rfl (by decide)) rfl rfl ?_)
    (refine wpD_seqk fun K hK => ?_; refine wpD_region tyOK ?_; ((repeat (rw [wpS_cons]; simp)); (try simp only [wpS_nil, thenD, blockD])); refine hK _ _ _ ?_; clear hK K)
    (refine wpD_seqk fun K hK => ?_; refine wpD_region tyOK ?_; ((repeat (rw [wpS_cons]; simp)); (try simp only [wpS_nil, thenD, blockD])))
    refine cXo [1] true (c) ?_
    (rintro o hc ⟨ho, rfl⟩; refine ⟨true, ?_⟩; rw [show told true o = _ from ho]; clear ho; simp [D.ren, D.rens, D.okN, D.okNs, Cp.ren, Cp.okN, HO.ren, HO.okN, okA, renA, renO, hOf, handed, D.fgt, D.fgts, List.range_succ, List.idxOf_cons, Out.ren, told, Out.fgt, upO, updS, setS])
    ((try simp only [wpAft_ret, wpAft_pan, putS, updS, setS]); (repeat (rw [wpS_cons]; simp)); (try simp only [wpS_nil, thenD, blockD]))
    (refine hK _ _ _ ?_; clear hK K)
    (refine wpD_ret ?_; (try simp only [thenD, blockD]); refine EndQ.ret rfl (.inr ⟨[], by decide, by simp, ?_⟩); simp [Out.mov, movT, movH, movD, D.mov, HO.mov, okM, renM, getW, D.ren, D.rens, D.okN, D.okNs, Cp.ren, Cp.okN, HO.ren, HO.okN, okA, renA, renO, hOf, handed, D.fgt, D.fgts, List.range_succ, List.idxOf_cons, tmOf, Out.fgt, D.fgt, D.fgts])
def TrP_D (all : Int) : Option (De × NS) → Out → List HO → Prop
  | some (x, (nd, s)) => fun o hc => o.fgt = .ret (.tuple [encDe x, .bool true]) ∧ hc = [.cells 79 [.box 1 0], .cells 98 [.slice (byD s) .any, .int .i64 all, kmD, .int .i64 nd]]
  | none => fun o hc => o.fgt = .ret (.tuple [encDe zeroDe, .bool false]) ∧ hc = [.dead, .dead]
theorem t1D_spec (s : List Int) (hs : bytesOk s) (all nd : Int) : Spec Tryd.prog glob 62 [.fn (.func 63) [] [.ref (.fn (.func 36) [] []), .box 0 0]] [.cells 79 [.box 1 0], .cells 98 [.slice (byD s) .any, .int .i64 all, kmD, .int .i64 nd]] (TrP_D all (declN (nd, s))) := by
  have c := f1D_spec s hs all nd
  cases h : declN (nd, s) with
  | none =>
    rw [h] at c
    unfold FsP at c
    unfold TrP_D
    rw [show encDe zeroDe = .agg [.int .i64 0, .int .i64 0, .int .i64 0, .int .i64 0, .int .i64 0, .slice [] .any, .slice [] .any, .int .i64 0, .int .i64 0, .int .i64 0, .slice [] .any, .slice [] .any, .slice [] .any, .slice [] .any, .slice [] .any, .slice [] .any] from rfl]
    refine Spec.movd globPure (wpD_specD tyOK Tryd.func62 rfl (enters _ _ Tryd.func62 rfl (by decide)) rfl rfl ?_)
    (refine wpD_seqk fun K hK => ?_; refine wpD_region tyOK ?_; ((repeat (rw [wpS_cons]; simp)); (try simp only [wpS_nil, thenD, blockD])); refine hK _ _ _ ?_; clear hK K)
    (refine wpD_seqk fun K hK => ?_; refine wpD_region tyOK ?_; ((repeat (rw [wpS_cons]; simp)); (try simp only [wpS_nil, thenD, blockD])); refine hK _ _ _ ?_; clear hK K)
    (refine wpD_seqk fun K hK => ?_; refine wpD_region tyOK ?_; ((repeat (rw [wpS_cons]; simp)); (try simp only [wpS_nil, thenD, blockD])))
    refine cXo [0, 1] true (c) ?_
    (rintro o hc ⟨rfl, rfl⟩; refine ⟨false, ?_⟩; simp [D.ren, D.rens, D.okN, D.okNs, Cp.ren, Cp.okN, HO.ren, HO.okN, okA, renA, renO, hOf, handed, D.fgt, D.fgts, List.range_succ, List.idxOf_cons, Out.ren, told, Out.fgt, upO, updS, setS])
    (try simp only [thenD, blockD])
    refine DefX.objs globPure [2, 3] (cN_de) ?_ ?_ (fun d h => by cases h <;> rfl) (by decide) (by simp) (by simp [D.ren, D.rens, D.okN, D.okNs, Cp.ren, Cp.okN, HO.ren, HO.okN, okA, renA, renO, hOf, handed, D.fgt, D.fgts, List.range_succ, List.idxOf_cons]) (by simp [D.ren, D.rens, D.okN, D.okNs, Cp.ren, Cp.okN, HO.ren, HO.okN, okA, renA, renO, hOf, handed, D.fgt, D.fgts, List.range_succ, List.idxOf_cons]) (by simp [D.ren, D.rens, D.okN, D.okNs, Cp.ren, Cp.okN, HO.ren, HO.okN, okA, renA, renO, hOf, handed, D.fgt, D.fgts, List.range_succ, List.idxOf_cons]) (by simp [D.ren, D.rens, D.okN, D.okNs, Cp.ren, Cp.okN, HO.ren, HO.okN, okA, renA, renO, hOf, handed, D.fgt, D.fgts, List.range_succ, List.idxOf_cons])
    · rintro hc rfl
      simp [D.ren, D.rens, D.okN, D.okNs, Cp.ren, Cp.okN, HO.ren, HO.okN, okA, renA, renO, hOf, handed, D.fgt, D.fgts, List.range_succ, List.idxOf_cons, upO, updS, setS]
      refine endD.intro rfl (.inr ⟨[], by decide, by simp, ?_⟩)
      simp [Out.mov, movT, movH, movD, D.mov, HO.mov, okM, renM, getW, D.ren, D.rens, D.okN, D.okNs, Cp.ren, Cp.okN, HO.ren, HO.okN, okA, renA, renO, hOf, handed, D.fgt, D.fgts, List.range_succ, List.idxOf_cons]
      try simp [Out.fgt, D.fgt, D.fgts]
    · rintro hc rfl
      simp
  | some p =>
    obtain ⟨x, nd2, s2⟩ := p
    have hE : encDe x = .agg [.int .i64 x.kd, .int .i64 x.lv, .int .i64 x.ty.k, .int .i64 x.ty.n, .int .i64 x.ty.a, .slice (x.ty.ls.map encL) .any, .slice (x.ty.ks.map encT) .any, .int .i64 x.bo.k, .int .i64 x.bo.n, .int .i64 x.bo.a, .slice (x.bo.ls.map encL) .any, .slice (x.bo.ks.map encT) .any, .slice (x.ps.map encT) .any, .slice (x.so.map encP) .any, .slice (x.ms.map encMb) .any, .slice (x.cs.map encCt) .any] := encDe_eq x
    rw [h] at c
    unfold FsP at c
    unfold TrP_D
    dsimp only at c ⊢
    rw [hE] at c ⊢
    refine Spec.movd globPure (wpD_specD tyOK Tryd.func62 rfl (enters _ _ Tryd.func62 rfl (by decide)) rfl rfl ?_)
    (refine wpD_seqk fun K hK => ?_; refine wpD_region tyOK ?_; ((repeat (rw [wpS_cons]; simp)); (try simp only [wpS_nil, thenD, blockD])); refine hK _ _ _ ?_; clear hK K)
    (refine wpD_seqk fun K hK => ?_; refine wpD_region tyOK ?_; ((repeat (rw [wpS_cons]; simp)); (try simp only [wpS_nil, thenD, blockD])); refine hK _ _ _ ?_; clear hK K)
    (refine wpD_seqk fun K hK => ?_; refine wpD_region tyOK ?_; ((repeat (rw [wpS_cons]; simp)); (try simp only [wpS_nil, thenD, blockD])))
    refine cXo [0, 1] true (c) ?_
    (rintro o hc ⟨ho, rfl⟩; refine ⟨true, ?_⟩; rw [show told true o = _ from ho]; clear ho; simp [D.ren, D.rens, D.okN, D.okNs, Cp.ren, Cp.okN, HO.ren, HO.okN, okA, renA, renO, hOf, handed, D.fgt, D.fgts, List.range_succ, List.idxOf_cons, Out.ren, told, Out.fgt, upO, updS, setS])
    ((try simp only [wpAft_ret, wpAft_pan, putS, updS, setS]); (repeat (rw [wpS_cons]; simp)); (try simp only [wpS_nil, thenD, blockD]))
    (refine hK _ _ _ ?_; clear hK K)
    refine wpD_ret ?_
    refine DefX.objs globPure [2, 3] (cI_de x true) ?_ ?_ (fun d h => by cases h) (by decide) (by simp) (by simp [D.ren, D.rens, D.okN, D.okNs, Cp.ren, Cp.okN, HO.ren, HO.okN, okA, renA, renO, hOf, handed, D.fgt, D.fgts, List.range_succ, List.idxOf_cons]) (by simp [D.ren, D.rens, D.okN, D.okNs, Cp.ren, Cp.okN, HO.ren, HO.okN, okA, renA, renO, hOf, handed, D.fgt, D.fgts, List.range_succ, List.idxOf_cons]) (by simp [D.ren, D.rens, D.okN, D.okNs, Cp.ren, Cp.okN, HO.ren, HO.okN, okA, renA, renO, hOf, handed, D.fgt, D.fgts, List.range_succ, List.idxOf_cons]) (by simp [D.ren, D.rens, D.okN, D.okNs, Cp.ren, Cp.okN, HO.ren, HO.okN, okA, renA, renO, hOf, handed, D.fgt, D.fgts, List.range_succ, List.idxOf_cons])
    · rintro hc rfl
      simp [D.ren, D.rens, D.okN, D.okNs, Cp.ren, Cp.okN, HO.ren, HO.okN, okA, renA, renO, hOf, handed, D.fgt, D.fgts, List.range_succ, List.idxOf_cons, upO, updS, setS]
      refine endD.intro rfl (.inr ⟨[], by decide, by simp, ?_⟩)
      simp [Out.mov, movT, movH, movD, D.mov, HO.mov, okM, renM, getW, D.ren, D.rens, D.okN, D.okNs, Cp.ren, Cp.okN, HO.ren, HO.okN, okA, renA, renO, hOf, handed, D.fgt, D.fgts, List.range_succ, List.idxOf_cons]
      try simp [Out.fgt, D.fgt, D.fgts]
    · rintro hc rfl
      simp
def firstD_D (s : List Int) : Option (De × NS) → D
  | some (x, (_, r)) => .tuple [encDe x, .int .i64 (s.length - r.length)]
  | none => .tuple [encDe zeroDe, .int .i64 0]
theorem firstD_spec (s : List Int) (hs : bytesOk s) (hl : s.length ≤ 1048576000) (hle : ∀ x nd r, declN (0, s) = some (x, (nd, r)) → r.length ≤ s.length) : Spec Tryd.prog glob 35 [.slice (byD s) .any, .fn (.func 36) [] []] [] (fun o _ => o.fgt = .ret (firstD_D s (declN (0, s)))) := by
  have c0 := read_spec s
  have c := t1D_spec s hs s.length 0
  unfold RO at c0
  cases h : declN (0, s) with
  | none =>
    rw [h] at c
    unfold TrP_D at c
    unfold firstD_D
    rw [show encDe zeroDe = .agg [.int .i64 0, .int .i64 0, .int .i64 0, .int .i64 0, .int .i64 0, .slice [] .any, .slice [] .any, .int .i64 0, .int .i64 0, .int .i64 0, .slice [] .any, .slice [] .any, .slice [] .any, .slice [] .any, .slice [] .any, .slice [] .any] from rfl] at c ⊢
    refine Spec.movd globPure (wpD_spec tyOK Tryd.func35 rfl (enters _ _ Tryd.func35 rfl (by decide)) rfl rfl ?_)
    (refine wpD_seqk fun K hK => ?_; refine wpD_region tyOK ?_; ((repeat (rw [wpS_cons]; simp)); (try simp only [wpS_nil, thenD, blockD])); refine hK _ _ _ ?_; clear hK K)
    refine wpD_stay (T := tyOf) 0 (ty := 77) (ds := [.fn (.func 36) [] []]) rfl rfl (by first | exact ⟨rfl, .inr ⟨_, rfl, rfl⟩⟩ | exact ⟨rfl, .inl rfl⟩) ?_
    simp [D.frzs, D.frz, HO.frz, dfFrz, refOf, TK.isAgg, FK.isB, FK.isM, FK.isO, D.isLen]
    (refine wpD_seqk fun K hK => ?_; refine wpD_region tyOK ?_; ((repeat (rw [wpS_cons]; simp)); (try simp only [wpS_nil, thenD, blockD])))
    refine cXo [] false (c0) ?_
    (rintro o hc ⟨rfl, rfl⟩; refine ⟨false, ?_⟩; simp [D.ren, D.rens, D.okN, D.okNs, Cp.ren, Cp.okN, HO.ren, HO.okN, okA, renA, renO, hOf, handed, D.fgt, D.fgts, List.range_succ, List.idxOf_cons, Out.ren, told, Out.fgt, upO, updS, setS])
    ((try simp only [wpAft_ret, wpAft_pan, putS, updS, setS]); (repeat (rw [wpS_cons]; simp)); (try simp only [wpS_nil, thenD, blockD]))
    (refine hK _ _ _ ?_; clear hK K)
    (refine wpD_seqk fun K hK => ?_; refine wpD_region tyOK ?_; ((repeat (rw [wpS_cons]; simp)); (try simp only [wpS_nil, thenD, blockD])))
    refine cXo [3, 2] true (c) ?_
    (rintro o hc ⟨ho, rfl⟩; refine ⟨true, ?_⟩; rw [show told true o = _ from ho]; clear ho; simp [D.ren, D.rens, D.okN, D.okNs, Cp.ren, Cp.okN, HO.ren, HO.okN, okA, renA, renO, hOf, handed, D.fgt, D.fgts, List.range_succ, List.idxOf_cons, Out.ren, told, Out.fgt, upO, updS, setS])
    ((try simp only [wpAft_ret, wpAft_pan, putS, updS, setS]); (repeat (rw [wpS_cons]; simp)); (try simp only [wpS_nil, thenD, blockD]))
    (refine hK _ _ _ ?_; clear hK K)
    refine wpD_seqk fun K1 hK1 => ?_
    (refine wpD_seqk fun K hK => ?_; refine wpD_region tyOK ?_; ((repeat (rw [wpS_cons]; simp)); (try simp only [wpS_nil, thenD, blockD])); refine hK _ _ _ ?_; clear hK K)
    refine wpD_part rfl (fun _ => ?_) (fun h => by simp at h)
    (refine wpD_seqk fun K hK => ?_; refine wpD_region tyOK ?_; ((repeat (rw [wpS_cons]; simp)); (try simp only [wpS_nil, thenD, blockD])); refine hK _ _ _ ?_; clear hK K)
    (refine wpD_ret ?_; (try simp only [thenD, blockD]); refine EndQ.ret rfl (.inl ?_); simp [tmOf, Out.fgt, D.fgt, D.fgts])
  | some p =>
    obtain ⟨x, nd2, s2⟩ := p
    have hE : encDe x = .agg [.int .i64 x.kd, .int .i64 x.lv, .int .i64 x.ty.k, .int .i64 x.ty.n, .int .i64 x.ty.a, .slice (x.ty.ls.map encL) .any, .slice (x.ty.ks.map encT) .any, .int .i64 x.bo.k, .int .i64 x.bo.n, .int .i64 x.bo.a, .slice (x.bo.ls.map encL) .any, .slice (x.bo.ks.map encT) .any, .slice (x.ps.map encT) .any, .slice (x.so.map encP) .any, .slice (x.ms.map encMb) .any, .slice (x.cs.map encCt) .any] := encDe_eq x
    have hl2 := hle x nd2 s2 h
    have tk := taken_spec s2 s.length nd2 (i64w (by omega) (by omega))
    unfold RO at tk
    rw [h] at c
    unfold TrP_D at c
    unfold firstD_D
    dsimp only at c ⊢
    rw [hE] at c ⊢
    refine Spec.movd globPure (wpD_spec tyOK Tryd.func35 rfl (enters _ _ Tryd.func35 rfl (by decide)) rfl rfl ?_)
    (refine wpD_seqk fun K hK => ?_; refine wpD_region tyOK ?_; ((repeat (rw [wpS_cons]; simp)); (try simp only [wpS_nil, thenD, blockD])); refine hK _ _ _ ?_; clear hK K)
    refine wpD_stay (T := tyOf) 0 (ty := 77) (ds := [.fn (.func 36) [] []]) rfl rfl (by first | exact ⟨rfl, .inr ⟨_, rfl, rfl⟩⟩ | exact ⟨rfl, .inl rfl⟩) ?_
    simp [D.frzs, D.frz, HO.frz, dfFrz, refOf, TK.isAgg, FK.isB, FK.isM, FK.isO, D.isLen]
    (refine wpD_seqk fun K hK => ?_; refine wpD_region tyOK ?_; ((repeat (rw [wpS_cons]; simp)); (try simp only [wpS_nil, thenD, blockD])))
    refine cXo [] false (c0) ?_
    (rintro o hc ⟨rfl, rfl⟩; refine ⟨false, ?_⟩; simp [D.ren, D.rens, D.okN, D.okNs, Cp.ren, Cp.okN, HO.ren, HO.okN, okA, renA, renO, hOf, handed, D.fgt, D.fgts, List.range_succ, List.idxOf_cons, Out.ren, told, Out.fgt, upO, updS, setS])
    ((try simp only [wpAft_ret, wpAft_pan, putS, updS, setS]); (repeat (rw [wpS_cons]; simp)); (try simp only [wpS_nil, thenD, blockD]))
    (refine hK _ _ _ ?_; clear hK K)
    (refine wpD_seqk fun K hK => ?_; refine wpD_region tyOK ?_; ((repeat (rw [wpS_cons]; simp)); (try simp only [wpS_nil, thenD, blockD])))
    refine cXo [3, 2] true (c) ?_
    (rintro o hc ⟨ho, rfl⟩; refine ⟨true, ?_⟩; rw [show told true o = _ from ho]; clear ho; simp [D.ren, D.rens, D.okN, D.okNs, Cp.ren, Cp.okN, HO.ren, HO.okN, okA, renA, renO, hOf, handed, D.fgt, D.fgts, List.range_succ, List.idxOf_cons, Out.ren, told, Out.fgt, upO, updS, setS])
    ((try simp only [wpAft_ret, wpAft_pan, putS, updS, setS]); (repeat (rw [wpS_cons]; simp)); (try simp only [wpS_nil, thenD, blockD]))
    (refine hK _ _ _ ?_; clear hK K)
    refine wpD_seqk fun K1 hK1 => ?_
    (refine wpD_seqk fun K hK => ?_; refine wpD_region tyOK ?_; ((repeat (rw [wpS_cons]; simp)); (try simp only [wpS_nil, thenD, blockD])); refine hK _ _ _ ?_; clear hK K)
    refine wpD_part rfl (fun h => by simp at h) (fun _ => ?_)
    refine wpD_skip (hK1 _ _ _ ?_)
    clear hK1 K1
    (refine wpD_seqk fun K hK => ?_; refine wpD_drawk tyOK (by kernel_rfl) (by kernel_rfl) fun KT hKT => ?_; ((repeat (rw [wpT_cons]; simp)); (try simp only [wpT_nil])))
    refine cYo [2] true true (tk) (fun o h e => e) ?_; simp [D.ren, D.rens, D.okN, D.okNs, Cp.ren, Cp.okN, HO.ren, HO.okN, okA, renA, renO, hOf, handed, D.fgt, D.fgts, List.range_succ, List.idxOf_cons, Out.ren, upO, renO, rdO]
    ((try simp only [wpAftT_ret, wpAftT_pan, putS, updS, setS]); (repeat (rw [wpT_cons]; simp)); (try simp only [wpT_nil]))
    (refine hKT _ _ _ _ (by kernel_rfl) ?_; clear hKT KT; (try simp only [thenD, blockD]))
    (refine hK _ _ _ ?_; clear hK K)
    (refine wpD_ret ?_; (try simp only [thenD, blockD]); refine EndQ.ret rfl (.inl ?_); simp [tmOf, Out.fgt, D.fgt, D.fgts])
theorem getT_spec (s : List Int) (hs : bytesOk s) (hl : s.length ≤ 1048576000) (hle : ∀ x nd r, termN s = some (x, (nd, r)) → r.length ≤ s.length) : Spec Tryd.prog glob 14 [.slice (byD s) .any] [] (fun o _ => o.fgt = .ret (firstT_D s (termN s))) := by
  have c := firstT_spec s hs hl hle
  cases h : termN s with
  | none =>
    rw [h] at c
    unfold firstT_D at c ⊢
    rw [show encT zeroTm = .agg [.int .i64 0, .int .i64 0, .int .i64 0, .slice [] .any, .slice [] .any] from rfl] at c ⊢
    refine Spec.movd globPure (wpD_spec tyOK Tryd.func14 rfl (enters _ _ Tryd.func14 rfl (by decide)) rfl rfl ?_)
    (refine wpD_seqk fun K hK => ?_; refine wpD_region tyOK ?_; ((repeat (rw [wpS_cons]; simp)); (try simp only [wpS_nil, thenD, blockD])); refine hK _ _ _ ?_; clear hK K)
    (refine wpD_seqk fun K hK => ?_; refine wpD_region tyOK ?_; ((repeat (rw [wpS_cons]; simp)); (try simp only [wpS_nil, thenD, blockD])))
    refine cXp (c) ?_
    ((try simp only [wpAft_ret, wpAft_pan, putS, updS, setS]); (repeat (rw [wpS_cons]; simp)); (try simp only [wpS_nil, thenD, blockD]))
    (refine hK _ _ _ ?_; clear hK K)
    (refine wpD_ret ?_; (try simp only [thenD, blockD]); refine EndQ.ret rfl (.inl ?_); simp [tmOf, Out.fgt, D.fgt, D.fgts])
  | some p =>
    obtain ⟨x, nd2, s2⟩ := p
    have hE : encT x = .agg [.int .i64 x.k, .int .i64 x.n, .int .i64 x.a, .slice (x.ls.map encL) .any, .slice (x.ks.map encT) .any] := encT_eq x
    rw [h] at c
    unfold firstT_D at c ⊢
    dsimp only at c ⊢
    rw [hE] at c ⊢
    refine Spec.movd globPure (wpD_spec tyOK Tryd.func14 rfl (enters _ _ Tryd.func14 rfl (by decide)) rfl rfl ?_)
    (refine wpD_seqk fun K hK => ?_; refine wpD_region tyOK ?_; ((repeat (rw [wpS_cons]; simp)); (try simp only [wpS_nil, thenD, blockD])); refine hK _ _ _ ?_; clear hK K)
    (refine wpD_seqk fun K hK => ?_; refine wpD_region tyOK ?_; ((repeat (rw [wpS_cons]; simp)); (try simp only [wpS_nil, thenD, blockD])))
    refine cXp (c) ?_
    ((try simp only [wpAft_ret, wpAft_pan, putS, updS, setS]); (repeat (rw [wpS_cons]; simp)); (try simp only [wpS_nil, thenD, blockD]))
    (refine hK _ _ _ ?_; clear hK K)
    (refine wpD_ret ?_; (try simp only [thenD, blockD]); refine EndQ.ret rfl (.inl ?_); simp [tmOf, Out.fgt, D.fgt, D.fgts])
theorem getD_spec (s : List Int) (hs : bytesOk s) (hl : s.length ≤ 1048576000) (hle : ∀ x nd r, declN (0, s) = some (x, (nd, r)) → r.length ≤ s.length) : Spec Tryd.prog glob 12 [.slice (byD s) .any] [] (fun o _ => o.fgt = .ret (firstD_D s (declN (0, s)))) := by
  have c := firstD_spec s hs hl hle
  cases h : declN (0, s) with
  | none =>
    rw [h] at c
    unfold firstD_D at c ⊢
    rw [show encDe zeroDe = .agg [.int .i64 0, .int .i64 0, .int .i64 0, .int .i64 0, .int .i64 0, .slice [] .any, .slice [] .any, .int .i64 0, .int .i64 0, .int .i64 0, .slice [] .any, .slice [] .any, .slice [] .any, .slice [] .any, .slice [] .any, .slice [] .any] from rfl] at c ⊢
    refine Spec.movd globPure (wpD_spec tyOK Tryd.func12 rfl (enters _ _ Tryd.func12 rfl (by decide)) rfl rfl ?_)
    (refine wpD_seqk fun K hK => ?_; refine wpD_region tyOK ?_; ((repeat (rw [wpS_cons]; simp)); (try simp only [wpS_nil, thenD, blockD])); refine hK _ _ _ ?_; clear hK K)
    (refine wpD_seqk fun K hK => ?_; refine wpD_region tyOK ?_; ((repeat (rw [wpS_cons]; simp)); (try simp only [wpS_nil, thenD, blockD])))
    refine cXp (c) ?_
    ((try simp only [wpAft_ret, wpAft_pan, putS, updS, setS]); (repeat (rw [wpS_cons]; simp)); (try simp only [wpS_nil, thenD, blockD]))
    (refine hK _ _ _ ?_; clear hK K)
    (refine wpD_ret ?_; (try simp only [thenD, blockD]); refine EndQ.ret rfl (.inl ?_); simp [tmOf, Out.fgt, D.fgt, D.fgts])
  | some p =>
    obtain ⟨x, nd2, s2⟩ := p
    have hE : encDe x = .agg [.int .i64 x.kd, .int .i64 x.lv, .int .i64 x.ty.k, .int .i64 x.ty.n, .int .i64 x.ty.a, .slice (x.ty.ls.map encL) .any, .slice (x.ty.ks.map encT) .any, .int .i64 x.bo.k, .int .i64 x.bo.n, .int .i64 x.bo.a, .slice (x.bo.ls.map encL) .any, .slice (x.bo.ks.map encT) .any, .slice (x.ps.map encT) .any, .slice (x.so.map encP) .any, .slice (x.ms.map encMb) .any, .slice (x.cs.map encCt) .any] := encDe_eq x
    rw [h] at c
    unfold firstD_D at c ⊢
    dsimp only at c ⊢
    rw [hE] at c ⊢
    refine Spec.movd globPure (wpD_spec tyOK Tryd.func12 rfl (enters _ _ Tryd.func12 rfl (by decide)) rfl rfl ?_)
    (refine wpD_seqk fun K hK => ?_; refine wpD_region tyOK ?_; ((repeat (rw [wpS_cons]; simp)); (try simp only [wpS_nil, thenD, blockD])); refine hK _ _ _ ?_; clear hK K)
    (refine wpD_seqk fun K hK => ?_; refine wpD_region tyOK ?_; ((repeat (rw [wpS_cons]; simp)); (try simp only [wpS_nil, thenD, blockD])))
    refine cXp (c) ?_
    ((try simp only [wpAft_ret, wpAft_pan, putS, updS, setS]); (repeat (rw [wpS_cons]; simp)); (try simp only [wpS_nil, thenD, blockD]))
    (refine hK _ _ _ ?_; clear hK K)
    (refine wpD_ret ?_; (try simp only [thenD, blockD]); refine EndQ.ret rfl (.inl ?_); simp [tmOf, Out.fgt, D.fgt, D.fgts])
end Go.Proofs.YtgloldepdhgfaaaDoor
namespace Go.Proofs.YtgloldepdhgfaaaDoor
set_option linter.unusedSimpArgs false
set_option linter.unusedVariables false
set_option linter.unusedSimpArgs false
set_option linter.unusedVariables false
set_option maxHeartbeats 10000000
set_option maxRecDepth 20000
open Go.RowKit
attribute [local simp] wpAft_ret wpAft_pan wantD evOp opD tmOf putS updS setS hOf isFree isTok fillD TK.isAgg TK.known partD thenD blockD putAll D.ofV inB nilTest isNilS binX binD binE isCst bndD capB IntKind.min IntKind.max IntKind.signed IntKind.bits dstOf late
@[simp high] theorem encDes_frz (bx : FK) (i : Nat) (x : D) (l : List De) : D.frzs bx i x (l.map encDe) = l.map encDe := D.frzs_pure bx i x _ (encDe_pures l)
def appA (acc : List De) : Option (List De) → Option (List De)
  | none => none
  | some l => some (acc ++ l)
theorem allR_nil (m : Nat) : allR m [] = some [] := by cases m <;> rfl
theorem allR_u (m : Nat) (nd : Int) (s : List Int) (hs : s ≠ []) : allR (m + 1) s = match declN (nd, s) with
  | none => none
  | some (d, (_, r)) => appA [d] (allR m r) := by
  rw [allR]
  have h := declN_drop (nd, s)
  dsimp only at h
  rw [← h]
  cases s with
  | nil => exact absurd rfl hs
  | cons c q =>
    simp only [List.isEmpty_cons, Bool.false_eq_true, if_false]
    cases declN (nd, c :: q) with
    | none => rfl
    | some p =>
      obtain ⟨d, n, r⟩ := p
      simp only [dropN]
      cases allR m r <;> rfl
theorem appA_app (a b : List De) (r : Option (List De)) : appA a (appA b r) = appA (a ++ b) r := by cases r <;> simp [appA]
def AlP : Option (List De) → Out → List HO → Prop
  | some l => fun o _ => o.fgt = .ret (.slice (l.map encDe) .any)
  | none => fun o _ => o.fgt = .pan pnoneD
def allD : Option (List De) → D
  | some l => .tuple [.slice (l.map encDe) .any, .bool true]
  | none => .tuple [.slice [] .any, .bool false]
end Go.Proofs.YtgloldepdhgfaaaDoor
namespace Go.Proofs.YtgloldepdhgfaaaDoor
set_option linter.unusedSimpArgs false
set_option linter.unusedVariables false
set_option maxHeartbeats 10000000
set_option maxRecDepth 20000
open Go.RowKit
attribute [local simp] wpAft_ret wpAft_pan wantD evOp opD tmOf putS updS setS hOf isFree isTok fillD TK.isAgg TK.known partD thenD blockD putAll D.ofV inB nilTest isNilS binX binD binE isCst bndD capB IntKind.min IntKind.max IntKind.signed IntKind.bits dstOf late
end Go.Proofs.YtgloldepdhgfaaaDoor
namespace Go.Proofs.YtgloldepdhgfaaaDoor
set_option linter.unusedSimpArgs false
set_option linter.unusedVariables false
set_option maxHeartbeats 10000000
set_option maxRecDepth 20000
open Go.RowKit
attribute [local simp] wpAft_ret wpAft_pan wantD evOp opD tmOf putS updS setS hOf isFree isTok fillD TK.isAgg TK.known partD thenD blockD putAll D.ofV inB nilTest isNilS binX binD binE isCst bndD capB IntKind.min IntKind.max IntKind.signed IntKind.bits dstOf late
end Go.Proofs.YtgloldepdhgfaaaDoor
namespace Go.Proofs.YtgloldepdhgfaaaDoor
set_option linter.unusedSimpArgs false
set_option linter.unusedVariables false
open Go.RowKit
theorem belowD_in {d k i : Int} (h : -1000000000000000 ≤ d) (h2 : d ≤ 1000000000000000) : belowD d k i = if bindsB k i then d + 1 else d := by
  unfold belowD
  split
  · rw [i64w (by omega) (by omega)]
  · rfl
theorem belowD_le {d k i : Int} (h : -1000000000000000 ≤ d) (h2 : d ≤ 1000000000000000) : d ≤ belowD d k i ∧ belowD d k i ≤ d + 1 := by
  rw [belowD_in h h2]; split <;> omega
/-- more constants: each as it was -/
def ConstsLe (cs cs' : List Int) : Prop := cs.length ≤ cs'.length ∧ ∀ i, i < cs.length → cs'.getD i 0 = cs.getD i 0
theorem ConstsLe.refl (cs : List Int) : ConstsLe cs cs := ⟨Nat.le_refl _, fun _ _ => rfl⟩
theorem ConstsLe.append (cs more : List Int) : ConstsLe cs (cs ++ more) := by
  refine ⟨by simp, fun i hi => ?_⟩
  rw [List.getD_eq_getElem?_getD, List.getD_eq_getElem?_getD, List.getElem?_append_left hi]
def ScOk (sc : Int) (t : T) : Prop := 0 ≤ sc ∧ sc + t.deep ≤ 1000000000000000
theorem ScOk.kid {sc k m a : Int} {ls : List LV} {ks : List T} (h : ScOk sc (.mk k m a ls ks)) {t : T} (ht : t ∈ ks) (i : Int) : ScOk (belowD sc k i) t := by
  have h1 := T.deep_kid (k := k) (n := m) (a := a) (ls := ls) ht
  obtain ⟨h2, h3⟩ := h
  have := belowD_le (d := sc) (k := k) (i := i) (by omega) (by omega)
  unfold ScOk
  omega
/-! levels -/
/-- no Plus above one -/
def lowL (most : Int) (l : LV) : Bool := l.all fun p => decide (p.2 ≤ most)
mutual
def T.lowB (most : Int) : T → Bool
  | .mk _ _ _ ls ks => ls.all (lowL most) && T.lowsB most ks
def T.lowsB (most : Int) : List T → Bool
  | [] => true
  | t :: r => T.lowB most t && T.lowsB most r
end
end Go.Proofs.YtgloldepdhgfaaaDoor
namespace Go.Proofs.YtgloldepdhgfaaaDoor
set_option linter.unusedSimpArgs false
set_option linter.unusedVariables false
set_option maxHeartbeats 10000000
set_option maxRecDepth 20000
open Go.RowKit
attribute [local simp] wpAft_ret wpAft_pan wantD evOp opD tmOf putS updS setS hOf isFree isTok fillD TK.isAgg TK.known partD thenD blockD putAll D.ofV inB nilTest isNilS binX binD binE isCst bndD capB IntKind.min IntKind.max IntKind.signed IntKind.bits dstOf late
end Go.Proofs.YtgloldepdhgfaaaDoor
namespace Go.Proofs.YtgloldepdhgfaaaDoor
set_option linter.unusedSimpArgs false
set_option linter.unusedVariables false
open Go.RowKit
theorem CallOK.deepA {P : Program} {G : Nat → Option D} {f : FuncId} {args' : List D} {hh : Nat → HO} {out : Out} {rd : List Nat} {up : List (Nat × HO)} (h : CallOK P G f (D.deeps args') hh out rd up) : CallOK P G f args' hh out rd up :=
  fun ρ w H vs hR hx hvs => h ρ w H vs hR hx (RpL_deep _ _ hvs)
theorem CallX.pureD {P : Program} {G : Nat → Option D} (hG : ∀ g d, G g = some d → d.pure = true) {f : FuncId} {args args' : List D} {out : Out} (h : Spec P G f args [] (fun o _ => o.fgt = out)) {hl : List HO} {K : Out → List HO → Prop} (hK : K out hl) (ha : D.fgts (D.deeps args') = args) (hp : D.pures args = true) (ho : out.pure = true) : CallX P G f args' hl K :=
  ⟨fun o up => o = out ∧ up = [], (CallOK.deepA (CallOK.pure hG h ha hp ho _)).toR, fun o up ⟨h1, h2⟩ => by subst h1; subst h2; exact hK⟩
theorem CallY.pureD {P : Program} {G : Nat → Option D} (hG : ∀ g d, G g = some d → d.pure = true) {f : FuncId} {args args' : List D} {out : Out} (h : Spec P G f args [] (fun o _ => o.fgt = out)) {hl : List HO} {K : Out → List Nat → List (Nat × HO) → Prop} (hK : K out [] []) (ha : D.fgts (D.deeps args') = args) (hp : D.pures args = true) (ho : out.pure = true) : CallY P G f args' hl K :=
  ⟨out, [], [], CallOK.deepA (CallOK.pure hG h ha hp ho _), hK⟩
@[simp high] theorem encP_deep (p : Int × Int) : (encP p).deep = encP p := rfl
theorem mapP_deep (l : LV) : D.deeps (l.map encP) = l.map encP := by rw [D.deeps_map, List.map_map]; rfl
@[simp high] theorem mapP_deep' (l : LV) : D.deeps (l.map encP) = l.map encP := mapP_deep l
@[simp high] theorem encL_deep (l : LV) : (encL l).deep = encL l := by
  unfold encL
  simp only [D.deep, D.deeps, mapP_deep]
@[simp high] theorem mapL_deep (l : List LV) : D.deeps (l.map encL) = l.map encL := by
  rw [D.deeps_map, List.map_map]
  exact List.map_congr_left fun x _ => encL_deep x
@[simp high] theorem encT_deep (t : T) : (encT t).deep = encT t := by
  induction t using T.ind with
  | h k n a ls ks ih =>
    rw [encT_eq]
    have : D.deeps (ks.map encT) = ks.map encT := by
      rw [D.deeps_map, List.map_map]
      exact List.map_congr_left fun x hx => ih x hx
    simp only [D.deep, D.deeps, mapL_deep, T.ks_mk, this]
@[simp high] theorem mapT_deep (l : List T) : D.deeps (l.map encT) = l.map encT := by
  rw [D.deeps_map, List.map_map]
  exact List.map_congr_left fun x _ => encT_deep x
@[simp high] theorem mapI_deep (l : List Int) : D.deeps (l.map (.int .i64)) = l.map (.int .i64) := by
  rw [D.deeps_map, List.map_map]; rfl
end Go.Proofs.YtgloldepdhgfaaaDoor
namespace Go.Proofs.YtgloldepdhgfaaaDoor
set_option linter.unusedSimpArgs false
set_option linter.unusedVariables false
set_option maxHeartbeats 10000000
set_option maxRecDepth 20000
open Go.RowKit
attribute [local simp] wpAft_ret wpAft_pan wantD evOp opD tmOf putS updS setS hOf isFree isTok fillD TK.isAgg TK.known partD thenD blockD putAll D.ofV inB nilTest isNilS binX binD binE isCst bndD capB IntKind.min IntKind.max IntKind.signed IntKind.bits dstOf late
end Go.Proofs.YtgloldepdhgfaaaDoor
namespace Go.Proofs.YtgloldepdhgfaaaDoor
set_option linter.unusedSimpArgs false
set_option linter.unusedVariables false
set_option maxHeartbeats 10000000
set_option maxRecDepth 20000
open Go.RowKit
attribute [local simp] wpAft_ret wpAft_pan wantD evOp opD tmOf putS updS setS hOf isFree isTok fillD TK.isAgg TK.known partD thenD blockD putAll D.ofV inB nilTest isNilS binX binD binE isCst bndD capB IntKind.min IntKind.max IntKind.signed IntKind.bits dstOf late
mutual
def T.dp : T → Int → Int
  | .mk _ _ _ _ ks, q => IntKind.i64.wrap ((if 0 < q then T.dps ks (IntKind.i64.wrap (q - 1)) 0 else 0) + 1)
def T.dps : List T → Int → Int → Int
  | [], _, s => s
  | t :: r, q, s => T.dps r q (max s (T.dp t q))
end
theorem deep_spec (t : T) : ∀ q, okT t → Spec Tryd.prog glob 23 [encT t, .int .i64 q] [] (fun o _ => o.fgt = .ret (.int .i64 (t.dp q))) := by
  induction t using T.ind with
  | h kk m a ls ks ih =>
  intro q ht
  have hkl : ks.length ≤ LMax := ht.kl
  have hks := ht.ks
  simp only [T.ks_mk] at hks
  unfold LMax at hkl
  have hR0 : T.dp (.mk kk m a ls ks) q = IntKind.i64.wrap ((if 0 < q then T.dps ks (IntKind.i64.wrap (q - 1)) 0 else 0) + 1) := by rw [T.dp]
  rw [hR0]
  rw [encT_eq]
  simp only [T.k_mk, T.n_mk, T.a_mk, T.ls_mk, T.ks_mk]
  refine Spec.movd globPure (wpD_spec tyOK Tryd.func23 rfl (enters _ _ Tryd.func23 rfl (by decide)) rfl rfl ?_)
  (refine wpD_seqk fun K hK => ?_; refine wpD_region tyOK ?_; ((repeat (rw [wpS_cons]; simp)); (try simp only [wpS_nil, thenD, blockD])); refine hK _ _ _ ?_; clear hK K)
  (refine wpD_seqk fun K hK => ?_; refine wpD_region tyOK ?_; ((repeat (rw [wpS_cons]; simp)); (try simp only [wpS_nil, thenD, blockD])); refine hK _ _ _ ?_; clear hK K)
  by_cases hq : 0 < q
  rotate_left
  · rw [if_neg hq]
    refine wpD_seqk fun K1 hK1 => ?_
    (refine wpD_seqk fun K hK => ?_; refine wpD_region tyOK ?_; ((repeat (rw [wpS_cons]; simp)); (try simp only [wpS_nil, thenD, blockD])); refine hK _ _ _ ?_; clear hK K)
    refine wpD_block ?_
    refine wpD_loopWJ [7, 8, 9, 10, 11, 12, 13, 14, 15, 16, 17, 18, 19, 20, 21, 22, 23, 24, 25, 26, 27] [5, 6] (fun n ys hl => ys = [.int .i64 0, .int .i64 0] ∧ n = 0 ∧ hl = [.cells 27 [.int .i64 kk, .int .i64 m, .int .i64 a, .slice (ls.map encL) .any, .slice (ks.map encT) .any]]) (0) (by kernel_rfl) ?_ ?_
    · exact ⟨rfl, rfl, rfl⟩
    · rintro n ys hl A hA ⟨rfl, -, rfl⟩
      simp only [putAll, List.set, List.map_cons, List.map_nil, List.cons_append, List.nil_append]
      refine wpD_seqk fun K2 hK2 => ?_
      by_cases h0 : 0 < ks.length
      · have h0' : (0 : Int) < ks.length := by omega
        (refine wpD_seqk fun K hK => ?_; refine wpD_region tyOK ?_; ((repeat (rw [wpS_cons]; simp [h0, h0', hq])); (try simp only [wpS_nil, thenD, blockD])); refine hK _ _ _ ?_; clear hK K)
        refine wpD_part rfl (fun h => by simp at h) (fun _ => ?_)
        refine wpD_exit ?_
        refine hK1 _ _ _ ?_
        (refine wpD_seqk fun K hK => ?_; refine wpD_region tyOK ?_; ((repeat (rw [wpS_cons]; simp)); (try simp only [wpS_nil, thenD, blockD])); refine hK _ _ _ ?_; clear hK K)
        (refine wpD_ret ?_; (try simp only [thenD, blockD]); refine EndQ.ret rfl (.inl ?_); simp [tmOf, Out.fgt, D.fgt, D.fgts])
      · have h0' : ¬ (0 : Int) < ks.length := by omega
        (refine wpD_seqk fun K hK => ?_; refine wpD_region tyOK ?_; ((repeat (rw [wpS_cons]; simp [h0, h0', hq])); (try simp only [wpS_nil, thenD, blockD])); refine hK _ _ _ ?_; clear hK K)
        refine wpD_part rfl (fun h => by simp at h) (fun _ => ?_)
        refine wpD_exit ?_
        refine hK1 _ _ _ ?_
        (refine wpD_seqk fun K hK => ?_; refine wpD_region tyOK ?_; ((repeat (rw [wpS_cons]; simp)); (try simp only [wpS_nil, thenD, blockD])); refine hK _ _ _ ?_; clear hK K)
        (refine wpD_ret ?_; (try simp only [thenD, blockD]); refine EndQ.ret rfl (.inl ?_); simp [tmOf, Out.fgt, D.fgt, D.fgts])
  rw [if_pos hq]
  obtain ⟨R, hR⟩ : ∃ R, R = T.dps ks (IntKind.i64.wrap (q - 1)) 0 := ⟨_, rfl⟩
  rw [← hR]
  refine wpD_seqk fun K1a hK1a => ?_
  (refine wpD_seqk fun K hK => ?_; refine wpD_region tyOK ?_; ((repeat (rw [wpS_cons]; simp)); (try simp only [wpS_nil, thenD, blockD])); refine hK _ _ _ ?_; clear hK K)
  refine wpD_block ?_
  refine wpD_loopWJ [7, 8, 9, 10, 11, 12, 13, 14, 15, 16, 17, 18, 19, 20, 21, 22, 23, 24, 25, 26, 27] [5, 6] (fun n ys hl => ∃ (k : Nat) (s : Int), ys = [.int .i64 s, .int .i64 k] ∧ n + k = ks.length ∧ R = T.dps (ks.drop k) (IntKind.i64.wrap (q - 1)) s ∧ hl = [.cells 27 [.int .i64 kk, .int .i64 m, .int .i64 a, .slice (ls.map encL) .any, .slice (ks.map encT) .any]]) (ks.length) (by kernel_rfl) ?_ ?_
  · exact ⟨0, 0, rfl, rfl, hR, rfl⟩
  · rintro n1 ys hl A1 hA1 ⟨i1, s, rfl, hn, hF, rfl⟩
    have hA := hA1
    simp only [putAll, List.set, List.map_cons, List.map_nil, List.cons_append, List.nil_append]
    refine wpD_seqk fun K1b hK1b => ?_
    by_cases hi1 : i1 < ks.length
    · have hi1' : (i1 : Int) < ks.length := by omega
      rw [List.drop_eq_getElem_cons hi1, T.dps] at hF
      have hrec := ih ks[i1] (List.getElem_mem hi1) (IntKind.i64.wrap (q - 1)) (hks _ (List.getElem_mem hi1))
      obtain ⟨x, hx⟩ : ∃ x, ks[i1] = x := ⟨_, rfl⟩
      rw [hx] at hrec hF
      have hEx := encT_eq x
      rw [hEx] at hrec
      generalize x.dp (IntKind.i64.wrap (q - 1)) = v at hrec hF
      (refine wpD_seqk fun K hK => ?_; refine wpD_region tyOK ?_; ((repeat (rw [wpS_cons]; simp [hi1, hi1', hq])); (try simp only [wpS_nil, thenD, blockD])); refine hK _ _ _ ?_; clear hK K)
      refine wpD_part rfl (fun _ => ?_) (fun h => by simp at h)
      refine wpD_skip (hK1b _ _ _ ?_)
      clear hK1b K1b
      refine wpD_seqk fun K1c hK1c => ?_
      refine wpD_block ?_
      (refine wpD_region tyOK ?_; ((repeat (rw [wpS_cons]; simp [hi1, hi1', hx, hEx])); (try simp only [wpS_nil, thenD, blockD])))
      refine cXp (hrec) ?_
      ((try simp only [wpAft_ret, wpAft_pan, putS, updS, setS]); (repeat (rw [wpS_cons]; simp)); (try simp only [wpS_nil, thenD, blockD]))
      refine hK1c _ _ _ ?_
      clear hK1c K1c
      have hw1 : IntKind.i64.wrap ((i1 : Int) + 1) = (i1 : Int) + 1 := i64w (by omega) (by omega)
      (refine wpD_region tyOK ?_; ((repeat (rw [wpS_cons]; simp [hw1])); (try simp only [wpS_nil, thenD, blockD])))
      refine hA (n1 - 1) _ _ _ (LeT.refl _) (by omega) (by kernel_rfl) ?_
      exact ⟨i1 + 1, _, rfl, by omega, hF, rfl⟩
    · have hi1' : ¬ (i1 : Int) < ks.length := by omega
      (refine wpD_seqk fun K hK => ?_; refine wpD_region tyOK ?_; ((repeat (rw [wpS_cons]; simp [hi1, hi1', hq])); (try simp only [wpS_nil, thenD, blockD])); refine hK _ _ _ ?_; clear hK K)
      refine wpD_part rfl (fun h => by simp at h) (fun _ => ?_)
      refine wpD_exit ?_
      refine hK1a _ _ _ ?_
      clear hK1b K1b
      rw [List.drop_of_length_le (by omega), T.dps] at hF
      subst hF
      (refine wpD_seqk fun K hK => ?_; refine wpD_region tyOK ?_; ((repeat (rw [wpS_cons]; simp)); (try simp only [wpS_nil, thenD, blockD])); refine hK _ _ _ ?_; clear hK K)
      (refine wpD_ret ?_; (try simp only [thenD, blockD]); refine EndQ.ret rfl (.inl ?_); simp [tmOf, Out.fgt, D.fgt, D.fgts])
end Go.Proofs.YtgloldepdhgfaaaDoor
namespace Go.Proofs.YtgloldepdhgfaaaDoor
set_option linter.unusedSimpArgs false
set_option linter.unusedVariables false
set_option linter.unusedSimpArgs false
set_option linter.unusedVariables false
set_option maxHeartbeats 10000000
set_option maxRecDepth 20000
open Go.RowKit
attribute [local simp] wpAft_ret wpAft_pan wantD evOp opD tmOf putS updS setS hOf isFree isTok fillD TK.isAgg TK.known partD thenD blockD putAll D.ofV inB nilTest isNilS binX binD binE isCst bndD capB IntKind.min IntKind.max IntKind.signed IntKind.bits dstOf late
def highB (l : List T) : Bool := l.any fun t => decide (600 < t.dp 600)
theorem high_spec (l : List T) (hl : l.length ≤ LMax) (hls : ∀ t, t ∈ l → okT t) : Spec Tryd.prog glob 7 [.slice (l.map encT) .any] [] (fun o _ => o.fgt = .ret (.bool (highB l))) := by
  obtain ⟨R, hR⟩ : ∃ R, R = highB l := ⟨_, rfl⟩
  rw [← hR]
  have hl0 := hl
  unfold LMax at hl0
  refine Spec.movd globPure (wpD_spec tyOK Tryd.func7 rfl (enters _ _ Tryd.func7 rfl (by decide)) rfl rfl ?_)
  (refine wpD_seqk fun K hK => ?_; refine wpD_region tyOK ?_; ((repeat (rw [wpS_cons]; simp)); (try simp only [wpS_nil, thenD, blockD])); refine hK _ _ _ ?_; clear hK K)
  refine wpD_seqk fun K1 hK1 => ?_
  (refine wpD_seqk fun K hK => ?_; refine wpD_region tyOK ?_; ((repeat (rw [wpS_cons]; simp)); (try simp only [wpS_nil, thenD, blockD])); refine hK _ _ _ ?_; clear hK K)
  refine wpD_block ?_
  refine wpD_loopWJ [2, 4, 5, 6, 7, 8, 9, 10, 11, 12, 13, 14, 15] [3] (fun n ys hl => ∃ (k : Nat), ys = [.int .i64 k] ∧ n + k = l.length ∧ R = highB (l.drop k) ∧ hl = []) (l.length) (by kernel_rfl) ?_ ?_
  · exact ⟨0, rfl, rfl, hR, rfl⟩
  · rintro n ys hl A hA ⟨i, rfl, hn, hF, rfl⟩
    simp only [putAll, List.set, List.map_cons, List.map_nil, List.cons_append, List.nil_append]
    refine wpD_seqk fun K2 hK2 => ?_
    by_cases hi : i < l.length
    · have hi' : (i : Int) < l.length := by omega
      (refine wpD_seqk fun K hK => ?_; refine wpD_region tyOK ?_; ((repeat (rw [wpS_cons]; simp [hi, hi'])); (try simp only [wpS_nil, thenD, blockD])); refine hK _ _ _ ?_; clear hK K)
      refine wpD_part rfl (fun _ => ?_) (fun h => by simp at h)
      refine wpD_skip (hK2 _ _ _ ?_)
      clear hK2 K2
      refine wpD_seqk fun K3 hK3 => ?_
      refine wpD_block ?_
      obtain ⟨x, hx⟩ : ∃ x, l[i] = x := ⟨_, rfl⟩
      have hd := deep_spec x 600 (hls _ (by rw [← hx]; exact List.getElem_mem hi))
      have hEx := encT_eq x
      rw [hEx] at hd
      unfold highB at hF
      rw [List.drop_eq_getElem_cons hi, List.any_cons, hx] at hF
      generalize x.dp 600 = q at hd hF
      by_cases hq : 600 < q
      · rw [decide_eq_true hq, Bool.true_or] at hF
        subst hF
        (refine wpD_seqk fun K hK => ?_; refine wpD_region tyOK ?_; ((repeat (rw [wpS_cons]; simp [hi, hi', hx, hEx])); (try simp only [wpS_nil, thenD, blockD])))
        refine cXp (hd) ?_
        ((try simp only [wpAft_ret, wpAft_pan, putS, updS, setS]); (repeat (rw [wpS_cons]; simp [hq])); (try simp only [wpS_nil, thenD, blockD]))
        (refine hK _ _ _ ?_; clear hK K)
        refine wpD_part rfl (fun _ => ?_) (fun h => by simp at h)
        (refine wpD_seqk fun K hK => ?_; refine wpD_region tyOK ?_; ((repeat (rw [wpS_cons]; simp)); (try simp only [wpS_nil, thenD, blockD])); refine hK _ _ _ ?_; clear hK K)
        (refine wpD_ret ?_; (try simp only [thenD, blockD]); refine EndQ.ret rfl (.inl ?_); simp [tmOf, Out.fgt, D.fgt, D.fgts])
      · rw [decide_eq_false hq, Bool.false_or] at hF
        (refine wpD_seqk fun K hK => ?_; refine wpD_region tyOK ?_; ((repeat (rw [wpS_cons]; simp [hi, hi', hx, hEx])); (try simp only [wpS_nil, thenD, blockD])))
        refine cXp (hd) ?_
        ((try simp only [wpAft_ret, wpAft_pan, putS, updS, setS]); (repeat (rw [wpS_cons]; simp [hq])); (try simp only [wpS_nil, thenD, blockD]))
        (refine hK _ _ _ ?_; clear hK K)
        refine wpD_part rfl (fun h => by simp at h) (fun _ => ?_)
        refine wpD_skip (hK3 _ _ _ ?_)
        clear hK3 K3
        have hw1 : IntKind.i64.wrap ((i : Int) + 1) = (i : Int) + 1 := i64w (by omega) (by omega)
        (refine wpD_region tyOK ?_; ((repeat (rw [wpS_cons]; simp [hw1])); (try simp only [wpS_nil, thenD, blockD])))
        refine hA (n - 1) _ _ _ (LeT.refl _) (by omega) (by kernel_rfl) ?_
        exact ⟨i + 1, rfl, by omega, hF, rfl⟩
    · have hi' : ¬ (i : Int) < l.length := by omega
      rw [List.drop_of_length_le (by omega)] at hF
      replace hF : R = false := hF
      subst hF
      (refine wpD_seqk fun K hK => ?_; refine wpD_region tyOK ?_; ((repeat (rw [wpS_cons]; simp [hi, hi'])); (try simp only [wpS_nil, thenD, blockD])); refine hK _ _ _ ?_; clear hK K)
      refine wpD_part rfl (fun h => by simp at h) (fun _ => ?_)
      refine wpD_exit ?_
      refine hK1 _ _ _ ?_
      (refine wpD_seqk fun K hK => ?_; refine wpD_region tyOK ?_; ((repeat (rw [wpS_cons]; simp)); (try simp only [wpS_nil, thenD, blockD])); refine hK _ _ _ ?_; clear hK K)
      (refine wpD_ret ?_; (try simp only [thenD, blockD]); refine EndQ.ret rfl (.inl ?_); simp [tmOf, Out.fgt, D.fgt, D.fgts])
def greatDe (d : De) : Bool := highB [d.ty, d.bo] || (highB d.ps || ((d.ms.take 2000).any highB || ((d.cs.take 2000).any (fun c => highB [c.2]) || decide (2000 < deN 2000 d))))
theorem great3_spec (d : De) (h : okDe d) : Spec Tryd.prog glob 6 [encDe d] [] (fun o _ => o.fgt = .ret (.bool (greatDe d))) := by
  have h1 := high_spec [d.ty, d.bo] (by simp [LMax]) (by intro t ht; simp at ht; rcases ht with rfl | rfl; exact h.ty; exact h.bo)
  have h2 := high_spec d.ps h.psl h.ps
  have h3 := declOf_spec d 2000 h
  have hml := h.msl
  have hcl := h.csl
  have hms := h.ms
  have hcs := h.cs
  unfold LMax at hml hcl
  unfold greatDe
  rw [encDe_eq] at h3 ⊢
  have hE1 := encT_eq d.ty
  have hE2 := encT_eq d.bo
  simp only [List.map_cons, List.map_nil, hE1, hE2] at h1
  generalize highB [d.ty, d.bo] = x1 at h1 ⊢
  generalize highB d.ps = x2 at h2 ⊢
  generalize deN 2000 d = x5 at h3 ⊢
  obtain ⟨R3, hR3⟩ : ∃ R3, R3 = ((d.cs.take 2000).any (fun c => highB [c.2]) || decide (2000 < x5)) := ⟨_, rfl⟩
  rw [← hR3]
  obtain ⟨R2, hR2⟩ : ∃ R2, R2 = ((d.ms.take 2000).any highB || R3) := ⟨_, rfl⟩
  rw [← hR2]
  refine Spec.movd globPure (wpD_spec tyOK Tryd.func6 rfl (enters _ _ Tryd.func6 rfl (by decide)) rfl rfl ?_)
  (refine wpD_seqk fun K hK => ?_; refine wpD_region tyOK ?_; ((repeat (rw [wpS_cons]; simp)); (try simp only [wpS_nil, thenD, blockD])); refine hK _ _ _ ?_; clear hK K)
  refine wpD_seqk fun K1 hK1 => ?_
  cases x1 with
  | true =>
    (refine wpD_seqk fun K hK => ?_; refine wpD_region tyOK ?_; ((repeat (rw [wpS_cons]; simp)); (try simp only [wpS_nil, thenD, blockD])))
    refine cXp (h1) ?_
    ((try simp only [wpAft_ret, wpAft_pan, putS, updS, setS]); (repeat (rw [wpS_cons]; simp)); (try simp only [wpS_nil, thenD, blockD]))
    (refine hK _ _ _ ?_; clear hK K)
    refine wpD_part rfl (fun _ => ?_) (fun h => by simp at h)
    (refine wpD_seqk fun K hK => ?_; refine wpD_region tyOK ?_; ((repeat (rw [wpS_cons]; simp)); (try simp only [wpS_nil, thenD, blockD])); refine hK _ _ _ ?_; clear hK K)
    (refine wpD_ret ?_; (try simp only [thenD, blockD]); refine EndQ.ret rfl (.inl ?_); simp [tmOf, Out.fgt, D.fgt, D.fgts])
  | false =>
  cases x2 with
  | true =>
    (refine wpD_seqk fun K hK => ?_; refine wpD_region tyOK ?_; ((repeat (rw [wpS_cons]; simp)); (try simp only [wpS_nil, thenD, blockD])))
    refine cXp (h1) ?_
    ((try simp only [wpAft_ret, wpAft_pan, putS, updS, setS]); (repeat (rw [wpS_cons]; simp)); (try simp only [wpS_nil, thenD, blockD]))
    refine cXp (h2) ?_
    ((try simp only [wpAft_ret, wpAft_pan, putS, updS, setS]); (repeat (rw [wpS_cons]; simp)); (try simp only [wpS_nil, thenD, blockD]))
    (refine hK _ _ _ ?_; clear hK K)
    refine wpD_part rfl (fun _ => ?_) (fun h => by simp at h)
    (refine wpD_seqk fun K hK => ?_; refine wpD_region tyOK ?_; ((repeat (rw [wpS_cons]; simp)); (try simp only [wpS_nil, thenD, blockD])); refine hK _ _ _ ?_; clear hK K)
    (refine wpD_ret ?_; (try simp only [thenD, blockD]); refine EndQ.ret rfl (.inl ?_); simp [tmOf, Out.fgt, D.fgt, D.fgts])
  | false =>
  rw [Bool.false_or, Bool.false_or]
  (refine wpD_seqk fun K hK => ?_; refine wpD_region tyOK ?_; ((repeat (rw [wpS_cons]; simp)); (try simp only [wpS_nil, thenD, blockD])))
  refine cXp (h1) ?_
  ((try simp only [wpAft_ret, wpAft_pan, putS, updS, setS]); (repeat (rw [wpS_cons]; simp)); (try simp only [wpS_nil, thenD, blockD]))
  refine cXp (h2) ?_
  ((try simp only [wpAft_ret, wpAft_pan, putS, updS, setS]); (repeat (rw [wpS_cons]; simp)); (try simp only [wpS_nil, thenD, blockD]))
  (refine hK _ _ _ ?_; clear hK K)
  refine wpD_part rfl (fun h => by simp at h) (fun _ => ?_)
  refine wpD_skip (hK1 _ _ _ ?_)
  clear hK1 K1 h1 h2
  refine wpD_seqk fun K1 hK1 => ?_
  (refine wpD_seqk fun K hK => ?_; refine wpD_region tyOK ?_; ((repeat (rw [wpS_cons]; simp)); (try simp only [wpS_nil, thenD, blockD])); refine hK _ _ _ ?_; clear hK K)
  refine wpD_block ?_
  refine wpD_loopWJ [2, 16, 17, 18, 19, 20, 21, 22, 23, 24, 25, 26, 27, 28, 29, 30, 31, 32, 33] [3] (fun n ys hl => ∃ (k : Nat), ys = [.int .i64 k] ∧ n + k = d.ms.length ∧ R2 = (((d.ms.take 2000).drop k).any highB || R3) ∧ hl = [.cells 34 [.int .i64 d.kd, .int .i64 d.lv, .int .i64 d.ty.k, .int .i64 d.ty.n, .int .i64 d.ty.a, .slice (d.ty.ls.map encL) .any, .slice (d.ty.ks.map encT) .any, .int .i64 d.bo.k, .int .i64 d.bo.n, .int .i64 d.bo.a, .slice (d.bo.ls.map encL) .any, .slice (d.bo.ks.map encT) .any, .slice (d.ps.map encT) .any, .slice (d.so.map encP) .any, .slice (d.ms.map encMb) .any, .slice (d.cs.map encCt) .any]]) (d.ms.length) (by kernel_rfl) ?_ ?_
  · exact ⟨0, rfl, rfl, hR2, rfl⟩
  · rintro n ys hl A hA ⟨i, rfl, hn, hF, rfl⟩
    simp only [putAll, List.set, List.map_cons, List.map_nil, List.cons_append, List.nil_append]
    refine wpD_seqk fun K2 hK2 => ?_
    by_cases hi : i < d.ms.length
    · have hi' : (i : Int) < d.ms.length := by omega
      by_cases h2 : i < 2000
      · have h2' : (i : Int) < 2000 := by omega
        have hti : i < (d.ms.take 2000).length := by rw [List.length_take]; omega
        rw [List.drop_eq_getElem_cons hti, List.any_cons, List.getElem_take] at hF
        obtain ⟨x, hx⟩ : ∃ x, d.ms[i] = x := ⟨_, rfl⟩
        rw [hx] at hF
        (refine wpD_seqk fun K hK => ?_; refine wpD_region tyOK ?_; ((repeat (rw [wpS_cons]; simp [hi, hi', h2, h2'])); (try simp only [wpS_nil, thenD, blockD])); refine hK _ _ _ ?_; clear hK K)
        refine wpD_part rfl (fun _ => ?_) (fun h => by simp at h)
        refine wpD_skip (hK2 _ _ _ ?_)
        clear hK2 K2
        refine wpD_seqk fun K3 hK3 => ?_
        refine wpD_block ?_
        have hq := high_spec x (hms x (by rw [← hx]; exact List.getElem_mem hi)).1 (hms x (by rw [← hx]; exact List.getElem_mem hi)).2
        have hEx : encMb x = .agg [.slice (x.map encT) .any] := rfl
        generalize highB x = B at hq hF
        cases B with
        | true =>
          rw [Bool.true_or, Bool.true_or] at hF
          subst hF
          (refine wpD_seqk fun K hK => ?_; refine wpD_region tyOK ?_; ((repeat (rw [wpS_cons]; simp [hi, hi', hx, hEx])); (try simp only [wpS_nil, thenD, blockD])))
          refine cXp (hq) ?_
          ((try simp only [wpAft_ret, wpAft_pan, putS, updS, setS]); (repeat (rw [wpS_cons]; simp)); (try simp only [wpS_nil, thenD, blockD]))
          (refine hK _ _ _ ?_; clear hK K)
          refine wpD_part rfl (fun _ => ?_) (fun h => by simp at h)
          (refine wpD_seqk fun K hK => ?_; refine wpD_region tyOK ?_; ((repeat (rw [wpS_cons]; simp)); (try simp only [wpS_nil, thenD, blockD])); refine hK _ _ _ ?_; clear hK K)
          (refine wpD_ret ?_; (try simp only [thenD, blockD]); refine EndQ.ret rfl (.inl ?_); simp [tmOf, Out.fgt, D.fgt, D.fgts])
        | false =>
          rw [Bool.false_or] at hF
          (refine wpD_seqk fun K hK => ?_; refine wpD_region tyOK ?_; ((repeat (rw [wpS_cons]; simp [hi, hi', hx, hEx])); (try simp only [wpS_nil, thenD, blockD])))
          refine cXp (hq) ?_
          ((try simp only [wpAft_ret, wpAft_pan, putS, updS, setS]); (repeat (rw [wpS_cons]; simp)); (try simp only [wpS_nil, thenD, blockD]))
          (refine hK _ _ _ ?_; clear hK K)
          refine wpD_part rfl (fun h => by simp at h) (fun _ => ?_)
          refine wpD_skip (hK3 _ _ _ ?_)
          clear hK3 K3
          have hw1 : IntKind.i64.wrap ((i : Int) + 1) = (i : Int) + 1 := i64w (by omega) (by omega)
          (refine wpD_region tyOK ?_; ((repeat (rw [wpS_cons]; simp [hw1])); (try simp only [wpS_nil, thenD, blockD])))
          refine hA (n - 1) _ _ _ (LeT.refl _) (by omega) (by kernel_rfl) ?_
          exact ⟨i + 1, rfl, by omega, hF, rfl⟩
      · have h2' : ¬ (i : Int) < 2000 := by omega
        rw [List.drop_of_length_le (by rw [List.length_take]; omega)] at hF
        replace hF : R2 = R3 := hF
        replace hF := hF.symm
        subst hF
        (refine wpD_seqk fun K hK => ?_; refine wpD_region tyOK ?_; ((repeat (rw [wpS_cons]; simp [hi, hi', h2, h2'])); (try simp only [wpS_nil, thenD, blockD])); refine hK _ _ _ ?_; clear hK K)
        refine wpD_part rfl (fun h => by simp at h) (fun _ => ?_)
        refine wpD_exit ?_
        refine hK1 _ _ _ ?_
        clear hK1 K1 hK2 K2
        refine wpD_seqk fun K1 hK1 => ?_
        (refine wpD_seqk fun K hK => ?_; refine wpD_region tyOK ?_; ((repeat (rw [wpS_cons]; simp)); (try simp only [wpS_nil, thenD, blockD])); refine hK _ _ _ ?_; clear hK K)
        refine wpD_block ?_
        refine wpD_loopWJ [2, 34, 35, 36, 37, 38, 39, 40, 41, 42, 43, 44, 45, 46, 47, 48, 49, 50, 51, 52] [4] (fun n ys hl => ∃ (k : Nat), ys = [.int .i64 k] ∧ n + k = d.cs.length ∧ R3 = (((d.cs.take 2000).drop k).any (fun c => highB [c.2]) || decide (2000 < x5)) ∧ hl = [.cells 34 [.int .i64 d.kd, .int .i64 d.lv, .int .i64 d.ty.k, .int .i64 d.ty.n, .int .i64 d.ty.a, .slice (d.ty.ls.map encL) .any, .slice (d.ty.ks.map encT) .any, .int .i64 d.bo.k, .int .i64 d.bo.n, .int .i64 d.bo.a, .slice (d.bo.ls.map encL) .any, .slice (d.bo.ks.map encT) .any, .slice (d.ps.map encT) .any, .slice (d.so.map encP) .any, .slice (d.ms.map encMb) .any, .slice (d.cs.map encCt) .any]]) (d.cs.length) (by kernel_rfl) ?_ ?_
        · exact ⟨0, rfl, rfl, hR3, rfl⟩
        · rintro n ys hl A hA ⟨i, rfl, hn, hF, rfl⟩
          simp only [putAll, List.set, List.map_cons, List.map_nil, List.cons_append, List.nil_append]
          refine wpD_seqk fun K2 hK2 => ?_
          by_cases hi : i < d.cs.length
          · have hi' : (i : Int) < d.cs.length := by omega
            by_cases h2 : i < 2000
            · have h2' : (i : Int) < 2000 := by omega
              have hti : i < (d.cs.take 2000).length := by rw [List.length_take]; omega
              rw [List.drop_eq_getElem_cons hti, List.any_cons, List.getElem_take] at hF
              obtain ⟨x, hx⟩ : ∃ x, d.cs[i] = x := ⟨_, rfl⟩
              rw [hx] at hF
              (refine wpD_seqk fun K hK => ?_; refine wpD_region tyOK ?_; ((repeat (rw [wpS_cons]; simp [hi, hi', h2, h2'])); (try simp only [wpS_nil, thenD, blockD])); refine hK _ _ _ ?_; clear hK K)
              refine wpD_part rfl (fun _ => ?_) (fun h => by simp at h)
              refine wpD_skip (hK2 _ _ _ ?_)
              clear hK2 K2
              refine wpD_seqk fun K3 hK3 => ?_
              refine wpD_block ?_
              have hq := high_spec [x.2] (by simp [LMax]) (by intro t ht; rw [List.mem_singleton.1 ht]; exact (hcs x (by rw [← hx]; exact List.getElem_mem hi)).2)
              have hEx : encCt x = .agg [.int .i64 x.1, .int .i64 x.2.k, .int .i64 x.2.n, .int .i64 x.2.a, .slice (x.2.ls.map encL) .any, .slice (x.2.ks.map encT) .any] := rfl
              have hE3 := encT_eq x.2
              simp only [List.map_cons, List.map_nil, hE3] at hq
              generalize highB [x.2] = B at hq hF
              cases B with
              | true =>
                rw [Bool.true_or, Bool.true_or] at hF
                subst hF
                (refine wpD_seqk fun K hK => ?_; refine wpD_region tyOK ?_; ((repeat (rw [wpS_cons]; simp [hi, hi', hx, hEx])); (try simp only [wpS_nil, thenD, blockD])))
                refine cXp (hq) ?_
                ((try simp only [wpAft_ret, wpAft_pan, putS, updS, setS]); (repeat (rw [wpS_cons]; simp)); (try simp only [wpS_nil, thenD, blockD]))
                (refine hK _ _ _ ?_; clear hK K)
                refine wpD_part rfl (fun _ => ?_) (fun h => by simp at h)
                (refine wpD_seqk fun K hK => ?_; refine wpD_region tyOK ?_; ((repeat (rw [wpS_cons]; simp)); (try simp only [wpS_nil, thenD, blockD])); refine hK _ _ _ ?_; clear hK K)
                (refine wpD_ret ?_; (try simp only [thenD, blockD]); refine EndQ.ret rfl (.inl ?_); simp [tmOf, Out.fgt, D.fgt, D.fgts])
              | false =>
                rw [Bool.false_or] at hF
                (refine wpD_seqk fun K hK => ?_; refine wpD_region tyOK ?_; ((repeat (rw [wpS_cons]; simp [hi, hi', hx, hEx])); (try simp only [wpS_nil, thenD, blockD])))
                refine cXp (hq) ?_
                ((try simp only [wpAft_ret, wpAft_pan, putS, updS, setS]); (repeat (rw [wpS_cons]; simp)); (try simp only [wpS_nil, thenD, blockD]))
                (refine hK _ _ _ ?_; clear hK K)
                refine wpD_part rfl (fun h => by simp at h) (fun _ => ?_)
                refine wpD_skip (hK3 _ _ _ ?_)
                clear hK3 K3
                have hw1 : IntKind.i64.wrap ((i : Int) + 1) = (i : Int) + 1 := i64w (by omega) (by omega)
                (refine wpD_region tyOK ?_; ((repeat (rw [wpS_cons]; simp [hw1])); (try simp only [wpS_nil, thenD, blockD])))
                refine hA (n - 1) _ _ _ (LeT.refl _) (by omega) (by kernel_rfl) ?_
                exact ⟨i + 1, rfl, by omega, hF, rfl⟩
            · have h2' : ¬ (i : Int) < 2000 := by omega
              rw [List.drop_of_length_le (by rw [List.length_take]; omega)] at hF
              replace hF : R3 = decide (2000 < x5) := hF
              replace hF := hF.symm
              subst hF
              (refine wpD_seqk fun K hK => ?_; refine wpD_region tyOK ?_; ((repeat (rw [wpS_cons]; simp [hi, hi', h2, h2'])); (try simp only [wpS_nil, thenD, blockD])); refine hK _ _ _ ?_; clear hK K)
              refine wpD_part rfl (fun h => by simp at h) (fun _ => ?_)
              refine wpD_exit ?_
              refine hK1 _ _ _ ?_
              clear hK1 K1 hK2 K2
              by_cases h5 : 2000 < x5
              · (refine wpD_seqk fun K hK => ?_; refine wpD_region tyOK ?_; ((repeat (rw [wpS_cons]; simp)); (try simp only [wpS_nil, thenD, blockD])))
                refine cXp (h3) ?_
                ((try simp only [wpAft_ret, wpAft_pan, putS, updS, setS]); (repeat (rw [wpS_cons]; simp [h5])); (try simp only [wpS_nil, thenD, blockD]))
                (refine hK _ _ _ ?_; clear hK K)
                (refine wpD_ret ?_; (try simp only [thenD, blockD]); refine EndQ.ret rfl (.inl ?_); simp [tmOf, Out.fgt, D.fgt, D.fgts])
                first | (simp [h5]; done) | omega
              · (refine wpD_seqk fun K hK => ?_; refine wpD_region tyOK ?_; ((repeat (rw [wpS_cons]; simp)); (try simp only [wpS_nil, thenD, blockD])))
                refine cXp (h3) ?_
                ((try simp only [wpAft_ret, wpAft_pan, putS, updS, setS]); (repeat (rw [wpS_cons]; simp [h5])); (try simp only [wpS_nil, thenD, blockD]))
                (refine hK _ _ _ ?_; clear hK K)
                (refine wpD_ret ?_; (try simp only [thenD, blockD]); refine EndQ.ret rfl (.inl ?_); simp [tmOf, Out.fgt, D.fgt, D.fgts])
                first | (simp [h5]; done) | omega
          · have hi' : ¬ (i : Int) < d.cs.length := by omega
            rw [List.drop_of_length_le (by rw [List.length_take]; omega)] at hF
            replace hF : R3 = decide (2000 < x5) := hF
            replace hF := hF.symm
            subst hF
            (refine wpD_seqk fun K hK => ?_; refine wpD_region tyOK ?_; ((repeat (rw [wpS_cons]; simp [hi, hi'])); (try simp only [wpS_nil, thenD, blockD])); refine hK _ _ _ ?_; clear hK K)
            refine wpD_part rfl (fun h => by simp at h) (fun _ => ?_)
            refine wpD_exit ?_
            refine hK1 _ _ _ ?_
            clear hK1 K1 hK2 K2
            by_cases h5 : 2000 < x5
            · (refine wpD_seqk fun K hK => ?_; refine wpD_region tyOK ?_; ((repeat (rw [wpS_cons]; simp)); (try simp only [wpS_nil, thenD, blockD])))
              refine cXp (h3) ?_
              ((try simp only [wpAft_ret, wpAft_pan, putS, updS, setS]); (repeat (rw [wpS_cons]; simp [h5])); (try simp only [wpS_nil, thenD, blockD]))
              (refine hK _ _ _ ?_; clear hK K)
              (refine wpD_ret ?_; (try simp only [thenD, blockD]); refine EndQ.ret rfl (.inl ?_); simp [tmOf, Out.fgt, D.fgt, D.fgts])
              first | (simp [h5]; done) | omega
            · (refine wpD_seqk fun K hK => ?_; refine wpD_region tyOK ?_; ((repeat (rw [wpS_cons]; simp)); (try simp only [wpS_nil, thenD, blockD])))
              refine cXp (h3) ?_
              ((try simp only [wpAft_ret, wpAft_pan, putS, updS, setS]); (repeat (rw [wpS_cons]; simp [h5])); (try simp only [wpS_nil, thenD, blockD]))
              (refine hK _ _ _ ?_; clear hK K)
              (refine wpD_ret ?_; (try simp only [thenD, blockD]); refine EndQ.ret rfl (.inl ?_); simp [tmOf, Out.fgt, D.fgt, D.fgts])
              first | (simp [h5]; done) | omega
    · have hi' : ¬ (i : Int) < d.ms.length := by omega
      rw [List.drop_of_length_le (by rw [List.length_take]; omega)] at hF
      replace hF : R2 = R3 := hF
      replace hF := hF.symm
      subst hF
      (refine wpD_seqk fun K hK => ?_; refine wpD_region tyOK ?_; ((repeat (rw [wpS_cons]; simp [hi, hi'])); (try simp only [wpS_nil, thenD, blockD])); refine hK _ _ _ ?_; clear hK K)
      refine wpD_part rfl (fun h => by simp at h) (fun _ => ?_)
      refine wpD_exit ?_
      refine hK1 _ _ _ ?_
      clear hK1 K1 hK2 K2
      refine wpD_seqk fun K1 hK1 => ?_
      (refine wpD_seqk fun K hK => ?_; refine wpD_region tyOK ?_; ((repeat (rw [wpS_cons]; simp)); (try simp only [wpS_nil, thenD, blockD])); refine hK _ _ _ ?_; clear hK K)
      refine wpD_block ?_
      refine wpD_loopWJ [2, 34, 35, 36, 37, 38, 39, 40, 41, 42, 43, 44, 45, 46, 47, 48, 49, 50, 51, 52] [4] (fun n ys hl => ∃ (k : Nat), ys = [.int .i64 k] ∧ n + k = d.cs.length ∧ R3 = (((d.cs.take 2000).drop k).any (fun c => highB [c.2]) || decide (2000 < x5)) ∧ hl = [.cells 34 [.int .i64 d.kd, .int .i64 d.lv, .int .i64 d.ty.k, .int .i64 d.ty.n, .int .i64 d.ty.a, .slice (d.ty.ls.map encL) .any, .slice (d.ty.ks.map encT) .any, .int .i64 d.bo.k, .int .i64 d.bo.n, .int .i64 d.bo.a, .slice (d.bo.ls.map encL) .any, .slice (d.bo.ks.map encT) .any, .slice (d.ps.map encT) .any, .slice (d.so.map encP) .any, .slice (d.ms.map encMb) .any, .slice (d.cs.map encCt) .any]]) (d.cs.length) (by kernel_rfl) ?_ ?_
      · exact ⟨0, rfl, rfl, hR3, rfl⟩
      · rintro n ys hl A hA ⟨i, rfl, hn, hF, rfl⟩
        simp only [putAll, List.set, List.map_cons, List.map_nil, List.cons_append, List.nil_append]
        refine wpD_seqk fun K2 hK2 => ?_
        by_cases hi : i < d.cs.length
        · have hi' : (i : Int) < d.cs.length := by omega
          by_cases h2 : i < 2000
          · have h2' : (i : Int) < 2000 := by omega
            have hti : i < (d.cs.take 2000).length := by rw [List.length_take]; omega
            rw [List.drop_eq_getElem_cons hti, List.any_cons, List.getElem_take] at hF
            obtain ⟨x, hx⟩ : ∃ x, d.cs[i] = x := ⟨_, rfl⟩
            rw [hx] at hF
            (refine wpD_seqk fun K hK => ?_; refine wpD_region tyOK ?_; ((repeat (rw [wpS_cons]; simp [hi, hi', h2, h2'])); (try simp only [wpS_nil, thenD, blockD])); refine hK _ _ _ ?_; clear hK K)
            refine wpD_part rfl (fun _ => ?_) (fun h => by simp at h)
            refine wpD_skip (hK2 _ _ _ ?_)
            clear hK2 K2
            refine wpD_seqk fun K3 hK3 => ?_
            refine wpD_block ?_
            have hq := high_spec [x.2] (by simp [LMax]) (by intro t ht; rw [List.mem_singleton.1 ht]; exact (hcs x (by rw [← hx]; exact List.getElem_mem hi)).2)
            have hEx : encCt x = .agg [.int .i64 x.1, .int .i64 x.2.k, .int .i64 x.2.n, .int .i64 x.2.a, .slice (x.2.ls.map encL) .any, .slice (x.2.ks.map encT) .any] := rfl
            have hE3 := encT_eq x.2
            simp only [List.map_cons, List.map_nil, hE3] at hq
            generalize highB [x.2] = B at hq hF
            cases B with
            | true =>
              rw [Bool.true_or, Bool.true_or] at hF
              subst hF
              (refine wpD_seqk fun K hK => ?_; refine wpD_region tyOK ?_; ((repeat (rw [wpS_cons]; simp [hi, hi', hx, hEx])); (try simp only [wpS_nil, thenD, blockD])))
              refine cXp (hq) ?_
              ((try simp only [wpAft_ret, wpAft_pan, putS, updS, setS]); (repeat (rw [wpS_cons]; simp)); (try simp only [wpS_nil, thenD, blockD]))
              (refine hK _ _ _ ?_; clear hK K)
              refine wpD_part rfl (fun _ => ?_) (fun h => by simp at h)
              (refine wpD_seqk fun K hK => ?_; refine wpD_region tyOK ?_; ((repeat (rw [wpS_cons]; simp)); (try simp only [wpS_nil, thenD, blockD])); refine hK _ _ _ ?_; clear hK K)
              (refine wpD_ret ?_; (try simp only [thenD, blockD]); refine EndQ.ret rfl (.inl ?_); simp [tmOf, Out.fgt, D.fgt, D.fgts])
            | false =>
              rw [Bool.false_or] at hF
              (refine wpD_seqk fun K hK => ?_; refine wpD_region tyOK ?_; ((repeat (rw [wpS_cons]; simp [hi, hi', hx, hEx])); (try simp only [wpS_nil, thenD, blockD])))
              refine cXp (hq) ?_
              ((try simp only [wpAft_ret, wpAft_pan, putS, updS, setS]); (repeat (rw [wpS_cons]; simp)); (try simp only [wpS_nil, thenD, blockD]))
              (refine hK _ _ _ ?_; clear hK K)
              refine wpD_part rfl (fun h => by simp at h) (fun _ => ?_)
              refine wpD_skip (hK3 _ _ _ ?_)
              clear hK3 K3
              have hw1 : IntKind.i64.wrap ((i : Int) + 1) = (i : Int) + 1 := i64w (by omega) (by omega)
              (refine wpD_region tyOK ?_; ((repeat (rw [wpS_cons]; simp [hw1])); (try simp only [wpS_nil, thenD, blockD])))
              refine hA (n - 1) _ _ _ (LeT.refl _) (by omega) (by kernel_rfl) ?_
              exact ⟨i + 1, rfl, by omega, hF, rfl⟩
          · have h2' : ¬ (i : Int) < 2000 := by omega
            rw [List.drop_of_length_le (by rw [List.length_take]; omega)] at hF
            replace hF : R3 = decide (2000 < x5) := hF
            replace hF := hF.symm
            subst hF
            (refine wpD_seqk fun K hK => ?_; refine wpD_region tyOK ?_; ((repeat (rw [wpS_cons]; simp [hi, hi', h2, h2'])); (try simp only [wpS_nil, thenD, blockD])); refine hK _ _ _ ?_; clear hK K)
            refine wpD_part rfl (fun h => by simp at h) (fun _ => ?_)
            refine wpD_exit ?_
            refine hK1 _ _ _ ?_
            clear hK1 K1 hK2 K2
            by_cases h5 : 2000 < x5
            · (refine wpD_seqk fun K hK => ?_; refine wpD_region tyOK ?_; ((repeat (rw [wpS_cons]; simp)); (try simp only [wpS_nil, thenD, blockD])))
              refine cXp (h3) ?_
              ((try simp only [wpAft_ret, wpAft_pan, putS, updS, setS]); (repeat (rw [wpS_cons]; simp [h5])); (try simp only [wpS_nil, thenD, blockD]))
              (refine hK _ _ _ ?_; clear hK K)
              (refine wpD_ret ?_; (try simp only [thenD, blockD]); refine EndQ.ret rfl (.inl ?_); simp [tmOf, Out.fgt, D.fgt, D.fgts])
              first | (simp [h5]; done) | omega
            · (refine wpD_seqk fun K hK => ?_; refine wpD_region tyOK ?_; ((repeat (rw [wpS_cons]; simp)); (try simp only [wpS_nil, thenD, blockD])))
              refine cXp (h3) ?_
              ((try simp only [wpAft_ret, wpAft_pan, putS, updS, setS]); (repeat (rw [wpS_cons]; simp [h5])); (try simp only [wpS_nil, thenD, blockD]))
              (refine hK _ _ _ ?_; clear hK K)
              (refine wpD_ret ?_; (try simp only [thenD, blockD]); refine EndQ.ret rfl (.inl ?_); simp [tmOf, Out.fgt, D.fgt, D.fgts])
              first | (simp [h5]; done) | omega
        · have hi' : ¬ (i : Int) < d.cs.length := by omega
          rw [List.drop_of_length_le (by rw [List.length_take]; omega)] at hF
          replace hF : R3 = decide (2000 < x5) := hF
          replace hF := hF.symm
          subst hF
          (refine wpD_seqk fun K hK => ?_; refine wpD_region tyOK ?_; ((repeat (rw [wpS_cons]; simp [hi, hi'])); (try simp only [wpS_nil, thenD, blockD])); refine hK _ _ _ ?_; clear hK K)
          refine wpD_part rfl (fun h => by simp at h) (fun _ => ?_)
          refine wpD_exit ?_
          refine hK1 _ _ _ ?_
          clear hK1 K1 hK2 K2
          by_cases h5 : 2000 < x5
          · (refine wpD_seqk fun K hK => ?_; refine wpD_region tyOK ?_; ((repeat (rw [wpS_cons]; simp)); (try simp only [wpS_nil, thenD, blockD])))
            refine cXp (h3) ?_
            ((try simp only [wpAft_ret, wpAft_pan, putS, updS, setS]); (repeat (rw [wpS_cons]; simp [h5])); (try simp only [wpS_nil, thenD, blockD]))
            (refine hK _ _ _ ?_; clear hK K)
            (refine wpD_ret ?_; (try simp only [thenD, blockD]); refine EndQ.ret rfl (.inl ?_); simp [tmOf, Out.fgt, D.fgt, D.fgts])
            first | (simp [h5]; done) | omega
          · (refine wpD_seqk fun K hK => ?_; refine wpD_region tyOK ?_; ((repeat (rw [wpS_cons]; simp)); (try simp only [wpS_nil, thenD, blockD])))
            refine cXp (h3) ?_
            ((try simp only [wpAft_ret, wpAft_pan, putS, updS, setS]); (repeat (rw [wpS_cons]; simp [h5])); (try simp only [wpS_nil, thenD, blockD]))
            (refine hK _ _ _ ?_; clear hK K)
            (refine wpD_ret ?_; (try simp only [thenD, blockD]); refine EndQ.ret rfl (.inl ?_); simp [tmOf, Out.fgt, D.fgt, D.fgts])
            first | (simp [h5]; done) | omega
theorem number3_spec (n : Int) : Spec Tryd.prog glob 22 [.int .i64 n] [] (fun o _ => o.fgt = .ret (.agg [.int .i64 1, .int .i64 n, .int .i64 0, .slice [] .any, .slice [] .any])) := by
  refine Spec.movd globPure (wpD_spec tyOK Tryd.func22 rfl (enters _ _ Tryd.func22 rfl (by decide)) rfl rfl ?_)
  (refine wpD_seqk fun K hK => ?_; refine wpD_region tyOK ?_; ((repeat (rw [wpS_cons]; simp)); (try simp only [wpS_nil, thenD, blockD])); refine hK _ _ _ ?_; clear hK K)
  (refine wpD_seqk fun K hK => ?_; refine wpD_region tyOK ?_; ((repeat (rw [wpS_cons]; simp)); (try simp only [wpS_nil, thenD, blockD])); refine hK _ _ _ ?_; clear hK K)
  (refine wpD_ret ?_; (try simp only [thenD, blockD]); refine EndQ.ret rfl (.inl ?_); simp [tmOf, Out.fgt, D.fgt, D.fgts])
def tm200 : T := .mk 1 200 0 [] []
def tmS1 : T := .mk 2 0 0 [[(0, 1)]] []
theorem tm200_ok : okT tm200 := .mk (by unfold I64; omega) (by unfold I64; omega) (by unfold I64; omega) (by simp) (fun _ h => nomatch h) (by simp) (fun _ h => nomatch h)
theorem tmS1_ok : okT tmS1 := .mk (by unfold I64; omega) (by unfold I64; omega) (by unfold I64; omega) (by simp [LMax]) (fun l h => by rw [List.mem_singleton.1 h]; exact ⟨by simp [LMax], fun p hp => by rw [List.mem_singleton.1 hp]; unfold I64; dsimp only; omega⟩) (by simp) (fun _ h => nomatch h)
theorem tm200_right : tm200.right = true := by kernel_rfl
theorem tmS1_right : tmS1.right = true := by kernel_rfl
theorem tm200_B : termB tm200 = [1, 200, 1] := by
  unfold tm200
  rw [termB, termsB]
  simp [hNum, hAt, hMany]
  rw [numB_small (by omega), numB_big (by omega), numB_small (by omega)]
  rfl
theorem tmS1_B : termB tmS1 = [2, 1, 0, 1] := by
  unfold tmS1
  rw [termB, termsB]
  simp [hNum, hAt, hMany, levB, partB]
  rw [numB_small (by omega), numB_small (by omega), numB_small (by omega)]
  rfl
theorem awake3_spec : Spec Tryd.prog glob 5 [] [] (fun o _ => o.fgt = .ret (.bool true)) := by
  have n1 := number3_spec 200
  have p1 := putTerm_ok tm200 tm200_ok tm200_right
  have p2 := putTerm_ok tmS1 tmS1_ok tmS1_right
  have b1 := kBy_spec [1, 200, 1] (by simp [LMax]) .any .any (.inl rfl) (.inl rfl)
  have b2 := kBy_spec [2, 1, 0, 1] (by simp [LMax]) .any .any (.inl rfl) (.inl rfl)
  rw [tm200_B, show encT tm200 = .agg [.int .i64 1, .int .i64 200, .int .i64 0, .slice [] .any, .slice [] .any] from rfl, show byD [1, 200, 1] = [.int .u8 1, .int .u8 200, .int .u8 1] from rfl] at p1
  rw [tmS1_B, show encT tmS1 = .agg [.int .i64 2, .int .i64 0, .int .i64 0, .slice [.agg [.slice [.agg [.int .i64 0, .int .i64 1]] .any]] .any, .slice [] .any] from rfl, show byD [2, 1, 0, 1] = [.int .u8 2, .int .u8 1, .int .u8 0, .int .u8 1] from rfl] at p2
  rw [show byD [1, 200, 1] = [.int .u8 1, .int .u8 200, .int .u8 1] from rfl] at b1
  rw [show byD [2, 1, 0, 1] = [.int .u8 2, .int .u8 1, .int .u8 0, .int .u8 1] from rfl] at b2
  refine Spec.movd globPure (wpD_spec tyOK Tryd.func5 rfl (enters _ _ Tryd.func5 rfl (by decide)) rfl rfl ?_)
  (refine wpD_seqk fun K hK => ?_; refine wpD_region tyOK ?_; ((repeat (rw [wpS_cons]; simp)); (try simp only [wpS_nil, thenD, blockD])); refine hK _ _ _ ?_; clear hK K)
  (refine wpD_seqk fun K hK => ?_; refine wpD_region tyOK ?_; ((repeat (rw [wpS_cons]; simp)); (try simp only [wpS_nil, thenD, blockD])))
  refine cXp (n1) ?_
  ((try simp only [wpAft_ret, wpAft_pan, putS, updS, setS]); (repeat (rw [wpS_cons]; simp)); (try simp only [wpS_nil, thenD, blockD]))
  refine cXp (p1) ?_
  ((try simp only [wpAft_ret, wpAft_pan, putS, updS, setS]); (repeat (rw [wpS_cons]; simp)); (try simp only [wpS_nil, thenD, blockD]))
  (refine hK _ _ _ ?_; clear hK K)
  (refine wpD_seqk fun K hK => ?_; refine wpD_region tyOK ?_; ((repeat (rw [wpS_cons]; simp)); (try simp only [wpS_nil, thenD, blockD])))
  refine CallX.pureD globPure (p2) ?_ (by simp [D.deeps, D.deep, D.fgts, D.fgt]) (by simp [D.pures, D.pure, Cp.free, D.pures_map]) (by simp [Out.pure, D.pure, D.pures, Cp.free, D.pures_map])
  ((try simp only [wpAft_ret, wpAft_pan, putS, updS, setS]); (repeat (rw [wpS_cons]; simp)); (try simp only [wpS_nil, thenD, blockD]))
  (refine hK _ _ _ ?_; clear hK K)
  (refine wpD_seqk fun K hK => ?_; refine wpD_region tyOK ?_; ((repeat (rw [wpS_cons]; simp)); (try simp only [wpS_nil, thenD, blockD])))
  refine cXp (b1) ?_
  ((try simp only [wpAft_ret, wpAft_pan, putS, updS, setS]); (repeat (rw [wpS_cons]; simp)); (try simp only [wpS_nil, thenD, blockD]))
  refine cXp (b2) ?_
  ((try simp only [wpAft_ret, wpAft_pan, putS, updS, setS]); (repeat (rw [wpS_cons]; simp)); (try simp only [wpS_nil, thenD, blockD]))
  (refine hK _ _ _ ?_; clear hK K)
  (refine wpD_ret ?_; (try simp only [thenD, blockD]); refine EndQ.ret rfl (.inl ?_); simp [tmOf, Out.fgt, D.fgt, D.fgts])
end Go.Proofs.YtgloldepdhgfaaaDoor
namespace Go.Proofs.YtgloldepdhgfaaaDoor
set_option linter.unusedSimpArgs false
set_option linter.unusedVariables false
set_option linter.unusedSimpArgs false
set_option linter.unusedVariables false
set_option maxHeartbeats 10000000
set_option maxRecDepth 20000
open Go.RowKit
attribute [local simp] wpAft_ret wpAft_pan wantD evOp opD tmOf putS updS setS hOf isFree isTok fillD TK.isAgg TK.known partD thenD blockD putAll D.ofV inB nilTest isNilS binX binD binE isCst bndD capB IntKind.min IntKind.max IntKind.signed IntKind.bits dstOf late
theorem byD_takeR (n : Nat) (b : List Int) : (byD b).take n = byD (b.take n) := by unfold byD; rw [List.map_take]
theorem declB_okR (d : De) : bytesOk (declB d) := by
  have hlev : ∀ l : LV, bytesOk (levB l) := fun l => (numB_ok _).app (bytesOk.flat fun p _ => (numB_ok _).app (numB_ok _))
  have hrow : ∀ l : List T, bytesOk (rowB l) := fun l => (numB_ok _).app (bytesOk.flat fun t _ => termB_ok t)
  unfold declB
  refine (numB_ok _).app ((numB_ok _).app ?_)
  split
  · exact termB_ok _
  split
  · exact (termB_ok _).app (termB_ok _)
  · exact (hrow _).app ((hlev _).app ((numB_ok _).app ((bytesOk.flat fun r _ => hrow r).app ((numB_ok _).app (bytesOk.flat fun c _ => (numB_ok _).app (termB_ok _))))))
theorem getAll1L_spec (s : List Int) (hs : bytesOk s) (hl : s.length ≤ 100000000000) : Spec Tryd.prog glob 50 [.ref (.slice (byD s) .any)] [] (AlP (allR 200 s)) := by
  obtain ⟨R, hR⟩ : ∃ R, R = allR 200 s := ⟨_, rfl⟩
  rw [← hR]
  have c0 := read_spec s
  unfold RO at c0
  refine Spec.movd globPure (wpD_spec tyOK Tryd.func50 rfl (enters _ _ Tryd.func50 rfl (by decide)) rfl rfl ?_)
  (refine wpD_seqk fun K hK => ?_; refine wpD_region tyOK ?_; ((repeat (rw [wpS_cons]; simp)); (try simp only [wpS_nil, thenD, blockD])); refine hK _ _ _ ?_; clear hK K)
  refine wpD_tokT 1 ?_
  simp [D.tokd]
  refine wpD_seqk fun K1 hK1 => ?_
  (refine wpD_seqk fun K hK => ?_; refine wpD_region tyOK ?_; ((repeat (rw [wpS_cons]; simp)); (try simp only [wpS_nil, thenD, blockD])))
  refine cXo [] false (c0) ?_
  (rintro o hc ⟨rfl, rfl⟩; refine ⟨false, ?_⟩; simp [D.ren, D.rens, D.okN, D.okNs, Cp.ren, Cp.okN, HO.ren, HO.okN, okA, renA, renO, hOf, handed, D.fgt, D.fgts, List.range_succ, List.idxOf_cons, Out.ren, told, Out.fgt, upO, updS, setS])
  ((try simp only [wpAft_ret, wpAft_pan, putS, updS, setS]); (repeat (rw [wpS_cons]; simp)); (try simp only [wpS_nil, thenD, blockD]))
  (refine hK _ _ _ ?_; clear hK K)
  refine wpD_block ?_
  refine wpD_loopMJ globPure [5, 6, 7, 8, 9, 10, 11, 12, 13, 14, 15, 16, 17, 18, 19, 20, 21] [1] (fun n ys hl => ∃ (acc : List De) (nd : Int) (s' : List Int), ys = [.slice (acc.map encDe) (.tok 0)] ∧ n = s'.length ∧ bytesOk s' ∧ s'.length ≤ 100000000000 ∧ acc.length ≤ 200 ∧ R = appA acc (allR (200 - acc.length) s') ∧ hl = [.tok, .cells 98 [.slice (byD s') .any, .int .i64 (s.length : Int), kmD, .int .i64 nd]]) (s.length) (by kernel_rfl) ?_ ?_
  · exact ⟨[], 0, s, rfl, rfl, hs, hl, by simp, by rw [hR]; simp only [List.length_nil, Nat.sub_zero]; cases allR 200 s <;> rfl, rfl⟩
  · rintro n ys hl2 A hA hA2 ⟨acc, nd, s', rfl, hn, hs', hl', hac, hF, rfl⟩
    simp only [putAll, List.set, List.map_cons, List.map_nil, List.cons_append, List.nil_append]
    refine wpD_seqk fun K2 hK2 => ?_
    cases s' with
    | nil =>
      rw [allR_nil] at hF
      replace hF : R = some acc := by rw [hF]; simp [appA]
      subst hF
      rw [show byD [] = [] from rfl]
      (refine wpD_seqk fun K hK => ?_; refine wpD_region tyOK ?_; ((repeat (rw [wpS_cons]; simp)); (try simp only [wpS_nil, thenD, blockD])); refine hK _ _ _ ?_; clear hK K)
      refine wpD_part rfl (fun h => by simp at h) (fun _ => ?_)
      refine wpD_exit ?_
      refine hK1 _ _ _ ?_
      refine wpD_fgtT 1 ?_
      simp [D.fgt]
      (refine wpD_seqk fun K hK => ?_; refine wpD_region tyOK ?_; ((repeat (rw [wpS_cons]; simp)); (try simp only [wpS_nil, thenD, blockD])); refine hK _ _ _ ?_; clear hK K)
      (refine wpD_ret ?_; (try simp only [thenD, blockD]); refine EndQ.ret rfl (.inl ?_); simp [tmOf, Out.fgt, D.fgt, D.fgts])
      unfold AlP
      simp [Out.fgt, D.fgt]
    | cons c r =>
      have hp : (0 : Int) < (r.length : Int) + 1 := by omega
      have hb : byD (c :: r) = .int .u8 c :: byD r := rfl
      (refine wpD_seqk fun K hK => ?_; refine wpD_region tyOK ?_; ((repeat (rw [wpS_cons]; simp [hb, hp])); (try simp only [wpS_nil, thenD, blockD])); refine hK _ _ _ ?_; clear hK K)
      refine wpD_part rfl (fun _ => ?_) (fun h => by simp at h)
      refine wpD_skip (hK2 _ _ _ ?_)
      clear hK2 K2
      refine wpD_block ?_
      by_cases h200 : acc.length < 200
      · have h200' : (acc.length : Int) < 200 := by omega
        have hel : acc.length + 1 ≤ LMax := by unfold LMax; omega
        (refine wpD_seqk fun K hK => ?_; refine wpD_region tyOK ?_; ((repeat (rw [wpS_cons]; simp [h200, h200'])); (try simp only [wpS_nil, thenD, blockD])))
        refine CallX.pure globPure (pmust_ok [true] rfl) ?_ (by simp [D.fgts, D.fgt, Bools]) (by simp [D.pures, D.pure, Cp.free, D.pures_map, Bools]) (by simp [Out.pure, D.pure, D.pures, Cp.free, D.pures_map, Bools])
        ((try simp only [wpAft_ret, wpAft_pan, putS, updS, setS]); (repeat (rw [wpS_cons]; simp)); (try simp only [wpS_nil, thenD, blockD]))
        (refine hK _ _ _ ?_; clear hK K)
        have c1 := rdecl_spec (c :: r) hs' s.length nd
        unfold RO at c1
        rw [hb] at c1
        rw [show 200 - acc.length = (200 - (acc.length + 1)) + 1 by omega, allR_u _ nd _ (by simp)] at hF
        cases h : declN (nd, c :: r) with
        | none =>
          rw [h] at hF c1
          replace hF : R = none := hF
          subst hF
          unfold RdP at c1
          (refine wpD_region tyOK ?_; ((repeat (rw [wpS_cons]; simp)); (try simp only [wpS_nil, thenD, blockD])))
          refine cXo [1] true (c1) ?_
          (rintro o hc ⟨rfl, rfl⟩; refine ⟨false, ?_⟩; simp [D.ren, D.rens, D.okN, D.okNs, Cp.ren, Cp.okN, HO.ren, HO.okN, okA, renA, renO, hOf, handed, D.fgt, D.fgts, List.range_succ, List.idxOf_cons, Out.ren, told, Out.fgt, upO, updS, setS])
          (try simp only [thenD, blockD])
          refine EndQ.pan (.inl ?_)
          exact rfl
        | some p =>
          obtain ⟨d, nd2, r2⟩ := p
          obtain ⟨-, e2⟩ := declN_got hs' h
          have hr2 := bytes_left hs' e2
          have hlen := congrArg List.length e2
          rw [List.length_append] at hlen
          have hdp := declB_pos d
          rw [h] at hF c1
          dsimp only at hF
          rw [appA_app] at hF
          unfold RdP at c1
          dsimp only at c1
          have hE := encDe_eq d
          rw [RO, hE] at c1
          (refine wpD_region tyOK ?_; ((repeat (rw [wpS_cons]; simp)); (try simp only [wpS_nil, thenD, blockD])))
          refine cXo [1] true (c1) ?_
          (rintro o hc ⟨ho, rfl⟩; refine ⟨true, ?_⟩; rw [show told true o = _ from ho]; clear ho; simp [D.ren, D.rens, D.okN, D.okNs, Cp.ren, Cp.okN, HO.ren, HO.okN, okA, renA, renO, hOf, handed, D.fgt, D.fgts, List.range_succ, List.idxOf_cons, Out.ren, told, Out.fgt, upO, updS, setS, hel])
          ((try simp only [wpAft_ret, wpAft_pan, putS, updS, setS]); (repeat (rw [wpS_cons]; simp [hel])); (try simp only [wpS_nil, thenD, blockD]))
          (refine hA2 ([2, 1]) (r2.length) _ _ _ (LeT.refl _) (by decide) (by simp) (by omega) (by simp [movT, movH, movD, D.mov, HO.mov, okM, renM, getW, D.ren, D.rens, D.okN, D.okNs, Cp.ren, Cp.okN, HO.ren, HO.okN, okA, renA, renO, hOf, handed, D.fgt, D.fgts, List.range_succ, List.idxOf_cons, putAll]) ?_; simp [movT, movH, movD, D.mov, HO.mov, okM, renM, getW, D.ren, D.rens, D.okN, D.okNs, Cp.ren, Cp.okN, HO.ren, HO.okN, okA, renA, renO, hOf, handed, D.fgt, D.fgts, List.range_succ, List.idxOf_cons])
          refine ⟨acc ++ [d], ?_, nd2, r2, rfl, hr2, by omega, by simp; omega, ?_, rfl, rfl⟩
          · rw [show List.map encDe acc ++ [D.agg [.int .i64 d.kd, .int .i64 d.lv, .int .i64 d.ty.k, .int .i64 d.ty.n, .int .i64 d.ty.a, .slice (d.ty.ls.map encL) .any, .slice (d.ty.ks.map encT) .any, .int .i64 d.bo.k, .int .i64 d.bo.n, .int .i64 d.bo.a, .slice (d.bo.ls.map encL) .any, .slice (d.bo.ks.map encT) .any, .slice (d.ps.map encT) .any, .slice (d.so.map encP) .any, .slice (d.ms.map encMb) .any, .slice (d.cs.map encCt) .any]] = (acc ++ [d]).map encDe by rw [← hE]; simp]
            exact encDe_rens _ _
          · rw [List.length_append]
            exact hF
      · have h200' : ¬ (acc.length : Int) < 200 := by omega
        rw [show 200 - acc.length = 0 by omega] at hF
        replace hF : R = none := hF
        subst hF
        (refine wpD_seqk fun K hK => ?_; refine wpD_region tyOK ?_; ((repeat (rw [wpS_cons]; simp [h200, h200'])); (try simp only [wpS_nil, thenD, blockD])))
        refine CallX.pure globPure (pmust_no [false] rfl) ?_ (by simp [D.fgts, D.fgt, Bools, pnoneD]) (by simp [D.pures, D.pure, Cp.free, D.pures_map, Bools, pnoneD]) (by simp [Out.pure, D.pure, D.pures, Cp.free, D.pures_map, Bools, pnoneD])
        ((try simp only [wpAft_ret, wpAft_pan, putS, updS, setS]); (repeat (rw [wpS_cons]; simp)); (try simp only [wpS_nil, thenD, blockD]))
        (try simp only [thenD, blockD])
        refine EndQ.pan (.inl ?_)
        exact rfl
theorem getAllL_spec (s : List Int) (hs : bytesOk s) (hl : s.length ≤ 100000000000) : Spec Tryd.prog glob 19 [.slice (byD s) .any] [] (fun o _ => o.fgt = .ret (allD (allR 200 s))) := by
  have c := getAll1L_spec s hs hl
  have h2 : Spec Tryd.prog glob 49 [.fn (.func 50) [] [.ref (.slice (byD s) .any)]] [] (fun o _ => o.fgt = .ret (allD (allR 200 s))) := by
    cases h : allR 200 s with
    | none =>
      rw [h] at c
      unfold AlP at c
      unfold allD
      refine Spec.movd globPure (wpD_specD tyOK Tryd.func49 rfl (enters _ _ Tryd.func49 rfl (by decide)) rfl rfl ?_)
      (refine wpD_seqk fun K hK => ?_; refine wpD_region tyOK ?_; ((repeat (rw [wpS_cons]; simp)); (try simp only [wpS_nil, thenD, blockD])); refine hK _ _ _ ?_; clear hK K)
      (refine wpD_seqk fun K hK => ?_; refine wpD_region tyOK ?_; ((repeat (rw [wpS_cons]; simp)); (try simp only [wpS_nil, thenD, blockD])); refine hK _ _ _ ?_; clear hK K)
      (refine wpD_seqk fun K hK => ?_; refine wpD_region tyOK ?_; ((repeat (rw [wpS_cons]; simp)); (try simp only [wpS_nil, thenD, blockD])))
      refine CallX.pure globPure (c) ?_ (by simp [D.fgts, D.fgt, pnoneD]) (by simp [D.pures, D.pure, Cp.free, D.pures_map, pnoneD]) (by simp [Out.pure, D.pure, D.pures, Cp.free, D.pures_map, pnoneD])
      ((try simp only [wpAft_ret, wpAft_pan, putS, updS, setS]); (repeat (rw [wpS_cons]; simp)); (try simp only [wpS_nil, thenD, blockD]))
      (try simp only [thenD, blockD])
      refine DefX.objs globPure [0, 1] (cN_ds) ?_ ?_ (fun d h => by cases h <;> rfl) (by decide) (by simp) (by simp [D.ren, D.rens, D.okN, D.okNs, Cp.ren, Cp.okN, HO.ren, HO.okN, okA, renA, renO, hOf, handed, D.fgt, D.fgts, List.range_succ, List.idxOf_cons]) (by simp [D.ren, D.rens, D.okN, D.okNs, Cp.ren, Cp.okN, HO.ren, HO.okN, okA, renA, renO, hOf, handed, D.fgt, D.fgts, List.range_succ, List.idxOf_cons]) (by simp [D.ren, D.rens, D.okN, D.okNs, Cp.ren, Cp.okN, HO.ren, HO.okN, okA, renA, renO, hOf, handed, D.fgt, D.fgts, List.range_succ, List.idxOf_cons]) (by simp [D.ren, D.rens, D.okN, D.okNs, Cp.ren, Cp.okN, HO.ren, HO.okN, okA, renA, renO, hOf, handed, D.fgt, D.fgts, List.range_succ, List.idxOf_cons])
      · rintro hc rfl
        simp [D.ren, D.rens, D.okN, D.okNs, Cp.ren, Cp.okN, HO.ren, HO.okN, okA, renA, renO, hOf, handed, D.fgt, D.fgts, List.range_succ, List.idxOf_cons, upO, updS, setS]
        refine endD.intro rfl (.inr ⟨[], by decide, by simp, ?_⟩)
        simp [Out.mov, movT, movH, movD, D.mov, HO.mov, okM, renM, getW, D.ren, D.rens, D.okN, D.okNs, Cp.ren, Cp.okN, HO.ren, HO.okN, okA, renA, renO, hOf, handed, D.fgt, D.fgts, List.range_succ, List.idxOf_cons]
        try simp [Out.fgt, D.fgt, D.fgts]
      · rintro hc rfl
        simp
    | some l =>
      rw [h] at c
      unfold AlP at c
      unfold allD
      dsimp only at c ⊢
      refine Spec.movd globPure (wpD_specD tyOK Tryd.func49 rfl (enters _ _ Tryd.func49 rfl (by decide)) rfl rfl ?_)
      (refine wpD_seqk fun K hK => ?_; refine wpD_region tyOK ?_; ((repeat (rw [wpS_cons]; simp)); (try simp only [wpS_nil, thenD, blockD])); refine hK _ _ _ ?_; clear hK K)
      (refine wpD_seqk fun K hK => ?_; refine wpD_region tyOK ?_; ((repeat (rw [wpS_cons]; simp)); (try simp only [wpS_nil, thenD, blockD])); refine hK _ _ _ ?_; clear hK K)
      (refine wpD_seqk fun K hK => ?_; refine wpD_region tyOK ?_; ((repeat (rw [wpS_cons]; simp)); (try simp only [wpS_nil, thenD, blockD])))
      refine cXp (c) ?_
      ((try simp only [wpAft_ret, wpAft_pan, putS, updS, setS]); (repeat (rw [wpS_cons]; simp)); (try simp only [wpS_nil, thenD, blockD]))
      (refine hK _ _ _ ?_; clear hK K)
      refine wpD_ret ?_
      refine DefX.objs globPure [0, 1] (cI_ds (l.map encDe) .any true) ?_ ?_ (fun d h => by cases h) (by decide) (by simp) (by simp [D.ren, D.rens, D.okN, D.okNs, Cp.ren, Cp.okN, HO.ren, HO.okN, okA, renA, renO, hOf, handed, D.fgt, D.fgts, List.range_succ, List.idxOf_cons]) (by simp [D.ren, D.rens, D.okN, D.okNs, Cp.ren, Cp.okN, HO.ren, HO.okN, okA, renA, renO, hOf, handed, D.fgt, D.fgts, List.range_succ, List.idxOf_cons]) (by simp [D.ren, D.rens, D.okN, D.okNs, Cp.ren, Cp.okN, HO.ren, HO.okN, okA, renA, renO, hOf, handed, D.fgt, D.fgts, List.range_succ, List.idxOf_cons]) (by simp [D.ren, D.rens, D.okN, D.okNs, Cp.ren, Cp.okN, HO.ren, HO.okN, okA, renA, renO, hOf, handed, D.fgt, D.fgts, List.range_succ, List.idxOf_cons])
      · rintro hc rfl
        simp [D.ren, D.rens, D.okN, D.okNs, Cp.ren, Cp.okN, HO.ren, HO.okN, okA, renA, renO, hOf, handed, D.fgt, D.fgts, List.range_succ, List.idxOf_cons, upO, updS, setS]
        refine endD.intro rfl (.inr ⟨[], by decide, by simp, ?_⟩)
        simp [Out.mov, movT, movH, movD, D.mov, HO.mov, okM, renM, getW, D.ren, D.rens, D.okN, D.okNs, Cp.ren, Cp.okN, HO.ren, HO.okN, okA, renA, renO, hOf, handed, D.fgt, D.fgts, List.range_succ, List.idxOf_cons]
        try simp [Out.fgt, D.fgt, D.fgts]
      · rintro hc rfl
        simp
  cases h : allR 200 s with
  | none =>
    rw [h] at h2
    unfold allD at h2 ⊢
    refine Spec.movd globPure (wpD_spec tyOK Tryd.func19 rfl (enters _ _ Tryd.func19 rfl (by decide)) rfl rfl ?_)
    (refine wpD_seqk fun K hK => ?_; refine wpD_region tyOK ?_; ((repeat (rw [wpS_cons]; simp)); (try simp only [wpS_nil, thenD, blockD])); refine hK _ _ _ ?_; clear hK K)
    refine wpD_stay (T := tyOf) 0 (ty := 35) (ds := [.slice (byD s) .any]) rfl rfl (by first | exact ⟨rfl, .inr ⟨_, rfl, rfl⟩⟩ | exact ⟨rfl, .inl rfl⟩) ?_
    simp [D.frzs, D.frz, HO.frz, dfFrz, refOf, TK.isAgg, FK.isB, FK.isM, FK.isO, D.isLen]
    (refine wpD_seqk fun K hK => ?_; refine wpD_region tyOK ?_; ((repeat (rw [wpS_cons]; simp)); (try simp only [wpS_nil, thenD, blockD])))
    refine cXp (h2) ?_
    ((try simp only [wpAft_ret, wpAft_pan, putS, updS, setS]); (repeat (rw [wpS_cons]; simp)); (try simp only [wpS_nil, thenD, blockD]))
    (refine hK _ _ _ ?_; clear hK K)
    (refine wpD_ret ?_; (try simp only [thenD, blockD]); refine EndQ.ret rfl (.inl ?_); simp [tmOf, Out.fgt, D.fgt, D.fgts])
  | some l =>
    rw [h] at h2
    unfold allD at h2 ⊢
    dsimp only at h2 ⊢
    refine Spec.movd globPure (wpD_spec tyOK Tryd.func19 rfl (enters _ _ Tryd.func19 rfl (by decide)) rfl rfl ?_)
    (refine wpD_seqk fun K hK => ?_; refine wpD_region tyOK ?_; ((repeat (rw [wpS_cons]; simp)); (try simp only [wpS_nil, thenD, blockD])); refine hK _ _ _ ?_; clear hK K)
    refine wpD_stay (T := tyOf) 0 (ty := 35) (ds := [.slice (byD s) .any]) rfl rfl (by first | exact ⟨rfl, .inr ⟨_, rfl, rfl⟩⟩ | exact ⟨rfl, .inl rfl⟩) ?_
    simp [D.frzs, D.frz, HO.frz, dfFrz, refOf, TK.isAgg, FK.isB, FK.isM, FK.isO, D.isLen]
    (refine wpD_seqk fun K hK => ?_; refine wpD_region tyOK ?_; ((repeat (rw [wpS_cons]; simp)); (try simp only [wpS_nil, thenD, blockD])))
    refine cXp (h2) ?_
    ((try simp only [wpAft_ret, wpAft_pan, putS, updS, setS]); (repeat (rw [wpS_cons]; simp)); (try simp only [wpS_nil, thenD, blockD]))
    (refine hK _ _ _ ?_; clear hK K)
    (refine wpD_ret ?_; (try simp only [thenD, blockD]); refine EndQ.ret rfl (.inl ?_); simp [tmOf, Out.fgt, D.fgt, D.fgts])
theorem pick_spec (x : Int) (n : Nat) (hn : 0 < n) (hnl : n ≤ 1000000000000) : ∃ p : Nat, p < n ∧ Spec Tryd.prog glob 21 [.int .i64 x, .int .i64 n] [] (fun o _ => o.fgt = .ret (.int .i64 p)) := by
  have hn1 : ¬ (n : Int) < 1 := by omega
  have hn0 : ¬ (n : Int) = 0 := by omega
  have hn2 : ¬ n = 0 := by omega
  have hn3 : ¬ n < 1 := by omega
  have t1 : -(n : Int) < x.tmod n := Int.lt_tmod_of_pos x (by omega)
  have t2 : x.tmod n < (n : Int) := Int.tmod_lt_of_pos x (by omega)
  have w1 : IntKind.i64.wrap (x.tmod n) = x.tmod n := i64w (by omega) (by omega)
  by_cases hr : x.tmod n < 0
  · have w2 : IntKind.i64.wrap (x.tmod n + n) = x.tmod n + n := i64w (by omega) (by omega)
    obtain ⟨p, hp⟩ : ∃ p : Nat, x.tmod n + n = (p : Int) := ⟨(x.tmod n + n).toNat, by omega⟩
    rw [hp] at w2
    refine ⟨p, by omega, ?_⟩
    refine Spec.movd globPure (wpD_spec tyOK Tryd.func21 rfl (enters _ _ Tryd.func21 rfl (by decide)) rfl rfl ?_)
    (refine wpD_seqk fun K hK => ?_; refine wpD_region tyOK ?_; ((repeat (rw [wpS_cons]; simp)); (try simp only [wpS_nil, thenD, blockD])); refine hK _ _ _ ?_; clear hK K)
    refine wpD_seqk fun K1 hK1 => ?_
    (refine wpD_seqk fun K hK => ?_; refine wpD_region tyOK ?_; ((repeat (rw [wpS_cons]; simp [hn1, hn3])); (try simp only [wpS_nil, thenD, blockD])); refine hK _ _ _ ?_; clear hK K)
    refine wpD_part rfl (fun h => by simp [hn2, hn] at h) (fun _ => ?_)
    refine wpD_skip (hK1 _ _ _ ?_)
    clear hK1 K1
    (refine wpD_seqk fun K hK => ?_; refine wpD_region tyOK ?_; ((repeat (rw [wpS_cons]; simp [hn0, hn2, w1])); (try simp only [wpS_nil, thenD, blockD])); refine hK _ _ _ ?_; clear hK K)
    refine wpD_seqk fun K1 hK1 => ?_
    (refine wpD_seqk fun K hK => ?_; refine wpD_region tyOK ?_; ((repeat (rw [wpS_cons]; simp [hr])); (try simp only [wpS_nil, thenD, blockD])); refine hK _ _ _ ?_; clear hK K)
    refine wpD_part rfl (fun _ => ?_) (fun h => by simp at h)
    (refine wpD_region tyOK ?_; ((repeat (rw [wpS_cons]; simp [hp, w2])); (try simp only [wpS_nil, thenD, blockD])))
    refine hK1 _ _ _ ?_
    (refine wpD_seqk fun K hK => ?_; refine wpD_region tyOK ?_; ((repeat (rw [wpS_cons]; simp)); (try simp only [wpS_nil, thenD, blockD])); refine hK _ _ _ ?_; clear hK K)
    (refine wpD_ret ?_; (try simp only [thenD, blockD]); refine EndQ.ret rfl (.inl ?_); simp [tmOf, Out.fgt, D.fgt, D.fgts])
  · obtain ⟨p, hp⟩ : ∃ p : Nat, x.tmod n = (p : Int) := ⟨(x.tmod n).toNat, by omega⟩
    rw [hp] at w1
    have hr2 : ¬ (p : Int) < 0 := by omega
    refine ⟨p, by omega, ?_⟩
    refine Spec.movd globPure (wpD_spec tyOK Tryd.func21 rfl (enters _ _ Tryd.func21 rfl (by decide)) rfl rfl ?_)
    (refine wpD_seqk fun K hK => ?_; refine wpD_region tyOK ?_; ((repeat (rw [wpS_cons]; simp)); (try simp only [wpS_nil, thenD, blockD])); refine hK _ _ _ ?_; clear hK K)
    refine wpD_seqk fun K1 hK1 => ?_
    (refine wpD_seqk fun K hK => ?_; refine wpD_region tyOK ?_; ((repeat (rw [wpS_cons]; simp [hn1, hn3])); (try simp only [wpS_nil, thenD, blockD])); refine hK _ _ _ ?_; clear hK K)
    refine wpD_part rfl (fun h => by simp [hn2, hn] at h) (fun _ => ?_)
    refine wpD_skip (hK1 _ _ _ ?_)
    clear hK1 K1
    (refine wpD_seqk fun K hK => ?_; refine wpD_region tyOK ?_; ((repeat (rw [wpS_cons]; simp [hn0, hn2, hp, w1])); (try simp only [wpS_nil, thenD, blockD])); refine hK _ _ _ ?_; clear hK K)
    refine wpD_seqk fun K1 hK1 => ?_
    (refine wpD_seqk fun K hK => ?_; refine wpD_region tyOK ?_; ((repeat (rw [wpS_cons]; simp [hr2])); (try simp only [wpS_nil, thenD, blockD])); refine hK _ _ _ ?_; clear hK K)
    refine wpD_part rfl (fun h => by simp at h) (fun _ => ?_)
    refine wpD_skip (hK1 _ _ _ ?_)
    (refine wpD_seqk fun K hK => ?_; refine wpD_region tyOK ?_; ((repeat (rw [wpS_cons]; simp)); (try simp only [wpS_nil, thenD, blockD])); refine hK _ _ _ ?_; clear hK K)
    (refine wpD_ret ?_; (try simp only [thenD, blockD]); refine EndQ.ret rfl (.inl ?_); simp [tmOf, Out.fgt, D.fgt, D.fgts])
theorem rows_spec (l : List De) (cut : Int) (hl : l.length ≤ 1048576) (hls : ∀ d, d ∈ l → okDe d) : Spec Tryd.prog glob 4 [.slice (l.map encDe) .any, .int .i64 cut] [] (fun o _ => o.fgt = .ret (.bool true)) := by
  have a0 := awake3_spec
  have hl0 : l.length ≤ LMax := by unfold LMax; omega
  refine Spec.movd globPure (wpD_spec tyOK Tryd.func4 rfl (enters _ _ Tryd.func4 rfl (by decide)) rfl rfl ?_)
  (refine wpD_seqk fun K hK => ?_; refine wpD_region tyOK ?_; ((repeat (rw [wpS_cons]; simp)); (try simp only [wpS_nil, thenD, blockD])); refine hK _ _ _ ?_; clear hK K)
  refine wpD_seqk fun K1 hK1 => ?_
  (refine wpD_seqk fun K hK => ?_; refine wpD_region tyOK ?_; ((repeat (rw [wpS_cons]; simp)); (try simp only [wpS_nil, thenD, blockD])))
  refine cXp (a0) ?_
  ((try simp only [wpAft_ret, wpAft_pan, putS, updS, setS]); (repeat (rw [wpS_cons]; simp)); (try simp only [wpS_nil, thenD, blockD]))
  (refine hK _ _ _ ?_; clear hK K)
  refine wpD_part rfl (fun h => by simp at h) (fun _ => ?_)
  refine wpD_skip (hK1 _ _ _ ?_)
  clear hK1 K1
  refine wpD_seqk fun K1 hK1 => ?_
  by_cases h12 : 12 < l.length
  · have h12' : (12 : Int) < l.length := by omega
    (refine wpD_seqk fun K hK => ?_; refine wpD_region tyOK ?_; ((repeat (rw [wpS_cons]; simp [h12, h12'])); (try simp only [wpS_nil, thenD, blockD])); refine hK _ _ _ ?_; clear hK K)
    refine wpD_part rfl (fun _ => ?_) (fun h => by simp at h)
    (refine wpD_seqk fun K hK => ?_; refine wpD_region tyOK ?_; ((repeat (rw [wpS_cons]; simp)); (try simp only [wpS_nil, thenD, blockD])); refine hK _ _ _ ?_; clear hK K)
    (refine wpD_ret ?_; (try simp only [thenD, blockD]); refine EndQ.ret rfl (.inl ?_); simp [tmOf, Out.fgt, D.fgt, D.fgts])
  have h12' : ¬ (12 : Int) < l.length := by omega
  (refine wpD_seqk fun K hK => ?_; refine wpD_region tyOK ?_; ((repeat (rw [wpS_cons]; simp [h12, h12'])); (try simp only [wpS_nil, thenD, blockD])); refine hK _ _ _ ?_; clear hK K)
  refine wpD_part rfl (fun h => by simp at h) (fun _ => ?_)
  refine wpD_skip (hK1 _ _ _ ?_)
  clear hK1 K1 a0 h12'
  (refine wpD_seqk fun K hK => ?_; refine wpD_region tyOK ?_; ((repeat (rw [wpS_cons]; simp)); (try simp only [wpS_nil, thenD, blockD])); refine hK _ _ _ ?_; clear hK K)
  refine wpD_seqk fun K1 hK1 => ?_
  (refine wpD_seqk fun K hK => ?_; refine wpD_region tyOK ?_; ((repeat (rw [wpS_cons]; simp)); (try simp only [wpS_nil, thenD, blockD])); refine hK _ _ _ ?_; clear hK K)
  refine wpD_block ?_
  refine wpD_loopWJ [4, 19, 20, 21, 22, 23, 24, 25, 26, 27, 28, 29, 30, 31, 32, 33, 34, 35, 36, 37, 38, 39, 40, 41, 42, 43, 44, 45] [5, 6] (fun n ys hl => ∃ (k : Nat), ys = [.bool ((l.take k).all rightDe), .int .i64 k] ∧ n + k = l.length ∧ hl = []) (l.length) (by kernel_rfl) ?_ ?_
  · exact ⟨0, rfl, by simp, rfl⟩
  · rintro n ys hl A hA ⟨i, rfl, hn, rfl⟩
    simp only [putAll, List.set, List.map_cons, List.map_nil, List.cons_append, List.nil_append]
    refine wpD_seqk fun K2 hK2 => ?_
    by_cases hi : i < l.length
    · have hi' : (i : Int) < l.length := by omega
      (refine wpD_seqk fun K hK => ?_; refine wpD_region tyOK ?_; ((repeat (rw [wpS_cons]; simp [hi, hi'])); (try simp only [wpS_nil, thenD, blockD])); refine hK _ _ _ ?_; clear hK K)
      refine wpD_part rfl (fun _ => ?_) (fun h => by simp at h)
      refine wpD_skip (hK2 _ _ _ ?_)
      clear hK2 K2
      refine wpD_seqk fun K3 hK3 => ?_
      refine wpD_block ?_
      obtain ⟨x, hx⟩ : ∃ x, l[i] = x := ⟨_, rfl⟩
      have hxo := hls x (by rw [← hx]; exact List.getElem_mem hi)
      have b1 := great3_spec x hxo
      have b2 := declOf_spec x 2000 hxo
      have b3 := packRight_spec x hxo
      have hE := encDe_eq x
      rw [hE] at b1 b2 b3
      have hnx : (l.take (i + 1)).all rightDe = ((l.take i).all rightDe && rightDe x) := by rw [List.take_succ_eq_append_getElem hi, List.all_append, hx]; simp
      generalize greatDe x = g1 at b1
      generalize deN 2000 x = g2 at b2
      generalize rightDe x = B at b3 hnx
      refine wpD_seqk fun K4 hK4 => ?_
      cases g1 with
      | true =>
        (refine wpD_seqk fun K hK => ?_; refine wpD_region tyOK ?_; ((repeat (rw [wpS_cons]; simp [hi, hi', hx, hE])); (try simp only [wpS_nil, thenD, blockD])))
        refine cXp (b1) ?_
        ((try simp only [wpAft_ret, wpAft_pan, putS, updS, setS]); (repeat (rw [wpS_cons]; simp)); (try simp only [wpS_nil, thenD, blockD]))
        (refine hK _ _ _ ?_; clear hK K)
        refine wpD_part rfl (fun _ => ?_) (fun h => by simp at h)
        (refine wpD_seqk fun K hK => ?_; refine wpD_region tyOK ?_; ((repeat (rw [wpS_cons]; simp)); (try simp only [wpS_nil, thenD, blockD])); refine hK _ _ _ ?_; clear hK K)
        (refine wpD_ret ?_; (try simp only [thenD, blockD]); refine EndQ.ret rfl (.inl ?_); simp [tmOf, Out.fgt, D.fgt, D.fgts])
      | false =>
      by_cases h5 : 500 < g2
      · (refine wpD_seqk fun K hK => ?_; refine wpD_region tyOK ?_; ((repeat (rw [wpS_cons]; simp [hi, hi', hx, hE])); (try simp only [wpS_nil, thenD, blockD])))
        refine cXp (b1) ?_
        ((try simp only [wpAft_ret, wpAft_pan, putS, updS, setS]); (repeat (rw [wpS_cons]; simp [hi, hi', hx, hE])); (try simp only [wpS_nil, thenD, blockD]))
        refine cXp (b2) ?_
        ((try simp only [wpAft_ret, wpAft_pan, putS, updS, setS]); (repeat (rw [wpS_cons]; simp [h5])); (try simp only [wpS_nil, thenD, blockD]))
        (refine hK _ _ _ ?_; clear hK K)
        refine wpD_part rfl (fun _ => ?_) (fun h => by simp at h)
        (refine wpD_seqk fun K hK => ?_; refine wpD_region tyOK ?_; ((repeat (rw [wpS_cons]; simp)); (try simp only [wpS_nil, thenD, blockD])); refine hK _ _ _ ?_; clear hK K)
        (refine wpD_ret ?_; (try simp only [thenD, blockD]); refine EndQ.ret rfl (.inl ?_); simp [tmOf, Out.fgt, D.fgt, D.fgts])
      (refine wpD_seqk fun K hK => ?_; refine wpD_region tyOK ?_; ((repeat (rw [wpS_cons]; simp [hi, hi', hx, hE])); (try simp only [wpS_nil, thenD, blockD])))
      refine cXp (b1) ?_
      ((try simp only [wpAft_ret, wpAft_pan, putS, updS, setS]); (repeat (rw [wpS_cons]; simp [hi, hi', hx, hE])); (try simp only [wpS_nil, thenD, blockD]))
      refine cXp (b2) ?_
      ((try simp only [wpAft_ret, wpAft_pan, putS, updS, setS]); (repeat (rw [wpS_cons]; simp [h5])); (try simp only [wpS_nil, thenD, blockD]))
      (refine hK _ _ _ ?_; clear hK K)
      refine wpD_part rfl (fun h => by simp at h) (fun _ => ?_)
      refine wpD_skip (hK4 _ _ _ ?_)
      clear hK4 K4 b1 b2
      have hw1 : IntKind.i64.wrap ((i : Int) + 1) = (i : Int) + 1 := i64w (by omega) (by omega)
      generalize (l.take i).all rightDe = C at hnx ⊢
      cases C with
      | true =>
        rw [Bool.true_and] at hnx
        (refine wpD_region tyOK ?_; ((repeat (rw [wpS_cons]; simp [hi, hi', hx, hE])); (try simp only [wpS_nil, thenD, blockD])))
        refine cXp (b3) ?_
        ((try simp only [wpAft_ret, wpAft_pan, putS, updS, setS]); (repeat (rw [wpS_cons]; simp)); (try simp only [wpS_nil, thenD, blockD]))
        refine hK3 _ _ _ ?_
        clear hK3 K3
        (refine wpD_region tyOK ?_; ((repeat (rw [wpS_cons]; simp [hw1])); (try simp only [wpS_nil, thenD, blockD])))
        refine hA (n - 1) _ _ _ (LeT.refl _) (by omega) (by kernel_rfl) ?_
        exact ⟨i + 1, by rw [hnx]; rfl, by omega, rfl⟩
      | false =>
        rw [Bool.false_and] at hnx
        (refine wpD_region tyOK ?_; ((repeat (rw [wpS_cons]; simp)); (try simp only [wpS_nil, thenD, blockD])))
        refine hK3 _ _ _ ?_
        clear hK3 K3
        (refine wpD_region tyOK ?_; ((repeat (rw [wpS_cons]; simp [hw1])); (try simp only [wpS_nil, thenD, blockD])))
        refine hA (n - 1) _ _ _ (LeT.refl _) (by omega) (by kernel_rfl) ?_
        exact ⟨i + 1, by rw [hnx]; rfl, by omega, rfl⟩
    · have hi' : ¬ (i : Int) < l.length := by omega
      rw [List.take_of_length_le (by omega)]
      (refine wpD_seqk fun K hK => ?_; refine wpD_region tyOK ?_; ((repeat (rw [wpS_cons]; simp [hi, hi'])); (try simp only [wpS_nil, thenD, blockD])); refine hK _ _ _ ?_; clear hK K)
      refine wpD_part rfl (fun h => by simp at h) (fun _ => ?_)
      refine wpD_exit ?_
      refine hK1 _ _ _ ?_
      clear hK1 K1 hK2 K2 hi hi' hn
      have a1 := putAll_spec l (by omega) hls
      unfold allPut at a1
      cases hB : l.all rightDe with
      | false =>
        rw [hB] at a1
        simp only [Bool.false_eq_true, if_false] at a1
        (refine wpD_seqk fun K hK => ?_; refine wpD_region tyOK ?_; ((repeat (rw [wpS_cons]; simp)); (try simp only [wpS_nil, thenD, blockD])))
        refine cXp (a1) ?_
        ((try simp only [wpAft_ret, wpAft_pan, putS, updS, setS]); (repeat (rw [wpS_cons]; simp)); (try simp only [wpS_nil, thenD, blockD]))
        (refine hK _ _ _ ?_; clear hK K)
        refine wpD_seqk fun K1 hK1 => ?_
        (refine wpD_seqk fun K hK => ?_; refine wpD_region tyOK ?_; ((repeat (rw [wpS_cons]; simp [pairX])); (try simp only [wpS_nil, thenD, blockD])); refine hK _ _ _ ?_; clear hK K)
        refine wpD_part rfl (fun _ => ?_) (fun h => by simp at h)
        (refine wpD_seqk fun K hK => ?_; refine wpD_region tyOK ?_; ((repeat (rw [wpS_cons]; simp [pairX])); (try simp only [wpS_nil, thenD, blockD])); refine hK _ _ _ ?_; clear hK K)
        (refine wpD_ret ?_; (try simp only [thenD, blockD]); refine EndQ.ret rfl (.inl ?_); simp [tmOf, Out.fgt, D.fgt, D.fgts])
      | true =>
      rw [hB, if_pos rfl] at a1
      have hall : ∀ d, d ∈ l → rightDe d = true := fun d hd => List.all_eq_true.1 hB d hd
      have hfl := allB_right hall
      obtain ⟨b, hb⟩ : ∃ b, b = l.flatMap declB := ⟨_, rfl⟩
      have hbo : bytesOk b := by rw [hb]; exact bytesOk.flat fun d _ => declB_okR d
      have ha := allR_put l 200 (by omega) hall
      rw [← hb] at a1 ha hfl
      have c1 := getAllL_spec b hbo (by omega)
      rw [ha] at c1
      unfold allD at c1
      dsimp only at c1
      have c2 := kDes_spec l hl0 fun x hx => kDe_spec x (hls x hx)
      (refine wpD_seqk fun K hK => ?_; refine wpD_region tyOK ?_; ((repeat (rw [wpS_cons]; simp)); (try simp only [wpS_nil, thenD, blockD])))
      refine cXp (a1) ?_
      ((try simp only [wpAft_ret, wpAft_pan, putS, updS, setS]); (repeat (rw [wpS_cons]; simp)); (try simp only [wpS_nil, thenD, blockD]))
      (refine hK _ _ _ ?_; clear hK K)
      refine wpD_seqk fun K1 hK1 => ?_
      (refine wpD_seqk fun K hK => ?_; refine wpD_region tyOK ?_; ((repeat (rw [wpS_cons]; simp [pairX])); (try simp only [wpS_nil, thenD, blockD])); refine hK _ _ _ ?_; clear hK K)
      refine wpD_part rfl (fun h => by simp at h) (fun _ => ?_)
      refine wpD_skip (hK1 _ _ _ ?_)
      clear hK1 K1 a1
      (refine wpD_seqk fun K hK => ?_; refine wpD_region tyOK ?_; ((repeat (rw [wpS_cons]; simp)); (try simp only [wpS_nil, thenD, blockD])))
      refine cXp (c1) ?_
      ((try simp only [wpAft_ret, wpAft_pan, putS, updS, setS]); (repeat (rw [wpS_cons]; simp)); (try simp only [wpS_nil, thenD, blockD]))
      (refine hK _ _ _ ?_; clear hK K)
      refine wpD_seqk fun K1 hK1 => ?_
      (refine wpD_seqk fun K hK => ?_; refine wpD_region tyOK ?_; ((repeat (rw [wpS_cons]; simp)); (try simp only [wpS_nil, thenD, blockD])))
      refine cXp (c2) ?_
      ((try simp only [wpAft_ret, wpAft_pan, putS, updS, setS]); (repeat (rw [wpS_cons]; simp)); (try simp only [wpS_nil, thenD, blockD]))
      (refine hK _ _ _ ?_; clear hK K)
      refine wpD_part rfl (fun h => by simp at h) (fun _ => ?_)
      refine wpD_skip (hK1 _ _ _ ?_)
      clear hK1 K1 c1 c2 ha
      refine wpD_seqk fun K1 hK1 => ?_
      by_cases hb0 : b.length = 0
      · have hl00 : l = [] := by
          cases l with
          | nil => rfl
          | cons d r => rw [hb, List.flatMap_cons, List.length_append] at hb0; have := declB_pos d; omega
        have hb1 : b = [] := List.length_eq_zero_iff.1 hb0
        subst hl00
        (refine wpD_seqk fun K hK => ?_; refine wpD_region tyOK ?_; ((repeat (rw [wpS_cons]; simp [hb0, hb1])); (try simp only [wpS_nil, thenD, blockD])); refine hK _ _ _ ?_; clear hK K)
        refine wpD_part rfl (fun _ => ?_) (fun h => by simp at h)
        (refine wpD_seqk fun K hK => ?_; refine wpD_region tyOK ?_; ((repeat (rw [wpS_cons]; simp)); (try simp only [wpS_nil, thenD, blockD])); refine hK _ _ _ ?_; clear hK K)
        (refine wpD_ret ?_; (try simp only [thenD, blockD]); refine EndQ.ret rfl (.inl ?_); simp [tmOf, Out.fgt, D.fgt, D.fgts])
      have hb1 : ¬ b = [] := fun h => hb0 (by rw [h]; rfl)
      (refine wpD_seqk fun K hK => ?_; refine wpD_region tyOK ?_; ((repeat (rw [wpS_cons]; simp [hb0, hb1])); (try simp only [wpS_nil, thenD, blockD])); refine hK _ _ _ ?_; clear hK K)
      refine wpD_part rfl (fun h => by simp at h) (fun _ => ?_)
      refine wpD_skip (hK1 _ _ _ ?_)
      clear hK1 K1
      obtain ⟨p, hp, c3⟩ := pick_spec cut b.length (by omega) (by omega)
      have hto : bytesOk (b.take p) := fun c hc => hbo c (List.mem_of_mem_take hc)
      have c4 := getAllL_spec (b.take p) hto (by rw [List.length_take]; omega)
      have hple : p ≤ b.length := by omega
      cases hf : allR 200 (b.take p) with
      | none =>
        rw [hf] at c4
        unfold allD at c4
        (refine wpD_seqk fun K hK => ?_; refine wpD_region tyOK ?_; ((repeat (rw [wpS_cons]; simp)); (try simp only [wpS_nil, thenD, blockD])))
        refine cXp (c3) ?_
        ((try simp only [wpAft_ret, wpAft_pan, putS, updS, setS]); (repeat (rw [wpS_cons]; simp [hple, byD_takeR, byD_one])); (try simp only [wpS_nil, thenD, blockD]))
        refine cXp (c4) ?_
        ((try simp only [wpAft_ret, wpAft_pan, putS, updS, setS]); (repeat (rw [wpS_cons]; simp)); (try simp only [wpS_nil, thenD, blockD]))
        (refine hK _ _ _ ?_; clear hK K)
        refine wpD_seqk fun K1 hK1 => ?_
        (refine wpD_seqk fun K hK => ?_; refine wpD_region tyOK ?_; ((repeat (rw [wpS_cons]; simp)); (try simp only [wpS_nil, thenD, blockD])); refine hK _ _ _ ?_; clear hK K)
        refine wpD_part rfl (fun h => by simp at h) (fun _ => ?_)
        refine wpD_skip (hK1 _ _ _ ?_)
        clear hK1 K1
        refine wpD_seqk fun K1 hK1 => ?_
        (refine wpD_seqk fun K hK => ?_; refine wpD_region tyOK ?_; ((repeat (rw [wpS_cons]; simp)); (try simp only [wpS_nil, thenD, blockD])); refine hK _ _ _ ?_; clear hK K)
        refine wpD_block ?_
        refine wpD_loopWJ [4, 103, 104, 105, 106, 107, 108, 109, 110, 111, 112, 113, 114, 115, 116, 117, 118] [13] (fun n ys hl => ys = [.int .i64 0] ∧ n = 0 ∧ hl = []) (0) (by kernel_rfl) ?_ ?_
        · exact ⟨rfl, rfl, rfl⟩
        · rintro n ys hl A hA ⟨rfl, rfl, rfl⟩
          simp only [putAll, List.set, List.map_cons, List.map_nil, List.cons_append, List.nil_append]
          refine wpD_seqk fun K2 hK2 => ?_
          (refine wpD_seqk fun K hK => ?_; refine wpD_region tyOK ?_; ((repeat (rw [wpS_cons]; simp)); (try simp only [wpS_nil, thenD, blockD])); refine hK _ _ _ ?_; clear hK K)
          refine wpD_part rfl (fun h => by simp at h) (fun _ => ?_)
          refine wpD_exit ?_
          refine hK1 _ _ _ ?_
          (refine wpD_seqk fun K hK => ?_; refine wpD_region tyOK ?_; ((repeat (rw [wpS_cons]; simp)); (try simp only [wpS_nil, thenD, blockD])); refine hK _ _ _ ?_; clear hK K)
          (refine wpD_ret ?_; (try simp only [thenD, blockD]); refine EndQ.ret rfl (.inl ?_); simp [tmOf, Out.fgt, D.fgt, D.fgts])
      | some few =>
        rw [hf] at c4
        unfold allD at c4
        dsimp only at c4
        obtain ⟨f1, f2, f3⟩ := allR_got 200 (b.take p) few hto hf
        have hbs : l.flatMap declB = few.flatMap declB ++ b.drop p := by rw [← f3, List.take_append_drop, hb]
        obtain ⟨f4, f5⟩ := all_prefix few l (b.drop p) f2 hall hbs
        have f6 : few.length < l.length := f5 (fun h => by have := congrArg List.length h; rw [List.length_drop] at this; simp at this; omega)
        have f6' : ¬ (l.length : Int) ≤ few.length := by omega
        have f7 : ¬ l.length ≤ few.length := by omega
        (refine wpD_seqk fun K hK => ?_; refine wpD_region tyOK ?_; ((repeat (rw [wpS_cons]; simp)); (try simp only [wpS_nil, thenD, blockD])))
        refine cXp (c3) ?_
        ((try simp only [wpAft_ret, wpAft_pan, putS, updS, setS]); (repeat (rw [wpS_cons]; simp [hple, byD_takeR, byD_one])); (try simp only [wpS_nil, thenD, blockD]))
        refine cXp (c4) ?_
        ((try simp only [wpAft_ret, wpAft_pan, putS, updS, setS]); (repeat (rw [wpS_cons]; simp)); (try simp only [wpS_nil, thenD, blockD]))
        (refine hK _ _ _ ?_; clear hK K)
        refine wpD_seqk fun K1 hK1 => ?_
        (refine wpD_seqk fun K hK => ?_; refine wpD_region tyOK ?_; ((repeat (rw [wpS_cons]; simp [f6', f7])); (try simp only [wpS_nil, thenD, blockD])); refine hK _ _ _ ?_; clear hK K)
        refine wpD_part rfl (fun h => by simp at h) (fun _ => ?_)
        refine wpD_skip (hK1 _ _ _ ?_)
        clear hK1 K1 c3 c4
        refine wpD_seqk fun K1 hK1 => ?_
        (refine wpD_seqk fun K hK => ?_; refine wpD_region tyOK ?_; ((repeat (rw [wpS_cons]; simp)); (try simp only [wpS_nil, thenD, blockD])); refine hK _ _ _ ?_; clear hK K)
        refine wpD_block ?_
        refine wpD_loopWJ [4, 103, 104, 105, 106, 107, 108, 109, 110, 111, 112, 113, 114, 115, 116, 117, 118] [13] (fun n ys hl => ∃ (k : Nat), ys = [.int .i64 k] ∧ n + k = few.length ∧ hl = []) (few.length) (by kernel_rfl) ?_ ?_
        · exact ⟨0, rfl, rfl, rfl⟩
        · rintro n ys hl A hA ⟨i, rfl, hn, rfl⟩
          simp only [putAll, List.set, List.map_cons, List.map_nil, List.cons_append, List.nil_append]
          refine wpD_seqk fun K2 hK2 => ?_
          by_cases hi : i < few.length
          · have hi' : (i : Int) < few.length := by omega
            have hi2 : i < l.length := by omega
            have hi2' : (i : Int) < l.length := by omega
            (refine wpD_seqk fun K hK => ?_; refine wpD_region tyOK ?_; ((repeat (rw [wpS_cons]; simp [hi, hi'])); (try simp only [wpS_nil, thenD, blockD])); refine hK _ _ _ ?_; clear hK K)
            refine wpD_part rfl (fun _ => ?_) (fun h => by simp at h)
            refine wpD_skip (hK2 _ _ _ ?_)
            clear hK2 K2
            refine wpD_seqk fun K3 hK3 => ?_
            refine wpD_block ?_
            obtain ⟨x, hx⟩ : ∃ x, few[i] = x := ⟨_, rfl⟩
            have hx2 : l[i] = x := by
              rw [← hx]
              have := List.getElem_take (xs := l) (j := few.length) (i := i) (h := by rw [List.length_take]; omega)
              rw [← this]
              congr 1
              exact f4.symm
            have hc := kDe_spec x (hls x (by rw [← hx2]; exact List.getElem_mem hi2))
            have hE := encDe_eq x
            rw [hE] at hc
            (refine wpD_seqk fun K hK => ?_; refine wpD_drawk tyOK (by kernel_rfl) (by kernel_rfl) fun KT hKT => ?_; ((repeat (rw [wpT_cons]; simp [hi, hi', hi2, hi2', hx, hx2, hE])); (try simp only [wpT_nil])))
            refine cYp (hc) ?_
            ((try simp only [wpAftT_ret, wpAftT_pan, putS, updS, setS]); (repeat (rw [wpT_cons]; simp)); (try simp only [wpT_nil]))
            (refine hKT _ _ _ _ (by kernel_rfl) ?_; clear hKT KT; (try simp only [thenD, blockD]))
            (refine hK _ _ _ ?_; clear hK K)
            refine wpD_part rfl (fun h => by simp at h) (fun _ => ?_)
            refine wpD_skip (hK3 _ _ _ ?_)
            clear hK3 K3
            have hw1 : IntKind.i64.wrap ((i : Int) + 1) = (i : Int) + 1 := i64w (by omega) (by omega)
            (refine wpD_region tyOK ?_; ((repeat (rw [wpS_cons]; simp [hw1])); (try simp only [wpS_nil, thenD, blockD])))
            refine hA (n - 1) _ _ _ (LeT.refl _) (by omega) (by kernel_rfl) ?_
            exact ⟨i + 1, rfl, by omega, rfl⟩
          · have hi' : ¬ (i : Int) < few.length := by omega
            (refine wpD_seqk fun K hK => ?_; refine wpD_region tyOK ?_; ((repeat (rw [wpS_cons]; simp [hi, hi'])); (try simp only [wpS_nil, thenD, blockD])); refine hK _ _ _ ?_; clear hK K)
            refine wpD_part rfl (fun h => by simp at h) (fun _ => ?_)
            refine wpD_exit ?_
            refine hK1 _ _ _ ?_
            (refine wpD_seqk fun K hK => ?_; refine wpD_region tyOK ?_; ((repeat (rw [wpS_cons]; simp)); (try simp only [wpS_nil, thenD, blockD])); refine hK _ _ _ ?_; clear hK K)
            (refine wpD_ret ?_; (try simp only [thenD, blockD]); refine EndQ.ret rfl (.inl ?_); simp [tmOf, Out.fgt, D.fgt, D.fgts])
end Go.Proofs.YtgloldepdhgfaaaDoor
namespace Go.Proofs.YtgloldepdhgfaaaDoor
set_option linter.unusedSimpArgs false
set_option linter.unusedVariables false
open Go.RowKit
theorem bulk_one {H : Type} (d : DataW H) : 1 ≤ Rows.uptoBulk d := by
  cases d with
  | lit l => cases l <;> simp [Rows.uptoBulk]
  | nil => simp [Rows.uptoBulk]
  | ptr d => simp [Rows.uptoBulk]
  | slice elems spare => simp [Rows.uptoBulk]
  | agg parts => simp [Rows.uptoBulk]
  | iface t d => simp [Rows.uptoBulk]
  | map entries => simp [Rows.uptoBulk]
  | held h => simp [Rows.uptoBulk]
theorem bulk_part {H : Type} {d : DataW H} {l : List (DataW H)} (h : d ∈ l) : Rows.uptoBulk d ≤ Rows.uptoBulkAll l := by
  induction l with
  | nil => cases h
  | cons x r ih =>
    simp only [Rows.uptoBulkAll]
    cases List.mem_cons.1 h with
    | inl e => subst e; omega
    | inr e => have := ih e; omega
theorem bulk_len {H : Type} (l : List (DataW H)) : l.length ≤ Rows.uptoBulkAll l := by
  induction l with
  | nil => simp [Rows.uptoBulkAll]
  | cons x r ih => have := bulk_one x; simp only [Rows.uptoBulkAll, List.length_cons]; omega
theorem mapM_some {α β : Type} {f : α → Option β} : ∀ {l : List α} {xs : List β}, l.mapM f = some xs → xs.length = l.length ∧ ∀ i (h : i < l.length) (h' : i < xs.length), f l[i] = some xs[i] := by
  intro l
  induction l with
  | nil => intro xs h; simp at h; subst h; exact ⟨rfl, fun i h => absurd h (by simp)⟩
  | cons a r ih =>
    intro xs h
    rw [List.mapM_cons] at h
    cases ha : f a with
    | none => rw [ha] at h; simp at h
    | some b =>
      rw [ha] at h
      cases hr : r.mapM f with
      | none => rw [hr] at h; simp at h
      | some ys =>
        rw [hr] at h
        simp at h
        subst h
        obtain ⟨h1, h2⟩ := ih hr
        refine ⟨by simp [h1], fun i hi hi' => ?_⟩
        cases i with
        | zero => simpa using ha
        | succ i => simpa using h2 i (by simpa using hi) (by simpa using hi')
section
variable {H : Type} {enc : TypeId × Value → H} {P : Program} {w : World} {base : Nat} {sp : Nat → Bool} {held : Bool}
theorem trod_int {fuel : Nat} {t : TypeId} {cs : List Value} {d : DataW H} {ps : List MemPlace} (ht : P.underlying t = some (.int .i64)) (h : DataW.trod enc P w base sp held fuel t cs = some (d, ps)) : ∃ n, cs = [.int .i64 n] ∧ IntKind.i64.min ≤ n ∧ n ≤ IntKind.i64.max := by
  cases fuel with
  | zero => simp [DataW.trod] at h
  | succ fuel =>
    unfold DataW.trod at h
    rw [ht] at h
    rcases cs with _ | ⟨v, _ | ⟨v2, r⟩⟩
    · simp at h
    · cases v <;> simp at h
      rename_i k n
      obtain ⟨⟨rfl, hw⟩, -⟩ := h
      refine ⟨n, rfl, ?_⟩
      simp only [Lit.wf, Bool.and_eq_true, decide_eq_true_eq] at hw
      exact hw
    · simp at h
theorem cells_at {n : Nat} {a : Addr} {cs : List Value} (h : w.cells? base a n = some cs) (hn : 0 < n) : ∃ b o, a = ⟨b, o, none⟩ ∧ b < w.heap.size ∧ cs.length = n ∧ ∀ i u, cs[i]? = some u → w.cell? ⟨b, o + i, none⟩ = some u := by
  unfold World.cells? at h
  split at h
  · obtain ⟨h1, h2⟩ := mapM_some h
    simp only [List.length_range] at h1
    have hall : ∀ i, i < n → w.cell? (a.add i) = some (cs.getD i undef) := fun i hi => by
      have := h2 i (by simpa using hi) (by omega)
      simp only [List.getElem_range] at this
      rw [this]; simp [show i < cs.length by omega]
    have h0 := hall 0 hn
    rw [show a.add 0 = a from by simp [Addr.add]] at h0
    have hs : a.spot = none := by
      cases hsp : a.spot with
      | none => rfl
      | some x =>
        unfold World.cell? at h0
        rw [hsp] at h0
        split at h0 <;> simp at h0
    obtain ⟨b, o, s⟩ := a
    simp only at hs
    subst hs
    refine ⟨b, o, rfl, World.block_lt_of_cell? w _ h0, h1, fun i u hu => ?_⟩
    have hi : i < cs.length := (List.getElem?_eq_some_iff.1 hu).1
    have := hall i (by omega)
    have hadd : (⟨b, o, none⟩ : Addr).add i = ⟨b, o + i, none⟩ := by unfold Addr.add; split <;> simp_all
    rw [hadd] at this
    rw [this]
    simp [List.getD_eq_getElem?_getD, hu]
  · cases h
theorem trod_slice {fuel : Nat} {t e : TypeId} {cs : List Value} {d : DataW H} {ps : List MemPlace} (ht : P.underlying t = some (.slice e)) (h : DataW.trod enc P w base sp held fuel t cs = some (d, ps)) :
    cs = [.slice none 0 0] ∨ ∃ fuel' a len cap elems rest, fuel = fuel' + 1 ∧ cs = [.slice (some a) len cap] ∧ len ≤ cap ∧ cap ≤ maxLen ∧ d = .slice elems rest ∧ elems.length = len ∧
      ∀ i (hi : i < elems.length), ∃ ecs p, w.cells? base (a.add (i * P.cellsOf e)) (P.cellsOf e) = some ecs ∧ DataW.trod enc P w base sp held fuel' e ecs = some (elems[i], p) := by
  cases fuel with
  | zero => simp [DataW.trod] at h
  | succ fuel =>
    unfold DataW.trod at h
    rw [ht] at h
    rcases cs with _ | ⟨v, _ | ⟨v2, r⟩⟩
    · simp at h
    rotate_left
    · simp at h
    cases v <;> try (simp at h; done)
    rename_i ao len cap
    cases ao with
    | none =>
      left
      rcases len with _ | len
      · rcases cap with _ | cap
        · rfl
        · simp at h
      · simp at h
    | some a =>
    right
    dsimp only at h
    split at h
    · rename_i hc
      cases hm : (List.range len).mapM fun i => (w.cells? base (a.add (i * P.cellsOf e)) (P.cellsOf e)).bind (DataW.trod enc P w base sp held fuel e) with
      | none => rw [hm] at h; simp at h
      | some xs =>
        rw [hm] at h
        simp only [Option.bind_some] at h
        obtain ⟨h2, h3⟩ := mapM_some hm
        simp only [List.length_range] at h2
        rw [Option.map_eq_some_iff] at h
        obtain ⟨rest, -, h4⟩ := h
        simp only [Prod.mk.injEq] at h4
        refine ⟨fuel, a, len, cap, xs.map (·.1), rest.map (·.1), rfl, rfl, hc.2.1, hc.2.2, h4.1.symm, by simpa using h2, fun i hi => ?_⟩
        have hi' : i < xs.length := by simpa using hi
        have := h3 i (by simp; omega) hi'
        simp only [List.getElem_range] at this
        rw [Option.bind_eq_some_iff] at this
        obtain ⟨ecs, e1, e2⟩ := this
        exact ⟨ecs, (xs[i]).2, e1, by simpa using e2⟩
    · cases h
theorem trod_struct {fuel : Nat} {t : TypeId} {fs : Array Field} {cs : List Value} {d : DataW H} {ps : List MemPlace} (ht : P.underlying t = some (.struct fs)) (h : DataW.trod enc P w base sp held fuel t cs = some (d, ps)) :
    ∃ fuel' ds, fuel = fuel' + 1 ∧ cs.length = P.cellsOf t ∧ d = .agg ds ∧ ds.length = fs.toList.length ∧ ∀ i (hi : i < fs.toList.length) (hi' : i < ds.length), ∃ p, DataW.trod enc P w base sp held fuel' (fs.toList[i]).type ((cs.drop (fs.toList[i]).offset).take (P.cellsOf (fs.toList[i]).type)) = some (ds[i], p) := by
  cases fuel with
  | zero => simp [DataW.trod] at h
  | succ fuel =>
    unfold DataW.trod at h
    rw [ht] at h
    dsimp only at h
    split at h
    · rename_i hl
      rw [Option.map_eq_some_iff] at h
      obtain ⟨xs, hm, h4⟩ := h
      simp only [Prod.mk.injEq] at h4
      obtain ⟨h2, h3⟩ := mapM_some hm
      refine ⟨fuel, xs.map (·.1), rfl, hl, h4.1.symm, by simpa using h2, fun i hi hi' => ?_⟩
      have hi2 : i < xs.length := by simpa using hi'
      exact ⟨(xs[i]).2, by simpa using h3 i hi hi2⟩
    · cases h
end
theorem len1 {l : List Value} (h : l.length = 1) : ∃ a, l = [a] := by
  rcases l with _ | ⟨a, _ | ⟨b, r⟩⟩
  · cases h
  · exact ⟨a, rfl⟩
  · simp at h
theorem len2 {l : List Value} (h : l.length = 2) : ∃ a b, l = [a, b] := by
  rcases l with _ | ⟨a, r⟩
  · cases h
  · obtain ⟨b, rfl⟩ := len1 (l := r) (by simpa using h)
    exact ⟨a, b, rfl⟩
theorem len5 {l : List Value} (h : l.length = 5) : ∃ a b c d e, l = [a, b, c, d, e] := by
  rcases l with _ | ⟨a, _ | ⟨b, _ | ⟨c, r⟩⟩⟩
  · cases h
  · simp at h
  · simp at h
  · obtain ⟨d, e, rfl⟩ := len2 (l := r) (by simpa using h)
    exact ⟨a, b, c, d, e, rfl⟩
theorem trod_fields {H : Type} {enc : TypeId × Value → H} {P : Program} {w : World} {base : Nat} {sp : Nat → Bool} {held : Bool} {fuel : Nat} {t : TypeId} {fs : Array Field} {cs : List Value} {d : DataW H} {ps : List MemPlace} {l : List (TypeId × Nat)} (ht : P.underlying t = some (.struct fs)) (hl : fs.toList.map (fun f => (f.type, f.offset)) = l)
    (h : DataW.trod enc P w base sp held fuel t cs = some (d, ps)) :
    cs.length = P.cellsOf t ∧ ∀ (i : Nat) ti oi, l[i]? = some (ti, oi) → ∃ f di p, f < fuel ∧ Rows.uptoBulk di < Rows.uptoBulk d ∧ DataW.trod enc P w base sp held f ti ((cs.drop oi).take (P.cellsOf ti)) = some (di, p) := by
  obtain ⟨fuel', ds, rfl, h1, rfl, h3, h4⟩ := trod_struct ht h
  refine ⟨h1, fun i ti oi hi => ?_⟩
  rw [← hl, List.getElem?_map, Option.map_eq_some_iff] at hi
  obtain ⟨f, hf, he⟩ := hi
  obtain ⟨hlt, rfl⟩ := List.getElem?_eq_some_iff.1 hf
  simp only [Prod.mk.injEq] at he
  obtain ⟨rfl, rfl⟩ := he
  obtain ⟨p, hp⟩ := h4 i hlt (by omega)
  refine ⟨fuel', _, p, by omega, ?_, hp⟩
  have := bulk_part (List.getElem_mem (l := ds) (n := i) (by omega))
  simp only [Rows.uptoBulk]; omega
/-- before the call: all stays -/
def rho0 : Rho := ⟨fun _ => none, fun _ => none⟩
theorem cellAt0 {w : World} {b o : Nat} {v : Value} (h : w.cell? ⟨b, o, none⟩ = some v) (h1 : v.oneCell' = true) : cellAt rho0 w b o v := ⟨(fun k hk => nomatch hk), h, h1⟩
theorem RpC_mk {w : World} : ∀ {ds : List D} {cs : List Value} {b o : Nat}, RpL rho0 w ds cs → ds.all D.one = true → (∀ i u, cs[i]? = some u → w.cell? ⟨b, o + i, none⟩ = some u) → RpC rho0 w ds b o
  | [], _, _, _, _, _, _ => by rw [RpC]; trivial
  | d :: r, cs, b, o, h, h1, h2 => by
    rw [RpL] at h
    obtain ⟨v, us, rfl, hv, hr⟩ := h
    rw [List.all_cons, Bool.and_eq_true] at h1
    rw [RpC]
    refine ⟨⟨v, cellAt0 (h2 0 v rfl) (D.one_cell h1.1 hv), hv⟩, RpC_mk hr h1.2 fun i u hu => ?_⟩
    have := h2 (i + 1) u (by simpa using hu)
    rwa [show o + 1 + i = o + (i + 1) by omega]
theorem RpE_mk {w : World} {sz : Nat} : ∀ {els : List D} {b o : Nat}, (∀ e, e ∈ els → e.size = sz ∧ e.cells.all D.one = true) → (∀ i (hi : i < els.length), ∃ cs, RpL rho0 w els[i].cells cs ∧ ∀ j u, cs[j]? = some u → w.cell? ⟨b, o + i * sz + j, none⟩ = some u) → RpE rho0 w els b o
  | [], _, _, _, _ => by rw [RpE]; trivial
  | e :: r, b, o, h, hi => by
    obtain ⟨he, ho⟩ := h e (List.mem_cons_self ..)
    obtain ⟨cs, hc, ha⟩ := hi 0 (by simp)
    have hr : RpE rho0 w r b (o + sz) := RpE_mk (fun x hx => h x (List.mem_cons_of_mem _ hx)) fun i hlt => by
      obtain ⟨cs, h1, h2⟩ := hi (i + 1) (by simpa using hlt)
      refine ⟨cs, by simpa using h1, fun j u hu => ?_⟩
      have := h2 j u hu
      rwa [show o + (i + 1) * sz + j = o + sz + i * sz + j by rw [Nat.add_mul]; omega] at this
    have ha' : ∀ j u, cs[j]? = some u → w.cell? ⟨b, o + j, none⟩ = some u := fun j u hu => by
      have := ha j u hu
      rwa [Nat.zero_mul, Nat.add_zero] at this
    have key : RpC rho0 w e.cells b o := RpC_mk (by simpa using hc) ho ha'
    cases e with
    | agg ds =>
      rw [RpE]
      rw [show o + ds.length = o + sz by rw [← he]; rfl]
      exact ⟨key, hr⟩
    | _ =>
      rw [RpE]
      · have h1 : sz = 1 := he.symm
        rw [h1] at hr
        simp only [D.cells] at key
        rw [RpC] at key
        exact ⟨key.1, hr⟩
      · intro ds hds; cases hds
section
variable {H : Type} {enc : TypeId × Value → H} {w : World} {base : Nat} {sp : Nat → Bool} {held : Bool}
/-- how a slice reads whose elements can be read -/
theorem open_sl {α : Type} (en : α → D) {t e : TypeId} {sz : Nat} (ht : Tryd.prog.underlying t = some (.slice e)) (he : Tryd.prog.cellsOf e = sz) (hsz : 0 < sz) (hes : ∀ x, (en x).size = sz ∧ (en x).cells.all D.one = true) (M : Nat → α → Prop) {fuel : Nat} {cs : List Value} {d : DataW H} {ps : List MemPlace} (hb : Rows.uptoBulk d ≤ 1048576)
    (hE : ∀ f ecs de p, f < fuel → Rows.uptoBulk de < Rows.uptoBulk d → DataW.trod enc Tryd.prog w base sp held f e ecs = some (de, p) → ∃ x, RpL rho0 w (en x).cells ecs ∧ M (Rows.uptoBulk de) x) (hM : ∀ x m n, m ≤ n → M m x → M n x)
    (h : DataW.trod enc Tryd.prog w base sp held fuel t cs = some (d, ps)) : ∃ (v : Value) (xs : List α), cs = [v] ∧ Rp rho0 w (.slice (xs.map en) .any) v ∧ xs.length < Rows.uptoBulk d + 1 ∧ ∀ x, x ∈ xs → M (Rows.uptoBulk d - 1) x := by
  rcases trod_slice ht h with rfl | ⟨fuel', a, len, cap, elems, rest, rfl, rfl, h1, h2, rfl, h3, h4⟩
  · refine ⟨_, [], rfl, ?_, by simp, (fun x hx => nomatch hx)⟩
    rw [Rp]
    exact ⟨none, 0, sz, rfl, by simp, by simp, by simp, (fun e he => nomatch he), trivial, fun h => absurd rfl h⟩
  · have hlen : elems.length + 1 ≤ Rows.uptoBulk (.slice elems rest) := by
      have := bulk_len elems
      simp only [Rows.uptoBulk]; omega
    have key : ∀ i (hi : i < elems.length), ∃ x ecs, w.cells? base (a.add (i * sz)) sz = some ecs ∧ RpL rho0 w (en x).cells ecs ∧ M (Rows.uptoBulk (DataW.slice elems rest) - 1) x := fun i hi => by
      obtain ⟨ecs, p, h5, h6⟩ := h4 i hi
      have hlt : Rows.uptoBulk elems[i] < Rows.uptoBulk (.slice elems rest) := by
        have := bulk_part (List.getElem_mem (l := elems) hi)
        simp only [Rows.uptoBulk]; omega
      obtain ⟨x, h7, h8⟩ := hE fuel' ecs elems[i] p (by omega) hlt h6
      exact ⟨x, ecs, by rw [← he]; exact h5, h7, hM _ _ _ (by omega) h8⟩
    let xs : List α := List.ofFn (n := elems.length) fun i => (key i.1 i.2).choose
    have hxl : xs.length = elems.length := by simp [xs]
    have hget : ∀ i (hi : i < elems.length), xs[i]? = some (key i hi).choose := fun i hi => by simp [xs, List.getElem?_ofFn, hi]
    refine ⟨_, xs, rfl, ?_, by omega, ?_⟩
    · rw [Rp]
      refine ⟨some a, cap, sz, by rw [List.length_map, hxl, h3], by rw [List.length_map]; omega, h2, by rw [List.length_map]; unfold LMax; omega, fun e he => ?_, trivial, fun hne => ?_⟩
      · obtain ⟨x, -, rfl⟩ := List.mem_map.1 he
        exact (hes x).1
      · have h0 : 0 < elems.length := by
          rcases Nat.eq_zero_or_pos elems.length with h | h
          · exact absurd (List.eq_nil_of_length_eq_zero (by rw [List.length_map]; omega)) hne
          · exact h
        obtain ⟨ecs0, c0, -⟩ := (key 0 h0).choose_spec
        rw [show a.add (0 * sz) = a from by simp [Addr.add]] at c0
        obtain ⟨b, o, rfl, hlt, -, -⟩ := cells_at c0 hsz
        refine ⟨b, o, rfl, RpE_mk (sz := sz) (fun e he => ?_) fun i hi => ?_⟩
        · obtain ⟨x, -, rfl⟩ := List.mem_map.1 he
          exact hes x
        · have hi' : i < elems.length := by rw [List.length_map] at hi; omega
          have hx := hget i hi'
          have hx' : (xs.map en)[i] = en (key i hi').choose := by
            rw [List.getElem_map]
            have := List.getElem?_eq_some_iff.1 hx
            exact congrArg en this.2
          rw [hx']
          obtain ⟨ecs, c1, c2, -⟩ := (key i hi').choose_spec
          have hadd : (⟨b, o, none⟩ : Addr).add (i * sz) = ⟨b, o + i * sz, none⟩ := by unfold Addr.add; split <;> simp_all
          rw [hadd] at c1
          obtain ⟨b', o', e, -, c3, c4⟩ := cells_at c1 hsz
          simp only [Addr.mk.injEq, and_true] at e
          obtain ⟨rfl, rfl⟩ := e
          exact ⟨ecs, c2, c4⟩
    · intro x hx
      obtain ⟨i, hi, rfl⟩ := List.getElem_of_mem hx
      have hi' : i < elems.length := by rw [← hxl]; exact hi
      have := hget i hi'
      rw [List.getElem?_eq_getElem hi] at this
      simp only [Option.some.injEq] at this
      rw [this]
      obtain ⟨-, -, -, c⟩ := (key i hi').choose_spec
      exact c
theorem part_under : Tryd.prog.underlying 61 = some (.struct (Tryd.prog.fieldsOf 61)) := by kernel_rfl
theorem level_under : Tryd.prog.underlying 30 = some (.struct (Tryd.prog.fieldsOf 30)) := by kernel_rfl
end
end Go.Proofs.YtgloldepdhgfaaaDoor
namespace Go.Proofs.YtgloldepdhgfaaaDoor
set_option linter.unusedSimpArgs false
set_option linter.unusedVariables false
open Go.RowKit Go.WideShapes Go.ChangeShapes
theorem ex_below {w w' : World} {ρ' : Rho} {H : Nat → HO} (h : Ex rho0 w (hOf []) ρ' w' H) : Below w.heap.size w w' :=
  ⟨h.grow.os, h.grow.tape, h.grow.output, h.grow.size, fun k hk => (h.grow.whole k hk rfl).2⟩
theorem laidOut : laidOutB Tryd.prog = true := by kernel_rfl
section
variable {H : Type} {enc : TypeId × Value → H} {P : Program}
theorem trodAll_stays (hl : laidOutB P = true) {W W' : World} {sp : Nat → Bool} (hb : Below W.heap.size W W') : ∀ (ts : List TypeId) (vs : List Value) (ds : List (DataW H)) (ps : List MemPlace), (∀ t, t ∈ ts → P.readableRec t = true ∧ t < P.types.size) →
    DataW.TrodAll enc P W 0 (fun _ => true) true ts vs ds ps → (∀ x ∈ ps, x.block < W.heap.size) → (∀ x ∈ ps, sp x.block = true) → DataW.TrodAll enc P W' 0 sp true ts vs ds ps
  | [], [], [], ps, _, h, _, _ => h
  | t :: ts, v :: vs, d :: ds, ps, ht, h, hlt, hsp => by
    obtain ⟨p, q, h1, h2, rfl⟩ := h
    obtain ⟨r1, r2⟩ := ht t List.mem_cons_self
    exact ⟨p, q, WideElems.Trod_stays hl r1 r2 h1 (fun x hx => hb.same (hlt x (List.mem_append_left _ hx))) (fun x hx => hsp x (List.mem_append_left _ hx)),
      trodAll_stays hl hb ts vs ds q (fun t h => ht t (List.mem_cons_of_mem _ h)) h2 (fun x hx => hlt x (List.mem_append_right _ hx)) (fun x hx => hsp x (List.mem_append_right _ hx)), rfl⟩
  | [], [], _ :: _, _, _, h, _, _ => h.elim
  | [], _ :: _, _, _, _, h, _, _ => h.elim
  | _ :: _, [], _, _, _, h, _, _ => h.elim
  | _ :: _, _ :: _, [], _, _, h, _, _ => h.elim
theorem post_of_below {f : Func} {s : ChangeSpec} {apart fresh handsOn again : Bool} {W W' : World} {args : Array Value} {v : Value} {ds gs : List (DataW H)} {before pa pv : List MemPlace}
    (hW : DataW.Whole enc P f.params.toList s.vars apart W args.toList ds gs before)
    (hres : ∀ (b : Nat) (sp : Nat → Bool) (hd : Bool), DataW.TrodAll enc P W' b sp hd f.resultTypes.toList (v.resultList f.resultTypes.size) (s.fn H (ds ++ gs)).results [])
    (hargs : ∀ sp : Nat → Bool, (∀ p ∈ before, sp p.block = true) → DataW.TrodAll enc P W' 0 sp true f.params.toList args.toList (s.fn H (ds ++ gs)).args pa)
    (hvars : ∀ sp : Nat → Bool, (∀ p ∈ before, sp p.block = true) → DataW.TrodVars enc P W' sp s.vars (s.fn H (ds ++ gs)).vars pv)
    (hps : before = pa ++ pv) (hb : Below W.heap.size W W')
    (hok : ∀ (j : Nat) (t : TypeId) (r : Value), f.resultTypes[j]? = some t → (v.resultList f.resultTypes.size)[j]? = some r → Value.okWide P W' .any 0 t r) :
    s.post enc P f apart fresh handsOn again W args v W' := by
  have hlt : ∀ p ∈ before, p.block < W.heap.size := fun p hp => hW.lt p hp
  have hold : ∀ p ∈ before, (fun b => decide (b < W.heap.size)) p.block = true := fun p hp => by simpa using hlt p hp
  refine ⟨ds, gs, before, [], pa, pv, hW, hres _ _ _, hargs _ hold, hvars _ hold, World.keptBut_mono (fun p hp => ⟨hp, ?_⟩) (hb.frame (· ∈ before)), fun _ => ?_⟩
  · rw [hps, List.mem_append] at hp
    exact Or.inr hp
  · obtain ⟨_, _, _, _, _, hz, hn⟩ := hW
    refine ⟨hok, _, _, ([] ++ pa) ++ pv, ⟨[] ++ pa, pv, trodAll_append (hargs _ (fun _ _ => rfl)) (hres _ _ _), hvars _ (fun _ _ => rfl), rfl, ?_, ?_⟩, ?_⟩
    · intro b off hp
      have hin : MemPlace.cell b off ∈ before := by rw [hps]; simpa using hp
      rw [hb.frozen (hlt _ hin)]
      exact hz b off hin
    · intro ha
      have := hn ha
      rw [hps] at this
      simpa using this
    · intro p hp _
      rw [hps]
      simpa using hp
/-- the row's end: true is told, memory has grown -/
theorem post_law {f : Func} {s : ChangeSpec} {apart fresh handsOn again : Bool} {W W' : World} {args : Array Value} {ds gs : List (DataW H)} {before : List MemPlace} {tb : TypeId} (hl : laidOutB P = true) (htb : P.underlying tb = some .bool) (hrt : f.resultTypes = #[tb]) (hsv : s.vars = [])
    (hts : ∀ t, t ∈ f.params.toList → P.readableRec t = true ∧ t < P.types.size) (hW : DataW.Whole enc P f.params.toList s.vars apart W args.toList ds gs before) (hs : gs = [] → s.fn H (ds ++ gs) = { results := [.lit (.bool true)], args := ds }) (hb : Below W.heap.size W W') :
    s.post enc P f apart fresh handsOn again W args (.bool true) W' := by
  have hW' := hW
  obtain ⟨p, q, hA, hV, hbf, -, -⟩ := hW
  rw [hsv] at hV
  obtain ⟨rfl, rfl⟩ := trodVars_none hV
  have hs' := hs rfl
  have hlt : ∀ x ∈ p, x.block < W.heap.size := fun x hx => hW'.lt x (by rw [hbf]; simpa using hx)
  refine post_of_below (pa := p) (pv := []) hW' (fun b sp hd => ?_) (fun sp hsp => ?_) (fun sp hsp => ?_) (by rw [hbf]) hb ?_
  · rw [hrt, hs']
    exact trodAll_cons_mk (shut_bool htb _) trodAll_mk0
  · rw [hs']
    exact trodAll_stays hl hb _ _ _ _ hts hA hlt (fun x hx => hsp x (by rw [hbf]; simpa using hx))
  · rw [hs', hsv]; rfl
  · exact ok_one hrt rfl (okWide_bool_mk htb _)
/-! an argument -/
theorem arg_agg {W : World} {base : Nat} {t : TypeId} {v : Value} {fs : Array Field} (ht : P.underlying t = some (.struct fs)) (h : Value.okWide P W .any base t v) : ∃ cs : Array Value, v = .agg cs := by
  unfold Value.okWide at h
  rw [ht] at h
  obtain ⟨cs, h, -⟩ := h
  exact ⟨cs, h⟩
end
section
variable {H : Type} {enc : TypeId × Value → H} {W : World} {base b0 : Nat} {sp : Nat → Bool} {held : Bool} {v : Value} {d : DataW H} {p : List MemPlace}
end
end Go.Proofs.YtgloldepdhgfaaaDoor
namespace Go.Proofs.YtgloldepdhgfaaaDoor
set_option linter.unusedSimpArgs false
set_option linter.unusedVariables false
open Go.RowKit
/-- a constant: how many levels, its type, its body if it has one -/
structure C where
  lv : Int
  ty : T
  has : Bool
  bo : T
def zeroT : T := .mk 0 0 0 [] []
def T.kid (t : T) (i : Nat) : T := t.ks.getD i zeroT
def withK (ks : List T) (x : T) (i many : Nat) : List T := (List.range many).map fun j => if j = i then x else ks.getD j zeroT
def T.withT (t x : T) (i many : Nat) : T := .mk t.k t.n t.a t.ls (withK t.ks x i many)
def ofT (k : Int) (ks : List T) : T := .mk k 0 0 [] ks
/-- the place that decides, how many kids -/
def spot (t : T) : Option (Nat × Nat) :=
  if t.k = 6 then some (0, 2) else if t.k = 14 ∨ t.k = 15 then some (0, 1) else if t.k = 18 then some (4, 5) else if t.k = 21 then some (5, 6)
  else if t.k = 24 ∧ 0 ≤ t.a ∧ (t.ks.length : Int) - 2 = t.a then some (t.a.toNat + 1, t.a.toNat + 2) else none
mutual
/-- how many nodes -/
def T.nsz : T → Nat
  | .mk _ _ _ _ ks => 1 + T.nszs ks
def T.nszs : List T → Nat
  | [] => 0
  | t :: r => T.nsz t + T.nszs r
end
mutual
/-- how many nodes, one of so many put for a variable -/
def T.sd (many : Nat) : T → Int → Nat
  | .mk k n _ _ ks, b => if k = 1 ∧ n = b then many else 1 + T.sds many k ks 0 b
def T.sds (many : Nat) (k : Int) : List T → Nat → Int → Nat
  | [], _, _ => 0
  | t :: r, i, b => T.sd many t (belowD b k i) + T.sds many k r (i + 1) b
end
def bodyC (l : List C) (num : Int) (lv : List LV) : Option T :=
  if h : 0 ≤ num ∧ num.toNat < l.length then if (l[num.toNat]'h.2).lv = lv.length ∧ (l[num.toNat]'h.2).has = true then some ((l[num.toNat]'h.2).bo.levels lv 0) else none else none
def treeT (t s : T) : T :=
  let a := s.kid 0
  let f := s.kid 1
  let rest := ofT 18 [(t.kid 0).lift 1 0 0, (t.kid 1).lift 1 1 0, (t.kid 2).lift 1 0 0, (t.kid 3).lift 1 0 0, ofT 6 [f.lift 1 0 0, ofT 1 []]]
  ofT 6 [ofT 6 [ofT 6 [t.kid 3, a], f], ofT 5 [(t.kid 1).put [a] 0, rest]]
def treeN (t s : T) : Nat :=
  let a := s.kid 0
  let f := s.kid 1
  7 + (a.nsz + f.nsz + f.nsz + (t.kid 3).nsz + (t.kid 3).nsz + (t.kid 0).nsz + (t.kid 1).nsz + (t.kid 2).nsz) + (t.kid 1).sd a.nsz 0
/-- a term's own step, its place at its head -/
def ownS (l : List C) (t x : T) : Option (T × Nat) :=
  if t.k = 6 then if x.k = 5 then some ((x.kid 1).put [t.kid 1] 0, (x.kid 1).sd (t.kid 1).nsz 0) else none
  else if t.k = 14 ∨ t.k = 15 then if x.k = 13 then some (x.kid (if t.k = 15 then 1 else 0), (x.kid (if t.k = 15 then 1 else 0)).nsz) else none
  else if t.k = 7 then some ((t.kid 2).put [t.kid 1] 0, (t.kid 2).sd (t.kid 1).nsz 0)
  else if t.k = 3 then (bodyC l t.n t.ls).map fun b => (b, b.nsz)
  else if t.k = 18 then if x.k = 17 then some (treeT t x, treeN t x) else none
  else if t.k = 21 then if x.k = 20 then some (t.kid 3, (t.kid 3).nsz) else none
  else if t.k = 24 ∧ (spot t).isSome then if x.k = 23 ∧ 0 ≤ x.n ∧ x.n < t.a then some (t.kid (x.n.toNat + 1), (t.kid (x.n.toNat + 1)).nsz) else none
  else none
/-- what is left of a term that does not step -/
def T.trunc (t : T) : T :=
  match spot t with
  | none => t
  | some (i, many) => if h : i < t.ks.length then t.withT (T.trunc t.ks[i]) i many else t.withT zeroT i many
termination_by t.deep
decreasing_by
  cases t with
  | mk k n a ls ks => exact T.deep_kid (List.getElem_mem h)
/-- the first step of a term's head, what it costs -/
def hstep (l : List C) (t : T) : Option (T × Nat) :=
  match spot t with
  | none => ownS l t zeroT
  | some (i, many) => if h : i < t.ks.length then (match hstep l t.ks[i] with
      | some u => some (t.withT u.1 i many, u.2)
      | none => ownS l (t.withT (T.trunc t.ks[i]) i many) (T.trunc t.ks[i])) else ownS l (t.withT zeroT i many) zeroT
termination_by t.deep
decreasing_by
  cases t with
  | mk k n a ls ks => exact T.deep_kid (List.getElem_mem h)
/-- comes to its head, at a cost -/
inductive Hd (l : List C) : T → Nat → T → Prop where
  | stop {t : T} (h : hstep l t = none) : Hd l t 0 t.trunc
  | step {t u v : T} {c n : Nat} (h : hstep l t = some (u, c)) (r : Hd l u n v) : Hd l t (c + n) v
/-- the fuel is gone ahead of that -/
inductive Gone (l : List C) : T → Int → Prop where
  | now {t u : T} {c : Nat} {f : Int} (h : hstep l t = some (u, c)) (hf : f < c) : Gone l t f
  | later {t u : T} {c : Nat} {f : Int} (h : hstep l t = some (u, c)) (hf : (c : Int) ≤ f) (r : Gone l u (f - c)) : Gone l t f
mutual
theorem T.sd_pos (many : Nat) (hm : 1 ≤ many) : ∀ (t : T) (b : Int), 1 ≤ t.sd many b
  | .mk k n a ls ks, b => by
    rw [T.sd]
    split <;> omega
end
mutual
theorem T.sd_le (many : Nat) (hm : 1 ≤ many) : ∀ (t : T) (b : Int), t.sd many b ≤ t.nsz * many
  | .mk k n a ls ks, b => by
    rw [T.sd, T.nsz]
    split
    · exact Nat.le_mul_of_pos_left _ (by omega)
    · have := T.sds_le many hm k ks 0 b
      rw [Nat.add_mul]
      omega
theorem T.sds_le (many : Nat) (hm : 1 ≤ many) (k : Int) : ∀ (ks : List T) (i : Nat) (b : Int), T.sds many k ks i b ≤ T.nszs ks * many
  | [], _, _ => by rw [T.sds]; omega
  | t :: r, i, b => by
    have h1 := T.sd_le many hm t (belowD b k i)
    have h2 := T.sds_le many hm k r (i + 1) b
    rw [T.sds, T.nszs, Nat.add_mul]
    omega
end
mutual
theorem nsz_lift (n fr : Int) : ∀ (t : T) (d : Int), (T.walk (liftTurn n fr) t d).nsz = t.nsz
  | .mk k m a ls ks, d => by rw [walk_lift, T.nsz, T.nsz, nszs_lift n fr k ks 0 d]
theorem nszs_lift (n fr k : Int) : ∀ (ks : List T) (i : Nat) (d : Int), T.nszs (T.walks (liftTurn n fr) k ks i d) = T.nszs ks
  | [], _, _ => by rw [T.walks]
  | t :: r, i, d => by rw [T.walks, T.nszs, T.nszs, nsz_lift n fr t, nszs_lift n fr k r]
end
mutual
theorem nsz_levels (bys : List LV) : ∀ (t : T) (d : Int), (T.walk (levTurn bys) t d).nsz = t.nsz
  | .mk k m a ls ks, d => by rw [walk_inr (f := levTurn bys) (x := (m, ls.map fun l => normOf (putL l bys))) rfl, T.nsz, T.nsz, nszs_levels bys k ks 0 d]
theorem nszs_levels (bys : List LV) (k : Int) : ∀ (ks : List T) (i : Nat) (d : Int), T.nszs (T.walks (levTurn bys) k ks i d) = T.nszs ks
  | [], _, _ => by rw [T.walks]
  | t :: r, i, d => by rw [T.walks, T.nszs, T.nszs, nsz_levels bys t, nszs_levels bys k r]
end
end Go.Proofs.YtgloldepdhgfaaaDoor
namespace Go.Proofs.YtgloldepdhgfaaaDoor
set_option linter.unusedSimpArgs false
set_option linter.unusedVariables false
open Go.RowKit Go.WideShapes Go.ChangeShapes
set_option maxRecDepth 100000
theorem sum_bulk {H α : Type} : ∀ (xs : List α) (elems : List (DataW H)) (μ : α → Nat), xs.length = elems.length → (∀ i (h : i < xs.length) (h' : i < elems.length), μ xs[i] ≤ Rows.uptoBulk elems[i]) → (xs.map μ).sum ≤ Rows.uptoBulkAll elems
  | [], [], μ, _, _ => by simp
  | [], _ :: _, μ, h, _ => by simp at h
  | _ :: _, [], μ, h, _ => by simp at h
  | x :: r, e :: s, μ, h, h2 => by
    simp only [List.map_cons, List.sum_cons, Rows.uptoBulkAll]
    have h3 := h2 0 (by simp) (by simp)
    simp only [List.getElem_cons_zero] at h3
    have h4 := sum_bulk r s μ (by simpa using h) (fun i h5 h6 => by
      have := h2 (i + 1) (by simpa using h5) (by simpa using h6)
      simpa using this)
    omega
theorem nszs_sum : ∀ l : List T, T.nszs l = (l.map T.nsz).sum
  | [] => by rw [T.nszs]; rfl
  | t :: r => by rw [T.nszs, nszs_sum r]; rfl
section
variable {H : Type} {enc : TypeId × Value → H} {w : World} {base : Nat} {sp : Nat → Bool} {held : Bool}
/-- how a slice reads whose elements can be read -/
theorem open_sl2 {α : Type} (en : α → D) {t e : TypeId} {sz : Nat} (ht : Tryd.prog.underlying t = some (.slice e)) (he : Tryd.prog.cellsOf e = sz) (hsz : 0 < sz) (hes : ∀ x, (en x).size = sz ∧ (en x).cells.all D.one = true) (M : Nat → α → Prop) {fuel : Nat} {cs : List Value} {d : DataW H} {ps : List MemPlace} (hb : Rows.uptoBulk d ≤ 1048576)
    (hE : ∀ f ecs de p, f < fuel → Rows.uptoBulk de < Rows.uptoBulk d → DataW.trod enc Tryd.prog w base sp held f e ecs = some (de, p) → ∃ x, RpL rho0 w (en x).cells ecs ∧ M (Rows.uptoBulk de) x) (hM : ∀ x m n, m ≤ n → M m x → M n x)
    (h : DataW.trod enc Tryd.prog w base sp held fuel t cs = some (d, ps)) : ∃ (v : Value) (xs : List α), cs = [v] ∧ Rp rho0 w (.slice (xs.map en) .any) v ∧ xs.length < Rows.uptoBulk d + 1 ∧ (∀ x, x ∈ xs → M (Rows.uptoBulk d - 1) x) ∧ ∀ μ : α → Nat, (∀ x m, M m x → μ x ≤ m) → (xs.map μ).sum + 1 ≤ Rows.uptoBulk d := by
  rcases trod_slice ht h with rfl | ⟨fuel', a, len, cap, elems, rest, rfl, rfl, h1, h2, rfl, h3, h4⟩
  · refine ⟨_, [], rfl, ?_, by simp, (fun x hx => nomatch hx), fun μ _ => by have := bulk_one d; simp; omega⟩
    rw [Rp]
    exact ⟨none, 0, sz, rfl, by simp, by simp, by simp, (fun e he => nomatch he), trivial, fun h => absurd rfl h⟩
  · have hlen : elems.length + 1 ≤ Rows.uptoBulk (.slice elems rest) := by
      have := bulk_len elems
      simp only [Rows.uptoBulk]; omega
    have key : ∀ i (hi : i < elems.length), ∃ x ecs, w.cells? base (a.add (i * sz)) sz = some ecs ∧ RpL rho0 w (en x).cells ecs ∧ M (Rows.uptoBulk (DataW.slice elems rest) - 1) x ∧ M (Rows.uptoBulk elems[i]) x := fun i hi => by
      obtain ⟨ecs, p, h5, h6⟩ := h4 i hi
      have hlt : Rows.uptoBulk elems[i] < Rows.uptoBulk (.slice elems rest) := by
        have := bulk_part (List.getElem_mem (l := elems) hi)
        simp only [Rows.uptoBulk]; omega
      obtain ⟨x, h7, h8⟩ := hE fuel' ecs elems[i] p (by omega) hlt h6
      exact ⟨x, ecs, by rw [← he]; exact h5, h7, hM _ _ _ (by omega) h8, h8⟩
    let xs : List α := List.ofFn (n := elems.length) fun i => (key i.1 i.2).choose
    have hxl : xs.length = elems.length := by simp [xs]
    have hget : ∀ i (hi : i < elems.length), xs[i]? = some (key i hi).choose := fun i hi => by simp [xs, List.getElem?_ofFn, hi]
    refine ⟨_, xs, rfl, ?_, by omega, ?_, ?_⟩
    · rw [Rp]
      refine ⟨some a, cap, sz, by rw [List.length_map, hxl, h3], by rw [List.length_map]; omega, h2, by rw [List.length_map]; unfold LMax; omega, fun e he => ?_, trivial, fun hne => ?_⟩
      · obtain ⟨x, -, rfl⟩ := List.mem_map.1 he
        exact (hes x).1
      · have h0 : 0 < elems.length := by
          rcases Nat.eq_zero_or_pos elems.length with h | h
          · exact absurd (List.eq_nil_of_length_eq_zero (by rw [List.length_map]; omega)) hne
          · exact h
        obtain ⟨ecs0, c0, -⟩ := (key 0 h0).choose_spec
        rw [show a.add (0 * sz) = a from by simp [Addr.add]] at c0
        obtain ⟨b, o, rfl, hlt, -, -⟩ := cells_at c0 hsz
        refine ⟨b, o, rfl, RpE_mk (sz := sz) (fun e he => ?_) fun i hi => ?_⟩
        · obtain ⟨x, -, rfl⟩ := List.mem_map.1 he
          exact hes x
        · have hi' : i < elems.length := by rw [List.length_map] at hi; omega
          have hx := hget i hi'
          have hx' : (xs.map en)[i] = en (key i hi').choose := by
            rw [List.getElem_map]
            have := List.getElem?_eq_some_iff.1 hx
            exact congrArg en this.2
          rw [hx']
          obtain ⟨ecs, c1, c2, -⟩ := (key i hi').choose_spec
          have hadd : (⟨b, o, none⟩ : Addr).add (i * sz) = ⟨b, o + i * sz, none⟩ := by unfold Addr.add; split <;> simp_all
          rw [hadd] at c1
          obtain ⟨b', o', e, -, c3, c4⟩ := cells_at c1 hsz
          simp only [Addr.mk.injEq, and_true] at e
          obtain ⟨rfl, rfl⟩ := e
          exact ⟨ecs, c2, c4⟩
    · intro x hx
      obtain ⟨i, hi, rfl⟩ := List.getElem_of_mem hx
      have hi' : i < elems.length := by rw [← hxl]; exact hi
      have := hget i hi'
      rw [List.getElem?_eq_getElem hi] at this
      simp only [Option.some.injEq] at this
      rw [this]
      obtain ⟨-, -, -, c, -⟩ := (key i hi').choose_spec
      exact c
    · intro μ hμ
      have := sum_bulk xs elems μ hxl fun i h1 h2 => by
        have := hget i h2
        rw [List.getElem?_eq_getElem h1] at this
        simp only [Option.some.injEq] at this
        rw [this]
        obtain ⟨-, -, -, -, c⟩ := (key i h2).choose_spec
        exact hμ _ _ c
      simp only [Rows.uptoBulk]
      omega
theorem ok_bounds {n : Int} (h : IntKind.i64.min ≤ n ∧ n ≤ IntKind.i64.max) : I64 n := by
  simp [IntKind.min, IntKind.max, IntKind.signed, IntKind.bits] at h
  unfold I64
  omega
theorem open_part2 {fuel : Nat} {cs : List Value} {d : DataW H} {ps : List MemPlace} (h : DataW.trod enc Tryd.prog w base sp held fuel 61 cs = some (d, ps)) : ∃ p : Int × Int, RpL rho0 w (encP p).cells cs ∧ I64 p.1 ∧ I64 p.2 := by
  obtain ⟨h1, h2⟩ := trod_fields (l := [(3, 0), (3, 1)]) part_under (by kernel_rfl) h
  rw [show Tryd.prog.cellsOf 61 = 2 from by kernel_rfl] at h1
  obtain ⟨f0, d0, p0, -, -, e0⟩ := h2 0 _ _ rfl
  obtain ⟨f1, d1, p1, -, -, e1⟩ := h2 1 _ _ rfl
  rw [show Tryd.prog.cellsOf 3 = 1 from by kernel_rfl] at e0 e1
  obtain ⟨c0, c1, rfl⟩ := len2 h1
  obtain ⟨n0, k0, b0⟩ := trod_int Tryd.underlying3 e0
  obtain ⟨n1, k1, b1⟩ := trod_int Tryd.underlying3 e1
  simp at k0 k1
  subst k0; subst k1
  refine ⟨(n0, n1), ?_, ok_bounds b0, ok_bounds b1⟩
  show RpL rho0 w [.int .i64 n0, .int .i64 n1] _
  simp only [RpL, Rp]
  exact ⟨_, _, rfl, ⟨rfl, b0⟩, _, _, rfl, ⟨rfl, b1⟩, rfl⟩
theorem open_level2 {fuel : Nat} {cs : List Value} {d : DataW H} {ps : List MemPlace} (hb : Rows.uptoBulk d ≤ 1048576) (h : DataW.trod enc Tryd.prog w base sp held fuel 30 cs = some (d, ps)) : ∃ l : LV, RpL rho0 w (encL l).cells cs ∧ okL l ∧ l.length ≤ Rows.uptoBulk d := by
  obtain ⟨h1, h2⟩ := trod_fields (l := [(28, 0)]) level_under (by kernel_rfl) h
  rw [show Tryd.prog.cellsOf 30 = 1 from by kernel_rfl] at h1
  obtain ⟨f0, d0, p0, -, hb0, e0⟩ := h2 0 _ _ rfl
  rw [show Tryd.prog.cellsOf 28 = 1 from by kernel_rfl] at e0
  obtain ⟨c0, rfl⟩ := len1 h1
  obtain ⟨v, xs, k0, hs, hl, hm⟩ := open_sl encP (sz := 2) Tryd.underlying28 (by kernel_rfl) (by omega) (fun x => ⟨rfl, rfl⟩) (fun _ p => I64 p.1 ∧ I64 p.2) (by omega) (fun f ecs de p _ _ he => (open_part2 he).imp fun _ h => h) (fun _ _ _ _ h => h) e0
  simp at k0
  subst k0
  refine ⟨xs, ?_, ⟨by unfold LMax; omega, hm⟩, by omega⟩
  show RpL rho0 w [.slice (xs.map encP) .any] _
  rw [RpL]
  exact ⟨_, [], rfl, hs, by rw [RpL]⟩
theorem open_levels2 {fuel : Nat} {cs : List Value} {d : DataW H} {ps : List MemPlace} (hb : Rows.uptoBulk d ≤ 1048576) (h : DataW.trod enc Tryd.prog w base sp held fuel 24 cs = some (d, ps)) : ∃ v ls, cs = [v] ∧ Rp rho0 w (Lvs ls) v ∧ ls.length ≤ 1048576 ∧ ∀ l, l ∈ ls → okL l ∧ l.length ≤ 1048576 := by
  obtain ⟨v, xs, k0, hs, hl, hm⟩ := open_sl encL (sz := 1) Tryd.underlying24 (by kernel_rfl) (by omega) (fun x => ⟨rfl, rfl⟩) (fun m l => okL l ∧ l.length ≤ m) hb (fun f ecs de p _ hlt he => (open_level2 (by omega) he).imp fun _ h => h) (fun _ _ _ h1 h2 => ⟨h2.1, Nat.le_trans h2.2 h1⟩) h
  exact ⟨v, xs, k0, hs, by omega, fun l hl => by have := hm l hl; exact ⟨this.1, by omega⟩⟩
theorem term_under : Tryd.prog.underlying 27 = some (.struct (Tryd.prog.fieldsOf 27)) := by kernel_rfl
theorem kind_under : Tryd.prog.underlying 23 = some (.int .i64) := by kernel_rfl
theorem encT_ones (t : T) : (encT t).cells.all D.one = true := by rw [encT_cells]; rfl
theorem open_term2 : ∀ (fuel : Nat) {cs : List Value} {d : DataW H} {ps : List MemPlace}, Rows.uptoBulk d ≤ 1048576 → DataW.trod enc Tryd.prog w base sp held fuel 27 cs = some (d, ps) → ∃ t : T, RpL rho0 w (encT t).cells cs ∧ okT t ∧ t.nsz ≤ Rows.uptoBulk d := by
  intro fuel
  induction fuel using Nat.strongRecOn with
  | ind fuel ih =>
    intro cs d ps hb h
    obtain ⟨h1, h2⟩ := trod_fields (l := [(23, 0), (3, 1), (3, 2), (24, 3), (25, 4)]) term_under (by kernel_rfl) h
    rw [show Tryd.prog.cellsOf 27 = 5 from by kernel_rfl] at h1
    obtain ⟨f0, d0, p0, -, -, e0⟩ := h2 0 _ _ rfl
    obtain ⟨f1, d1, p1, -, -, e1⟩ := h2 1 _ _ rfl
    obtain ⟨f2, d2, p2, -, -, e2⟩ := h2 2 _ _ rfl
    obtain ⟨f3, d3, p3, -, hb3, e3⟩ := h2 3 _ _ rfl
    obtain ⟨f4, d4, p4, hf4, hb4, e4⟩ := h2 4 _ _ rfl
    rw [show Tryd.prog.cellsOf 3 = 1 from by kernel_rfl] at e1 e2
    rw [show Tryd.prog.cellsOf 23 = 1 from by kernel_rfl] at e0
    rw [show Tryd.prog.cellsOf 24 = 1 from by kernel_rfl] at e3
    rw [show Tryd.prog.cellsOf 25 = 1 from by kernel_rfl] at e4
    obtain ⟨c0, c1, c2, c3, c4, rfl⟩ := len5 h1
    obtain ⟨n0, k0, b0⟩ := trod_int kind_under e0
    obtain ⟨n1, k1, b1⟩ := trod_int Tryd.underlying3 e1
    obtain ⟨n2, k2, b2⟩ := trod_int Tryd.underlying3 e2
    obtain ⟨v3, ls, k3, hl, ll, hls⟩ := open_levels2 (by omega) e3
    obtain ⟨v4, ks, k4, hk, lk, hks, hsum⟩ := open_sl2 encT (sz := 5) Tryd.underlying25 (by kernel_rfl) (by omega) (fun x => ⟨encT_size x, encT_ones x⟩) (fun m t => okT t ∧ t.nsz ≤ m) (by omega)
      (fun f ecs de p hf hlt he => (ih f (by omega) (by omega) he).imp fun _ h => h) (fun x m n hmn hx => ⟨hx.1, by omega⟩) e4
    simp at k0 k1 k2 k3 k4
    subst k0; subst k1; subst k2; subst k3; subst k4
    refine ⟨.mk n0 n1 n2 ls ks, ?_, .mk (ok_bounds b0) (ok_bounds b1) (ok_bounds b2) (by unfold LMax; omega) (fun l h => (hls l h).1) (by unfold LMax; omega) (fun t h => (hks t h).1), ?_⟩
    · rw [encT_cells]
      simp only [T.k_mk, T.n_mk, T.a_mk, T.ls_mk, T.ks_mk]
      refine RpL_cons'.2 ⟨by rw [Rp]; exact ⟨rfl, b0⟩, RpL_cons'.2 ⟨by rw [Rp]; exact ⟨rfl, b1⟩, RpL_cons'.2 ⟨by rw [Rp]; exact ⟨rfl, b2⟩, RpL_cons'.2 ⟨hl, RpL_cons'.2 ⟨hk, by rw [RpL]⟩⟩⟩⟩⟩
    · rw [T.nsz, nszs_sum]
      have := hsum T.nsz (fun x m h => h.2)
      omega
theorem open_terms2 {fuel : Nat} {cs : List Value} {d : DataW H} {ps : List MemPlace} (hb : Rows.uptoBulk d ≤ 1048576) (h : DataW.trod enc Tryd.prog w base sp held fuel 25 cs = some (d, ps)) :
    ∃ v ts, cs = [v] ∧ Rp rho0 w (Ts ts) v ∧ ts.length ≤ 1048576 ∧ ∀ t, t ∈ ts → okT t ∧ t.nsz ≤ 1048576 := by
  obtain ⟨v, ts, k, hs, hl, hd⟩ := open_sl encT (sz := 5) Tryd.underlying25 (by kernel_rfl) (by omega) (fun x => ⟨encT_size x, encT_ones x⟩) (fun m t => okT t ∧ t.nsz ≤ m) hb
    (fun f ecs de p hf hlt he => (open_term2 f (by omega) he).imp fun _ h => h) (fun x m n hmn hx => ⟨hx.1, by omega⟩) h
  exact ⟨v, ts, k, hs, by omega, fun t ht => by have := hd t ht; exact ⟨this.1, by omega⟩⟩
variable {W : World} {b0 : Nat} {v : Value} {d : DataW H} {p : List MemPlace}
set_option maxRecDepth 100000 in
theorem argT (hk : Rows.uptoBulk d ≤ 1048576) (hv : Value.okWide Tryd.prog W .any base 27 v) (h : DataW.Trod enc Tryd.prog W b0 sp held 27 v d p) : ∃ t : T, Rp rho0 W (encT t) v ∧ okT t ∧ t.nsz ≤ 1048576 := by
  obtain ⟨cs, rfl⟩ := arg_agg term_under hv
  obtain ⟨fuel, hf⟩ := h
  obtain ⟨t, ht, h1, h2⟩ := open_term2 fuel hk hf
  refine ⟨t, ?_, h1, by omega⟩
  rw [encT_cells] at ht
  rw [encT_eq, Rp]
  exact ⟨_, (by cases cs; rfl), ht⟩
theorem argI (hv : Value.okWide Tryd.prog W .any base 3 v) (h : DataW.Trod enc Tryd.prog W b0 sp held 3 v d p) : ∃ n : Int, Rp rho0 W (.int .i64 n) v ∧ I64 n := by
  obtain ⟨n, rfl⟩ := Go.WideShapes.okWide_int Tryd.underlying3 hv
  obtain ⟨fuel, hf⟩ := h
  obtain ⟨n', hn, hb⟩ := trod_int Tryd.underlying3 hf
  have hn : ([Value.int .i64 n] : List Value) = [.int .i64 n'] := hn
  have : n = n' := by simpa using hn
  subst this
  exact ⟨n, by rw [Rp]; exact ⟨rfl, hb⟩, ok_bounds hb⟩
end
end Go.Proofs.YtgloldepdhgfaaaDoor
namespace Go.Proofs.YtgloldepdhgfaaaDoor
set_option linter.unusedSimpArgs false
set_option linter.unusedVariables false
open Go.RowKit Go.WideShapes Go.ChangeShapes
set_option maxRecDepth 100000
theorem trod_u8 {H : Type} {enc : TypeId × Value → H} {P : Program} {w : World} {base : Nat} {sp : Nat → Bool} {held : Bool} {fuel : Nat} {t : TypeId} {cs : List Value} {d : DataW H} {ps : List MemPlace} (ht : P.underlying t = some (.int .u8)) (h : DataW.trod enc P w base sp held fuel t cs = some (d, ps)) : ∃ n, cs = [.int .u8 n] ∧ IntKind.u8.min ≤ n ∧ n ≤ IntKind.u8.max := by
  cases fuel with
  | zero => simp [DataW.trod] at h
  | succ fuel =>
    unfold DataW.trod at h
    rw [ht] at h
    rcases cs with _ | ⟨v, _ | ⟨v2, r⟩⟩
    · simp at h
    · cases v <;> simp at h
      rename_i k n
      obtain ⟨⟨rfl, hw⟩, -⟩ := h
      refine ⟨n, rfl, ?_⟩
      simp only [Lit.wf, Bool.and_eq_true, decide_eq_true_eq] at hw
      exact hw
    · simp at h
theorem len6 {l : List Value} (h : l.length = 6) : ∃ a b c d e f, l = [a, b, c, d, e, f] := by
  rcases l with _ | ⟨a, r⟩
  · cases h
  · obtain ⟨b, c, d, e, f, rfl⟩ := len5 (l := r) (by simpa using h)
    exact ⟨a, b, c, d, e, f, rfl⟩
theorem len16 {l : List Value} (h : l.length = 16) : ∃ a b c d e f g i j k m n o p q r, l = [a, b, c, d, e, f, g, i, j, k, m, n, o, p, q, r] := by
  have h1 : (l.take 6).length = 6 := by simp [h]
  have h2 : ((l.drop 6).take 5).length = 5 := by simp [h]
  have h3 : ((l.drop 6).drop 5).length = 5 := by simp [h]
  obtain ⟨a, b, c, d, e, f, e1⟩ := len6 h1
  obtain ⟨g, i, j, k, m, e2⟩ := len5 h2
  obtain ⟨n, o, p, q, r, e3⟩ := len5 h3
  refine ⟨a, b, c, d, e, f, g, i, j, k, m, n, o, p, q, r, ?_⟩
  rw [← List.take_append_drop 6 l, e1, ← List.take_append_drop 5 (l.drop 6), e2, e3]
  rfl
section
variable {H : Type} {enc : TypeId × Value → H} {w : World} {base : Nat} {sp : Nat → Bool} {held : Bool}
theorem member_under : Tryd.prog.underlying 63 = some (.struct (Tryd.prog.fieldsOf 63)) := by kernel_rfl
theorem ctor_under : Tryd.prog.underlying 65 = some (.struct (Tryd.prog.fieldsOf 65)) := by kernel_rfl
theorem decl_under : Tryd.prog.underlying 34 = some (.struct (Tryd.prog.fieldsOf 34)) := by kernel_rfl
theorem dkind_under : Tryd.prog.underlying 22 = some (.int .i64) := by kernel_rfl
theorem encMb_cells (r : List T) : (encMb r).cells = [.slice (r.map encT) .any] := rfl
theorem encCt_cells (c : Int × T) : (encCt c).cells = [.int .i64 c.1, .int .i64 c.2.k, .int .i64 c.2.n, .int .i64 c.2.a, .slice (c.2.ls.map encL) .any, .slice (c.2.ks.map encT) .any] := rfl
theorem encDe_cells (d : De) : (encDe d).cells = decL d := rfl
theorem open_member {fuel : Nat} {cs : List Value} {d : DataW H} {ps : List MemPlace} (hb : Rows.uptoBulk d ≤ 1048576) (h : DataW.trod enc Tryd.prog w base sp held fuel 63 cs = some (d, ps)) : ∃ r : List T, RpL rho0 w (encMb r).cells cs ∧ r.length ≤ LMax ∧ ∀ t, t ∈ r → okT t := by
  obtain ⟨h1, h2⟩ := trod_fields (l := [(25, 0)]) member_under (by kernel_rfl) h
  rw [show Tryd.prog.cellsOf 63 = 1 from by kernel_rfl] at h1
  obtain ⟨f0, d0, p0, -, hb0, e0⟩ := h2 0 _ _ rfl
  rw [show Tryd.prog.cellsOf 25 = 1 from by kernel_rfl] at e0
  obtain ⟨c0, rfl⟩ := len1 h1
  obtain ⟨v, ts, k0, hs, hl, hm⟩ := open_terms2 (by omega) e0
  simp at k0
  subst k0
  refine ⟨ts, ?_, by unfold LMax; omega, fun t ht => (hm t ht).1⟩
  rw [encMb_cells]
  exact RpL_cons'.2 ⟨hs, by rw [RpL]⟩
theorem open_ctor {fuel : Nat} {cs : List Value} {d : DataW H} {ps : List MemPlace} (hb : Rows.uptoBulk d ≤ 1048576) (h : DataW.trod enc Tryd.prog w base sp held fuel 65 cs = some (d, ps)) : ∃ c : Int × T, RpL rho0 w (encCt c).cells cs ∧ I64 c.1 ∧ okT c.2 := by
  obtain ⟨h1, h2⟩ := trod_fields (l := [(3, 0), (27, 1)]) ctor_under (by kernel_rfl) h
  rw [show Tryd.prog.cellsOf 65 = 6 from by kernel_rfl] at h1
  obtain ⟨f0, d0, p0, -, -, e0⟩ := h2 0 _ _ rfl
  obtain ⟨f1, d1, p1, -, hb1, e1⟩ := h2 1 _ _ rfl
  rw [show Tryd.prog.cellsOf 3 = 1 from by kernel_rfl] at e0
  rw [show Tryd.prog.cellsOf 27 = 5 from by kernel_rfl] at e1
  obtain ⟨a, b, c, d, e, f, rfl⟩ := len6 h1
  obtain ⟨n0, k0, b0⟩ := trod_int Tryd.underlying3 e0
  obtain ⟨t, r1, o1, -⟩ := open_term2 f1 (by omega) e1
  simp at k0
  subst k0
  refine ⟨(n0, t), ?_, ok_bounds b0, o1⟩
  rw [encT_cells] at r1
  have r1 : RpL rho0 w _ [b, c, d, e, f] := r1
  rw [encCt_cells]
  exact RpL_cons'.2 ⟨by rw [Rp]; exact ⟨rfl, b0⟩, r1⟩
theorem open_members {fuel : Nat} {cs : List Value} {d : DataW H} {ps : List MemPlace} (hb : Rows.uptoBulk d ≤ 1048576) (h : DataW.trod enc Tryd.prog w base sp held fuel 31 cs = some (d, ps)) : ∃ (v : Value) (l : List (List T)), cs = [v] ∧ Rp rho0 w (.slice (l.map encMb) .any) v ∧ l.length ≤ LMax ∧ ∀ r, r ∈ l → r.length ≤ LMax ∧ ∀ t, t ∈ r → okT t := by
  obtain ⟨v, xs, k0, hs, hl, hm⟩ := open_sl encMb (sz := 1) Tryd.underlying31 (by kernel_rfl) (by omega) (fun x => ⟨rfl, rfl⟩) (fun _ r => r.length ≤ LMax ∧ ∀ t, t ∈ r → okT t) hb (fun f ecs de p _ hlt he => open_member (by omega) he) (fun _ _ _ _ h => h) h
  exact ⟨v, xs, k0, hs, by unfold LMax; omega, hm⟩
theorem open_ctors {fuel : Nat} {cs : List Value} {d : DataW H} {ps : List MemPlace} (hb : Rows.uptoBulk d ≤ 1048576) (h : DataW.trod enc Tryd.prog w base sp held fuel 32 cs = some (d, ps)) : ∃ (v : Value) (l : List (Int × T)), cs = [v] ∧ Rp rho0 w (.slice (l.map encCt) .any) v ∧ l.length ≤ LMax ∧ ∀ c, c ∈ l → I64 c.1 ∧ okT c.2 := by
  obtain ⟨v, xs, k0, hs, hl, hm⟩ := open_sl encCt (sz := 6) Tryd.underlying32 (by kernel_rfl) (by omega) (fun x => ⟨rfl, rfl⟩) (fun _ c => I64 c.1 ∧ okT c.2) hb (fun f ecs de p _ hlt he => open_ctor (by omega) he) (fun _ _ _ _ h => h) h
  exact ⟨v, xs, k0, hs, by unfold LMax; omega, hm⟩
theorem open_decl {fuel : Nat} {cs : List Value} {d : DataW H} {ps : List MemPlace} (hb : Rows.uptoBulk d ≤ 1048576) (h : DataW.trod enc Tryd.prog w base sp held fuel 34 cs = some (d, ps)) : ∃ x : De, RpL rho0 w (encDe x).cells cs ∧ okDe x := by
  obtain ⟨h1, h2⟩ := trod_fields (l := [(22, 0), (3, 1), (27, 2), (27, 7), (25, 12), (30, 13), (31, 14), (32, 15)]) decl_under (by kernel_rfl) h
  rw [show Tryd.prog.cellsOf 34 = 16 from by kernel_rfl] at h1
  obtain ⟨f0, d0, p0, -, -, e0⟩ := h2 0 _ _ rfl
  obtain ⟨f1, d1, p1, -, -, e1⟩ := h2 1 _ _ rfl
  obtain ⟨f2, d2, p2, -, hb2, e2⟩ := h2 2 _ _ rfl
  obtain ⟨f3, d3, p3, -, hb3, e3⟩ := h2 3 _ _ rfl
  obtain ⟨f4, d4, p4, -, hb4, e4⟩ := h2 4 _ _ rfl
  obtain ⟨f5, d5, p5, -, hb5, e5⟩ := h2 5 _ _ rfl
  obtain ⟨f6, d6, p6, -, hb6, e6⟩ := h2 6 _ _ rfl
  obtain ⟨f7, d7, p7, -, hb7, e7⟩ := h2 7 _ _ rfl
  rw [show Tryd.prog.cellsOf 22 = 1 from by kernel_rfl] at e0
  rw [show Tryd.prog.cellsOf 3 = 1 from by kernel_rfl] at e1
  rw [show Tryd.prog.cellsOf 27 = 5 from by kernel_rfl] at e2 e3
  rw [show Tryd.prog.cellsOf 25 = 1 from by kernel_rfl] at e4
  rw [show Tryd.prog.cellsOf 30 = 1 from by kernel_rfl] at e5
  rw [show Tryd.prog.cellsOf 31 = 1 from by kernel_rfl] at e6
  rw [show Tryd.prog.cellsOf 32 = 1 from by kernel_rfl] at e7
  obtain ⟨a, b, c, d, e, f, g, i, j, k, m, n, o, p, q, r, rfl⟩ := len16 h1
  obtain ⟨n0, k0, b0⟩ := trod_int dkind_under e0
  obtain ⟨n1, k1, b1⟩ := trod_int Tryd.underlying3 e1
  obtain ⟨ty, r2, o2, -⟩ := open_term2 f2 (by omega) e2
  obtain ⟨bo, r3, o3, -⟩ := open_term2 f3 (by omega) e3
  obtain ⟨v4, ps', k4, r4, l4, m4⟩ := open_terms2 (by omega) e4
  obtain ⟨so, r5, o5, -⟩ := open_level2 (by omega) e5
  obtain ⟨v6, ms, k6, r6, l6, m6⟩ := open_members (by omega) e6
  obtain ⟨v7, cs', k7, r7, l7, m7⟩ := open_ctors (by omega) e7
  simp at k0 k1 k4 k6 k7
  subst k0; subst k1; subst k4; subst k6; subst k7
  refine ⟨⟨n0, n1, ty, bo, ps', so, ms, cs'⟩, ?_, ⟨ok_bounds b0, ok_bounds b1, o2, o3, by unfold LMax; dsimp only; omega, fun t ht => (m4 t ht).1, o5.1, l6, m6, l7, m7⟩⟩
  rw [encT_cells] at r2 r3
  have r2 : RpL rho0 w _ [c, d, e, f, g] := r2
  have r3 : RpL rho0 w _ [i, j, k, m, n] := r3
  have r5 : RpL rho0 w [.slice (so.map encP) .any] [p] := r5
  rw [RpL_cons', RpL_cons', RpL_cons', RpL_cons', RpL_cons'] at r2 r3
  rw [RpL_cons'] at r5
  obtain ⟨q1, q2, q3, q4, q5, -⟩ := r2
  obtain ⟨u1, u2, u3, u4, u5, -⟩ := r3
  rw [encDe_cells]
  unfold decL
  refine RpL_cons'.2 ⟨by rw [Rp]; exact ⟨rfl, b0⟩, RpL_cons'.2 ⟨by rw [Rp]; exact ⟨rfl, b1⟩, RpL_cons'.2 ⟨q1, RpL_cons'.2 ⟨q2, RpL_cons'.2 ⟨q3, RpL_cons'.2 ⟨q4, RpL_cons'.2 ⟨q5, RpL_cons'.2 ⟨u1, RpL_cons'.2 ⟨u2, RpL_cons'.2 ⟨u3, RpL_cons'.2 ⟨u4, RpL_cons'.2 ⟨u5, RpL_cons'.2 ⟨r4, RpL_cons'.2 ⟨r5.1, RpL_cons'.2 ⟨r6, RpL_cons'.2 ⟨r7, by rw [RpL]⟩⟩⟩⟩⟩⟩⟩⟩⟩⟩⟩⟩⟩⟩⟩⟩
variable {W : World} {b0 : Nat} {v : Value} {d : DataW H} {p : List MemPlace}
theorem argD (hk : Rows.uptoBulk d ≤ 1048576) (hv : Value.okWide Tryd.prog W .any base 34 v) (h : DataW.Trod enc Tryd.prog W b0 sp held 34 v d p) : ∃ x : De, Rp rho0 W (encDe x) v ∧ okDe x := by
  obtain ⟨cs, rfl⟩ := arg_agg decl_under hv
  obtain ⟨fuel, hf⟩ := h
  obtain ⟨x, hx, h1⟩ := open_decl hk hf
  refine ⟨x, ?_, h1⟩
  rw [encDe_cells] at hx
  unfold encDe
  rw [Rp]
  exact ⟨_, (by cases cs; rfl), hx⟩
theorem argDs (hk : Rows.uptoBulk d ≤ 1048576) (hv : Value.okWide Tryd.prog W .any base 51 v) (h : DataW.Trod enc Tryd.prog W b0 sp held 51 v d p) : ∃ l : List De, Rp rho0 W (.slice (l.map encDe) .any) v ∧ l.length ≤ 1048576 ∧ ∀ x, x ∈ l → okDe x := by
  obtain ⟨a, len, cap, rfl⟩ := okWide_slice Tryd.underlying51 hv
  obtain ⟨fuel, hf⟩ := h
  obtain ⟨v', l, he, hr, hl, hm⟩ := open_sl encDe (sz := 16) Tryd.underlying51 (by kernel_rfl) (by omega) (fun x => ⟨rfl, rfl⟩) (fun _ x => okDe x) hk (fun f ecs de p _ hlt he => open_decl (by omega) he) (fun _ _ _ _ h => h) hf
  have : v' = .slice a len cap := by
    have : ([Value.slice a len cap] : List Value) = [v'] := he
    simpa using this.symm
  subst this
  exact ⟨l, hr, by omega, hm⟩
theorem argB (hk : Rows.uptoBulk d ≤ 1048576) (hv : Value.okWide Tryd.prog W .any base 35 v) (h : DataW.Trod enc Tryd.prog W b0 sp held 35 v d p) : ∃ l : List Int, Rp rho0 W (.slice (byD l) .any) v ∧ l.length ≤ 1048576 ∧ bytesOk l := by
  obtain ⟨a, len, cap, rfl⟩ := okWide_slice Tryd.underlying35 hv
  obtain ⟨fuel, hf⟩ := h
  obtain ⟨v', l, he, hr, hl, hm⟩ := open_sl (D.int .u8) (sz := 1) Tryd.underlying35 (by kernel_rfl) (by omega) (fun x => ⟨rfl, rfl⟩) (fun _ c => 0 ≤ c ∧ c < 256) hk (fun f ecs de p _ hlt he => by
    obtain ⟨n, rfl, hn⟩ := trod_u8 Tryd.underlying5 he
    refine ⟨n, ?_, ?_⟩
    · show RpL rho0 W [.int .u8 n] _
      simp only [RpL, Rp]
      exact ⟨_, _, rfl, ⟨rfl, hn⟩, rfl⟩
    · simp [IntKind.min, IntKind.max, IntKind.signed, IntKind.bits] at hn
      omega) (fun _ _ _ _ h => h) hf
  have : v' = .slice a len cap := by
    have : ([Value.slice a len cap] : List Value) = [v'] := he
    simpa using this.symm
  subst this
  exact ⟨l, hr, by omega, hm⟩
end
end Go.Proofs.YtgloldepdhgfaaaDoor
namespace Go.Proofs.YtgloldepdhgfaaaDoor
set_option linter.unusedSimpArgs false
set_option linter.unusedVariables false
open Go.RowKit
def flat0 : DataW Unit → List Value
  | .lit (.bool b) => [.bool b]
  | .lit (.int k n) => [.int k n]
  | _ => []
def flat1 : DataW Unit → List Value
  | .agg l => l.flatMap flat0
  | _ => []
def flat2 : DataW Unit → List Value
  | .agg l => l.flatMap flat1
  | _ => []
theorem chunks (m : Nat) : ∀ (n : Nat) (cs : List Value), cs.length = n * m → cs = (List.range n).flatMap fun i => (cs.drop (i * m)).take m
  | 0, cs, h => by have : cs = [] := List.eq_nil_of_length_eq_zero (by simpa using h); subst this; rfl
  | n + 1, cs, h => by
    have h' : cs.length = n * m + m := by rw [h, Nat.add_mul, Nat.one_mul]
    have ih := chunks m n (cs.take (n * m)) (by rw [List.length_take]; omega)
    rw [List.range_succ, List.flatMap_append]
    have h1 : ((List.range n).flatMap fun i => (cs.drop (i * m)).take m) = cs.take (n * m) := by
      rw [ih]
      rw [List.flatMap_def, List.flatMap_def]
      congr 1
      apply List.map_congr_left
      intro i hi
      have hi := List.mem_range.1 hi
      have hle : i * m + m ≤ n * m := by
        have := Nat.mul_le_mul_right m (show i + 1 ≤ n by omega)
        rwa [Nat.add_mul, Nat.one_mul] at this
      rw [List.drop_take, List.take_take, Nat.min_eq_left (by omega)]
    rw [h1]
    simp only [List.flatMap_cons, List.flatMap_nil, List.append_nil]
    rw [List.take_of_length_le (l := cs.drop (n * m)) (by rw [List.length_drop]; omega), List.take_append_drop]
section
variable {enc : TypeId × Value → Unit} {P : Program} {w : World} {base : Nat} {sp : Nat → Bool} {held : Bool}
theorem flat_int {fuel : Nat} {t : TypeId} {cs : List Value} {d : DataW Unit} {ps : List MemPlace} (ht : P.underlying t = some (.int .i64)) (h : DataW.trod enc P w base sp held fuel t cs = some (d, ps)) : cs = flat0 d := by
  cases fuel with
  | zero => simp [DataW.trod] at h
  | succ fuel =>
    unfold DataW.trod at h
    rw [ht] at h
    rcases cs with _ | ⟨v, _ | ⟨v2, r⟩⟩
    · simp at h
    · cases v <;> simp at h
      obtain ⟨⟨rfl, -⟩, rfl, -⟩ := h
      rfl
    · simp at h
theorem flat_bool {fuel : Nat} {t : TypeId} {cs : List Value} {d : DataW Unit} {ps : List MemPlace} (ht : P.underlying t = some .bool) (h : DataW.trod enc P w base sp held fuel t cs = some (d, ps)) : cs = flat0 d := by
  cases fuel with
  | zero => simp [DataW.trod] at h
  | succ fuel =>
    unfold DataW.trod at h
    rw [ht] at h
    rcases cs with _ | ⟨v, _ | ⟨v2, r⟩⟩
    · simp at h
    · cases v <;> simp at h
      obtain ⟨rfl, -⟩ := h
      rfl
    · simp at h
theorem trod_array {fuel n : Nat} {t e : TypeId} {cs : List Value} {d : DataW Unit} {ps : List MemPlace} (ht : P.underlying t = some (.array n e)) (h : DataW.trod enc P w base sp held fuel t cs = some (d, ps)) :
    ∃ fuel' xs, cs.length = P.cellsOf t ∧ d = .agg (xs.map (·.1)) ∧ (List.range n).mapM (fun i => DataW.trod enc P w base sp held fuel' e ((cs.drop (i * P.cellsOf e)).take (P.cellsOf e))) = some xs := by
  cases fuel with
  | zero => simp [DataW.trod] at h
  | succ fuel =>
    unfold DataW.trod at h
    rw [ht] at h
    dsimp only at h
    split at h
    · rename_i hl
      rw [Option.map_eq_some_iff] at h
      obtain ⟨xs, hm, h4⟩ := h
      simp only [Prod.mk.injEq] at h4
      exact ⟨fuel, xs, hl, h4.1.symm, hm⟩
    · cases h
end
theorem flat_has {enc : TypeId × Value → Unit} {w : World} {base : Nat} {sp : Nat → Bool} {held : Bool} {fuel : Nat} {cs : List Value} {d : DataW Unit} {ps : List MemPlace} (h : DataW.trod enc Tryd.prog w base sp held fuel 149 cs = some (d, ps)) : cs = flat1 d := by
  obtain ⟨f, ds, rfl, h1, rfl, h3, h4⟩ := trod_struct (show Tryd.prog.underlying 149 = some (.struct (Tryd.prog.fieldsOf 149)) by kernel_rfl) h
  have hf : (Tryd.prog.fieldsOf 149).toList.map (fun f => (f.type, f.offset)) = [(4, 0), (4, 1), (3, 2), (3, 3), (3, 4)] := by kernel_rfl
  rw [show Tryd.prog.cellsOf 149 = 5 from by kernel_rfl] at h1
  obtain ⟨c0, c1, c2, c3, c4, rfl⟩ := len5 h1
  generalize (Tryd.prog.fieldsOf 149).toList = fs at hf h3 h4
  have hlen : fs.length = 5 := by simpa using congrArg List.length hf
  have key : ∀ i (hi : i < 5), ∃ p, DataW.trod enc Tryd.prog w base sp held f ([(4, 0), (4, 1), (3, 2), (3, 3), (3, 4)][i]).1 ((([c0, c1, c2, c3, c4] : List Value).drop ([(4, 0), (4, 1), (3, 2), (3, 3), (3, 4)][i]).2).take (Tryd.prog.cellsOf ([(4, 0), (4, 1), (3, 2), (3, 3), (3, 4)][i]).1)) = some (ds[i]'(by omega), p) := fun i hi => by
    obtain ⟨p, hp⟩ := h4 i (by omega) (by omega)
    have := List.getElem_of_eq hf (i := i) (by simpa using (by omega : i < fs.length))
    simp only [List.getElem_map] at this
    rw [← this]
    exact ⟨p, hp⟩
  obtain ⟨p0, e0⟩ := key 0 (by omega)
  obtain ⟨p1, e1⟩ := key 1 (by omega)
  obtain ⟨p2, e2⟩ := key 2 (by omega)
  obtain ⟨p3, e3⟩ := key 3 (by omega)
  obtain ⟨p4, e4⟩ := key 4 (by omega)
  simp only [List.getElem_cons_zero, List.getElem_cons_succ] at e0 e1 e2 e3 e4
  rw [show Tryd.prog.cellsOf 3 = 1 from by kernel_rfl] at e2 e3 e4
  rw [show Tryd.prog.cellsOf 4 = 1 from by kernel_rfl] at e0 e1
  have g0 := flat_bool (show Tryd.prog.underlying 4 = some .bool by kernel_rfl) e0
  have g1 := flat_bool (show Tryd.prog.underlying 4 = some .bool by kernel_rfl) e1
  have g2 := flat_int Tryd.underlying3 e2
  have g3 := flat_int Tryd.underlying3 e3
  have g4 := flat_int Tryd.underlying3 e4
  simp only [List.drop_zero, List.drop_succ_cons, List.take_succ_cons, List.take_zero] at g0 g1 g2 g3 g4
  obtain ⟨x0, r0, rfl⟩ := List.exists_cons_of_ne_nil (l := ds) (by rintro rfl; simp at h3; omega)
  obtain ⟨x1, r1, rfl⟩ := List.exists_cons_of_ne_nil (l := r0) (by rintro rfl; simp at h3; omega)
  obtain ⟨x2, r2, rfl⟩ := List.exists_cons_of_ne_nil (l := r1) (by rintro rfl; simp at h3; omega)
  obtain ⟨x3, r3, rfl⟩ := List.exists_cons_of_ne_nil (l := r2) (by rintro rfl; simp at h3; omega)
  obtain ⟨x4, r4, rfl⟩ := List.exists_cons_of_ne_nil (l := r3) (by rintro rfl; simp at h3; omega)
  have hr : r4 = [] := List.eq_nil_of_length_eq_zero (by simp at h3; omega)
  subst hr
  simp only [List.getElem_cons_zero, List.getElem_cons_succ] at g0 g1 g2 g3 g4
  simp [flat1, ← g0, ← g1, ← g2, ← g3, ← g4]
def kindVals : List Value := kindRowsD.flatMap fun r => [.bool r.1, .bool r.2.1, .int .i64 r.2.2.1, .int .i64 r.2.2.2.1, .int .i64 r.2.2.2.2]
theorem kinds_lie {W : World} (h : laidMet Tryd.prog [("spandrel/term.kinds", Rows.laid_spandrel_term_kinds)] W) : ∀ i u, kindVals[i]? = some u → W.cell? ⟨0, 0 + i, none⟩ = some u := by
  obtain ⟨ps, ⟨g', t', cs, fuel, p, q, hg', ht', hvar, hd, _, _⟩, _⟩ := h
  obtain rfl := Option.some.inj ((show Tryd.prog.globalNamed "spandrel/term.kinds" = some 0 by kernel_rfl).symm.trans hg')
  obtain rfl := Option.some.inj ((show (Tryd.prog.globals[0]?).map (·.type) = some 150 by kernel_rfl).symm.trans ht')
  obtain ⟨f, xs, h1, h2, h3⟩ := trod_array Tryd.underlying150 hd
  rw [show Tryd.prog.cellsOf 150 = 25 * 5 from by kernel_rfl] at h1
  rw [show Tryd.prog.cellsOf 149 = 5 from by kernel_rfl] at h3
  obtain ⟨h4, h5⟩ := mapM_some h3
  simp only [List.length_range] at h4
  have hcs : cs.toList = flat2 Rows.laid_spandrel_term_kinds := by
    rw [chunks 5 25 cs.toList h1, h2]
    show _ = (xs.map (·.1)).flatMap flat1
    rw [show (List.range 25).flatMap (fun i => (cs.toList.drop (i * 5)).take 5) = ((List.range 25).map fun i => (cs.toList.drop (i * 5)).take 5).flatten from by rw [List.flatMap_def]]
    rw [List.flatMap_def, List.map_map]
    congr 1
    apply List.ext_getElem (by simp [h4])
    intro i hi hi'
    simp only [List.length_map, List.length_range] at hi
    simp only [List.getElem_map, List.getElem_range, Function.comp_apply]
    have := h5 i (by simpa using hi) (by omega)
    simp only [List.getElem_range] at this
    exact flat_has this
  have hkc : flat2 Rows.laid_spandrel_term_kinds = kindVals := by kernel_rfl
  rw [hkc] at hcs
  have hcell := World.var?_cell (show Tryd.prog.globalNamed "spandrel/term.kinds" = some 0 by kernel_rfl) hvar
  intro i u hu
  have := hcell i
  rw [Nat.zero_add, this, ← hu, ← hcs, Array.getElem?_toList]
/-- a closed datum and its cell -/
def litV : D → Option Value
  | .bool b => some (.bool b)
  | .int k n => if k.min ≤ n ∧ n ≤ k.max then some (.int k n) else none
  | _ => none
theorem RpL_lit {w : World} : ∀ {ds : List D} {vs : List Value}, ds.map litV = vs.map some → RpL rho0 w ds vs
  | [], [], _ => by rw [RpL]
  | [], _ :: _, h => by simp at h
  | _ :: _, [], h => by simp at h
  | d :: r, v :: s, h => by
    simp only [List.map_cons, List.cons.injEq] at h
    refine RpL_cons'.2 ⟨?_, RpL_lit h.2⟩
    have h1 := h.1
    cases d <;> simp [litV] at h1
    · rw [Rp]; exact ⟨h1.2.symm, h1.1⟩
    · rw [Rp]; exact h1.symm
theorem rel_kinds {W : World} (h : laidMet Tryd.prog [("spandrel/term.kinds", Rows.laid_spandrel_term_kinds)] W) : Rel glob rho0 W (hOf []) := by
  refine ⟨fun _ _ => rfl, fun _ _ => rfl, (fun _ _ _ h => nomatch h), (fun _ _ _ _ _ h => nomatch h), fun g d hd => ?_⟩
  unfold glob at hd
  split at hd
  · rename_i hg
    subst hg
    cases hd
    exact RpC_mk (RpL_lit (vs := kindVals) (by kernel_rfl)) (by kernel_rfl) (kinds_lie h)
  · cases hd
theorem calls_trueK {f : FuncId} {args : List D} {vs : List Value} {w : World} (hR : Rel glob rho0 w (hOf [])) (h : Spec Tryd.prog glob f args [] (fun o _ => o.fgt = .ret (.bool true))) (hv : RpL rho0 w args vs) :
    Calls Tryd.prog f vs.toArray w fun e w' => e = .returned (.bool true) ∧ Below w.heap.size w w' := by
  refine (h rho0 w vs hR hv).2.mono ?_
  rintro e w' ⟨ρ', out, hc', ho, hm, -, hx⟩
  refine ⟨?_, ex_below hx⟩
  cases out with
  | pan d => cases ho
  | ret d =>
    obtain ⟨u, rfl, hu⟩ := hm
    have hd : d = .bool true := by
      cases d <;> simp [Out.fgt, D.fgt] at ho
      subst ho; rfl
    subst hd
    rw [Rp] at hu
    rw [hu]
/-- a world for the witness: the table of kinds holds what its initialiser lays -/
noncomputable def laidWorld (os : Os) : World :=
  { World.holding Tryd.prog os ⟨#[], #[], []⟩ with heap := (World.holding Tryd.prog os ⟨#[], #[], []⟩).heap.modify 0 fun
      | .cells _ t frozen => .cells kindVals.toArray t frozen
      | o => o }
end Go.Proofs.YtgloldepdhgfaaaDoor
