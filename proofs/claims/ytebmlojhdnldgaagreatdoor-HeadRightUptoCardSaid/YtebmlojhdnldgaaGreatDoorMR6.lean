/-
  MR6: the texts Hx Hrn Hy Hz Ha Hb Hc Ccm Ccw Ccr Kse Trt Tct, one behind the other.
-/
import Derived.Test.YtebmlojhdnldgaaGreatDoorMR5
namespace Go.Proofs.YtebmlojhdnldgaaGreatDoor
set_option linter.unusedSimpArgs false
set_option linter.unusedVariables false
set_option maxHeartbeats 10000000
set_option maxRecDepth 20000
open Go.RowKit
attribute [local simp] wpAft_ret wpAft_pan wantD evOp opD tmOf putS updS setS hOf isFree isTok fillD TK.isAgg TK.known partD thenD blockD putAll D.ofV inB nilTest isNilS binX binD binE isCst bndD capB IntKind.min IntKind.max IntKind.signed IntKind.bits dstOf late
theorem OwnP_cases (left : Int) (l : List C) (once done : Bool) (t : T) (w : Option (T × Nat)) : (∃ v b lf, OwnP left l once done t w = fun o hc => o.fgt = .ret (.tuple [encT v, .bool b]) ∧ hc = wObjs lf l once done) ∨ OwnP left l once done t w = fun o hc => o = .pan goneD ∧ hc = [.dead, .dead] := by
  cases w with
  | none => exact .inl ⟨t, false, left, rfl⟩
  | some p =>
    by_cases h : (p.2 : Int) ≤ left
    · exact .inl ⟨p.1, true, left - p.2, Cost_ok h⟩
    · exact .inr (Cost_no h)
theorem placeX_some {t : T} {i many : Nat} (h : spot t = some (i, many)) : placeX t = t.kid i := by unfold placeX; rw [h]
theorem placeX_none {t : T} (h : spot t = none) : placeX t = zeroT := by unfold placeX; rw [h]
theorem step_6 (left : Int) (l : List C) (once done : Bool) (hl : left ≤ 9223372036854775807) (t : T) (ht : okS t) (hk : t.k = 6) {i many : Nat} (hs : spot t = some (i, many)) (hp : Spec Tryz.prog glob 71 [.box 0 0, encT t, encT (placeX t)] (wObjs left l once done) (OwnP left l once done t (ownS l t (placeX t)))) : Spec Tryz.prog glob 81 [.box 0 0, encT t] (wObjs left l once done) (OwnP left l once done t (ownS l t (placeX t))) := by
  have hsp := spot_spec t ht.1.kl
  rw [spotO_some hs ht.1.kl] at hsp
  have hki := kidn_spec t i i rfl
  rw [← placeX_some hs] at hki
  rcases OwnP_cases left l once done t (ownS l t (placeX t)) with ⟨v, b, lf, e⟩ | e
  · rw [e] at hp ⊢
    generalize placeX t = x at hp hki
    have hEx := encT_eq x
    rw [hEx, encT_eq t, encT_eq v, hk] at hp
    rw [encT_eq t] at hsp
    rw [hEx, encT_eq t, hk] at hki
    rw [encT_eq t]
    unfold wObjs headD Cs stepsM at hp ⊢
    refine Spec.movd globPure (wpD_spec tyOK Tryz.func81 rfl (enters _ _ Tryz.func81 rfl (by decide)) rfl rfl ?_)
    (refine wpD_seqk fun K hK => ?_; refine wpD_region tyOK ?_; ((repeat (rw [wpS_cons]; simp)); (try simp only [wpS_nil, thenD, blockD])); refine hK _ _ _ ?_; clear hK K)
    (refine wpD_seqk fun K hK => ?_; refine wpD_region tyOK ?_; ((repeat (rw [wpS_cons]; simp)); (try simp only [wpS_nil, thenD, blockD])))
    refine CallX.pure globPure (hsp) ?_ (by simp [D.fgts, D.fgt]) (by simp [D.pures, D.pure, Cp.free, D.pures_map]) (by simp [Out.pure, D.pure, D.pures, Cp.free, D.pures_map])
    ((try simp only [wpAft_ret, wpAft_pan, putS, updS, setS]); (repeat (rw [wpS_cons]; simp)); (try simp only [wpS_nil, thenD, blockD]))
    (refine hK _ _ _ ?_; clear hK K)
    (refine wpD_seqk fun K hK => ?_; refine wpD_drawk tyOK (by kernel_rfl) (by kernel_rfl) fun KT hKT => ?_; ((repeat (rw [wpT_cons]; simp [hk])); (try simp only [wpT_nil])))
    (refine hKT _ _ _ _ (by kernel_rfl) ?_; clear hKT KT; (try simp only [thenD, blockD]))
    (refine hK _ _ _ ?_; clear hK K)
    refine wpD_seqk fun K1 hK1 => ?_
    (refine wpD_seqk fun K hK => ?_; refine wpD_region tyOK ?_; ((repeat (rw [wpS_cons]; simp [hk])); (try simp only [wpS_nil, thenD, blockD])); refine hK _ _ _ ?_; clear hK K)
    refine wpD_part rfl (fun h => by simp at h) (fun _ => ?_)
    refine wpD_skip (hK1 _ _ _ ?_)
    (refine wpD_seqk fun K hK => ?_; refine wpD_region tyOK ?_; ((repeat (rw [wpS_cons]; simp)); (try simp only [wpS_nil, thenD, blockD])); refine hK _ _ _ ?_; clear hK K)
    refine wpD_seqk fun K2 hK2 => ?_
    (refine wpD_seqk fun K hK => ?_; refine wpD_region tyOK ?_; ((repeat (rw [wpS_cons]; simp)); (try simp only [wpS_nil, thenD, blockD])); refine hK _ _ _ ?_; clear hK K)
    refine wpD_part rfl (fun _ => ?_) (fun h => by simp at h)
    (refine wpD_region tyOK ?_; ((repeat (rw [wpS_cons]; simp)); (try simp only [wpS_nil, thenD, blockD])))
    refine CallX.pure globPure (hki) ?_ (by simp [D.fgts, D.fgt]) (by simp [D.pures, D.pure, Cp.free, D.pures_map]) (by simp [Out.pure, D.pure, D.pures, Cp.free, D.pures_map])
    ((try simp only [wpAft_ret, wpAft_pan, putS, updS, setS]); (repeat (rw [wpS_cons]; simp)); (try simp only [wpS_nil, thenD, blockD]))
    refine hK2 _ _ _ ?_
    (refine wpD_seqk fun K hK => ?_; refine wpD_region tyOK ?_; ((repeat (rw [wpS_cons]; simp)); (try simp only [wpS_nil, thenD, blockD])))
    refine CallX.objs globPure [0, 1] true (hp) ?_ (by rintro o hc ⟨_, rfl⟩; simp) (by decide) (by simp) (by simp [D.ren, D.rens, D.okN, D.okNs, Cp.ren, Cp.okN, HO.ren, HO.okN, okA, renA, renO, hOf, handed, D.fgt, D.fgts, List.range_succ, List.idxOf_cons]) (by simp [D.ren, D.rens, D.okN, D.okNs, Cp.ren, Cp.okN, HO.ren, HO.okN, okA, renA, renO, hOf, handed, D.fgt, D.fgts, List.range_succ, List.idxOf_cons]) (by simp [D.ren, D.rens, D.okN, D.okNs, Cp.ren, Cp.okN, HO.ren, HO.okN, okA, renA, renO, hOf, handed, D.fgt, D.fgts, List.range_succ, List.idxOf_cons]) (by simp [D.ren, D.rens, D.okN, D.okNs, Cp.ren, Cp.okN, HO.ren, HO.okN, okA, renA, renO, hOf, handed, D.fgt, D.fgts, List.range_succ, List.idxOf_cons])
    (rintro o hc ⟨ho, rfl⟩; refine ⟨true, ?_⟩; rw [show told true o = _ from ho]; clear ho; simp [D.ren, D.rens, D.okN, D.okNs, Cp.ren, Cp.okN, HO.ren, HO.okN, okA, renA, renO, hOf, handed, D.fgt, D.fgts, List.range_succ, List.idxOf_cons, Out.ren, told, Out.fgt, upO, updS, setS])
    ((try simp only [wpAft_ret, wpAft_pan, putS, updS, setS]); (repeat (rw [wpS_cons]; simp)); (try simp only [wpS_nil, thenD, blockD]))
    (refine hK _ _ _ ?_; clear hK K)
    (refine wpD_ret ?_; (try simp only [thenD, blockD]); refine EndQ.ret rfl (.inr ⟨[], by decide, by simp, ?_⟩); simp [Out.mov, movT, movH, movD, D.mov, HO.mov, okM, renM, getW, D.ren, D.rens, D.okN, D.okNs, Cp.ren, Cp.okN, HO.ren, HO.okN, okA, renA, renO, hOf, handed, D.fgt, D.fgts, List.range_succ, List.idxOf_cons, tmOf, Out.fgt, D.fgt, D.fgts])
    first | done | simp [encT_eq v]
  · rw [e] at hp ⊢
    generalize placeX t = x at hp hki
    have hEx := encT_eq x
    rw [hEx, encT_eq t, hk] at hp
    rw [encT_eq t] at hsp
    rw [hEx, encT_eq t, hk] at hki
    rw [encT_eq t]
    unfold wObjs headD Cs stepsM goneD at hp
    unfold wObjs headD Cs stepsM goneD
    refine Spec.movd globPure (wpD_spec tyOK Tryz.func81 rfl (enters _ _ Tryz.func81 rfl (by decide)) rfl rfl ?_)
    (refine wpD_seqk fun K hK => ?_; refine wpD_region tyOK ?_; ((repeat (rw [wpS_cons]; simp)); (try simp only [wpS_nil, thenD, blockD])); refine hK _ _ _ ?_; clear hK K)
    (refine wpD_seqk fun K hK => ?_; refine wpD_region tyOK ?_; ((repeat (rw [wpS_cons]; simp)); (try simp only [wpS_nil, thenD, blockD])))
    refine CallX.pure globPure (hsp) ?_ (by simp [D.fgts, D.fgt]) (by simp [D.pures, D.pure, Cp.free, D.pures_map]) (by simp [Out.pure, D.pure, D.pures, Cp.free, D.pures_map])
    ((try simp only [wpAft_ret, wpAft_pan, putS, updS, setS]); (repeat (rw [wpS_cons]; simp)); (try simp only [wpS_nil, thenD, blockD]))
    (refine hK _ _ _ ?_; clear hK K)
    (refine wpD_seqk fun K hK => ?_; refine wpD_drawk tyOK (by kernel_rfl) (by kernel_rfl) fun KT hKT => ?_; ((repeat (rw [wpT_cons]; simp [hk])); (try simp only [wpT_nil])))
    (refine hKT _ _ _ _ (by kernel_rfl) ?_; clear hKT KT; (try simp only [thenD, blockD]))
    (refine hK _ _ _ ?_; clear hK K)
    refine wpD_seqk fun K1 hK1 => ?_
    (refine wpD_seqk fun K hK => ?_; refine wpD_region tyOK ?_; ((repeat (rw [wpS_cons]; simp [hk])); (try simp only [wpS_nil, thenD, blockD])); refine hK _ _ _ ?_; clear hK K)
    refine wpD_part rfl (fun h => by simp at h) (fun _ => ?_)
    refine wpD_skip (hK1 _ _ _ ?_)
    (refine wpD_seqk fun K hK => ?_; refine wpD_region tyOK ?_; ((repeat (rw [wpS_cons]; simp)); (try simp only [wpS_nil, thenD, blockD])); refine hK _ _ _ ?_; clear hK K)
    refine wpD_seqk fun K2 hK2 => ?_
    (refine wpD_seqk fun K hK => ?_; refine wpD_region tyOK ?_; ((repeat (rw [wpS_cons]; simp)); (try simp only [wpS_nil, thenD, blockD])); refine hK _ _ _ ?_; clear hK K)
    refine wpD_part rfl (fun _ => ?_) (fun h => by simp at h)
    (refine wpD_region tyOK ?_; ((repeat (rw [wpS_cons]; simp)); (try simp only [wpS_nil, thenD, blockD])))
    refine CallX.pure globPure (hki) ?_ (by simp [D.fgts, D.fgt]) (by simp [D.pures, D.pure, Cp.free, D.pures_map]) (by simp [Out.pure, D.pure, D.pures, Cp.free, D.pures_map])
    ((try simp only [wpAft_ret, wpAft_pan, putS, updS, setS]); (repeat (rw [wpS_cons]; simp)); (try simp only [wpS_nil, thenD, blockD]))
    refine hK2 _ _ _ ?_
    (refine wpD_seqk fun K hK => ?_; refine wpD_region tyOK ?_; ((repeat (rw [wpS_cons]; simp)); (try simp only [wpS_nil, thenD, blockD])))
    refine CallX.objs globPure [0, 1] true (hp) ?_ (by rintro o hc ⟨_, rfl⟩; simp) (by decide) (by simp) (by simp [D.ren, D.rens, D.okN, D.okNs, Cp.ren, Cp.okN, HO.ren, HO.okN, okA, renA, renO, hOf, handed, D.fgt, D.fgts, List.range_succ, List.idxOf_cons]) (by simp [D.ren, D.rens, D.okN, D.okNs, Cp.ren, Cp.okN, HO.ren, HO.okN, okA, renA, renO, hOf, handed, D.fgt, D.fgts, List.range_succ, List.idxOf_cons]) (by simp [D.ren, D.rens, D.okN, D.okNs, Cp.ren, Cp.okN, HO.ren, HO.okN, okA, renA, renO, hOf, handed, D.fgt, D.fgts, List.range_succ, List.idxOf_cons]) (by simp [D.ren, D.rens, D.okN, D.okNs, Cp.ren, Cp.okN, HO.ren, HO.okN, okA, renA, renO, hOf, handed, D.fgt, D.fgts, List.range_succ, List.idxOf_cons])
    (rintro o hc ⟨rfl, rfl⟩; refine ⟨false, ?_⟩; simp [D.ren, D.rens, D.okN, D.okNs, Cp.ren, Cp.okN, HO.ren, HO.okN, okA, renA, renO, hOf, handed, D.fgt, D.fgts, List.range_succ, List.idxOf_cons, Out.ren, told, Out.fgt, upO, updS, setS])
    ((try simp only [thenD, blockD]); refine EndQ.pan (.inr ⟨[], by decide, by simp, ?_⟩); simp [Out.mov, movT, movH, movD, D.mov, HO.mov, okM, renM, getW, D.ren, D.rens, D.okN, D.okNs, Cp.ren, Cp.okN, HO.ren, HO.okN, okA, renA, renO, hOf, handed, D.fgt, D.fgts, List.range_succ, List.idxOf_cons, tmOf, Out.fgt, D.fgt, D.fgts])
theorem step_14 (left : Int) (l : List C) (once done : Bool) (hl : left ≤ 9223372036854775807) (t : T) (ht : okS t) (hk : t.k = 14) {i many : Nat} (hs : spot t = some (i, many)) (hp : Spec Tryz.prog glob 72 [.box 0 0, encT t, encT (placeX t)] (wObjs left l once done) (OwnP left l once done t (ownS l t (placeX t)))) : Spec Tryz.prog glob 81 [.box 0 0, encT t] (wObjs left l once done) (OwnP left l once done t (ownS l t (placeX t))) := by
  have hsp := spot_spec t ht.1.kl
  rw [spotO_some hs ht.1.kl] at hsp
  have hki := kidn_spec t i i rfl
  rw [← placeX_some hs] at hki
  rcases OwnP_cases left l once done t (ownS l t (placeX t)) with ⟨v, b, lf, e⟩ | e
  · rw [e] at hp ⊢
    generalize placeX t = x at hp hki
    have hEx := encT_eq x
    rw [hEx, encT_eq t, encT_eq v, hk] at hp
    rw [encT_eq t] at hsp
    rw [hEx, encT_eq t, hk] at hki
    rw [encT_eq t]
    unfold wObjs headD Cs stepsM at hp ⊢
    refine Spec.movd globPure (wpD_spec tyOK Tryz.func81 rfl (enters _ _ Tryz.func81 rfl (by decide)) rfl rfl ?_)
    (refine wpD_seqk fun K hK => ?_; refine wpD_region tyOK ?_; ((repeat (rw [wpS_cons]; simp)); (try simp only [wpS_nil, thenD, blockD])); refine hK _ _ _ ?_; clear hK K)
    (refine wpD_seqk fun K hK => ?_; refine wpD_region tyOK ?_; ((repeat (rw [wpS_cons]; simp)); (try simp only [wpS_nil, thenD, blockD])))
    refine CallX.pure globPure (hsp) ?_ (by simp [D.fgts, D.fgt]) (by simp [D.pures, D.pure, Cp.free, D.pures_map]) (by simp [Out.pure, D.pure, D.pures, Cp.free, D.pures_map])
    ((try simp only [wpAft_ret, wpAft_pan, putS, updS, setS]); (repeat (rw [wpS_cons]; simp)); (try simp only [wpS_nil, thenD, blockD]))
    (refine hK _ _ _ ?_; clear hK K)
    (refine wpD_seqk fun K hK => ?_; refine wpD_drawk tyOK (by kernel_rfl) (by kernel_rfl) fun KT hKT => ?_; ((repeat (rw [wpT_cons]; simp [hk])); (try simp only [wpT_nil])))
    (refine hKT _ _ _ _ (by kernel_rfl) ?_; clear hKT KT; (try simp only [thenD, blockD]))
    (refine hK _ _ _ ?_; clear hK K)
    refine wpD_seqk fun K1 hK1 => ?_
    (refine wpD_seqk fun K hK => ?_; refine wpD_region tyOK ?_; ((repeat (rw [wpS_cons]; simp [hk])); (try simp only [wpS_nil, thenD, blockD])); refine hK _ _ _ ?_; clear hK K)
    refine wpD_part rfl (fun h => by simp at h) (fun _ => ?_)
    refine wpD_skip (hK1 _ _ _ ?_)
    (refine wpD_seqk fun K hK => ?_; refine wpD_region tyOK ?_; ((repeat (rw [wpS_cons]; simp)); (try simp only [wpS_nil, thenD, blockD])); refine hK _ _ _ ?_; clear hK K)
    refine wpD_seqk fun K2 hK2 => ?_
    (refine wpD_seqk fun K hK => ?_; refine wpD_region tyOK ?_; ((repeat (rw [wpS_cons]; simp)); (try simp only [wpS_nil, thenD, blockD])); refine hK _ _ _ ?_; clear hK K)
    refine wpD_part rfl (fun _ => ?_) (fun h => by simp at h)
    (refine wpD_region tyOK ?_; ((repeat (rw [wpS_cons]; simp)); (try simp only [wpS_nil, thenD, blockD])))
    refine CallX.pure globPure (hki) ?_ (by simp [D.fgts, D.fgt]) (by simp [D.pures, D.pure, Cp.free, D.pures_map]) (by simp [Out.pure, D.pure, D.pures, Cp.free, D.pures_map])
    ((try simp only [wpAft_ret, wpAft_pan, putS, updS, setS]); (repeat (rw [wpS_cons]; simp)); (try simp only [wpS_nil, thenD, blockD]))
    refine hK2 _ _ _ ?_
    (refine wpD_seqk fun K hK => ?_; refine wpD_region tyOK ?_; ((repeat (rw [wpS_cons]; simp)); (try simp only [wpS_nil, thenD, blockD])))
    refine CallX.objs globPure [0, 1] true (hp) ?_ (by rintro o hc ⟨_, rfl⟩; simp) (by decide) (by simp) (by simp [D.ren, D.rens, D.okN, D.okNs, Cp.ren, Cp.okN, HO.ren, HO.okN, okA, renA, renO, hOf, handed, D.fgt, D.fgts, List.range_succ, List.idxOf_cons]) (by simp [D.ren, D.rens, D.okN, D.okNs, Cp.ren, Cp.okN, HO.ren, HO.okN, okA, renA, renO, hOf, handed, D.fgt, D.fgts, List.range_succ, List.idxOf_cons]) (by simp [D.ren, D.rens, D.okN, D.okNs, Cp.ren, Cp.okN, HO.ren, HO.okN, okA, renA, renO, hOf, handed, D.fgt, D.fgts, List.range_succ, List.idxOf_cons]) (by simp [D.ren, D.rens, D.okN, D.okNs, Cp.ren, Cp.okN, HO.ren, HO.okN, okA, renA, renO, hOf, handed, D.fgt, D.fgts, List.range_succ, List.idxOf_cons])
    (rintro o hc ⟨ho, rfl⟩; refine ⟨true, ?_⟩; rw [show told true o = _ from ho]; clear ho; simp [D.ren, D.rens, D.okN, D.okNs, Cp.ren, Cp.okN, HO.ren, HO.okN, okA, renA, renO, hOf, handed, D.fgt, D.fgts, List.range_succ, List.idxOf_cons, Out.ren, told, Out.fgt, upO, updS, setS])
    ((try simp only [wpAft_ret, wpAft_pan, putS, updS, setS]); (repeat (rw [wpS_cons]; simp)); (try simp only [wpS_nil, thenD, blockD]))
    (refine hK _ _ _ ?_; clear hK K)
    (refine wpD_ret ?_; (try simp only [thenD, blockD]); refine EndQ.ret rfl (.inr ⟨[], by decide, by simp, ?_⟩); simp [Out.mov, movT, movH, movD, D.mov, HO.mov, okM, renM, getW, D.ren, D.rens, D.okN, D.okNs, Cp.ren, Cp.okN, HO.ren, HO.okN, okA, renA, renO, hOf, handed, D.fgt, D.fgts, List.range_succ, List.idxOf_cons, tmOf, Out.fgt, D.fgt, D.fgts])
    first | done | simp [encT_eq v]
  · rw [e] at hp ⊢
    generalize placeX t = x at hp hki
    have hEx := encT_eq x
    rw [hEx, encT_eq t, hk] at hp
    rw [encT_eq t] at hsp
    rw [hEx, encT_eq t, hk] at hki
    rw [encT_eq t]
    unfold wObjs headD Cs stepsM goneD at hp
    unfold wObjs headD Cs stepsM goneD
    refine Spec.movd globPure (wpD_spec tyOK Tryz.func81 rfl (enters _ _ Tryz.func81 rfl (by decide)) rfl rfl ?_)
    (refine wpD_seqk fun K hK => ?_; refine wpD_region tyOK ?_; ((repeat (rw [wpS_cons]; simp)); (try simp only [wpS_nil, thenD, blockD])); refine hK _ _ _ ?_; clear hK K)
    (refine wpD_seqk fun K hK => ?_; refine wpD_region tyOK ?_; ((repeat (rw [wpS_cons]; simp)); (try simp only [wpS_nil, thenD, blockD])))
    refine CallX.pure globPure (hsp) ?_ (by simp [D.fgts, D.fgt]) (by simp [D.pures, D.pure, Cp.free, D.pures_map]) (by simp [Out.pure, D.pure, D.pures, Cp.free, D.pures_map])
    ((try simp only [wpAft_ret, wpAft_pan, putS, updS, setS]); (repeat (rw [wpS_cons]; simp)); (try simp only [wpS_nil, thenD, blockD]))
    (refine hK _ _ _ ?_; clear hK K)
    (refine wpD_seqk fun K hK => ?_; refine wpD_drawk tyOK (by kernel_rfl) (by kernel_rfl) fun KT hKT => ?_; ((repeat (rw [wpT_cons]; simp [hk])); (try simp only [wpT_nil])))
    (refine hKT _ _ _ _ (by kernel_rfl) ?_; clear hKT KT; (try simp only [thenD, blockD]))
    (refine hK _ _ _ ?_; clear hK K)
    refine wpD_seqk fun K1 hK1 => ?_
    (refine wpD_seqk fun K hK => ?_; refine wpD_region tyOK ?_; ((repeat (rw [wpS_cons]; simp [hk])); (try simp only [wpS_nil, thenD, blockD])); refine hK _ _ _ ?_; clear hK K)
    refine wpD_part rfl (fun h => by simp at h) (fun _ => ?_)
    refine wpD_skip (hK1 _ _ _ ?_)
    (refine wpD_seqk fun K hK => ?_; refine wpD_region tyOK ?_; ((repeat (rw [wpS_cons]; simp)); (try simp only [wpS_nil, thenD, blockD])); refine hK _ _ _ ?_; clear hK K)
    refine wpD_seqk fun K2 hK2 => ?_
    (refine wpD_seqk fun K hK => ?_; refine wpD_region tyOK ?_; ((repeat (rw [wpS_cons]; simp)); (try simp only [wpS_nil, thenD, blockD])); refine hK _ _ _ ?_; clear hK K)
    refine wpD_part rfl (fun _ => ?_) (fun h => by simp at h)
    (refine wpD_region tyOK ?_; ((repeat (rw [wpS_cons]; simp)); (try simp only [wpS_nil, thenD, blockD])))
    refine CallX.pure globPure (hki) ?_ (by simp [D.fgts, D.fgt]) (by simp [D.pures, D.pure, Cp.free, D.pures_map]) (by simp [Out.pure, D.pure, D.pures, Cp.free, D.pures_map])
    ((try simp only [wpAft_ret, wpAft_pan, putS, updS, setS]); (repeat (rw [wpS_cons]; simp)); (try simp only [wpS_nil, thenD, blockD]))
    refine hK2 _ _ _ ?_
    (refine wpD_seqk fun K hK => ?_; refine wpD_region tyOK ?_; ((repeat (rw [wpS_cons]; simp)); (try simp only [wpS_nil, thenD, blockD])))
    refine CallX.objs globPure [0, 1] true (hp) ?_ (by rintro o hc ⟨_, rfl⟩; simp) (by decide) (by simp) (by simp [D.ren, D.rens, D.okN, D.okNs, Cp.ren, Cp.okN, HO.ren, HO.okN, okA, renA, renO, hOf, handed, D.fgt, D.fgts, List.range_succ, List.idxOf_cons]) (by simp [D.ren, D.rens, D.okN, D.okNs, Cp.ren, Cp.okN, HO.ren, HO.okN, okA, renA, renO, hOf, handed, D.fgt, D.fgts, List.range_succ, List.idxOf_cons]) (by simp [D.ren, D.rens, D.okN, D.okNs, Cp.ren, Cp.okN, HO.ren, HO.okN, okA, renA, renO, hOf, handed, D.fgt, D.fgts, List.range_succ, List.idxOf_cons]) (by simp [D.ren, D.rens, D.okN, D.okNs, Cp.ren, Cp.okN, HO.ren, HO.okN, okA, renA, renO, hOf, handed, D.fgt, D.fgts, List.range_succ, List.idxOf_cons])
    (rintro o hc ⟨rfl, rfl⟩; refine ⟨false, ?_⟩; simp [D.ren, D.rens, D.okN, D.okNs, Cp.ren, Cp.okN, HO.ren, HO.okN, okA, renA, renO, hOf, handed, D.fgt, D.fgts, List.range_succ, List.idxOf_cons, Out.ren, told, Out.fgt, upO, updS, setS])
    ((try simp only [thenD, blockD]); refine EndQ.pan (.inr ⟨[], by decide, by simp, ?_⟩); simp [Out.mov, movT, movH, movD, D.mov, HO.mov, okM, renM, getW, D.ren, D.rens, D.okN, D.okNs, Cp.ren, Cp.okN, HO.ren, HO.okN, okA, renA, renO, hOf, handed, D.fgt, D.fgts, List.range_succ, List.idxOf_cons, tmOf, Out.fgt, D.fgt, D.fgts])
theorem step_15 (left : Int) (l : List C) (once done : Bool) (hl : left ≤ 9223372036854775807) (t : T) (ht : okS t) (hk : t.k = 15) {i many : Nat} (hs : spot t = some (i, many)) (hp : Spec Tryz.prog glob 72 [.box 0 0, encT t, encT (placeX t)] (wObjs left l once done) (OwnP left l once done t (ownS l t (placeX t)))) : Spec Tryz.prog glob 81 [.box 0 0, encT t] (wObjs left l once done) (OwnP left l once done t (ownS l t (placeX t))) := by
  have hsp := spot_spec t ht.1.kl
  rw [spotO_some hs ht.1.kl] at hsp
  have hki := kidn_spec t i i rfl
  rw [← placeX_some hs] at hki
  rcases OwnP_cases left l once done t (ownS l t (placeX t)) with ⟨v, b, lf, e⟩ | e
  · rw [e] at hp ⊢
    generalize placeX t = x at hp hki
    have hEx := encT_eq x
    rw [hEx, encT_eq t, encT_eq v, hk] at hp
    rw [encT_eq t] at hsp
    rw [hEx, encT_eq t, hk] at hki
    rw [encT_eq t]
    unfold wObjs headD Cs stepsM at hp ⊢
    refine Spec.movd globPure (wpD_spec tyOK Tryz.func81 rfl (enters _ _ Tryz.func81 rfl (by decide)) rfl rfl ?_)
    (refine wpD_seqk fun K hK => ?_; refine wpD_region tyOK ?_; ((repeat (rw [wpS_cons]; simp)); (try simp only [wpS_nil, thenD, blockD])); refine hK _ _ _ ?_; clear hK K)
    (refine wpD_seqk fun K hK => ?_; refine wpD_region tyOK ?_; ((repeat (rw [wpS_cons]; simp)); (try simp only [wpS_nil, thenD, blockD])))
    refine CallX.pure globPure (hsp) ?_ (by simp [D.fgts, D.fgt]) (by simp [D.pures, D.pure, Cp.free, D.pures_map]) (by simp [Out.pure, D.pure, D.pures, Cp.free, D.pures_map])
    ((try simp only [wpAft_ret, wpAft_pan, putS, updS, setS]); (repeat (rw [wpS_cons]; simp)); (try simp only [wpS_nil, thenD, blockD]))
    (refine hK _ _ _ ?_; clear hK K)
    (refine wpD_seqk fun K hK => ?_; refine wpD_drawk tyOK (by kernel_rfl) (by kernel_rfl) fun KT hKT => ?_; ((repeat (rw [wpT_cons]; simp [hk])); (try simp only [wpT_nil])))
    (refine hKT _ _ _ _ (by kernel_rfl) ?_; clear hKT KT; (try simp only [thenD, blockD]))
    (refine hK _ _ _ ?_; clear hK K)
    refine wpD_seqk fun K1 hK1 => ?_
    (refine wpD_seqk fun K hK => ?_; refine wpD_region tyOK ?_; ((repeat (rw [wpS_cons]; simp [hk])); (try simp only [wpS_nil, thenD, blockD])); refine hK _ _ _ ?_; clear hK K)
    refine wpD_part rfl (fun h => by simp at h) (fun _ => ?_)
    refine wpD_skip (hK1 _ _ _ ?_)
    (refine wpD_seqk fun K hK => ?_; refine wpD_region tyOK ?_; ((repeat (rw [wpS_cons]; simp)); (try simp only [wpS_nil, thenD, blockD])); refine hK _ _ _ ?_; clear hK K)
    refine wpD_seqk fun K2 hK2 => ?_
    (refine wpD_seqk fun K hK => ?_; refine wpD_region tyOK ?_; ((repeat (rw [wpS_cons]; simp)); (try simp only [wpS_nil, thenD, blockD])); refine hK _ _ _ ?_; clear hK K)
    refine wpD_part rfl (fun _ => ?_) (fun h => by simp at h)
    (refine wpD_region tyOK ?_; ((repeat (rw [wpS_cons]; simp)); (try simp only [wpS_nil, thenD, blockD])))
    refine CallX.pure globPure (hki) ?_ (by simp [D.fgts, D.fgt]) (by simp [D.pures, D.pure, Cp.free, D.pures_map]) (by simp [Out.pure, D.pure, D.pures, Cp.free, D.pures_map])
    ((try simp only [wpAft_ret, wpAft_pan, putS, updS, setS]); (repeat (rw [wpS_cons]; simp)); (try simp only [wpS_nil, thenD, blockD]))
    refine hK2 _ _ _ ?_
    (refine wpD_seqk fun K hK => ?_; refine wpD_region tyOK ?_; ((repeat (rw [wpS_cons]; simp)); (try simp only [wpS_nil, thenD, blockD])))
    refine CallX.objs globPure [0, 1] true (hp) ?_ (by rintro o hc ⟨_, rfl⟩; simp) (by decide) (by simp) (by simp [D.ren, D.rens, D.okN, D.okNs, Cp.ren, Cp.okN, HO.ren, HO.okN, okA, renA, renO, hOf, handed, D.fgt, D.fgts, List.range_succ, List.idxOf_cons]) (by simp [D.ren, D.rens, D.okN, D.okNs, Cp.ren, Cp.okN, HO.ren, HO.okN, okA, renA, renO, hOf, handed, D.fgt, D.fgts, List.range_succ, List.idxOf_cons]) (by simp [D.ren, D.rens, D.okN, D.okNs, Cp.ren, Cp.okN, HO.ren, HO.okN, okA, renA, renO, hOf, handed, D.fgt, D.fgts, List.range_succ, List.idxOf_cons]) (by simp [D.ren, D.rens, D.okN, D.okNs, Cp.ren, Cp.okN, HO.ren, HO.okN, okA, renA, renO, hOf, handed, D.fgt, D.fgts, List.range_succ, List.idxOf_cons])
    (rintro o hc ⟨ho, rfl⟩; refine ⟨true, ?_⟩; rw [show told true o = _ from ho]; clear ho; simp [D.ren, D.rens, D.okN, D.okNs, Cp.ren, Cp.okN, HO.ren, HO.okN, okA, renA, renO, hOf, handed, D.fgt, D.fgts, List.range_succ, List.idxOf_cons, Out.ren, told, Out.fgt, upO, updS, setS])
    ((try simp only [wpAft_ret, wpAft_pan, putS, updS, setS]); (repeat (rw [wpS_cons]; simp)); (try simp only [wpS_nil, thenD, blockD]))
    (refine hK _ _ _ ?_; clear hK K)
    (refine wpD_ret ?_; (try simp only [thenD, blockD]); refine EndQ.ret rfl (.inr ⟨[], by decide, by simp, ?_⟩); simp [Out.mov, movT, movH, movD, D.mov, HO.mov, okM, renM, getW, D.ren, D.rens, D.okN, D.okNs, Cp.ren, Cp.okN, HO.ren, HO.okN, okA, renA, renO, hOf, handed, D.fgt, D.fgts, List.range_succ, List.idxOf_cons, tmOf, Out.fgt, D.fgt, D.fgts])
    first | done | simp [encT_eq v]
  · rw [e] at hp ⊢
    generalize placeX t = x at hp hki
    have hEx := encT_eq x
    rw [hEx, encT_eq t, hk] at hp
    rw [encT_eq t] at hsp
    rw [hEx, encT_eq t, hk] at hki
    rw [encT_eq t]
    unfold wObjs headD Cs stepsM goneD at hp
    unfold wObjs headD Cs stepsM goneD
    refine Spec.movd globPure (wpD_spec tyOK Tryz.func81 rfl (enters _ _ Tryz.func81 rfl (by decide)) rfl rfl ?_)
    (refine wpD_seqk fun K hK => ?_; refine wpD_region tyOK ?_; ((repeat (rw [wpS_cons]; simp)); (try simp only [wpS_nil, thenD, blockD])); refine hK _ _ _ ?_; clear hK K)
    (refine wpD_seqk fun K hK => ?_; refine wpD_region tyOK ?_; ((repeat (rw [wpS_cons]; simp)); (try simp only [wpS_nil, thenD, blockD])))
    refine CallX.pure globPure (hsp) ?_ (by simp [D.fgts, D.fgt]) (by simp [D.pures, D.pure, Cp.free, D.pures_map]) (by simp [Out.pure, D.pure, D.pures, Cp.free, D.pures_map])
    ((try simp only [wpAft_ret, wpAft_pan, putS, updS, setS]); (repeat (rw [wpS_cons]; simp)); (try simp only [wpS_nil, thenD, blockD]))
    (refine hK _ _ _ ?_; clear hK K)
    (refine wpD_seqk fun K hK => ?_; refine wpD_drawk tyOK (by kernel_rfl) (by kernel_rfl) fun KT hKT => ?_; ((repeat (rw [wpT_cons]; simp [hk])); (try simp only [wpT_nil])))
    (refine hKT _ _ _ _ (by kernel_rfl) ?_; clear hKT KT; (try simp only [thenD, blockD]))
    (refine hK _ _ _ ?_; clear hK K)
    refine wpD_seqk fun K1 hK1 => ?_
    (refine wpD_seqk fun K hK => ?_; refine wpD_region tyOK ?_; ((repeat (rw [wpS_cons]; simp [hk])); (try simp only [wpS_nil, thenD, blockD])); refine hK _ _ _ ?_; clear hK K)
    refine wpD_part rfl (fun h => by simp at h) (fun _ => ?_)
    refine wpD_skip (hK1 _ _ _ ?_)
    (refine wpD_seqk fun K hK => ?_; refine wpD_region tyOK ?_; ((repeat (rw [wpS_cons]; simp)); (try simp only [wpS_nil, thenD, blockD])); refine hK _ _ _ ?_; clear hK K)
    refine wpD_seqk fun K2 hK2 => ?_
    (refine wpD_seqk fun K hK => ?_; refine wpD_region tyOK ?_; ((repeat (rw [wpS_cons]; simp)); (try simp only [wpS_nil, thenD, blockD])); refine hK _ _ _ ?_; clear hK K)
    refine wpD_part rfl (fun _ => ?_) (fun h => by simp at h)
    (refine wpD_region tyOK ?_; ((repeat (rw [wpS_cons]; simp)); (try simp only [wpS_nil, thenD, blockD])))
    refine CallX.pure globPure (hki) ?_ (by simp [D.fgts, D.fgt]) (by simp [D.pures, D.pure, Cp.free, D.pures_map]) (by simp [Out.pure, D.pure, D.pures, Cp.free, D.pures_map])
    ((try simp only [wpAft_ret, wpAft_pan, putS, updS, setS]); (repeat (rw [wpS_cons]; simp)); (try simp only [wpS_nil, thenD, blockD]))
    refine hK2 _ _ _ ?_
    (refine wpD_seqk fun K hK => ?_; refine wpD_region tyOK ?_; ((repeat (rw [wpS_cons]; simp)); (try simp only [wpS_nil, thenD, blockD])))
    refine CallX.objs globPure [0, 1] true (hp) ?_ (by rintro o hc ⟨_, rfl⟩; simp) (by decide) (by simp) (by simp [D.ren, D.rens, D.okN, D.okNs, Cp.ren, Cp.okN, HO.ren, HO.okN, okA, renA, renO, hOf, handed, D.fgt, D.fgts, List.range_succ, List.idxOf_cons]) (by simp [D.ren, D.rens, D.okN, D.okNs, Cp.ren, Cp.okN, HO.ren, HO.okN, okA, renA, renO, hOf, handed, D.fgt, D.fgts, List.range_succ, List.idxOf_cons]) (by simp [D.ren, D.rens, D.okN, D.okNs, Cp.ren, Cp.okN, HO.ren, HO.okN, okA, renA, renO, hOf, handed, D.fgt, D.fgts, List.range_succ, List.idxOf_cons]) (by simp [D.ren, D.rens, D.okN, D.okNs, Cp.ren, Cp.okN, HO.ren, HO.okN, okA, renA, renO, hOf, handed, D.fgt, D.fgts, List.range_succ, List.idxOf_cons])
    (rintro o hc ⟨rfl, rfl⟩; refine ⟨false, ?_⟩; simp [D.ren, D.rens, D.okN, D.okNs, Cp.ren, Cp.okN, HO.ren, HO.okN, okA, renA, renO, hOf, handed, D.fgt, D.fgts, List.range_succ, List.idxOf_cons, Out.ren, told, Out.fgt, upO, updS, setS])
    ((try simp only [thenD, blockD]); refine EndQ.pan (.inr ⟨[], by decide, by simp, ?_⟩); simp [Out.mov, movT, movH, movD, D.mov, HO.mov, okM, renM, getW, D.ren, D.rens, D.okN, D.okNs, Cp.ren, Cp.okN, HO.ren, HO.okN, okA, renA, renO, hOf, handed, D.fgt, D.fgts, List.range_succ, List.idxOf_cons, tmOf, Out.fgt, D.fgt, D.fgts])
theorem step_18 (left : Int) (l : List C) (once done : Bool) (hl : left ≤ 9223372036854775807) (t : T) (ht : okS t) (hk : t.k = 18) {i many : Nat} (hs : spot t = some (i, many)) (hp : Spec Tryz.prog glob 75 [.box 0 0, encT t, encT (placeX t)] (wObjs left l once done) (OwnP left l once done t (ownS l t (placeX t)))) : Spec Tryz.prog glob 81 [.box 0 0, encT t] (wObjs left l once done) (OwnP left l once done t (ownS l t (placeX t))) := by
  have hsp := spot_spec t ht.1.kl
  rw [spotO_some hs ht.1.kl] at hsp
  have hki := kidn_spec t i i rfl
  rw [← placeX_some hs] at hki
  rcases OwnP_cases left l once done t (ownS l t (placeX t)) with ⟨v, b, lf, e⟩ | e
  · rw [e] at hp ⊢
    generalize placeX t = x at hp hki
    have hEx := encT_eq x
    rw [hEx, encT_eq t, encT_eq v, hk] at hp
    rw [encT_eq t] at hsp
    rw [hEx, encT_eq t, hk] at hki
    rw [encT_eq t]
    unfold wObjs headD Cs stepsM at hp ⊢
    refine Spec.movd globPure (wpD_spec tyOK Tryz.func81 rfl (enters _ _ Tryz.func81 rfl (by decide)) rfl rfl ?_)
    (refine wpD_seqk fun K hK => ?_; refine wpD_region tyOK ?_; ((repeat (rw [wpS_cons]; simp)); (try simp only [wpS_nil, thenD, blockD])); refine hK _ _ _ ?_; clear hK K)
    (refine wpD_seqk fun K hK => ?_; refine wpD_region tyOK ?_; ((repeat (rw [wpS_cons]; simp)); (try simp only [wpS_nil, thenD, blockD])))
    refine CallX.pure globPure (hsp) ?_ (by simp [D.fgts, D.fgt]) (by simp [D.pures, D.pure, Cp.free, D.pures_map]) (by simp [Out.pure, D.pure, D.pures, Cp.free, D.pures_map])
    ((try simp only [wpAft_ret, wpAft_pan, putS, updS, setS]); (repeat (rw [wpS_cons]; simp)); (try simp only [wpS_nil, thenD, blockD]))
    (refine hK _ _ _ ?_; clear hK K)
    (refine wpD_seqk fun K hK => ?_; refine wpD_drawk tyOK (by kernel_rfl) (by kernel_rfl) fun KT hKT => ?_; ((repeat (rw [wpT_cons]; simp [hk])); (try simp only [wpT_nil])))
    (refine hKT _ _ _ _ (by kernel_rfl) ?_; clear hKT KT; (try simp only [thenD, blockD]))
    (refine hK _ _ _ ?_; clear hK K)
    refine wpD_seqk fun K1 hK1 => ?_
    (refine wpD_seqk fun K hK => ?_; refine wpD_region tyOK ?_; ((repeat (rw [wpS_cons]; simp [hk])); (try simp only [wpS_nil, thenD, blockD])); refine hK _ _ _ ?_; clear hK K)
    refine wpD_part rfl (fun h => by simp at h) (fun _ => ?_)
    refine wpD_skip (hK1 _ _ _ ?_)
    (refine wpD_seqk fun K hK => ?_; refine wpD_region tyOK ?_; ((repeat (rw [wpS_cons]; simp)); (try simp only [wpS_nil, thenD, blockD])); refine hK _ _ _ ?_; clear hK K)
    refine wpD_seqk fun K2 hK2 => ?_
    (refine wpD_seqk fun K hK => ?_; refine wpD_region tyOK ?_; ((repeat (rw [wpS_cons]; simp)); (try simp only [wpS_nil, thenD, blockD])); refine hK _ _ _ ?_; clear hK K)
    refine wpD_part rfl (fun _ => ?_) (fun h => by simp at h)
    (refine wpD_region tyOK ?_; ((repeat (rw [wpS_cons]; simp)); (try simp only [wpS_nil, thenD, blockD])))
    refine CallX.pure globPure (hki) ?_ (by simp [D.fgts, D.fgt]) (by simp [D.pures, D.pure, Cp.free, D.pures_map]) (by simp [Out.pure, D.pure, D.pures, Cp.free, D.pures_map])
    ((try simp only [wpAft_ret, wpAft_pan, putS, updS, setS]); (repeat (rw [wpS_cons]; simp)); (try simp only [wpS_nil, thenD, blockD]))
    refine hK2 _ _ _ ?_
    (refine wpD_seqk fun K hK => ?_; refine wpD_region tyOK ?_; ((repeat (rw [wpS_cons]; simp)); (try simp only [wpS_nil, thenD, blockD])))
    refine CallX.objs globPure [0, 1] true (hp) ?_ (by rintro o hc ⟨_, rfl⟩; simp) (by decide) (by simp) (by simp [D.ren, D.rens, D.okN, D.okNs, Cp.ren, Cp.okN, HO.ren, HO.okN, okA, renA, renO, hOf, handed, D.fgt, D.fgts, List.range_succ, List.idxOf_cons]) (by simp [D.ren, D.rens, D.okN, D.okNs, Cp.ren, Cp.okN, HO.ren, HO.okN, okA, renA, renO, hOf, handed, D.fgt, D.fgts, List.range_succ, List.idxOf_cons]) (by simp [D.ren, D.rens, D.okN, D.okNs, Cp.ren, Cp.okN, HO.ren, HO.okN, okA, renA, renO, hOf, handed, D.fgt, D.fgts, List.range_succ, List.idxOf_cons]) (by simp [D.ren, D.rens, D.okN, D.okNs, Cp.ren, Cp.okN, HO.ren, HO.okN, okA, renA, renO, hOf, handed, D.fgt, D.fgts, List.range_succ, List.idxOf_cons])
    (rintro o hc ⟨ho, rfl⟩; refine ⟨true, ?_⟩; rw [show told true o = _ from ho]; clear ho; simp [D.ren, D.rens, D.okN, D.okNs, Cp.ren, Cp.okN, HO.ren, HO.okN, okA, renA, renO, hOf, handed, D.fgt, D.fgts, List.range_succ, List.idxOf_cons, Out.ren, told, Out.fgt, upO, updS, setS])
    ((try simp only [wpAft_ret, wpAft_pan, putS, updS, setS]); (repeat (rw [wpS_cons]; simp)); (try simp only [wpS_nil, thenD, blockD]))
    (refine hK _ _ _ ?_; clear hK K)
    (refine wpD_ret ?_; (try simp only [thenD, blockD]); refine EndQ.ret rfl (.inr ⟨[], by decide, by simp, ?_⟩); simp [Out.mov, movT, movH, movD, D.mov, HO.mov, okM, renM, getW, D.ren, D.rens, D.okN, D.okNs, Cp.ren, Cp.okN, HO.ren, HO.okN, okA, renA, renO, hOf, handed, D.fgt, D.fgts, List.range_succ, List.idxOf_cons, tmOf, Out.fgt, D.fgt, D.fgts])
    first | done | simp [encT_eq v]
  · rw [e] at hp ⊢
    generalize placeX t = x at hp hki
    have hEx := encT_eq x
    rw [hEx, encT_eq t, hk] at hp
    rw [encT_eq t] at hsp
    rw [hEx, encT_eq t, hk] at hki
    rw [encT_eq t]
    unfold wObjs headD Cs stepsM goneD at hp
    unfold wObjs headD Cs stepsM goneD
    refine Spec.movd globPure (wpD_spec tyOK Tryz.func81 rfl (enters _ _ Tryz.func81 rfl (by decide)) rfl rfl ?_)
    (refine wpD_seqk fun K hK => ?_; refine wpD_region tyOK ?_; ((repeat (rw [wpS_cons]; simp)); (try simp only [wpS_nil, thenD, blockD])); refine hK _ _ _ ?_; clear hK K)
    (refine wpD_seqk fun K hK => ?_; refine wpD_region tyOK ?_; ((repeat (rw [wpS_cons]; simp)); (try simp only [wpS_nil, thenD, blockD])))
    refine CallX.pure globPure (hsp) ?_ (by simp [D.fgts, D.fgt]) (by simp [D.pures, D.pure, Cp.free, D.pures_map]) (by simp [Out.pure, D.pure, D.pures, Cp.free, D.pures_map])
    ((try simp only [wpAft_ret, wpAft_pan, putS, updS, setS]); (repeat (rw [wpS_cons]; simp)); (try simp only [wpS_nil, thenD, blockD]))
    (refine hK _ _ _ ?_; clear hK K)
    (refine wpD_seqk fun K hK => ?_; refine wpD_drawk tyOK (by kernel_rfl) (by kernel_rfl) fun KT hKT => ?_; ((repeat (rw [wpT_cons]; simp [hk])); (try simp only [wpT_nil])))
    (refine hKT _ _ _ _ (by kernel_rfl) ?_; clear hKT KT; (try simp only [thenD, blockD]))
    (refine hK _ _ _ ?_; clear hK K)
    refine wpD_seqk fun K1 hK1 => ?_
    (refine wpD_seqk fun K hK => ?_; refine wpD_region tyOK ?_; ((repeat (rw [wpS_cons]; simp [hk])); (try simp only [wpS_nil, thenD, blockD])); refine hK _ _ _ ?_; clear hK K)
    refine wpD_part rfl (fun h => by simp at h) (fun _ => ?_)
    refine wpD_skip (hK1 _ _ _ ?_)
    (refine wpD_seqk fun K hK => ?_; refine wpD_region tyOK ?_; ((repeat (rw [wpS_cons]; simp)); (try simp only [wpS_nil, thenD, blockD])); refine hK _ _ _ ?_; clear hK K)
    refine wpD_seqk fun K2 hK2 => ?_
    (refine wpD_seqk fun K hK => ?_; refine wpD_region tyOK ?_; ((repeat (rw [wpS_cons]; simp)); (try simp only [wpS_nil, thenD, blockD])); refine hK _ _ _ ?_; clear hK K)
    refine wpD_part rfl (fun _ => ?_) (fun h => by simp at h)
    (refine wpD_region tyOK ?_; ((repeat (rw [wpS_cons]; simp)); (try simp only [wpS_nil, thenD, blockD])))
    refine CallX.pure globPure (hki) ?_ (by simp [D.fgts, D.fgt]) (by simp [D.pures, D.pure, Cp.free, D.pures_map]) (by simp [Out.pure, D.pure, D.pures, Cp.free, D.pures_map])
    ((try simp only [wpAft_ret, wpAft_pan, putS, updS, setS]); (repeat (rw [wpS_cons]; simp)); (try simp only [wpS_nil, thenD, blockD]))
    refine hK2 _ _ _ ?_
    (refine wpD_seqk fun K hK => ?_; refine wpD_region tyOK ?_; ((repeat (rw [wpS_cons]; simp)); (try simp only [wpS_nil, thenD, blockD])))
    refine CallX.objs globPure [0, 1] true (hp) ?_ (by rintro o hc ⟨_, rfl⟩; simp) (by decide) (by simp) (by simp [D.ren, D.rens, D.okN, D.okNs, Cp.ren, Cp.okN, HO.ren, HO.okN, okA, renA, renO, hOf, handed, D.fgt, D.fgts, List.range_succ, List.idxOf_cons]) (by simp [D.ren, D.rens, D.okN, D.okNs, Cp.ren, Cp.okN, HO.ren, HO.okN, okA, renA, renO, hOf, handed, D.fgt, D.fgts, List.range_succ, List.idxOf_cons]) (by simp [D.ren, D.rens, D.okN, D.okNs, Cp.ren, Cp.okN, HO.ren, HO.okN, okA, renA, renO, hOf, handed, D.fgt, D.fgts, List.range_succ, List.idxOf_cons]) (by simp [D.ren, D.rens, D.okN, D.okNs, Cp.ren, Cp.okN, HO.ren, HO.okN, okA, renA, renO, hOf, handed, D.fgt, D.fgts, List.range_succ, List.idxOf_cons])
    (rintro o hc ⟨rfl, rfl⟩; refine ⟨false, ?_⟩; simp [D.ren, D.rens, D.okN, D.okNs, Cp.ren, Cp.okN, HO.ren, HO.okN, okA, renA, renO, hOf, handed, D.fgt, D.fgts, List.range_succ, List.idxOf_cons, Out.ren, told, Out.fgt, upO, updS, setS])
    ((try simp only [thenD, blockD]); refine EndQ.pan (.inr ⟨[], by decide, by simp, ?_⟩); simp [Out.mov, movT, movH, movD, D.mov, HO.mov, okM, renM, getW, D.ren, D.rens, D.okN, D.okNs, Cp.ren, Cp.okN, HO.ren, HO.okN, okA, renA, renO, hOf, handed, D.fgt, D.fgts, List.range_succ, List.idxOf_cons, tmOf, Out.fgt, D.fgt, D.fgts])
theorem step_21 (left : Int) (l : List C) (once done : Bool) (hl : left ≤ 9223372036854775807) (t : T) (ht : okS t) (hk : t.k = 21) {i many : Nat} (hs : spot t = some (i, many)) (hp : Spec Tryz.prog glob 76 [.box 0 0, encT t, encT (placeX t)] (wObjs left l once done) (OwnP left l once done t (ownS l t (placeX t)))) : Spec Tryz.prog glob 81 [.box 0 0, encT t] (wObjs left l once done) (OwnP left l once done t (ownS l t (placeX t))) := by
  have hsp := spot_spec t ht.1.kl
  rw [spotO_some hs ht.1.kl] at hsp
  have hki := kidn_spec t i i rfl
  rw [← placeX_some hs] at hki
  rcases OwnP_cases left l once done t (ownS l t (placeX t)) with ⟨v, b, lf, e⟩ | e
  · rw [e] at hp ⊢
    generalize placeX t = x at hp hki
    have hEx := encT_eq x
    rw [hEx, encT_eq t, encT_eq v, hk] at hp
    rw [encT_eq t] at hsp
    rw [hEx, encT_eq t, hk] at hki
    rw [encT_eq t]
    unfold wObjs headD Cs stepsM at hp ⊢
    refine Spec.movd globPure (wpD_spec tyOK Tryz.func81 rfl (enters _ _ Tryz.func81 rfl (by decide)) rfl rfl ?_)
    (refine wpD_seqk fun K hK => ?_; refine wpD_region tyOK ?_; ((repeat (rw [wpS_cons]; simp)); (try simp only [wpS_nil, thenD, blockD])); refine hK _ _ _ ?_; clear hK K)
    (refine wpD_seqk fun K hK => ?_; refine wpD_region tyOK ?_; ((repeat (rw [wpS_cons]; simp)); (try simp only [wpS_nil, thenD, blockD])))
    refine CallX.pure globPure (hsp) ?_ (by simp [D.fgts, D.fgt]) (by simp [D.pures, D.pure, Cp.free, D.pures_map]) (by simp [Out.pure, D.pure, D.pures, Cp.free, D.pures_map])
    ((try simp only [wpAft_ret, wpAft_pan, putS, updS, setS]); (repeat (rw [wpS_cons]; simp)); (try simp only [wpS_nil, thenD, blockD]))
    (refine hK _ _ _ ?_; clear hK K)
    (refine wpD_seqk fun K hK => ?_; refine wpD_drawk tyOK (by kernel_rfl) (by kernel_rfl) fun KT hKT => ?_; ((repeat (rw [wpT_cons]; simp [hk])); (try simp only [wpT_nil])))
    (refine hKT _ _ _ _ (by kernel_rfl) ?_; clear hKT KT; (try simp only [thenD, blockD]))
    (refine hK _ _ _ ?_; clear hK K)
    refine wpD_seqk fun K1 hK1 => ?_
    (refine wpD_seqk fun K hK => ?_; refine wpD_region tyOK ?_; ((repeat (rw [wpS_cons]; simp [hk])); (try simp only [wpS_nil, thenD, blockD])); refine hK _ _ _ ?_; clear hK K)
    refine wpD_part rfl (fun h => by simp at h) (fun _ => ?_)
    refine wpD_skip (hK1 _ _ _ ?_)
    (refine wpD_seqk fun K hK => ?_; refine wpD_region tyOK ?_; ((repeat (rw [wpS_cons]; simp)); (try simp only [wpS_nil, thenD, blockD])); refine hK _ _ _ ?_; clear hK K)
    refine wpD_seqk fun K2 hK2 => ?_
    (refine wpD_seqk fun K hK => ?_; refine wpD_region tyOK ?_; ((repeat (rw [wpS_cons]; simp)); (try simp only [wpS_nil, thenD, blockD])); refine hK _ _ _ ?_; clear hK K)
    refine wpD_part rfl (fun _ => ?_) (fun h => by simp at h)
    (refine wpD_region tyOK ?_; ((repeat (rw [wpS_cons]; simp)); (try simp only [wpS_nil, thenD, blockD])))
    refine CallX.pure globPure (hki) ?_ (by simp [D.fgts, D.fgt]) (by simp [D.pures, D.pure, Cp.free, D.pures_map]) (by simp [Out.pure, D.pure, D.pures, Cp.free, D.pures_map])
    ((try simp only [wpAft_ret, wpAft_pan, putS, updS, setS]); (repeat (rw [wpS_cons]; simp)); (try simp only [wpS_nil, thenD, blockD]))
    refine hK2 _ _ _ ?_
    (refine wpD_seqk fun K hK => ?_; refine wpD_region tyOK ?_; ((repeat (rw [wpS_cons]; simp)); (try simp only [wpS_nil, thenD, blockD])))
    refine CallX.objs globPure [0, 1] true (hp) ?_ (by rintro o hc ⟨_, rfl⟩; simp) (by decide) (by simp) (by simp [D.ren, D.rens, D.okN, D.okNs, Cp.ren, Cp.okN, HO.ren, HO.okN, okA, renA, renO, hOf, handed, D.fgt, D.fgts, List.range_succ, List.idxOf_cons]) (by simp [D.ren, D.rens, D.okN, D.okNs, Cp.ren, Cp.okN, HO.ren, HO.okN, okA, renA, renO, hOf, handed, D.fgt, D.fgts, List.range_succ, List.idxOf_cons]) (by simp [D.ren, D.rens, D.okN, D.okNs, Cp.ren, Cp.okN, HO.ren, HO.okN, okA, renA, renO, hOf, handed, D.fgt, D.fgts, List.range_succ, List.idxOf_cons]) (by simp [D.ren, D.rens, D.okN, D.okNs, Cp.ren, Cp.okN, HO.ren, HO.okN, okA, renA, renO, hOf, handed, D.fgt, D.fgts, List.range_succ, List.idxOf_cons])
    (rintro o hc ⟨ho, rfl⟩; refine ⟨true, ?_⟩; rw [show told true o = _ from ho]; clear ho; simp [D.ren, D.rens, D.okN, D.okNs, Cp.ren, Cp.okN, HO.ren, HO.okN, okA, renA, renO, hOf, handed, D.fgt, D.fgts, List.range_succ, List.idxOf_cons, Out.ren, told, Out.fgt, upO, updS, setS])
    ((try simp only [wpAft_ret, wpAft_pan, putS, updS, setS]); (repeat (rw [wpS_cons]; simp)); (try simp only [wpS_nil, thenD, blockD]))
    (refine hK _ _ _ ?_; clear hK K)
    (refine wpD_ret ?_; (try simp only [thenD, blockD]); refine EndQ.ret rfl (.inr ⟨[], by decide, by simp, ?_⟩); simp [Out.mov, movT, movH, movD, D.mov, HO.mov, okM, renM, getW, D.ren, D.rens, D.okN, D.okNs, Cp.ren, Cp.okN, HO.ren, HO.okN, okA, renA, renO, hOf, handed, D.fgt, D.fgts, List.range_succ, List.idxOf_cons, tmOf, Out.fgt, D.fgt, D.fgts])
    first | done | simp [encT_eq v]
  · rw [e] at hp ⊢
    generalize placeX t = x at hp hki
    have hEx := encT_eq x
    rw [hEx, encT_eq t, hk] at hp
    rw [encT_eq t] at hsp
    rw [hEx, encT_eq t, hk] at hki
    rw [encT_eq t]
    unfold wObjs headD Cs stepsM goneD at hp
    unfold wObjs headD Cs stepsM goneD
    refine Spec.movd globPure (wpD_spec tyOK Tryz.func81 rfl (enters _ _ Tryz.func81 rfl (by decide)) rfl rfl ?_)
    (refine wpD_seqk fun K hK => ?_; refine wpD_region tyOK ?_; ((repeat (rw [wpS_cons]; simp)); (try simp only [wpS_nil, thenD, blockD])); refine hK _ _ _ ?_; clear hK K)
    (refine wpD_seqk fun K hK => ?_; refine wpD_region tyOK ?_; ((repeat (rw [wpS_cons]; simp)); (try simp only [wpS_nil, thenD, blockD])))
    refine CallX.pure globPure (hsp) ?_ (by simp [D.fgts, D.fgt]) (by simp [D.pures, D.pure, Cp.free, D.pures_map]) (by simp [Out.pure, D.pure, D.pures, Cp.free, D.pures_map])
    ((try simp only [wpAft_ret, wpAft_pan, putS, updS, setS]); (repeat (rw [wpS_cons]; simp)); (try simp only [wpS_nil, thenD, blockD]))
    (refine hK _ _ _ ?_; clear hK K)
    (refine wpD_seqk fun K hK => ?_; refine wpD_drawk tyOK (by kernel_rfl) (by kernel_rfl) fun KT hKT => ?_; ((repeat (rw [wpT_cons]; simp [hk])); (try simp only [wpT_nil])))
    (refine hKT _ _ _ _ (by kernel_rfl) ?_; clear hKT KT; (try simp only [thenD, blockD]))
    (refine hK _ _ _ ?_; clear hK K)
    refine wpD_seqk fun K1 hK1 => ?_
    (refine wpD_seqk fun K hK => ?_; refine wpD_region tyOK ?_; ((repeat (rw [wpS_cons]; simp [hk])); (try simp only [wpS_nil, thenD, blockD])); refine hK _ _ _ ?_; clear hK K)
    refine wpD_part rfl (fun h => by simp at h) (fun _ => ?_)
    refine wpD_skip (hK1 _ _ _ ?_)
    (refine wpD_seqk fun K hK => ?_; refine wpD_region tyOK ?_; ((repeat (rw [wpS_cons]; simp)); (try simp only [wpS_nil, thenD, blockD])); refine hK _ _ _ ?_; clear hK K)
    refine wpD_seqk fun K2 hK2 => ?_
    (refine wpD_seqk fun K hK => ?_; refine wpD_region tyOK ?_; ((repeat (rw [wpS_cons]; simp)); (try simp only [wpS_nil, thenD, blockD])); refine hK _ _ _ ?_; clear hK K)
    refine wpD_part rfl (fun _ => ?_) (fun h => by simp at h)
    (refine wpD_region tyOK ?_; ((repeat (rw [wpS_cons]; simp)); (try simp only [wpS_nil, thenD, blockD])))
    refine CallX.pure globPure (hki) ?_ (by simp [D.fgts, D.fgt]) (by simp [D.pures, D.pure, Cp.free, D.pures_map]) (by simp [Out.pure, D.pure, D.pures, Cp.free, D.pures_map])
    ((try simp only [wpAft_ret, wpAft_pan, putS, updS, setS]); (repeat (rw [wpS_cons]; simp)); (try simp only [wpS_nil, thenD, blockD]))
    refine hK2 _ _ _ ?_
    (refine wpD_seqk fun K hK => ?_; refine wpD_region tyOK ?_; ((repeat (rw [wpS_cons]; simp)); (try simp only [wpS_nil, thenD, blockD])))
    refine CallX.objs globPure [0, 1] true (hp) ?_ (by rintro o hc ⟨_, rfl⟩; simp) (by decide) (by simp) (by simp [D.ren, D.rens, D.okN, D.okNs, Cp.ren, Cp.okN, HO.ren, HO.okN, okA, renA, renO, hOf, handed, D.fgt, D.fgts, List.range_succ, List.idxOf_cons]) (by simp [D.ren, D.rens, D.okN, D.okNs, Cp.ren, Cp.okN, HO.ren, HO.okN, okA, renA, renO, hOf, handed, D.fgt, D.fgts, List.range_succ, List.idxOf_cons]) (by simp [D.ren, D.rens, D.okN, D.okNs, Cp.ren, Cp.okN, HO.ren, HO.okN, okA, renA, renO, hOf, handed, D.fgt, D.fgts, List.range_succ, List.idxOf_cons]) (by simp [D.ren, D.rens, D.okN, D.okNs, Cp.ren, Cp.okN, HO.ren, HO.okN, okA, renA, renO, hOf, handed, D.fgt, D.fgts, List.range_succ, List.idxOf_cons])
    (rintro o hc ⟨rfl, rfl⟩; refine ⟨false, ?_⟩; simp [D.ren, D.rens, D.okN, D.okNs, Cp.ren, Cp.okN, HO.ren, HO.okN, okA, renA, renO, hOf, handed, D.fgt, D.fgts, List.range_succ, List.idxOf_cons, Out.ren, told, Out.fgt, upO, updS, setS])
    ((try simp only [thenD, blockD]); refine EndQ.pan (.inr ⟨[], by decide, by simp, ?_⟩); simp [Out.mov, movT, movH, movD, D.mov, HO.mov, okM, renM, getW, D.ren, D.rens, D.okN, D.okNs, Cp.ren, Cp.okN, HO.ren, HO.okN, okA, renA, renO, hOf, handed, D.fgt, D.fgts, List.range_succ, List.idxOf_cons, tmOf, Out.fgt, D.fgt, D.fgts])
theorem step_24 (left : Int) (l : List C) (once done : Bool) (hl : left ≤ 9223372036854775807) (t : T) (ht : okS t) (hk : t.k = 24) {i many : Nat} (hs : spot t = some (i, many)) (hp : Spec Tryz.prog glob 77 [.box 0 0, encT t, encT (placeX t)] (wObjs left l once done) (OwnP left l once done t (ownS l t (placeX t)))) : Spec Tryz.prog glob 81 [.box 0 0, encT t] (wObjs left l once done) (OwnP left l once done t (ownS l t (placeX t))) := by
  have hsp := spot_spec t ht.1.kl
  rw [spotO_some hs ht.1.kl] at hsp
  have hki := kidn_spec t i i rfl
  rw [← placeX_some hs] at hki
  rcases OwnP_cases left l once done t (ownS l t (placeX t)) with ⟨v, b, lf, e⟩ | e
  · rw [e] at hp ⊢
    generalize placeX t = x at hp hki
    have hEx := encT_eq x
    rw [hEx, encT_eq t, encT_eq v, hk] at hp
    rw [encT_eq t] at hsp
    rw [hEx, encT_eq t, hk] at hki
    rw [encT_eq t]
    unfold wObjs headD Cs stepsM at hp ⊢
    refine Spec.movd globPure (wpD_spec tyOK Tryz.func81 rfl (enters _ _ Tryz.func81 rfl (by decide)) rfl rfl ?_)
    (refine wpD_seqk fun K hK => ?_; refine wpD_region tyOK ?_; ((repeat (rw [wpS_cons]; simp)); (try simp only [wpS_nil, thenD, blockD])); refine hK _ _ _ ?_; clear hK K)
    (refine wpD_seqk fun K hK => ?_; refine wpD_region tyOK ?_; ((repeat (rw [wpS_cons]; simp)); (try simp only [wpS_nil, thenD, blockD])))
    refine CallX.pure globPure (hsp) ?_ (by simp [D.fgts, D.fgt]) (by simp [D.pures, D.pure, Cp.free, D.pures_map]) (by simp [Out.pure, D.pure, D.pures, Cp.free, D.pures_map])
    ((try simp only [wpAft_ret, wpAft_pan, putS, updS, setS]); (repeat (rw [wpS_cons]; simp)); (try simp only [wpS_nil, thenD, blockD]))
    (refine hK _ _ _ ?_; clear hK K)
    (refine wpD_seqk fun K hK => ?_; refine wpD_drawk tyOK (by kernel_rfl) (by kernel_rfl) fun KT hKT => ?_; ((repeat (rw [wpT_cons]; simp [hk])); (try simp only [wpT_nil])))
    (refine hKT _ _ _ _ (by kernel_rfl) ?_; clear hKT KT; (try simp only [thenD, blockD]))
    (refine hK _ _ _ ?_; clear hK K)
    refine wpD_seqk fun K1 hK1 => ?_
    (refine wpD_seqk fun K hK => ?_; refine wpD_region tyOK ?_; ((repeat (rw [wpS_cons]; simp [hk])); (try simp only [wpS_nil, thenD, blockD])); refine hK _ _ _ ?_; clear hK K)
    refine wpD_part rfl (fun h => by simp at h) (fun _ => ?_)
    refine wpD_skip (hK1 _ _ _ ?_)
    (refine wpD_seqk fun K hK => ?_; refine wpD_region tyOK ?_; ((repeat (rw [wpS_cons]; simp)); (try simp only [wpS_nil, thenD, blockD])); refine hK _ _ _ ?_; clear hK K)
    refine wpD_seqk fun K2 hK2 => ?_
    (refine wpD_seqk fun K hK => ?_; refine wpD_region tyOK ?_; ((repeat (rw [wpS_cons]; simp)); (try simp only [wpS_nil, thenD, blockD])); refine hK _ _ _ ?_; clear hK K)
    refine wpD_part rfl (fun _ => ?_) (fun h => by simp at h)
    (refine wpD_region tyOK ?_; ((repeat (rw [wpS_cons]; simp)); (try simp only [wpS_nil, thenD, blockD])))
    refine CallX.pure globPure (hki) ?_ (by simp [D.fgts, D.fgt]) (by simp [D.pures, D.pure, Cp.free, D.pures_map]) (by simp [Out.pure, D.pure, D.pures, Cp.free, D.pures_map])
    ((try simp only [wpAft_ret, wpAft_pan, putS, updS, setS]); (repeat (rw [wpS_cons]; simp)); (try simp only [wpS_nil, thenD, blockD]))
    refine hK2 _ _ _ ?_
    (refine wpD_seqk fun K hK => ?_; refine wpD_region tyOK ?_; ((repeat (rw [wpS_cons]; simp)); (try simp only [wpS_nil, thenD, blockD])))
    refine CallX.objs globPure [0, 1] true (hp) ?_ (by rintro o hc ⟨_, rfl⟩; simp) (by decide) (by simp) (by simp [D.ren, D.rens, D.okN, D.okNs, Cp.ren, Cp.okN, HO.ren, HO.okN, okA, renA, renO, hOf, handed, D.fgt, D.fgts, List.range_succ, List.idxOf_cons]) (by simp [D.ren, D.rens, D.okN, D.okNs, Cp.ren, Cp.okN, HO.ren, HO.okN, okA, renA, renO, hOf, handed, D.fgt, D.fgts, List.range_succ, List.idxOf_cons]) (by simp [D.ren, D.rens, D.okN, D.okNs, Cp.ren, Cp.okN, HO.ren, HO.okN, okA, renA, renO, hOf, handed, D.fgt, D.fgts, List.range_succ, List.idxOf_cons]) (by simp [D.ren, D.rens, D.okN, D.okNs, Cp.ren, Cp.okN, HO.ren, HO.okN, okA, renA, renO, hOf, handed, D.fgt, D.fgts, List.range_succ, List.idxOf_cons])
    (rintro o hc ⟨ho, rfl⟩; refine ⟨true, ?_⟩; rw [show told true o = _ from ho]; clear ho; simp [D.ren, D.rens, D.okN, D.okNs, Cp.ren, Cp.okN, HO.ren, HO.okN, okA, renA, renO, hOf, handed, D.fgt, D.fgts, List.range_succ, List.idxOf_cons, Out.ren, told, Out.fgt, upO, updS, setS])
    ((try simp only [wpAft_ret, wpAft_pan, putS, updS, setS]); (repeat (rw [wpS_cons]; simp)); (try simp only [wpS_nil, thenD, blockD]))
    (refine hK _ _ _ ?_; clear hK K)
    (refine wpD_ret ?_; (try simp only [thenD, blockD]); refine EndQ.ret rfl (.inr ⟨[], by decide, by simp, ?_⟩); simp [Out.mov, movT, movH, movD, D.mov, HO.mov, okM, renM, getW, D.ren, D.rens, D.okN, D.okNs, Cp.ren, Cp.okN, HO.ren, HO.okN, okA, renA, renO, hOf, handed, D.fgt, D.fgts, List.range_succ, List.idxOf_cons, tmOf, Out.fgt, D.fgt, D.fgts])
    first | done | simp [encT_eq v]
  · rw [e] at hp ⊢
    generalize placeX t = x at hp hki
    have hEx := encT_eq x
    rw [hEx, encT_eq t, hk] at hp
    rw [encT_eq t] at hsp
    rw [hEx, encT_eq t, hk] at hki
    rw [encT_eq t]
    unfold wObjs headD Cs stepsM goneD at hp
    unfold wObjs headD Cs stepsM goneD
    refine Spec.movd globPure (wpD_spec tyOK Tryz.func81 rfl (enters _ _ Tryz.func81 rfl (by decide)) rfl rfl ?_)
    (refine wpD_seqk fun K hK => ?_; refine wpD_region tyOK ?_; ((repeat (rw [wpS_cons]; simp)); (try simp only [wpS_nil, thenD, blockD])); refine hK _ _ _ ?_; clear hK K)
    (refine wpD_seqk fun K hK => ?_; refine wpD_region tyOK ?_; ((repeat (rw [wpS_cons]; simp)); (try simp only [wpS_nil, thenD, blockD])))
    refine CallX.pure globPure (hsp) ?_ (by simp [D.fgts, D.fgt]) (by simp [D.pures, D.pure, Cp.free, D.pures_map]) (by simp [Out.pure, D.pure, D.pures, Cp.free, D.pures_map])
    ((try simp only [wpAft_ret, wpAft_pan, putS, updS, setS]); (repeat (rw [wpS_cons]; simp)); (try simp only [wpS_nil, thenD, blockD]))
    (refine hK _ _ _ ?_; clear hK K)
    (refine wpD_seqk fun K hK => ?_; refine wpD_drawk tyOK (by kernel_rfl) (by kernel_rfl) fun KT hKT => ?_; ((repeat (rw [wpT_cons]; simp [hk])); (try simp only [wpT_nil])))
    (refine hKT _ _ _ _ (by kernel_rfl) ?_; clear hKT KT; (try simp only [thenD, blockD]))
    (refine hK _ _ _ ?_; clear hK K)
    refine wpD_seqk fun K1 hK1 => ?_
    (refine wpD_seqk fun K hK => ?_; refine wpD_region tyOK ?_; ((repeat (rw [wpS_cons]; simp [hk])); (try simp only [wpS_nil, thenD, blockD])); refine hK _ _ _ ?_; clear hK K)
    refine wpD_part rfl (fun h => by simp at h) (fun _ => ?_)
    refine wpD_skip (hK1 _ _ _ ?_)
    (refine wpD_seqk fun K hK => ?_; refine wpD_region tyOK ?_; ((repeat (rw [wpS_cons]; simp)); (try simp only [wpS_nil, thenD, blockD])); refine hK _ _ _ ?_; clear hK K)
    refine wpD_seqk fun K2 hK2 => ?_
    (refine wpD_seqk fun K hK => ?_; refine wpD_region tyOK ?_; ((repeat (rw [wpS_cons]; simp)); (try simp only [wpS_nil, thenD, blockD])); refine hK _ _ _ ?_; clear hK K)
    refine wpD_part rfl (fun _ => ?_) (fun h => by simp at h)
    (refine wpD_region tyOK ?_; ((repeat (rw [wpS_cons]; simp)); (try simp only [wpS_nil, thenD, blockD])))
    refine CallX.pure globPure (hki) ?_ (by simp [D.fgts, D.fgt]) (by simp [D.pures, D.pure, Cp.free, D.pures_map]) (by simp [Out.pure, D.pure, D.pures, Cp.free, D.pures_map])
    ((try simp only [wpAft_ret, wpAft_pan, putS, updS, setS]); (repeat (rw [wpS_cons]; simp)); (try simp only [wpS_nil, thenD, blockD]))
    refine hK2 _ _ _ ?_
    (refine wpD_seqk fun K hK => ?_; refine wpD_region tyOK ?_; ((repeat (rw [wpS_cons]; simp)); (try simp only [wpS_nil, thenD, blockD])))
    refine CallX.objs globPure [0, 1] true (hp) ?_ (by rintro o hc ⟨_, rfl⟩; simp) (by decide) (by simp) (by simp [D.ren, D.rens, D.okN, D.okNs, Cp.ren, Cp.okN, HO.ren, HO.okN, okA, renA, renO, hOf, handed, D.fgt, D.fgts, List.range_succ, List.idxOf_cons]) (by simp [D.ren, D.rens, D.okN, D.okNs, Cp.ren, Cp.okN, HO.ren, HO.okN, okA, renA, renO, hOf, handed, D.fgt, D.fgts, List.range_succ, List.idxOf_cons]) (by simp [D.ren, D.rens, D.okN, D.okNs, Cp.ren, Cp.okN, HO.ren, HO.okN, okA, renA, renO, hOf, handed, D.fgt, D.fgts, List.range_succ, List.idxOf_cons]) (by simp [D.ren, D.rens, D.okN, D.okNs, Cp.ren, Cp.okN, HO.ren, HO.okN, okA, renA, renO, hOf, handed, D.fgt, D.fgts, List.range_succ, List.idxOf_cons])
    (rintro o hc ⟨rfl, rfl⟩; refine ⟨false, ?_⟩; simp [D.ren, D.rens, D.okN, D.okNs, Cp.ren, Cp.okN, HO.ren, HO.okN, okA, renA, renO, hOf, handed, D.fgt, D.fgts, List.range_succ, List.idxOf_cons, Out.ren, told, Out.fgt, upO, updS, setS])
    ((try simp only [thenD, blockD]); refine EndQ.pan (.inr ⟨[], by decide, by simp, ?_⟩); simp [Out.mov, movT, movH, movD, D.mov, HO.mov, okM, renM, getW, D.ren, D.rens, D.okN, D.okNs, Cp.ren, Cp.okN, HO.ren, HO.okN, okA, renA, renO, hOf, handed, D.fgt, D.fgts, List.range_succ, List.idxOf_cons, tmOf, Out.fgt, D.fgt, D.fgts])
theorem step_7 (left : Int) (l : List C) (once done : Bool) (hl : left ≤ 9223372036854775807) (t : T) (ht : okS t) (hk : t.k = 7) (hs : spot t = none) (hp : Spec Tryz.prog glob 73 [.box 0 0, encT t, encT (placeX t)] (wObjs left l once done) (OwnP left l once done t (ownS l t (placeX t)))) : Spec Tryz.prog glob 81 [.box 0 0, encT t] (wObjs left l once done) (OwnP left l once done t (ownS l t (placeX t))) := by
  have hsp := spot_spec t ht.1.kl
  obtain ⟨p, q, hpq⟩ := spotO_none hs
  rw [hpq] at hsp
  have hx0 := placeX_none hs
  rcases OwnP_cases left l once done t (ownS l t (placeX t)) with ⟨v, b, lf, e⟩ | e
  · rw [e] at hp ⊢
    generalize placeX t = x at hp hx0
    have hEx := encT_eq x
    rw [hEx, encT_eq t, encT_eq v, hk] at hp
    rw [encT_eq t] at hsp
    subst hx0
    rw [show (zeroT : T).k = 0 from rfl, show (zeroT : T).n = 0 from rfl, show (zeroT : T).a = 0 from rfl, show (zeroT : T).ls = [] from rfl, show (zeroT : T).ks = [] from rfl, List.map_nil, List.map_nil] at hp
    rw [encT_eq t]
    unfold wObjs headD Cs stepsM at hp ⊢
    refine Spec.movd globPure (wpD_spec tyOK Tryz.func81 rfl (enters _ _ Tryz.func81 rfl (by decide)) rfl rfl ?_)
    (refine wpD_seqk fun K hK => ?_; refine wpD_region tyOK ?_; ((repeat (rw [wpS_cons]; simp)); (try simp only [wpS_nil, thenD, blockD])); refine hK _ _ _ ?_; clear hK K)
    (refine wpD_seqk fun K hK => ?_; refine wpD_region tyOK ?_; ((repeat (rw [wpS_cons]; simp)); (try simp only [wpS_nil, thenD, blockD])))
    refine CallX.pure globPure (hsp) ?_ (by simp [D.fgts, D.fgt]) (by simp [D.pures, D.pure, Cp.free, D.pures_map]) (by simp [Out.pure, D.pure, D.pures, Cp.free, D.pures_map])
    ((try simp only [wpAft_ret, wpAft_pan, putS, updS, setS]); (repeat (rw [wpS_cons]; simp)); (try simp only [wpS_nil, thenD, blockD]))
    (refine hK _ _ _ ?_; clear hK K)
    (refine wpD_seqk fun K hK => ?_; refine wpD_drawk tyOK (by kernel_rfl) (by kernel_rfl) fun KT hKT => ?_; ((repeat (rw [wpT_cons]; simp [hk])); (try simp only [wpT_nil])))
    (refine hKT _ _ _ _ (by kernel_rfl) ?_; clear hKT KT; (try simp only [thenD, blockD]))
    (refine hK _ _ _ ?_; clear hK K)
    refine wpD_seqk fun K1 hK1 => ?_
    (refine wpD_seqk fun K hK => ?_; refine wpD_region tyOK ?_; ((repeat (rw [wpS_cons]; simp [hk])); (try simp only [wpS_nil, thenD, blockD])); refine hK _ _ _ ?_; clear hK K)
    refine wpD_part rfl (fun h => by simp at h) (fun _ => ?_)
    refine wpD_skip (hK1 _ _ _ ?_)
    (refine wpD_seqk fun K hK => ?_; refine wpD_region tyOK ?_; ((repeat (rw [wpS_cons]; simp)); (try simp only [wpS_nil, thenD, blockD])); refine hK _ _ _ ?_; clear hK K)
    refine wpD_seqk fun K2 hK2 => ?_
    (refine wpD_seqk fun K hK => ?_; refine wpD_region tyOK ?_; ((repeat (rw [wpS_cons]; simp)); (try simp only [wpS_nil, thenD, blockD])); refine hK _ _ _ ?_; clear hK K)
    refine wpD_part rfl (fun h => by simp at h) (fun _ => ?_)
    refine wpD_skip (hK2 _ _ _ ?_)
    (refine wpD_seqk fun K hK => ?_; refine wpD_region tyOK ?_; ((repeat (rw [wpS_cons]; simp)); (try simp only [wpS_nil, thenD, blockD])))
    refine CallX.objs globPure [0, 1] true (hp) ?_ (by rintro o hc ⟨_, rfl⟩; simp) (by decide) (by simp) (by simp [D.ren, D.rens, D.okN, D.okNs, Cp.ren, Cp.okN, HO.ren, HO.okN, okA, renA, renO, hOf, handed, D.fgt, D.fgts, List.range_succ, List.idxOf_cons]) (by simp [D.ren, D.rens, D.okN, D.okNs, Cp.ren, Cp.okN, HO.ren, HO.okN, okA, renA, renO, hOf, handed, D.fgt, D.fgts, List.range_succ, List.idxOf_cons]) (by simp [D.ren, D.rens, D.okN, D.okNs, Cp.ren, Cp.okN, HO.ren, HO.okN, okA, renA, renO, hOf, handed, D.fgt, D.fgts, List.range_succ, List.idxOf_cons]) (by simp [D.ren, D.rens, D.okN, D.okNs, Cp.ren, Cp.okN, HO.ren, HO.okN, okA, renA, renO, hOf, handed, D.fgt, D.fgts, List.range_succ, List.idxOf_cons])
    (rintro o hc ⟨ho, rfl⟩; refine ⟨true, ?_⟩; rw [show told true o = _ from ho]; clear ho; simp [D.ren, D.rens, D.okN, D.okNs, Cp.ren, Cp.okN, HO.ren, HO.okN, okA, renA, renO, hOf, handed, D.fgt, D.fgts, List.range_succ, List.idxOf_cons, Out.ren, told, Out.fgt, upO, updS, setS])
    ((try simp only [wpAft_ret, wpAft_pan, putS, updS, setS]); (repeat (rw [wpS_cons]; simp)); (try simp only [wpS_nil, thenD, blockD]))
    (refine hK _ _ _ ?_; clear hK K)
    (refine wpD_ret ?_; (try simp only [thenD, blockD]); refine EndQ.ret rfl (.inr ⟨[], by decide, by simp, ?_⟩); simp [Out.mov, movT, movH, movD, D.mov, HO.mov, okM, renM, getW, D.ren, D.rens, D.okN, D.okNs, Cp.ren, Cp.okN, HO.ren, HO.okN, okA, renA, renO, hOf, handed, D.fgt, D.fgts, List.range_succ, List.idxOf_cons, tmOf, Out.fgt, D.fgt, D.fgts])
    first | done | simp [encT_eq v]
  · rw [e] at hp ⊢
    generalize placeX t = x at hp hx0
    have hEx := encT_eq x
    rw [hEx, encT_eq t, hk] at hp
    rw [encT_eq t] at hsp
    subst hx0
    rw [show (zeroT : T).k = 0 from rfl, show (zeroT : T).n = 0 from rfl, show (zeroT : T).a = 0 from rfl, show (zeroT : T).ls = [] from rfl, show (zeroT : T).ks = [] from rfl, List.map_nil, List.map_nil] at hp
    rw [encT_eq t]
    unfold wObjs headD Cs stepsM goneD at hp
    unfold wObjs headD Cs stepsM goneD
    refine Spec.movd globPure (wpD_spec tyOK Tryz.func81 rfl (enters _ _ Tryz.func81 rfl (by decide)) rfl rfl ?_)
    (refine wpD_seqk fun K hK => ?_; refine wpD_region tyOK ?_; ((repeat (rw [wpS_cons]; simp)); (try simp only [wpS_nil, thenD, blockD])); refine hK _ _ _ ?_; clear hK K)
    (refine wpD_seqk fun K hK => ?_; refine wpD_region tyOK ?_; ((repeat (rw [wpS_cons]; simp)); (try simp only [wpS_nil, thenD, blockD])))
    refine CallX.pure globPure (hsp) ?_ (by simp [D.fgts, D.fgt]) (by simp [D.pures, D.pure, Cp.free, D.pures_map]) (by simp [Out.pure, D.pure, D.pures, Cp.free, D.pures_map])
    ((try simp only [wpAft_ret, wpAft_pan, putS, updS, setS]); (repeat (rw [wpS_cons]; simp)); (try simp only [wpS_nil, thenD, blockD]))
    (refine hK _ _ _ ?_; clear hK K)
    (refine wpD_seqk fun K hK => ?_; refine wpD_drawk tyOK (by kernel_rfl) (by kernel_rfl) fun KT hKT => ?_; ((repeat (rw [wpT_cons]; simp [hk])); (try simp only [wpT_nil])))
    (refine hKT _ _ _ _ (by kernel_rfl) ?_; clear hKT KT; (try simp only [thenD, blockD]))
    (refine hK _ _ _ ?_; clear hK K)
    refine wpD_seqk fun K1 hK1 => ?_
    (refine wpD_seqk fun K hK => ?_; refine wpD_region tyOK ?_; ((repeat (rw [wpS_cons]; simp [hk])); (try simp only [wpS_nil, thenD, blockD])); refine hK _ _ _ ?_; clear hK K)
    refine wpD_part rfl (fun h => by simp at h) (fun _ => ?_)
    refine wpD_skip (hK1 _ _ _ ?_)
    (refine wpD_seqk fun K hK => ?_; refine wpD_region tyOK ?_; ((repeat (rw [wpS_cons]; simp)); (try simp only [wpS_nil, thenD, blockD])); refine hK _ _ _ ?_; clear hK K)
    refine wpD_seqk fun K2 hK2 => ?_
    (refine wpD_seqk fun K hK => ?_; refine wpD_region tyOK ?_; ((repeat (rw [wpS_cons]; simp)); (try simp only [wpS_nil, thenD, blockD])); refine hK _ _ _ ?_; clear hK K)
    refine wpD_part rfl (fun h => by simp at h) (fun _ => ?_)
    refine wpD_skip (hK2 _ _ _ ?_)
    (refine wpD_seqk fun K hK => ?_; refine wpD_region tyOK ?_; ((repeat (rw [wpS_cons]; simp)); (try simp only [wpS_nil, thenD, blockD])))
    refine CallX.objs globPure [0, 1] true (hp) ?_ (by rintro o hc ⟨_, rfl⟩; simp) (by decide) (by simp) (by simp [D.ren, D.rens, D.okN, D.okNs, Cp.ren, Cp.okN, HO.ren, HO.okN, okA, renA, renO, hOf, handed, D.fgt, D.fgts, List.range_succ, List.idxOf_cons]) (by simp [D.ren, D.rens, D.okN, D.okNs, Cp.ren, Cp.okN, HO.ren, HO.okN, okA, renA, renO, hOf, handed, D.fgt, D.fgts, List.range_succ, List.idxOf_cons]) (by simp [D.ren, D.rens, D.okN, D.okNs, Cp.ren, Cp.okN, HO.ren, HO.okN, okA, renA, renO, hOf, handed, D.fgt, D.fgts, List.range_succ, List.idxOf_cons]) (by simp [D.ren, D.rens, D.okN, D.okNs, Cp.ren, Cp.okN, HO.ren, HO.okN, okA, renA, renO, hOf, handed, D.fgt, D.fgts, List.range_succ, List.idxOf_cons])
    (rintro o hc ⟨rfl, rfl⟩; refine ⟨false, ?_⟩; simp [D.ren, D.rens, D.okN, D.okNs, Cp.ren, Cp.okN, HO.ren, HO.okN, okA, renA, renO, hOf, handed, D.fgt, D.fgts, List.range_succ, List.idxOf_cons, Out.ren, told, Out.fgt, upO, updS, setS])
    ((try simp only [thenD, blockD]); refine EndQ.pan (.inr ⟨[], by decide, by simp, ?_⟩); simp [Out.mov, movT, movH, movD, D.mov, HO.mov, okM, renM, getW, D.ren, D.rens, D.okN, D.okNs, Cp.ren, Cp.okN, HO.ren, HO.okN, okA, renA, renO, hOf, handed, D.fgt, D.fgts, List.range_succ, List.idxOf_cons, tmOf, Out.fgt, D.fgt, D.fgts])
theorem step_3 (left : Int) (l : List C) (once done : Bool) (hl : left ≤ 9223372036854775807) (t : T) (ht : okS t) (hk : t.k = 3) (hs : spot t = none) (hp : Spec Tryz.prog glob 74 [.box 0 0, encT t, encT (placeX t)] (wObjs left l once done) (OwnP left l once done t (ownS l t (placeX t)))) : Spec Tryz.prog glob 81 [.box 0 0, encT t] (wObjs left l once done) (OwnP left l once done t (ownS l t (placeX t))) := by
  have hsp := spot_spec t ht.1.kl
  obtain ⟨p, q, hpq⟩ := spotO_none hs
  rw [hpq] at hsp
  have hx0 := placeX_none hs
  rcases OwnP_cases left l once done t (ownS l t (placeX t)) with ⟨v, b, lf, e⟩ | e
  · rw [e] at hp ⊢
    generalize placeX t = x at hp hx0
    have hEx := encT_eq x
    rw [hEx, encT_eq t, encT_eq v, hk] at hp
    rw [encT_eq t] at hsp
    subst hx0
    rw [show (zeroT : T).k = 0 from rfl, show (zeroT : T).n = 0 from rfl, show (zeroT : T).a = 0 from rfl, show (zeroT : T).ls = [] from rfl, show (zeroT : T).ks = [] from rfl, List.map_nil, List.map_nil] at hp
    rw [encT_eq t]
    unfold wObjs headD Cs stepsM at hp ⊢
    refine Spec.movd globPure (wpD_spec tyOK Tryz.func81 rfl (enters _ _ Tryz.func81 rfl (by decide)) rfl rfl ?_)
    (refine wpD_seqk fun K hK => ?_; refine wpD_region tyOK ?_; ((repeat (rw [wpS_cons]; simp)); (try simp only [wpS_nil, thenD, blockD])); refine hK _ _ _ ?_; clear hK K)
    (refine wpD_seqk fun K hK => ?_; refine wpD_region tyOK ?_; ((repeat (rw [wpS_cons]; simp)); (try simp only [wpS_nil, thenD, blockD])))
    refine CallX.pure globPure (hsp) ?_ (by simp [D.fgts, D.fgt]) (by simp [D.pures, D.pure, Cp.free, D.pures_map]) (by simp [Out.pure, D.pure, D.pures, Cp.free, D.pures_map])
    ((try simp only [wpAft_ret, wpAft_pan, putS, updS, setS]); (repeat (rw [wpS_cons]; simp)); (try simp only [wpS_nil, thenD, blockD]))
    (refine hK _ _ _ ?_; clear hK K)
    (refine wpD_seqk fun K hK => ?_; refine wpD_drawk tyOK (by kernel_rfl) (by kernel_rfl) fun KT hKT => ?_; ((repeat (rw [wpT_cons]; simp [hk])); (try simp only [wpT_nil])))
    (refine hKT _ _ _ _ (by kernel_rfl) ?_; clear hKT KT; (try simp only [thenD, blockD]))
    (refine hK _ _ _ ?_; clear hK K)
    refine wpD_seqk fun K1 hK1 => ?_
    (refine wpD_seqk fun K hK => ?_; refine wpD_region tyOK ?_; ((repeat (rw [wpS_cons]; simp [hk])); (try simp only [wpS_nil, thenD, blockD])); refine hK _ _ _ ?_; clear hK K)
    refine wpD_part rfl (fun h => by simp at h) (fun _ => ?_)
    refine wpD_skip (hK1 _ _ _ ?_)
    (refine wpD_seqk fun K hK => ?_; refine wpD_region tyOK ?_; ((repeat (rw [wpS_cons]; simp)); (try simp only [wpS_nil, thenD, blockD])); refine hK _ _ _ ?_; clear hK K)
    refine wpD_seqk fun K2 hK2 => ?_
    (refine wpD_seqk fun K hK => ?_; refine wpD_region tyOK ?_; ((repeat (rw [wpS_cons]; simp)); (try simp only [wpS_nil, thenD, blockD])); refine hK _ _ _ ?_; clear hK K)
    refine wpD_part rfl (fun h => by simp at h) (fun _ => ?_)
    refine wpD_skip (hK2 _ _ _ ?_)
    (refine wpD_seqk fun K hK => ?_; refine wpD_region tyOK ?_; ((repeat (rw [wpS_cons]; simp)); (try simp only [wpS_nil, thenD, blockD])))
    refine CallX.objs globPure [0, 1] true (hp) ?_ (by rintro o hc ⟨_, rfl⟩; simp) (by decide) (by simp) (by simp [D.ren, D.rens, D.okN, D.okNs, Cp.ren, Cp.okN, HO.ren, HO.okN, okA, renA, renO, hOf, handed, D.fgt, D.fgts, List.range_succ, List.idxOf_cons]) (by simp [D.ren, D.rens, D.okN, D.okNs, Cp.ren, Cp.okN, HO.ren, HO.okN, okA, renA, renO, hOf, handed, D.fgt, D.fgts, List.range_succ, List.idxOf_cons]) (by simp [D.ren, D.rens, D.okN, D.okNs, Cp.ren, Cp.okN, HO.ren, HO.okN, okA, renA, renO, hOf, handed, D.fgt, D.fgts, List.range_succ, List.idxOf_cons]) (by simp [D.ren, D.rens, D.okN, D.okNs, Cp.ren, Cp.okN, HO.ren, HO.okN, okA, renA, renO, hOf, handed, D.fgt, D.fgts, List.range_succ, List.idxOf_cons])
    (rintro o hc ⟨ho, rfl⟩; refine ⟨true, ?_⟩; rw [show told true o = _ from ho]; clear ho; simp [D.ren, D.rens, D.okN, D.okNs, Cp.ren, Cp.okN, HO.ren, HO.okN, okA, renA, renO, hOf, handed, D.fgt, D.fgts, List.range_succ, List.idxOf_cons, Out.ren, told, Out.fgt, upO, updS, setS])
    ((try simp only [wpAft_ret, wpAft_pan, putS, updS, setS]); (repeat (rw [wpS_cons]; simp)); (try simp only [wpS_nil, thenD, blockD]))
    (refine hK _ _ _ ?_; clear hK K)
    (refine wpD_ret ?_; (try simp only [thenD, blockD]); refine EndQ.ret rfl (.inr ⟨[], by decide, by simp, ?_⟩); simp [Out.mov, movT, movH, movD, D.mov, HO.mov, okM, renM, getW, D.ren, D.rens, D.okN, D.okNs, Cp.ren, Cp.okN, HO.ren, HO.okN, okA, renA, renO, hOf, handed, D.fgt, D.fgts, List.range_succ, List.idxOf_cons, tmOf, Out.fgt, D.fgt, D.fgts])
    first | done | simp [encT_eq v]
  · rw [e] at hp ⊢
    generalize placeX t = x at hp hx0
    have hEx := encT_eq x
    rw [hEx, encT_eq t, hk] at hp
    rw [encT_eq t] at hsp
    subst hx0
    rw [show (zeroT : T).k = 0 from rfl, show (zeroT : T).n = 0 from rfl, show (zeroT : T).a = 0 from rfl, show (zeroT : T).ls = [] from rfl, show (zeroT : T).ks = [] from rfl, List.map_nil, List.map_nil] at hp
    rw [encT_eq t]
    unfold wObjs headD Cs stepsM goneD at hp
    unfold wObjs headD Cs stepsM goneD
    refine Spec.movd globPure (wpD_spec tyOK Tryz.func81 rfl (enters _ _ Tryz.func81 rfl (by decide)) rfl rfl ?_)
    (refine wpD_seqk fun K hK => ?_; refine wpD_region tyOK ?_; ((repeat (rw [wpS_cons]; simp)); (try simp only [wpS_nil, thenD, blockD])); refine hK _ _ _ ?_; clear hK K)
    (refine wpD_seqk fun K hK => ?_; refine wpD_region tyOK ?_; ((repeat (rw [wpS_cons]; simp)); (try simp only [wpS_nil, thenD, blockD])))
    refine CallX.pure globPure (hsp) ?_ (by simp [D.fgts, D.fgt]) (by simp [D.pures, D.pure, Cp.free, D.pures_map]) (by simp [Out.pure, D.pure, D.pures, Cp.free, D.pures_map])
    ((try simp only [wpAft_ret, wpAft_pan, putS, updS, setS]); (repeat (rw [wpS_cons]; simp)); (try simp only [wpS_nil, thenD, blockD]))
    (refine hK _ _ _ ?_; clear hK K)
    (refine wpD_seqk fun K hK => ?_; refine wpD_drawk tyOK (by kernel_rfl) (by kernel_rfl) fun KT hKT => ?_; ((repeat (rw [wpT_cons]; simp [hk])); (try simp only [wpT_nil])))
    (refine hKT _ _ _ _ (by kernel_rfl) ?_; clear hKT KT; (try simp only [thenD, blockD]))
    (refine hK _ _ _ ?_; clear hK K)
    refine wpD_seqk fun K1 hK1 => ?_
    (refine wpD_seqk fun K hK => ?_; refine wpD_region tyOK ?_; ((repeat (rw [wpS_cons]; simp [hk])); (try simp only [wpS_nil, thenD, blockD])); refine hK _ _ _ ?_; clear hK K)
    refine wpD_part rfl (fun h => by simp at h) (fun _ => ?_)
    refine wpD_skip (hK1 _ _ _ ?_)
    (refine wpD_seqk fun K hK => ?_; refine wpD_region tyOK ?_; ((repeat (rw [wpS_cons]; simp)); (try simp only [wpS_nil, thenD, blockD])); refine hK _ _ _ ?_; clear hK K)
    refine wpD_seqk fun K2 hK2 => ?_
    (refine wpD_seqk fun K hK => ?_; refine wpD_region tyOK ?_; ((repeat (rw [wpS_cons]; simp)); (try simp only [wpS_nil, thenD, blockD])); refine hK _ _ _ ?_; clear hK K)
    refine wpD_part rfl (fun h => by simp at h) (fun _ => ?_)
    refine wpD_skip (hK2 _ _ _ ?_)
    (refine wpD_seqk fun K hK => ?_; refine wpD_region tyOK ?_; ((repeat (rw [wpS_cons]; simp)); (try simp only [wpS_nil, thenD, blockD])))
    refine CallX.objs globPure [0, 1] true (hp) ?_ (by rintro o hc ⟨_, rfl⟩; simp) (by decide) (by simp) (by simp [D.ren, D.rens, D.okN, D.okNs, Cp.ren, Cp.okN, HO.ren, HO.okN, okA, renA, renO, hOf, handed, D.fgt, D.fgts, List.range_succ, List.idxOf_cons]) (by simp [D.ren, D.rens, D.okN, D.okNs, Cp.ren, Cp.okN, HO.ren, HO.okN, okA, renA, renO, hOf, handed, D.fgt, D.fgts, List.range_succ, List.idxOf_cons]) (by simp [D.ren, D.rens, D.okN, D.okNs, Cp.ren, Cp.okN, HO.ren, HO.okN, okA, renA, renO, hOf, handed, D.fgt, D.fgts, List.range_succ, List.idxOf_cons]) (by simp [D.ren, D.rens, D.okN, D.okNs, Cp.ren, Cp.okN, HO.ren, HO.okN, okA, renA, renO, hOf, handed, D.fgt, D.fgts, List.range_succ, List.idxOf_cons])
    (rintro o hc ⟨rfl, rfl⟩; refine ⟨false, ?_⟩; simp [D.ren, D.rens, D.okN, D.okNs, Cp.ren, Cp.okN, HO.ren, HO.okN, okA, renA, renO, hOf, handed, D.fgt, D.fgts, List.range_succ, List.idxOf_cons, Out.ren, told, Out.fgt, upO, updS, setS])
    ((try simp only [thenD, blockD]); refine EndQ.pan (.inr ⟨[], by decide, by simp, ?_⟩); simp [Out.mov, movT, movH, movD, D.mov, HO.mov, okM, renM, getW, D.ren, D.rens, D.okN, D.okNs, Cp.ren, Cp.okN, HO.ren, HO.okN, okA, renA, renO, hOf, handed, D.fgt, D.fgts, List.range_succ, List.idxOf_cons, tmOf, Out.fgt, D.fgt, D.fgts])
theorem step_24n (left : Int) (l : List C) (once done : Bool) (hl : left ≤ 9223372036854775807) (t : T) (ht : okS t) (hk : t.k = 24) (hs : spot t = none) : Spec Tryz.prog glob 81 [.box 0 0, encT t] (wObjs left l once done) (OwnP left l once done t (ownS l t (placeX t))) := by
  have hw : ownS l t (placeX t) = none := by
    unfold ownS
    rw [if_neg (by omega), if_neg (by omega), if_neg (by omega), if_neg (by omega), if_neg (by omega), if_neg (by omega), if_neg (by rw [hs]; simp)]
  rw [hw]
  have hsp := spot_spec t ht.1.kl
  obtain ⟨p, q, hpq⟩ := spotO_none hs
  rw [hpq] at hsp
  unfold OwnP wObjs headD Cs stepsM
  rw [encT_eq t] at hsp
  rw [encT_eq t]
  refine Spec.movd globPure (wpD_spec tyOK Tryz.func81 rfl (enters _ _ Tryz.func81 rfl (by decide)) rfl rfl ?_)
  (refine wpD_seqk fun K hK => ?_; refine wpD_region tyOK ?_; ((repeat (rw [wpS_cons]; simp)); (try simp only [wpS_nil, thenD, blockD])); refine hK _ _ _ ?_; clear hK K)
  (refine wpD_seqk fun K hK => ?_; refine wpD_region tyOK ?_; ((repeat (rw [wpS_cons]; simp)); (try simp only [wpS_nil, thenD, blockD])))
  refine CallX.pure globPure (hsp) ?_ (by simp [D.fgts, D.fgt]) (by simp [D.pures, D.pure, Cp.free, D.pures_map]) (by simp [Out.pure, D.pure, D.pures, Cp.free, D.pures_map])
  ((try simp only [wpAft_ret, wpAft_pan, putS, updS, setS]); (repeat (rw [wpS_cons]; simp)); (try simp only [wpS_nil, thenD, blockD]))
  (refine hK _ _ _ ?_; clear hK K)
  (refine wpD_seqk fun K hK => ?_; refine wpD_drawk tyOK (by kernel_rfl) (by kernel_rfl) fun KT hKT => ?_; ((repeat (rw [wpT_cons]; simp [hk])); (try simp only [wpT_nil])))
  (refine hKT _ _ _ _ (by kernel_rfl) ?_; clear hKT KT; (try simp only [thenD, blockD]))
  (refine hK _ _ _ ?_; clear hK K)
  refine wpD_seqk fun K1 hK1 => ?_
  (refine wpD_seqk fun K hK => ?_; refine wpD_region tyOK ?_; ((repeat (rw [wpS_cons]; simp [hk])); (try simp only [wpS_nil, thenD, blockD])); refine hK _ _ _ ?_; clear hK K)
  refine wpD_part rfl (fun _ => ?_) (fun h => by simp at h)
  (refine wpD_seqk fun K hK => ?_; refine wpD_region tyOK ?_; ((repeat (rw [wpS_cons]; simp)); (try simp only [wpS_nil, thenD, blockD])); refine hK _ _ _ ?_; clear hK K)
  (refine wpD_ret ?_; (try simp only [thenD, blockD]); refine EndQ.ret rfl (.inr ⟨[], by decide, by simp, ?_⟩); simp [Out.mov, movT, movH, movD, D.mov, HO.mov, okM, renM, getW, D.ren, D.rens, D.okN, D.okNs, Cp.ren, Cp.okN, HO.ren, HO.okN, okA, renA, renO, hOf, handed, D.fgt, D.fgts, List.range_succ, List.idxOf_cons, tmOf, Out.fgt, D.fgt, D.fgts])
  first | done | simp [encT_eq t, hk]
theorem find_no (k : Int) (h6 : ¬ k = 6) (h14 : ¬ k = 14) (h15 : ¬ k = 15) (h7 : ¬ k = 7) (h3 : ¬ k = 3) (h18 : ¬ k = 18) (h21 : ¬ k = 21) (h24 : ¬ k = 24) : findD (.int .i64 k) [(.int .i64 6, .fn (.func 71) [.box 0 0] []), (.int .i64 14, .fn (.func 72) [.box 0 0] []), (.int .i64 15, .fn (.func 72) [.box 0 0] []), (.int .i64 7, .fn (.func 73) [.box 0 0] []),
  (.int .i64 3, .fn (.func 74) [.box 0 0] []), (.int .i64 18, .fn (.func 75) [.box 0 0] []), (.int .i64 21, .fn (.func 76) [.box 0 0] []), (.int .i64 24, .fn (.func 77) [.box 0 0] [])] = none := by
  simp [findD, keyEq, h6, h14, h15, h7, h3, h18, h21, h24]
theorem step_no (left : Int) (l : List C) (once done : Bool) (hl : left ≤ 9223372036854775807) (t : T) (ht : okS t) (h6 : ¬ t.k = 6) (h14 : ¬ t.k = 14) (h15 : ¬ t.k = 15) (h7 : ¬ t.k = 7) (h3 : ¬ t.k = 3) (h18 : ¬ t.k = 18) (h21 : ¬ t.k = 21) (h24 : ¬ t.k = 24) : Spec Tryz.prog glob 81 [.box 0 0, encT t] (wObjs left l once done) (OwnP left l once done t (ownS l t (placeX t))) := by
  have hw : ownS l t (placeX t) = none := by
    unfold ownS
    rw [if_neg h6, if_neg (by omega), if_neg h7, if_neg h3, if_neg h18, if_neg h21, if_neg (fun h => h24 h.1)]
  rw [hw]
  have hs : spot t = none := by
    unfold spot
    rw [if_neg h6, if_neg (by omega), if_neg h18, if_neg h21, if_neg (fun h => h24 h.1)]
  have hfd := find_no t.k h6 h14 h15 h7 h3 h18 h21 h24
  have hsp := spot_spec t ht.1.kl
  obtain ⟨p, q, hpq⟩ := spotO_none hs
  rw [hpq] at hsp
  unfold OwnP wObjs headD Cs stepsM
  rw [encT_eq t] at hsp
  rw [encT_eq t]
  refine Spec.movd globPure (wpD_spec tyOK Tryz.func81 rfl (enters _ _ Tryz.func81 rfl (by decide)) rfl rfl ?_)
  (refine wpD_seqk fun K hK => ?_; refine wpD_region tyOK ?_; ((repeat (rw [wpS_cons]; simp)); (try simp only [wpS_nil, thenD, blockD])); refine hK _ _ _ ?_; clear hK K)
  (refine wpD_seqk fun K hK => ?_; refine wpD_region tyOK ?_; ((repeat (rw [wpS_cons]; simp)); (try simp only [wpS_nil, thenD, blockD])))
  refine CallX.pure globPure (hsp) ?_ (by simp [D.fgts, D.fgt]) (by simp [D.pures, D.pure, Cp.free, D.pures_map]) (by simp [Out.pure, D.pure, D.pures, Cp.free, D.pures_map])
  ((try simp only [wpAft_ret, wpAft_pan, putS, updS, setS]); (repeat (rw [wpS_cons]; simp)); (try simp only [wpS_nil, thenD, blockD]))
  (refine hK _ _ _ ?_; clear hK K)
  (refine wpD_seqk fun K hK => ?_; refine wpD_drawk tyOK (by kernel_rfl) (by kernel_rfl) fun KT hKT => ?_; ((repeat (rw [wpT_cons]; simp [hfd, isIntK, h24])); (try simp only [wpT_nil])))
  (refine hKT _ _ _ _ (by kernel_rfl) ?_; clear hKT KT; (try simp only [thenD, blockD]))
  (refine hK _ _ _ ?_; clear hK K)
  refine wpD_seqk fun K1 hK1 => ?_
  (refine wpD_seqk fun K hK => ?_; refine wpD_region tyOK ?_; ((repeat (rw [wpS_cons]; simp [hfd, isIntK, h24])); (try simp only [wpS_nil, thenD, blockD])); refine hK _ _ _ ?_; clear hK K)
  refine wpD_part rfl (fun _ => ?_) (fun h => by simp at h)
  (refine wpD_seqk fun K hK => ?_; refine wpD_region tyOK ?_; ((repeat (rw [wpS_cons]; simp)); (try simp only [wpS_nil, thenD, blockD])); refine hK _ _ _ ?_; clear hK K)
  (refine wpD_ret ?_; (try simp only [thenD, blockD]); refine EndQ.ret rfl (.inr ⟨[], by decide, by simp, ?_⟩); simp [Out.mov, movT, movH, movD, D.mov, HO.mov, okM, renM, getW, D.ren, D.rens, D.okN, D.okNs, Cp.ren, Cp.okN, HO.ren, HO.okN, okA, renA, renO, hOf, handed, D.fgt, D.fgts, List.range_succ, List.idxOf_cons, tmOf, Out.fgt, D.fgt, D.fgts])
  first | done | simp [encT_eq t]
theorem step_spec (left : Int) (l : List C) (once done : Bool) (hl : left ≤ 9223372036854775807) (hcs : okCs l) (t : T) (ht : okS t) : Spec Tryz.prog glob 81 [.box 0 0, encT t] (wObjs left l once done) (OwnP left l once done t (ownS l t (placeX t))) := by
  have hz : okS zeroT := ⟨zero_ok, by rw [pot_zero]; unfold PM; omega⟩
  have hx : okS (placeX t) := by
    rcases spot_of t with h | ⟨i, many, h⟩
    · rw [placeX_none h]; exact hz
    · rw [placeX_some h]; exact ht.kid i
  by_cases h6 : t.k = 6
  · exact step_6 left l once done hl t ht h6 (i := 0) (many := 2) (by unfold spot; rw [if_pos h6]) (happ_spec left l once done hl t _ ht hx h6)
  by_cases h14 : t.k = 14
  · exact step_14 left l once done hl t ht h14 (i := 0) (many := 1) (by unfold spot; rw [if_neg h6, if_pos (.inl h14)]) (hhalf_spec left l once done hl t _ hx (.inl h14))
  by_cases h15 : t.k = 15
  · exact step_15 left l once done hl t ht h15 (i := 0) (many := 1) (by unfold spot; rw [if_neg h6, if_pos (.inr h15)]) (hhalf_spec left l once done hl t _ hx (.inr h15))
  have h145 : ¬ (t.k = 14 ∨ t.k = 15) := by omega
  by_cases h18 : t.k = 18
  · exact step_18 left l once done hl t ht h18 (i := 4) (many := 5) (by unfold spot; rw [if_neg h6, if_neg h145, if_pos h18]) (htree_spec left l once done hl t _ ht hx h18)
  by_cases h21 : t.k = 21
  · exact step_21 left l once done hl t ht h21 (i := 5) (many := 6) (by unfold spot; rw [if_neg h6, if_neg h145, if_neg h18, if_pos h21]) (hpath_spec left l once done hl t _ ht h21)
  by_cases h24 : t.k = 24
  · rcases spot_of t with h | ⟨i, many, h⟩
    · exact step_24n left l once done hl t ht h24 h
    · exact step_24 left l once done hl t ht h24 h (hbranch_spec left l once done hl t _ ht hx h24 (by rw [h]; rfl))
  have hs : spot t = none := by unfold spot; rw [if_neg h6, if_neg h145, if_neg h18, if_neg h21, if_neg (fun h => h24 h.1)]
  by_cases h7 : t.k = 7
  · exact step_7 left l once done hl t ht h7 hs (hlet_spec left l once done hl t _ ht h7)
  by_cases h3 : t.k = 3
  · exact step_3 left l once done hl t ht h3 hs (hconst_spec left l once done hl hcs t _ ht h3)
  exact step_no left l once done hl t ht h6 h14 h15 h7 h3 h18 h21 h24
end Go.Proofs.YtebmlojhdnldgaaGreatDoor

namespace Go.Proofs.YtebmlojhdnldgaaGreatDoor
set_option linter.unusedSimpArgs false
set_option linter.unusedVariables false
open Go.RowKit
def RetP (l : List C) (u : T) (lf : Int) (d : Bool) : Out → List HO → Prop := fun o hc => o.fgt = .ret (encT u) ∧ hc = wObjs lf l false d
def GoneP : Out → List HO → Prop := fun o hc => o = .pan goneD ∧ hc = [.dead, .dead]
/-- what a head's run comes to -/
inductive RunH (l : List C) : T → Int → Bool → (Out → List HO → Prop) → Prop where
  | fin {t u : T} {n : Nat} {lf : Int} {d : Bool} (h : Hd l t n u) (hn : (n : Int) ≤ lf) : RunH l t lf d (RetP l u (lf - n) (d || decide (0 < n)))
  | gone {t : T} {lf q : Int} {d : Bool} (h : GoneAt l t lf q) : RunH l t lf d GoneP
/-- its place is at its head -/
def Ready (l : List C) (t : T) : Prop := hstep l t = ownS l t (placeX t) ∧ t.trunc = t
theorem Ready.none {l : List C} {t : T} (h : spot t = none) : Ready l t := ⟨by rw [hstep_none h]; unfold placeX; rw [h], trunc_none h⟩
theorem Ready.some {l : List C} {t v : T} {i many : Nat} (hs : spot t = some (i, many)) {m : Nat} {x : T} (h : Hd l x m v) : Ready l (t.withT v i many) := by
  obtain ⟨h1, h2⟩ := h.done
  obtain ⟨h3, h4⟩ := ready hs h1 h2
  exact ⟨by rw [h3, place_with hs], h4⟩
theorem RunH.place {l : List C} {t : T} {lf : Int} {d : Bool} {P : Out → List HO → Prop} (h : RunH l t lf d P) (h0 : 0 ≤ lf) {i many : Nat} (hs : spot t = some (i, many)) :
    (∃ q, GoneAt l (t.kid i) lf q ∧ P = GoneP) ∨ ∃ m v, Hd l (t.kid i) m v ∧ (m : Int) ≤ lf ∧ Ready l (t.withT v i many) ∧ RunH l (t.withT v i many) (lf - m) (d || decide (0 < m)) P := by
  cases h with
  | fin h hn =>
    rename_i u n
    obtain ⟨m, v, h1, h2, h3⟩ := h.place hs
    refine .inr ⟨m, v, h1, by omega, .some hs h1, ?_⟩
    have := RunH.fin (lf := lf - m) (d := d || decide (0 < m)) h3 (by omega)
    rw [show lf - (m : Int) - ((n - m : Nat) : Int) = lf - n by omega, Bool.or_assoc, show (decide (0 < m) || decide (0 < n - m)) = decide (0 < n) by rw [← Bool.decide_or]; apply decide_eq_decide.2; omega] at this
    exact this
  | gone h =>
    rcases h.place h0 hs with h1 | ⟨m, v, h1, h2, h3⟩
    · exact .inl ⟨_, h1, rfl⟩
    · exact .inr ⟨m, v, h1, h2, .some hs h1, .gone h3⟩
theorem RunH.own {l : List C} {t : T} {lf : Int} {d : Bool} {P : Out → List HO → Prop} (h : RunH l t lf d P) (hr : Ready l t) :
    match ownS l t (placeX t) with
    | none => P = RetP l t lf d
    | some p => if (p.2 : Int) ≤ lf then RunH l p.1 (lf - p.2) true P else P = GoneP := by
  rw [← hr.1]
  cases h with
  | fin h hn =>
    rename_i u n
    cases h with
    | stop h => rw [h]; simp only; rw [hr.2]; simp
    | @step _ w _ c n h r =>
      have := hstep_pos t h
      rw [h]
      simp only
      rw [if_pos (by omega)]
      have := RunH.fin (lf := lf - c) (d := true) r (by omega)
      rw [show lf - (c : Int) - (n : Int) = lf - ((c + n : Nat) : Int) by omega, Bool.true_or] at this
      rw [show (d || decide (0 < c + n)) = true by rw [decide_eq_true (by omega), Bool.or_true]]
      exact this
  | gone h =>
    cases h with
    | now h hf => rw [h]; simp only; rw [if_neg (by omega)]; trivial
    | later h hf r => rw [h]; simp only; rw [if_pos hf]; exact .gone r
theorem Hd.pot {l : List C} {t u : T} {n : Nat} (h : Hd l t n u) : u.pot ≤ t.pot + 7 * n := by
  induction h with
  | stop h => have := trunc_pot ‹T›; omega
  | step h r ih => have := hstep_pot _ h; omega
theorem Hd.ok {l : List C} (hl : ∀ c, c ∈ l → okC c) {t u : T} {n : Nat} (h : Hd l t n u) : okT t → okT u := by
  induction h with
  | stop h => exact trunc_ok _
  | step h r ih => intro ht; exact ih (hstep_ok hl _ ht h)
/-- how deep its place lies -/
def mu (t : T) : Nat := if spot t = none then 0 else t.deep + 1
theorem mu_kid {t : T} {i many : Nat} (hs : spot t = some (i, many)) : mu (t.kid i) < mu t := by
  have h0 : mu t = t.deep + 1 := by unfold mu; rw [if_neg (by rw [hs]; simp)]
  rw [h0]
  by_cases hi : i < t.ks.length
  · rw [kid_in hi]
    have hd : (t.ks[i]).deep + 1 ≤ t.deep := by
      cases t with
      | mk k n a ls ks => exact T.deep_kid (List.getElem_mem hi)
    unfold mu
    split <;> omega
  · rw [kid_out hi]
    unfold mu
    rw [if_pos zero_spot]
    omega
end Go.Proofs.YtebmlojhdnldgaaGreatDoor

namespace Go.Proofs.YtebmlojhdnldgaaGreatDoor
set_option linter.unusedSimpArgs false
set_option linter.unusedVariables false
set_option maxHeartbeats 10000000
set_option maxRecDepth 20000
open Go.RowKit
attribute [local simp] wpAft_ret wpAft_pan wantD evOp opD tmOf putS updS setS hOf isFree isTok fillD TK.isAgg TK.known partD thenD blockD putAll D.ofV inB nilTest isNilS binX binD binE isCst bndD capB IntKind.min IntKind.max IntKind.signed IntKind.bits dstOf late
theorem head_spec {l : List C} (hcs : okCs l) (N : Nat) : ∀ (k : Nat) (t : T) (left : Int) (done : Bool) (P : Out → List HO → Prop), 0 ≤ left → left.toNat = N → mu t = k → okT t → t.pot + 7 * left.toNat ≤ PM → RunH l t left done P →
    Spec Tryz.prog glob 43 [.box 0 0, encT t] (wObjs left l false done) P := by
  induction N using Nat.strongRecOn with
  | ind N ihN =>
  intro k
  induction k using Nat.strongRecOn with
  | ind k ihk =>
  intro t left done P h0 hN hk ht hpot hrun
  have hrec : ∀ (t' : T) (lf : Int) (d : Bool) (P' : Out → List HO → Prop), 0 ≤ lf → (lf < left ∨ (lf = left ∧ mu t' < mu t)) → okT t' → t'.pot + 7 * lf.toNat ≤ PM → RunH l t' lf d P' → Spec Tryz.prog glob 43 [.box 0 0, encT t'] (wObjs lf l false d) P' := by
    intro t' lf d P' g0 gc gt gp gr
    rcases gc with gc | ⟨rfl, gc⟩
    · exact ihN lf.toNat (by omega) (mu t') t' lf d P' g0 rfl rfl gt gp gr
    · exact ihk (mu t') (by omega) t' lf d P' g0 hN rfl gt gp gr
  clear ihN ihk
  rw [encT_eq t]
  unfold wObjs headD Cs stepsM
  refine Spec.movd globPure (wpD_spec tyOK Tryz.func43 rfl (enters _ _ Tryz.func43 rfl (by decide)) rfl rfl ?_)
  (refine wpD_seqk fun K hK => ?_; refine wpD_region tyOK ?_; ((repeat (rw [wpS_cons]; simp)); (try simp only [wpS_nil, thenD, blockD])); refine hK _ _ _ ?_; clear hK K)
  refine wpD_block ?_
  refine wpD_loopMJ globPure [5, 6, 7, 8, 9, 10, 11, 12, 13, 14, 15, 16, 17, 18, 19, 20, 21, 22, 23, 24, 25, 26, 27, 28, 29, 30, 31, 32, 33, 34, 35, 36, 37, 38, 39, 40, 41, 42, 43, 44, 45, 46, 47, 48, 49, 50, 51, 52, 53, 54] [] (fun n ys hl => ∃ (t' : T) (lf : Int) (d : Bool), ys = [] ∧ n = lf.toNat ∧ 0 ≤ lf ∧ (lf = left ∧ t' = t ∨ lf < left) ∧ okT t' ∧ t'.pot + 7 * lf.toNat ≤ PM ∧ RunH l t' lf d P ∧ hl = [.cells 76 [.int .i64 lf, .slice (l.map encC) .any, .bool false, .bool d, .map 1], .mp [(.int .i64 6, .fn (.func 71) [.box 0 0] []), (.int .i64 14, .fn (.func 72) [.box 0 0] []), (.int .i64 15, .fn (.func 72) [.box 0 0] []), (.int .i64 7, .fn (.func 73) [.box 0 0] []), (.int .i64 3, .fn (.func 74) [.box 0 0] []), (.int .i64 18, .fn (.func 75) [.box 0 0] []), (.int .i64 21, .fn (.func 76) [.box 0 0] []), (.int .i64 24, .fn (.func 77) [.box 0 0] [])], .cells 27 [.int .i64 t'.k, .int .i64 t'.n, .int .i64 t'.a, .slice (t'.ls.map encL) .any, .slice (t'.ks.map encT) .any], .cells 27 [.int .i64 0, .int .i64 0, .int .i64 0, .slice [] .full, .slice [] .full]]) (left.toNat) (by kernel_rfl) ?_ ?_
  · exact ⟨t, left, done, rfl, rfl, h0, .inl ⟨rfl, rfl⟩, ht, hpot, hrun, rfl⟩
  · rintro n ys hl A hA hA2 ⟨t', lf, d, rfl, hn, h0', hcase, ht', hp', hrun', rfl⟩
    have hle : lf ≤ left := by omega
    have hlf : lf ≤ 9223372036854775807 := by unfold PM at hp'; omega
    simp only [putAll, List.set, List.map_cons, List.map_nil, List.cons_append, List.nil_append]
    refine wpD_block ?_
    refine wpD_seqE (α := T × Int × Bool) [5, 6, 7, 10, 11, 12, 13, 14, 15, 16, 17, 18, 19, 20, 21, 22, 23, 24, 25, 26, 27, 28, 29, 30, 31, 32, 33, 34, 35] (fun _ => [5, 6, 7, 10, 11, 12, 13, 14, 15, 16, 17, 18, 19, 20, 21, 22, 23, 24, 25, 26, 27, 28, 29, 30, 31, 32, 33, 34, 35].map fun _ => .junk) (fun a => [.cells 76 [.int .i64 a.2.1, .slice (l.map encC) .any, .bool false, .bool a.2.2, .map 1], .mp [(.int .i64 6, .fn (.func 71) [.box 0 0] []), (.int .i64 14, .fn (.func 72) [.box 0 0] []), (.int .i64 15, .fn (.func 72) [.box 0 0] []), (.int .i64 7, .fn (.func 73) [.box 0 0] []), (.int .i64 3, .fn (.func 74) [.box 0 0] []), (.int .i64 18, .fn (.func 75) [.box 0 0] []), (.int .i64 21, .fn (.func 76) [.box 0 0] []), (.int .i64 24, .fn (.func 77) [.box 0 0] [])], .cells 27 [.int .i64 a.1.k, .int .i64 a.1.n, .int .i64 a.1.a, .slice (a.1.ls.map encL) .any, .slice (a.1.ks.map encT) .any], .cells 27 [.int .i64 0, .int .i64 0, .int .i64 0, .slice [] .full, .slice [] .full]]) (fun a => 0 ≤ a.2.1 ∧ a.2.1 ≤ lf ∧ okT a.1 ∧ a.1.pot + 7 * a.2.1.toNat ≤ PM ∧ RunH l a.1 a.2.1 a.2.2 P ∧ Ready l a.1) ?_ ?_
    rotate_left
    · intro K hK0
      rcases spot_of t' with hs | ⟨i, many, hs⟩
      · obtain ⟨p, q, hpq⟩ := spotO_none hs
        have hsp := spot_spec t' ht'.kl
        rw [hpq, encT_eq t'] at hsp
        (refine wpD_seqk fun K hK => ?_; refine wpD_region tyOK ?_; ((repeat (rw [wpS_cons]; simp)); (try simp only [wpS_nil, thenD, blockD])))
        refine CallX.pure globPure (hsp) ?_ (by simp [D.fgts, D.fgt]) (by simp [D.pures, D.pure, Cp.free, D.pures_map]) (by simp [Out.pure, D.pure, D.pures, Cp.free, D.pures_map])
        ((try simp only [wpAft_ret, wpAft_pan, putS, updS, setS]); (repeat (rw [wpS_cons]; simp)); (try simp only [wpS_nil, thenD, blockD]))
        (refine hK _ _ _ ?_; clear hK K)
        (refine wpD_seqk fun K hK => ?_; refine wpD_region tyOK ?_; ((repeat (rw [wpS_cons]; simp)); (try simp only [wpS_nil, thenD, blockD])); refine hK _ _ _ ?_; clear hK K)
        refine wpD_part rfl (fun h => by simp at h) (fun _ => ?_)
        refine wpD_skip (hK0 (t', lf, d) _ ⟨h0', Int.le_refl _, ht', hp', hrun', .none hs⟩ ?_)
        simp [leT, putAll]
      · have hsp := spot_spec t' ht'.kl
        rw [spotO_some hs ht'.kl, encT_eq t'] at hsp
        have hki := kidn_spec t' i i rfl
        have hmu := mu_kid hs
        have hkp := kid_pot t' i
        have hcs2 : lf < left ∨ (lf = left ∧ mu (t'.kid i) < mu t) := by
          rcases hcase with ⟨e1, e2⟩ | h
          · subst e2; exact .inr ⟨e1, hmu⟩
          · exact .inl h
        rcases hrun'.place h0' hs with ⟨q, hq, hP⟩ | ⟨m, v, hv, hm, hrd, hrun2⟩
        · subst hP
          have hre := hrec (t'.kid i) lf d GoneP h0' hcs2 (kid_ok ht' i) (by omega) (.gone hq)
          generalize t'.kid i = y at hki hre
          rw [encT_eq t', encT_eq y] at hki
          rw [encT_eq y] at hre
          unfold GoneP wObjs headD Cs stepsM goneD at hre
          (refine wpD_seqk fun K hK => ?_; refine wpD_region tyOK ?_; ((repeat (rw [wpS_cons]; simp)); (try simp only [wpS_nil, thenD, blockD])))
          refine CallX.pure globPure (hsp) ?_ (by simp [D.fgts, D.fgt]) (by simp [D.pures, D.pure, Cp.free, D.pures_map]) (by simp [Out.pure, D.pure, D.pures, Cp.free, D.pures_map])
          ((try simp only [wpAft_ret, wpAft_pan, putS, updS, setS]); (repeat (rw [wpS_cons]; simp)); (try simp only [wpS_nil, thenD, blockD]))
          (refine hK _ _ _ ?_; clear hK K)
          (refine wpD_seqk fun K hK => ?_; refine wpD_region tyOK ?_; ((repeat (rw [wpS_cons]; simp)); (try simp only [wpS_nil, thenD, blockD])); refine hK _ _ _ ?_; clear hK K)
          refine wpD_part rfl (fun _ => ?_) (fun h => by simp at h)
          (refine wpD_seqk fun K hK => ?_; refine wpD_drawk tyOK (by kernel_rfl) (by kernel_rfl) fun KT hKT => ?_; ((repeat (rw [wpT_cons]; simp)); (try simp only [wpT_nil])))
          refine CallY.pure globPure (hki) ?_ (by simp [D.fgts, D.fgt]) (by simp [D.pures, D.pure, Cp.free, D.pures_map]) (by simp [Out.pure, D.pure, D.pures, Cp.free, D.pures_map])
          ((try simp only [wpAftT_ret, wpAftT_pan, putS, updS, setS]); (repeat (rw [wpT_cons]; simp)); (try simp only [wpT_nil]))
          refine CallY.objs globPure [0, 1] true false (hre) (fun o h e => e) ?_ (by simp) (by decide) (by simp) (by simp [D.ren, D.rens, D.okN, D.okNs, Cp.ren, Cp.okN, HO.ren, HO.okN, okA, renA, renO, hOf, handed, D.fgt, D.fgts, List.range_succ, List.idxOf_cons]) (by simp [D.ren, D.rens, D.okN, D.okNs, Cp.ren, Cp.okN, HO.ren, HO.okN, okA, renA, renO, hOf, handed, D.fgt, D.fgts, List.range_succ, List.idxOf_cons]) (by simp [D.ren, D.rens, D.okN, D.okNs, Cp.ren, Cp.okN, HO.ren, HO.okN, okA, renA, renO, hOf, handed, D.fgt, D.fgts, List.range_succ, List.idxOf_cons]) (by simp [D.ren, D.rens, D.okN, D.okNs, Cp.ren, Cp.okN, HO.ren, HO.okN, okA, renA, renO, hOf, handed, D.fgt, D.fgts, List.range_succ, List.idxOf_cons]); simp [D.ren, D.rens, D.okN, D.okNs, Cp.ren, Cp.okN, HO.ren, HO.okN, okA, renA, renO, hOf, handed, D.fgt, D.fgts, List.range_succ, List.idxOf_cons, Out.ren, upO, renO, rdO]
          (try simp only [wpAftT_ret, wpAftT_pan, putS, updS, setS])
          (rw [wpT_cons, if_neg (Bool.eq_false_iff.mp (by kernel_rfl))]; simp)
          (rw [wpT_cons, if_neg (Bool.eq_false_iff.mp (by kernel_rfl))]; simp)
          ((try simp only [wpAftT_ret, wpAftT_pan, putS, updS, setS]); (repeat (refine wpT_late _ _ _ _ (by kernel_rfl) ?_; simp only [putS, List.set, List.nil_append, List.cons_append, Nat.reduceAdd])); (try simp only [wpT_nil]))
          (refine hKT _ _ _ _ (by kernel_rfl) ?_; clear hKT KT; (try simp only [thenD, blockD]))
          simp [killHl]
          ((try simp only [thenD, blockD]); refine EndQ.pan (.inr ⟨[], by decide, by simp, ?_⟩); simp [Out.mov, movT, movH, movD, D.mov, HO.mov, okM, renM, getW, D.ren, D.rens, D.okN, D.okNs, Cp.ren, Cp.okN, HO.ren, HO.okN, okA, renA, renO, hOf, handed, D.fgt, D.fgts, List.range_succ, List.idxOf_cons, tmOf, Out.fgt, D.fgt, D.fgts])
          exact ⟨rfl, rfl⟩
        · have hre := hrec (t'.kid i) lf d _ h0' hcs2 (kid_ok ht' i) (by omega) (.fin hv hm)
          have hw := with_spec t' v i many (spot_many hs ht')
          have hvo := hv.ok hcs.ok (kid_ok ht' i)
          have hvp := hv.pot
          have hwp := with_pot (x := v) hs
          have hwo := with_ok (i := i) ht' hvo (spot_many hs ht')
          generalize hy : t'.kid i = y at hki hre hvp hwp hkp
          generalize hu : t'.withT v i many = u at hw hrd hrun2 hwp hwo
          rw [encT_eq t', encT_eq y] at hki
          unfold RetP wObjs headD Cs stepsM at hre
          rw [encT_eq y, encT_eq v] at hre
          rw [encT_eq t', encT_eq v, encT_eq u] at hw
          generalize hd1 : (d || decide (0 < m)) = d1 at hre hrun2
          (refine wpD_seqk fun K hK => ?_; refine wpD_region tyOK ?_; ((repeat (rw [wpS_cons]; simp)); (try simp only [wpS_nil, thenD, blockD])))
          refine CallX.pure globPure (hsp) ?_ (by simp [D.fgts, D.fgt]) (by simp [D.pures, D.pure, Cp.free, D.pures_map]) (by simp [Out.pure, D.pure, D.pures, Cp.free, D.pures_map])
          ((try simp only [wpAft_ret, wpAft_pan, putS, updS, setS]); (repeat (rw [wpS_cons]; simp)); (try simp only [wpS_nil, thenD, blockD]))
          (refine hK _ _ _ ?_; clear hK K)
          (refine wpD_seqk fun K hK => ?_; refine wpD_region tyOK ?_; ((repeat (rw [wpS_cons]; simp)); (try simp only [wpS_nil, thenD, blockD])); refine hK _ _ _ ?_; clear hK K)
          refine wpD_part rfl (fun _ => ?_) (fun h => by simp at h)
          (refine wpD_seqk fun K hK => ?_; refine wpD_drawk tyOK (by kernel_rfl) (by kernel_rfl) fun KT hKT => ?_; ((repeat (rw [wpT_cons]; simp)); (try simp only [wpT_nil])))
          refine CallY.pure globPure (hki) ?_ (by simp [D.fgts, D.fgt]) (by simp [D.pures, D.pure, Cp.free, D.pures_map]) (by simp [Out.pure, D.pure, D.pures, Cp.free, D.pures_map])
          ((try simp only [wpAftT_ret, wpAftT_pan, putS, updS, setS]); (repeat (rw [wpT_cons]; simp)); (try simp only [wpT_nil]))
          refine CallY.objs globPure [0, 1] true true (hre) (fun o h e => e) ?_ (by simp) (by decide) (by simp) (by simp [D.ren, D.rens, D.okN, D.okNs, Cp.ren, Cp.okN, HO.ren, HO.okN, okA, renA, renO, hOf, handed, D.fgt, D.fgts, List.range_succ, List.idxOf_cons]) (by simp [D.ren, D.rens, D.okN, D.okNs, Cp.ren, Cp.okN, HO.ren, HO.okN, okA, renA, renO, hOf, handed, D.fgt, D.fgts, List.range_succ, List.idxOf_cons]) (by simp [D.ren, D.rens, D.okN, D.okNs, Cp.ren, Cp.okN, HO.ren, HO.okN, okA, renA, renO, hOf, handed, D.fgt, D.fgts, List.range_succ, List.idxOf_cons]) (by simp [D.ren, D.rens, D.okN, D.okNs, Cp.ren, Cp.okN, HO.ren, HO.okN, okA, renA, renO, hOf, handed, D.fgt, D.fgts, List.range_succ, List.idxOf_cons]); simp [D.ren, D.rens, D.okN, D.okNs, Cp.ren, Cp.okN, HO.ren, HO.okN, okA, renA, renO, hOf, handed, D.fgt, D.fgts, List.range_succ, List.idxOf_cons, Out.ren, upO, renO, rdO]
          ((try simp only [wpAftT_ret, wpAftT_pan, putS, updS, setS]); (repeat (rw [wpT_cons]; simp)); (try simp only [wpT_nil]))
          refine CallY.pure globPure (hw) ?_ (by simp [D.fgts, D.fgt]) (by simp [D.pures, D.pure, Cp.free, D.pures_map]) (by simp [Out.pure, D.pure, D.pures, Cp.free, D.pures_map])
          ((try simp only [wpAftT_ret, wpAftT_pan, putS, updS, setS]); (repeat (rw [wpT_cons]; simp)); (try simp only [wpT_nil]))
          (refine hKT _ _ _ _ (by kernel_rfl) ?_; clear hKT KT; (try simp only [thenD, blockD]))
          (refine hK _ _ _ ?_; clear hK K)
          (refine wpD_seqk fun K hK => ?_; refine wpD_region tyOK ?_; ((repeat (rw [wpS_cons]; simp)); (try simp only [wpS_nil, thenD, blockD])); refine hK _ _ _ ?_; clear hK K)
          refine wpD_part rfl (fun h => by simp at h) (fun _ => ?_)
          refine wpD_skip (hK0 (u, lf - m, d1) _ ⟨by simp only; omega, by simp only; omega, hwo, by simp only; omega, hrun2, hrd⟩ ?_)
          simp [leT, putAll]
    · rintro ⟨t1, lf1, d1⟩ ⟨g0, gle, gt, gp, grun, grd⟩
      simp only at g0 gle gt gp grun grd
      simp only [putAll, List.set, List.map_cons, List.map_nil, List.cons_append, List.nil_append]
      have hst := step_spec lf1 l false d1 (by omega) hcs t1 ⟨gt, by omega⟩
      have hown := grun.own grd
      have hrd := grd.1
      cases ho : ownS l t1 (placeX t1) with
      | none =>
        rw [ho] at hst hown
        simp only at hown
        subst hown
        unfold OwnP wObjs headD Cs stepsM at hst
        rw [encT_eq t1] at hst
        (refine wpD_seqk fun K hK => ?_; refine wpD_region tyOK ?_; ((repeat (rw [wpS_cons]; simp)); (try simp only [wpS_nil, thenD, blockD])))
        refine CallX.objs globPure [0, 1] true (hst) ?_ (by rintro o hc ⟨_, rfl⟩; simp) (by decide) (by simp) (by simp [D.ren, D.rens, D.okN, D.okNs, Cp.ren, Cp.okN, HO.ren, HO.okN, okA, renA, renO, hOf, handed, D.fgt, D.fgts, List.range_succ, List.idxOf_cons]) (by simp [D.ren, D.rens, D.okN, D.okNs, Cp.ren, Cp.okN, HO.ren, HO.okN, okA, renA, renO, hOf, handed, D.fgt, D.fgts, List.range_succ, List.idxOf_cons]) (by simp [D.ren, D.rens, D.okN, D.okNs, Cp.ren, Cp.okN, HO.ren, HO.okN, okA, renA, renO, hOf, handed, D.fgt, D.fgts, List.range_succ, List.idxOf_cons]) (by simp [D.ren, D.rens, D.okN, D.okNs, Cp.ren, Cp.okN, HO.ren, HO.okN, okA, renA, renO, hOf, handed, D.fgt, D.fgts, List.range_succ, List.idxOf_cons])
        (rintro o hc ⟨ho, rfl⟩; refine ⟨true, ?_⟩; rw [show told true o = _ from ho]; clear ho; simp [D.ren, D.rens, D.okN, D.okNs, Cp.ren, Cp.okN, HO.ren, HO.okN, okA, renA, renO, hOf, handed, D.fgt, D.fgts, List.range_succ, List.idxOf_cons, Out.ren, told, Out.fgt, upO, updS, setS])
        ((try simp only [wpAft_ret, wpAft_pan, putS, updS, setS]); (repeat (rw [wpS_cons]; simp)); (try simp only [wpS_nil, thenD, blockD]))
        (refine hK _ _ _ ?_; clear hK K)
        refine wpD_seqk fun K1 hK1 => ?_
        (refine wpD_seqk fun K hK => ?_; refine wpD_region tyOK ?_; ((repeat (rw [wpS_cons]; simp)); (try simp only [wpS_nil, thenD, blockD])); refine hK _ _ _ ?_; clear hK K)
        refine wpD_part rfl (fun _ => ?_) (fun h => by simp at h)
        (refine wpD_seqk fun K hK => ?_; refine wpD_region tyOK ?_; ((repeat (rw [wpS_cons]; simp)); (try simp only [wpS_nil, thenD, blockD])); refine hK _ _ _ ?_; clear hK K)
        (refine wpD_ret ?_; (try simp only [thenD, blockD]); refine EndQ.ret rfl (.inr ⟨[], by decide, by simp, ?_⟩); simp [Out.mov, movT, movH, movD, D.mov, HO.mov, okM, renM, getW, D.ren, D.rens, D.okN, D.okNs, Cp.ren, Cp.okN, HO.ren, HO.okN, okA, renA, renO, hOf, handed, D.fgt, D.fgts, List.range_succ, List.idxOf_cons, tmOf, Out.fgt, D.fgt, D.fgts])
        refine ⟨?_, rfl⟩
        simp [Out.fgt, encT_eq t1, D.fgt, D.fgts]
      | some p =>
        obtain ⟨w, c⟩ := p
        rw [ho] at hst hown hrd
        simp only at hown
        unfold OwnP at hst
        simp only at hst
        by_cases hc : (c : Int) ≤ lf1
        · rw [if_pos hc] at hown
          rw [Cost_ok hc] at hst
          unfold wObjs headD Cs stepsM at hst
          rw [encT_eq t1, encT_eq w] at hst
          have hpos := hstep_pos t1 hrd
          have hwo := hstep_ok hcs.ok t1 gt hrd
          have hwp := hstep_pot t1 hrd
          (refine wpD_seqk fun K hK => ?_; refine wpD_region tyOK ?_; ((repeat (rw [wpS_cons]; simp)); (try simp only [wpS_nil, thenD, blockD])))
          refine CallX.objs globPure [0, 1] true (hst) ?_ (by rintro o hc ⟨_, rfl⟩; simp) (by decide) (by simp) (by simp [D.ren, D.rens, D.okN, D.okNs, Cp.ren, Cp.okN, HO.ren, HO.okN, okA, renA, renO, hOf, handed, D.fgt, D.fgts, List.range_succ, List.idxOf_cons]) (by simp [D.ren, D.rens, D.okN, D.okNs, Cp.ren, Cp.okN, HO.ren, HO.okN, okA, renA, renO, hOf, handed, D.fgt, D.fgts, List.range_succ, List.idxOf_cons]) (by simp [D.ren, D.rens, D.okN, D.okNs, Cp.ren, Cp.okN, HO.ren, HO.okN, okA, renA, renO, hOf, handed, D.fgt, D.fgts, List.range_succ, List.idxOf_cons]) (by simp [D.ren, D.rens, D.okN, D.okNs, Cp.ren, Cp.okN, HO.ren, HO.okN, okA, renA, renO, hOf, handed, D.fgt, D.fgts, List.range_succ, List.idxOf_cons])
          (rintro o hc ⟨ho, rfl⟩; refine ⟨true, ?_⟩; rw [show told true o = _ from ho]; clear ho; simp [D.ren, D.rens, D.okN, D.okNs, Cp.ren, Cp.okN, HO.ren, HO.okN, okA, renA, renO, hOf, handed, D.fgt, D.fgts, List.range_succ, List.idxOf_cons, Out.ren, told, Out.fgt, upO, updS, setS])
          ((try simp only [wpAft_ret, wpAft_pan, putS, updS, setS]); (repeat (rw [wpS_cons]; simp)); (try simp only [wpS_nil, thenD, blockD]))
          (refine hK _ _ _ ?_; clear hK K)
          refine wpD_seqk fun K1 hK1 => ?_
          (refine wpD_seqk fun K hK => ?_; refine wpD_region tyOK ?_; ((repeat (rw [wpS_cons]; simp)); (try simp only [wpS_nil, thenD, blockD])); refine hK _ _ _ ?_; clear hK K)
          refine wpD_part rfl (fun h => by simp at h) (fun _ => ?_)
          refine wpD_skip (hK1 _ _ _ ?_)
          (refine wpD_seqk fun K hK => ?_; refine wpD_region tyOK ?_; ((repeat (rw [wpS_cons]; simp)); (try simp only [wpS_nil, thenD, blockD])); refine hK _ _ _ ?_; clear hK K)
          (refine wpD_seqk fun K hK => ?_; refine wpD_region tyOK ?_; ((repeat (rw [wpS_cons]; simp)); (try simp only [wpS_nil, thenD, blockD])); refine hK _ _ _ ?_; clear hK K)
          refine wpD_part rfl (fun h => by simp at h) (fun _ => ?_)
          refine wpD_skip ?_
          (refine hA2 ([2, 3]) ((lf1 - c).toNat) _ _ _ (LeT.refl _) (by decide) (by simp) (by omega) (by simp [movT, movH, movD, D.mov, HO.mov, okM, renM, getW, D.ren, D.rens, D.okN, D.okNs, Cp.ren, Cp.okN, HO.ren, HO.okN, okA, renA, renO, hOf, handed, D.fgt, D.fgts, List.range_succ, List.idxOf_cons, putAll]) ?_; simp [movT, movH, movD, D.mov, HO.mov, okM, renM, getW, D.ren, D.rens, D.okN, D.okNs, Cp.ren, Cp.okN, HO.ren, HO.okN, okA, renA, renO, hOf, handed, D.fgt, D.fgts, List.range_succ, List.idxOf_cons])
          exact ⟨w, lf1 - c, by omega, by omega, .inr (by omega), hwo, by omega, hown, rfl, rfl, rfl, rfl, rfl, rfl⟩
        · rw [if_neg hc] at hown
          subst hown
          rw [Cost_no hc] at hst
          unfold wObjs headD Cs stepsM goneD at hst
          rw [encT_eq t1] at hst
          (refine wpD_seqk fun K hK => ?_; refine wpD_region tyOK ?_; ((repeat (rw [wpS_cons]; simp)); (try simp only [wpS_nil, thenD, blockD])))
          refine CallX.objs globPure [0, 1] true (hst) ?_ (by rintro o hc ⟨_, rfl⟩; simp) (by decide) (by simp) (by simp [D.ren, D.rens, D.okN, D.okNs, Cp.ren, Cp.okN, HO.ren, HO.okN, okA, renA, renO, hOf, handed, D.fgt, D.fgts, List.range_succ, List.idxOf_cons]) (by simp [D.ren, D.rens, D.okN, D.okNs, Cp.ren, Cp.okN, HO.ren, HO.okN, okA, renA, renO, hOf, handed, D.fgt, D.fgts, List.range_succ, List.idxOf_cons]) (by simp [D.ren, D.rens, D.okN, D.okNs, Cp.ren, Cp.okN, HO.ren, HO.okN, okA, renA, renO, hOf, handed, D.fgt, D.fgts, List.range_succ, List.idxOf_cons]) (by simp [D.ren, D.rens, D.okN, D.okNs, Cp.ren, Cp.okN, HO.ren, HO.okN, okA, renA, renO, hOf, handed, D.fgt, D.fgts, List.range_succ, List.idxOf_cons])
          (rintro o hc ⟨rfl, rfl⟩; refine ⟨false, ?_⟩; simp [D.ren, D.rens, D.okN, D.okNs, Cp.ren, Cp.okN, HO.ren, HO.okN, okA, renA, renO, hOf, handed, D.fgt, D.fgts, List.range_succ, List.idxOf_cons, Out.ren, told, Out.fgt, upO, updS, setS])
          ((try simp only [thenD, blockD]); refine EndQ.pan (.inr ⟨[], by decide, by simp, ?_⟩); simp [Out.mov, movT, movH, movD, D.mov, HO.mov, okM, renM, getW, D.ren, D.rens, D.okN, D.okNs, Cp.ren, Cp.okN, HO.ren, HO.okN, okA, renA, renO, hOf, handed, D.fgt, D.fgts, List.range_succ, List.idxOf_cons, tmOf, Out.fgt, D.fgt, D.fgts])
          exact ⟨rfl, rfl⟩
end Go.Proofs.YtebmlojhdnldgaaGreatDoor

namespace Go.Proofs.YtebmlojhdnldgaaGreatDoor
set_option linter.unusedSimpArgs false
set_option linter.unusedVariables false
set_option maxHeartbeats 10000000
set_option maxRecDepth 20000
open Go.RowKit
attribute [local simp] wpAft_ret wpAft_pan wantD evOp opD tmOf putS updS setS hOf isFree isTok fillD TK.isAgg TK.known partD thenD blockD putAll D.ofV inB nilTest isNilS binX binD binE isCst bndD capB IntKind.min IntKind.max IntKind.signed IntKind.bits dstOf late
/-- what a head's run of one step comes to -/
def OneP (l : List C) (t : T) (left : Int) : Out → List HO → Prop := match hstep l t with
  | none => fun o hc => o.fgt = .ret (encT t.trunc) ∧ hc = wObjs left l true false
  | some p => if (p.2 : Int) ≤ left then fun o hc => o.fgt = .ret (encT p.1) ∧ hc = wObjs (left - p.2) l true true else GoneP
theorem OneP_none {l : List C} {t : T} {left : Int} (h : hstep l t = none) : OneP l t left = fun o hc => o.fgt = .ret (encT t.trunc) ∧ hc = wObjs left l true false := by unfold OneP; rw [h]
theorem OneP_some {l : List C} {t u : T} {c : Nat} {left : Int} (h : hstep l t = some (u, c)) (hc : (c : Int) ≤ left) : OneP l t left = fun o hc => o.fgt = .ret (encT u) ∧ hc = wObjs (left - c) l true true := by unfold OneP; rw [h]; exact if_pos hc
theorem OneP_gone {l : List C} {t u : T} {c : Nat} {left : Int} (h : hstep l t = some (u, c)) (hc : ¬ (c : Int) ≤ left) : OneP l t left = GoneP := by unfold OneP; rw [h]; exact if_neg hc
theorem headO_spec {l : List C} (hcs : okCs l) (left : Int) (hlf : left ≤ 9223372036854775807) (k : Nat) : ∀ (t : T), mu t = k → okS t → Spec Tryz.prog glob 43 [.box 0 0, encT t] (wObjs left l true false) (OneP l t left) := by
  induction k using Nat.strongRecOn with
  | ind k ihk =>
  intro t hk ht
  rw [encT_eq t]
  unfold wObjs headD Cs stepsM
  refine Spec.movd globPure (wpD_spec tyOK Tryz.func43 rfl (enters _ _ Tryz.func43 rfl (by decide)) rfl rfl ?_)
  (refine wpD_seqk fun K hK => ?_; refine wpD_region tyOK ?_; ((repeat (rw [wpS_cons]; simp)); (try simp only [wpS_nil, thenD, blockD])); refine hK _ _ _ ?_; clear hK K)
  refine wpD_block ?_
  refine wpD_loopMJ globPure [5, 6, 7, 8, 9, 10, 11, 12, 13, 14, 15, 16, 17, 18, 19, 20, 21, 22, 23, 24, 25, 26, 27, 28, 29, 30, 31, 32, 33, 34, 35, 36, 37, 38, 39, 40, 41, 42, 43, 44, 45, 46, 47, 48, 49, 50, 51, 52, 53, 54] [] (fun n ys hl => ys = [] ∧ hl = [.cells 76 [.int .i64 left, .slice (l.map encC) .any, .bool true, .bool false, .map 1], .mp [(.int .i64 6, .fn (.func 71) [.box 0 0] []), (.int .i64 14, .fn (.func 72) [.box 0 0] []), (.int .i64 15, .fn (.func 72) [.box 0 0] []), (.int .i64 7, .fn (.func 73) [.box 0 0] []), (.int .i64 3, .fn (.func 74) [.box 0 0] []), (.int .i64 18, .fn (.func 75) [.box 0 0] []), (.int .i64 21, .fn (.func 76) [.box 0 0] []), (.int .i64 24, .fn (.func 77) [.box 0 0] [])], .cells 27 [.int .i64 t.k, .int .i64 t.n, .int .i64 t.a, .slice (t.ls.map encL) .any, .slice (t.ks.map encT) .any], .cells 27 [.int .i64 0, .int .i64 0, .int .i64 0, .slice [] .full, .slice [] .full]]) (0) (by kernel_rfl) ?_ ?_
  · exact ⟨rfl, rfl⟩
  · rintro n ys hl A hA hA2 ⟨rfl, rfl⟩
    simp only [putAll, List.set, List.map_cons, List.map_nil, List.cons_append, List.nil_append]
    refine wpD_block ?_
    refine wpD_seqE (α := T) [5, 6, 7, 10, 11, 12, 13, 14, 15, 16, 17, 18, 19, 20, 21, 22, 23, 24, 25, 26, 27, 28, 29, 30, 31, 32, 33, 34, 35] (fun _ => [5, 6, 7, 10, 11, 12, 13, 14, 15, 16, 17, 18, 19, 20, 21, 22, 23, 24, 25, 26, 27, 28, 29, 30, 31, 32, 33, 34, 35].map fun _ => .junk) (fun a => [.cells 76 [.int .i64 left, .slice (l.map encC) .any, .bool true, .bool false, .map 1], .mp [(.int .i64 6, .fn (.func 71) [.box 0 0] []), (.int .i64 14, .fn (.func 72) [.box 0 0] []), (.int .i64 15, .fn (.func 72) [.box 0 0] []), (.int .i64 7, .fn (.func 73) [.box 0 0] []), (.int .i64 3, .fn (.func 74) [.box 0 0] []), (.int .i64 18, .fn (.func 75) [.box 0 0] []), (.int .i64 21, .fn (.func 76) [.box 0 0] []), (.int .i64 24, .fn (.func 77) [.box 0 0] [])], .cells 27 [.int .i64 a.k, .int .i64 a.n, .int .i64 a.a, .slice (a.ls.map encL) .any, .slice (a.ks.map encT) .any], .cells 27 [.int .i64 0, .int .i64 0, .int .i64 0, .slice [] .full, .slice [] .full]]) (fun a => okS a ∧ hstep l t = ownS l a (placeX a) ∧ (hstep l t = none → t.trunc = a)) ?_ ?_
    rotate_left
    · intro K hK0
      rcases spot_of t with hs | ⟨i, many, hs⟩
      · obtain ⟨p, q, hpq⟩ := spotO_none hs
        have hsp := spot_spec t ht.1.kl
        rw [hpq, encT_eq t] at hsp
        have hrd := Ready.none (l := l) hs
        (refine wpD_seqk fun K hK => ?_; refine wpD_region tyOK ?_; ((repeat (rw [wpS_cons]; simp)); (try simp only [wpS_nil, thenD, blockD])))
        refine CallX.pure globPure (hsp) ?_ (by simp [D.fgts, D.fgt]) (by simp [D.pures, D.pure, Cp.free, D.pures_map]) (by simp [Out.pure, D.pure, D.pures, Cp.free, D.pures_map])
        ((try simp only [wpAft_ret, wpAft_pan, putS, updS, setS]); (repeat (rw [wpS_cons]; simp)); (try simp only [wpS_nil, thenD, blockD]))
        (refine hK _ _ _ ?_; clear hK K)
        (refine wpD_seqk fun K hK => ?_; refine wpD_region tyOK ?_; ((repeat (rw [wpS_cons]; simp)); (try simp only [wpS_nil, thenD, blockD])); refine hK _ _ _ ?_; clear hK K)
        refine wpD_part rfl (fun h => by simp at h) (fun _ => ?_)
        refine wpD_skip (hK0 t _ ⟨ht, hrd.1, fun _ => hrd.2⟩ ?_)
        simp [leT, putAll]
      · have hsp := spot_spec t ht.1.kl
        rw [spotO_some hs ht.1.kl, encT_eq t] at hsp
        have hki := kidn_spec t i i rfl
        have hmu := mu_kid hs
        have hre := ihk (mu (t.kid i)) (by omega) (t.kid i) rfl (ht.kid i)
        have hmy := spot_many hs ht.1
        cases hst : hstep l (t.kid i) with
        | none =>
          have hkst := kid_stuck hs hst
          have hw := with_spec t (t.kid i).trunc i many hmy
          rw [OneP_none hst] at hre
          have hwp := with_pot (x := (t.kid i).trunc) hs
          have htp := trunc_pot (t.kid i)
          have hwo := with_ok (i := i) ht.1 (trunc_ok _ (kid_ok ht.1 i)) hmy
          have hpl := place_with (x := (t.kid i).trunc) hs
          have hpot := ht.2
          generalize (t.kid i).trunc = v at hre hw hkst hwp htp hwo hpl
          generalize t.kid i = y at hki hre hwp htp
          generalize hu : t.withT v i many = u at hw hkst hwp hwo hpl
          rw [encT_eq t, encT_eq y] at hki
          unfold wObjs headD Cs stepsM at hre
          rw [encT_eq y, encT_eq v] at hre
          rw [encT_eq t, encT_eq v, encT_eq u] at hw
          (refine wpD_seqk fun K hK => ?_; refine wpD_region tyOK ?_; ((repeat (rw [wpS_cons]; simp)); (try simp only [wpS_nil, thenD, blockD])))
          refine CallX.pure globPure (hsp) ?_ (by simp [D.fgts, D.fgt]) (by simp [D.pures, D.pure, Cp.free, D.pures_map]) (by simp [Out.pure, D.pure, D.pures, Cp.free, D.pures_map])
          ((try simp only [wpAft_ret, wpAft_pan, putS, updS, setS]); (repeat (rw [wpS_cons]; simp)); (try simp only [wpS_nil, thenD, blockD]))
          (refine hK _ _ _ ?_; clear hK K)
          (refine wpD_seqk fun K hK => ?_; refine wpD_region tyOK ?_; ((repeat (rw [wpS_cons]; simp)); (try simp only [wpS_nil, thenD, blockD])); refine hK _ _ _ ?_; clear hK K)
          refine wpD_part rfl (fun _ => ?_) (fun h => by simp at h)
          (refine wpD_seqk fun K hK => ?_; refine wpD_drawk tyOK (by kernel_rfl) (by kernel_rfl) fun KT hKT => ?_; ((repeat (rw [wpT_cons]; simp)); (try simp only [wpT_nil])))
          refine CallY.pure globPure (hki) ?_ (by simp [D.fgts, D.fgt]) (by simp [D.pures, D.pure, Cp.free, D.pures_map]) (by simp [Out.pure, D.pure, D.pures, Cp.free, D.pures_map])
          ((try simp only [wpAftT_ret, wpAftT_pan, putS, updS, setS]); (repeat (rw [wpT_cons]; simp)); (try simp only [wpT_nil]))
          refine CallY.objs globPure [0, 1] true true (hre) (fun o h e => e) ?_ (by simp) (by decide) (by simp) (by simp [D.ren, D.rens, D.okN, D.okNs, Cp.ren, Cp.okN, HO.ren, HO.okN, okA, renA, renO, hOf, handed, D.fgt, D.fgts, List.range_succ, List.idxOf_cons]) (by simp [D.ren, D.rens, D.okN, D.okNs, Cp.ren, Cp.okN, HO.ren, HO.okN, okA, renA, renO, hOf, handed, D.fgt, D.fgts, List.range_succ, List.idxOf_cons]) (by simp [D.ren, D.rens, D.okN, D.okNs, Cp.ren, Cp.okN, HO.ren, HO.okN, okA, renA, renO, hOf, handed, D.fgt, D.fgts, List.range_succ, List.idxOf_cons]) (by simp [D.ren, D.rens, D.okN, D.okNs, Cp.ren, Cp.okN, HO.ren, HO.okN, okA, renA, renO, hOf, handed, D.fgt, D.fgts, List.range_succ, List.idxOf_cons]); simp [D.ren, D.rens, D.okN, D.okNs, Cp.ren, Cp.okN, HO.ren, HO.okN, okA, renA, renO, hOf, handed, D.fgt, D.fgts, List.range_succ, List.idxOf_cons, Out.ren, upO, renO, rdO]
          ((try simp only [wpAftT_ret, wpAftT_pan, putS, updS, setS]); (repeat (rw [wpT_cons]; simp)); (try simp only [wpT_nil]))
          refine CallY.pure globPure (hw) ?_ (by simp [D.fgts, D.fgt]) (by simp [D.pures, D.pure, Cp.free, D.pures_map]) (by simp [Out.pure, D.pure, D.pures, Cp.free, D.pures_map])
          ((try simp only [wpAftT_ret, wpAftT_pan, putS, updS, setS]); (repeat (rw [wpT_cons]; simp)); (try simp only [wpT_nil]))
          (refine hKT _ _ _ _ (by kernel_rfl) ?_; clear hKT KT; (try simp only [thenD, blockD]))
          (refine hK _ _ _ ?_; clear hK K)
          (refine wpD_seqk fun K hK => ?_; refine wpD_region tyOK ?_; ((repeat (rw [wpS_cons]; simp)); (try simp only [wpS_nil, thenD, blockD])); refine hK _ _ _ ?_; clear hK K)
          refine wpD_part rfl (fun h => by simp at h) (fun _ => ?_)
          refine wpD_skip (hK0 u _ ⟨⟨hwo, by omega⟩, by rw [hkst.1, hpl], fun _ => hkst.2⟩ ?_)
          simp [leT, putAll]
        | some p =>
          obtain ⟨v, c⟩ := p
          have hks := kid_step hs hst
          by_cases hc : (c : Int) ≤ left
          · rw [OneP_some hst hc] at hre
            have hw := with_spec t v i many hmy
            have hO := OneP_some hks hc
            generalize t.kid i = y at hki hre
            generalize hu : t.withT v i many = u at hw hO
            rw [encT_eq t, encT_eq y] at hki
            unfold wObjs headD Cs stepsM at hre
            rw [encT_eq y, encT_eq v] at hre
            rw [encT_eq t, encT_eq v, encT_eq u] at hw
            (refine wpD_seqk fun K hK => ?_; refine wpD_region tyOK ?_; ((repeat (rw [wpS_cons]; simp)); (try simp only [wpS_nil, thenD, blockD])))
            refine CallX.pure globPure (hsp) ?_ (by simp [D.fgts, D.fgt]) (by simp [D.pures, D.pure, Cp.free, D.pures_map]) (by simp [Out.pure, D.pure, D.pures, Cp.free, D.pures_map])
            ((try simp only [wpAft_ret, wpAft_pan, putS, updS, setS]); (repeat (rw [wpS_cons]; simp)); (try simp only [wpS_nil, thenD, blockD]))
            (refine hK _ _ _ ?_; clear hK K)
            (refine wpD_seqk fun K hK => ?_; refine wpD_region tyOK ?_; ((repeat (rw [wpS_cons]; simp)); (try simp only [wpS_nil, thenD, blockD])); refine hK _ _ _ ?_; clear hK K)
            refine wpD_part rfl (fun _ => ?_) (fun h => by simp at h)
            (refine wpD_seqk fun K hK => ?_; refine wpD_drawk tyOK (by kernel_rfl) (by kernel_rfl) fun KT hKT => ?_; ((repeat (rw [wpT_cons]; simp)); (try simp only [wpT_nil])))
            refine CallY.pure globPure (hki) ?_ (by simp [D.fgts, D.fgt]) (by simp [D.pures, D.pure, Cp.free, D.pures_map]) (by simp [Out.pure, D.pure, D.pures, Cp.free, D.pures_map])
            ((try simp only [wpAftT_ret, wpAftT_pan, putS, updS, setS]); (repeat (rw [wpT_cons]; simp)); (try simp only [wpT_nil]))
            refine CallY.objs globPure [0, 1] true true (hre) (fun o h e => e) ?_ (by simp) (by decide) (by simp) (by simp [D.ren, D.rens, D.okN, D.okNs, Cp.ren, Cp.okN, HO.ren, HO.okN, okA, renA, renO, hOf, handed, D.fgt, D.fgts, List.range_succ, List.idxOf_cons]) (by simp [D.ren, D.rens, D.okN, D.okNs, Cp.ren, Cp.okN, HO.ren, HO.okN, okA, renA, renO, hOf, handed, D.fgt, D.fgts, List.range_succ, List.idxOf_cons]) (by simp [D.ren, D.rens, D.okN, D.okNs, Cp.ren, Cp.okN, HO.ren, HO.okN, okA, renA, renO, hOf, handed, D.fgt, D.fgts, List.range_succ, List.idxOf_cons]) (by simp [D.ren, D.rens, D.okN, D.okNs, Cp.ren, Cp.okN, HO.ren, HO.okN, okA, renA, renO, hOf, handed, D.fgt, D.fgts, List.range_succ, List.idxOf_cons]); simp [D.ren, D.rens, D.okN, D.okNs, Cp.ren, Cp.okN, HO.ren, HO.okN, okA, renA, renO, hOf, handed, D.fgt, D.fgts, List.range_succ, List.idxOf_cons, Out.ren, upO, renO, rdO]
            ((try simp only [wpAftT_ret, wpAftT_pan, putS, updS, setS]); (repeat (rw [wpT_cons]; simp)); (try simp only [wpT_nil]))
            refine CallY.pure globPure (hw) ?_ (by simp [D.fgts, D.fgt]) (by simp [D.pures, D.pure, Cp.free, D.pures_map]) (by simp [Out.pure, D.pure, D.pures, Cp.free, D.pures_map])
            ((try simp only [wpAftT_ret, wpAftT_pan, putS, updS, setS]); (repeat (rw [wpT_cons]; simp)); (try simp only [wpT_nil]))
            (refine hKT _ _ _ _ (by kernel_rfl) ?_; clear hKT KT; (try simp only [thenD, blockD]))
            (refine hK _ _ _ ?_; clear hK K)
            (refine wpD_seqk fun K hK => ?_; refine wpD_region tyOK ?_; ((repeat (rw [wpS_cons]; simp)); (try simp only [wpS_nil, thenD, blockD])); refine hK _ _ _ ?_; clear hK K)
            refine wpD_part rfl (fun _ => ?_) (fun h => by simp at h)
            (refine wpD_seqk fun K hK => ?_; refine wpD_region tyOK ?_; ((repeat (rw [wpS_cons]; simp)); (try simp only [wpS_nil, thenD, blockD])); refine hK _ _ _ ?_; clear hK K)
            (refine wpD_ret ?_; (try simp only [thenD, blockD]); refine EndQ.ret rfl (.inr ⟨[], by decide, by simp, ?_⟩); simp [Out.mov, movT, movH, movD, D.mov, HO.mov, okM, renM, getW, D.ren, D.rens, D.okN, D.okNs, Cp.ren, Cp.okN, HO.ren, HO.okN, okA, renA, renO, hOf, handed, D.fgt, D.fgts, List.range_succ, List.idxOf_cons, tmOf, Out.fgt, D.fgt, D.fgts])
            rw [hO]
            refine ⟨?_, rfl⟩
            simp [Out.fgt, encT_eq u, D.fgt, D.fgts]
          · rw [OneP_gone hst hc] at hre
            have hO := OneP_gone hks hc
            generalize t.kid i = y at hki hre
            rw [encT_eq t, encT_eq y] at hki
            rw [encT_eq y] at hre
            unfold GoneP wObjs headD Cs stepsM goneD at hre
            (refine wpD_seqk fun K hK => ?_; refine wpD_region tyOK ?_; ((repeat (rw [wpS_cons]; simp)); (try simp only [wpS_nil, thenD, blockD])))
            refine CallX.pure globPure (hsp) ?_ (by simp [D.fgts, D.fgt]) (by simp [D.pures, D.pure, Cp.free, D.pures_map]) (by simp [Out.pure, D.pure, D.pures, Cp.free, D.pures_map])
            ((try simp only [wpAft_ret, wpAft_pan, putS, updS, setS]); (repeat (rw [wpS_cons]; simp)); (try simp only [wpS_nil, thenD, blockD]))
            (refine hK _ _ _ ?_; clear hK K)
            (refine wpD_seqk fun K hK => ?_; refine wpD_region tyOK ?_; ((repeat (rw [wpS_cons]; simp)); (try simp only [wpS_nil, thenD, blockD])); refine hK _ _ _ ?_; clear hK K)
            refine wpD_part rfl (fun _ => ?_) (fun h => by simp at h)
            (refine wpD_seqk fun K hK => ?_; refine wpD_drawk tyOK (by kernel_rfl) (by kernel_rfl) fun KT hKT => ?_; ((repeat (rw [wpT_cons]; simp)); (try simp only [wpT_nil])))
            refine CallY.pure globPure (hki) ?_ (by simp [D.fgts, D.fgt]) (by simp [D.pures, D.pure, Cp.free, D.pures_map]) (by simp [Out.pure, D.pure, D.pures, Cp.free, D.pures_map])
            ((try simp only [wpAftT_ret, wpAftT_pan, putS, updS, setS]); (repeat (rw [wpT_cons]; simp)); (try simp only [wpT_nil]))
            refine CallY.objs globPure [0, 1] true false (hre) (fun o h e => e) ?_ (by simp) (by decide) (by simp) (by simp [D.ren, D.rens, D.okN, D.okNs, Cp.ren, Cp.okN, HO.ren, HO.okN, okA, renA, renO, hOf, handed, D.fgt, D.fgts, List.range_succ, List.idxOf_cons]) (by simp [D.ren, D.rens, D.okN, D.okNs, Cp.ren, Cp.okN, HO.ren, HO.okN, okA, renA, renO, hOf, handed, D.fgt, D.fgts, List.range_succ, List.idxOf_cons]) (by simp [D.ren, D.rens, D.okN, D.okNs, Cp.ren, Cp.okN, HO.ren, HO.okN, okA, renA, renO, hOf, handed, D.fgt, D.fgts, List.range_succ, List.idxOf_cons]) (by simp [D.ren, D.rens, D.okN, D.okNs, Cp.ren, Cp.okN, HO.ren, HO.okN, okA, renA, renO, hOf, handed, D.fgt, D.fgts, List.range_succ, List.idxOf_cons]); simp [D.ren, D.rens, D.okN, D.okNs, Cp.ren, Cp.okN, HO.ren, HO.okN, okA, renA, renO, hOf, handed, D.fgt, D.fgts, List.range_succ, List.idxOf_cons, Out.ren, upO, renO, rdO]
            (try simp only [wpAftT_ret, wpAftT_pan, putS, updS, setS])
            (rw [wpT_cons, if_neg (Bool.eq_false_iff.mp (by kernel_rfl))]; simp)
            (rw [wpT_cons, if_neg (Bool.eq_false_iff.mp (by kernel_rfl))]; simp)
            ((try simp only [wpAftT_ret, wpAftT_pan, putS, updS, setS]); (repeat (refine wpT_late _ _ _ _ (by kernel_rfl) ?_; simp only [putS, List.set, List.nil_append, List.cons_append, Nat.reduceAdd])); (try simp only [wpT_nil]))
            (refine hKT _ _ _ _ (by kernel_rfl) ?_; clear hKT KT; (try simp only [thenD, blockD]))
            simp [killHl]
            ((try simp only [thenD, blockD]); refine EndQ.pan (.inr ⟨[], by decide, by simp, ?_⟩); simp [Out.mov, movT, movH, movD, D.mov, HO.mov, okM, renM, getW, D.ren, D.rens, D.okN, D.okNs, Cp.ren, Cp.okN, HO.ren, HO.okN, okA, renA, renO, hOf, handed, D.fgt, D.fgts, List.range_succ, List.idxOf_cons, tmOf, Out.fgt, D.fgt, D.fgts])
            rw [hO]
            exact ⟨rfl, rfl⟩
    · rintro t1 ⟨gt, gown, gtr⟩
      simp only [putAll, List.set, List.map_cons, List.map_nil, List.cons_append, List.nil_append]
      have hst := step_spec left l true false hlf hcs t1 gt
      rw [← gown] at hst
      cases ho : hstep l t with
      | none =>
        rw [ho] at hst
        have hO := OneP_none (left := left) ho
        rw [gtr ho] at hO
        unfold OwnP wObjs headD Cs stepsM at hst
        rw [encT_eq t1] at hst
        (refine wpD_seqk fun K hK => ?_; refine wpD_region tyOK ?_; ((repeat (rw [wpS_cons]; simp)); (try simp only [wpS_nil, thenD, blockD])))
        refine CallX.objs globPure [0, 1] true (hst) ?_ (by rintro o hc ⟨_, rfl⟩; simp) (by decide) (by simp) (by simp [D.ren, D.rens, D.okN, D.okNs, Cp.ren, Cp.okN, HO.ren, HO.okN, okA, renA, renO, hOf, handed, D.fgt, D.fgts, List.range_succ, List.idxOf_cons]) (by simp [D.ren, D.rens, D.okN, D.okNs, Cp.ren, Cp.okN, HO.ren, HO.okN, okA, renA, renO, hOf, handed, D.fgt, D.fgts, List.range_succ, List.idxOf_cons]) (by simp [D.ren, D.rens, D.okN, D.okNs, Cp.ren, Cp.okN, HO.ren, HO.okN, okA, renA, renO, hOf, handed, D.fgt, D.fgts, List.range_succ, List.idxOf_cons]) (by simp [D.ren, D.rens, D.okN, D.okNs, Cp.ren, Cp.okN, HO.ren, HO.okN, okA, renA, renO, hOf, handed, D.fgt, D.fgts, List.range_succ, List.idxOf_cons])
        (rintro o hc ⟨ho, rfl⟩; refine ⟨true, ?_⟩; rw [show told true o = _ from ho]; clear ho; simp [D.ren, D.rens, D.okN, D.okNs, Cp.ren, Cp.okN, HO.ren, HO.okN, okA, renA, renO, hOf, handed, D.fgt, D.fgts, List.range_succ, List.idxOf_cons, Out.ren, told, Out.fgt, upO, updS, setS])
        ((try simp only [wpAft_ret, wpAft_pan, putS, updS, setS]); (repeat (rw [wpS_cons]; simp)); (try simp only [wpS_nil, thenD, blockD]))
        (refine hK _ _ _ ?_; clear hK K)
        refine wpD_seqk fun K1 hK1 => ?_
        (refine wpD_seqk fun K hK => ?_; refine wpD_region tyOK ?_; ((repeat (rw [wpS_cons]; simp)); (try simp only [wpS_nil, thenD, blockD])); refine hK _ _ _ ?_; clear hK K)
        refine wpD_part rfl (fun _ => ?_) (fun h => by simp at h)
        (refine wpD_seqk fun K hK => ?_; refine wpD_region tyOK ?_; ((repeat (rw [wpS_cons]; simp)); (try simp only [wpS_nil, thenD, blockD])); refine hK _ _ _ ?_; clear hK K)
        (refine wpD_ret ?_; (try simp only [thenD, blockD]); refine EndQ.ret rfl (.inr ⟨[], by decide, by simp, ?_⟩); simp [Out.mov, movT, movH, movD, D.mov, HO.mov, okM, renM, getW, D.ren, D.rens, D.okN, D.okNs, Cp.ren, Cp.okN, HO.ren, HO.okN, okA, renA, renO, hOf, handed, D.fgt, D.fgts, List.range_succ, List.idxOf_cons, tmOf, Out.fgt, D.fgt, D.fgts])
        rw [hO]
        refine ⟨?_, rfl⟩
        simp [Out.fgt, encT_eq t1, D.fgt, D.fgts]
      | some p =>
        obtain ⟨w, c⟩ := p
        rw [ho] at hst
        unfold OwnP at hst
        simp only at hst
        by_cases hc : (c : Int) ≤ left
        · have hO := OneP_some ho hc
          rw [Cost_ok hc] at hst
          unfold wObjs headD Cs stepsM at hst
          rw [encT_eq t1, encT_eq w] at hst
          (refine wpD_seqk fun K hK => ?_; refine wpD_region tyOK ?_; ((repeat (rw [wpS_cons]; simp)); (try simp only [wpS_nil, thenD, blockD])))
          refine CallX.objs globPure [0, 1] true (hst) ?_ (by rintro o hc ⟨_, rfl⟩; simp) (by decide) (by simp) (by simp [D.ren, D.rens, D.okN, D.okNs, Cp.ren, Cp.okN, HO.ren, HO.okN, okA, renA, renO, hOf, handed, D.fgt, D.fgts, List.range_succ, List.idxOf_cons]) (by simp [D.ren, D.rens, D.okN, D.okNs, Cp.ren, Cp.okN, HO.ren, HO.okN, okA, renA, renO, hOf, handed, D.fgt, D.fgts, List.range_succ, List.idxOf_cons]) (by simp [D.ren, D.rens, D.okN, D.okNs, Cp.ren, Cp.okN, HO.ren, HO.okN, okA, renA, renO, hOf, handed, D.fgt, D.fgts, List.range_succ, List.idxOf_cons]) (by simp [D.ren, D.rens, D.okN, D.okNs, Cp.ren, Cp.okN, HO.ren, HO.okN, okA, renA, renO, hOf, handed, D.fgt, D.fgts, List.range_succ, List.idxOf_cons])
          (rintro o hc ⟨ho, rfl⟩; refine ⟨true, ?_⟩; rw [show told true o = _ from ho]; clear ho; simp [D.ren, D.rens, D.okN, D.okNs, Cp.ren, Cp.okN, HO.ren, HO.okN, okA, renA, renO, hOf, handed, D.fgt, D.fgts, List.range_succ, List.idxOf_cons, Out.ren, told, Out.fgt, upO, updS, setS])
          ((try simp only [wpAft_ret, wpAft_pan, putS, updS, setS]); (repeat (rw [wpS_cons]; simp)); (try simp only [wpS_nil, thenD, blockD]))
          (refine hK _ _ _ ?_; clear hK K)
          refine wpD_seqk fun K1 hK1 => ?_
          (refine wpD_seqk fun K hK => ?_; refine wpD_region tyOK ?_; ((repeat (rw [wpS_cons]; simp)); (try simp only [wpS_nil, thenD, blockD])); refine hK _ _ _ ?_; clear hK K)
          refine wpD_part rfl (fun h => by simp at h) (fun _ => ?_)
          refine wpD_skip (hK1 _ _ _ ?_)
          (refine wpD_seqk fun K hK => ?_; refine wpD_region tyOK ?_; ((repeat (rw [wpS_cons]; simp)); (try simp only [wpS_nil, thenD, blockD])); refine hK _ _ _ ?_; clear hK K)
          (refine wpD_seqk fun K hK => ?_; refine wpD_region tyOK ?_; ((repeat (rw [wpS_cons]; simp)); (try simp only [wpS_nil, thenD, blockD])); refine hK _ _ _ ?_; clear hK K)
          refine wpD_part rfl (fun _ => ?_) (fun h => by simp at h)
          (refine wpD_seqk fun K hK => ?_; refine wpD_region tyOK ?_; ((repeat (rw [wpS_cons]; simp)); (try simp only [wpS_nil, thenD, blockD])); refine hK _ _ _ ?_; clear hK K)
          (refine wpD_ret ?_; (try simp only [thenD, blockD]); refine EndQ.ret rfl (.inr ⟨[], by decide, by simp, ?_⟩); simp [Out.mov, movT, movH, movD, D.mov, HO.mov, okM, renM, getW, D.ren, D.rens, D.okN, D.okNs, Cp.ren, Cp.okN, HO.ren, HO.okN, okA, renA, renO, hOf, handed, D.fgt, D.fgts, List.range_succ, List.idxOf_cons, tmOf, Out.fgt, D.fgt, D.fgts])
          rw [hO]
          refine ⟨?_, rfl⟩
          simp [Out.fgt, encT_eq w, D.fgt, D.fgts]
        · have hO := OneP_gone ho hc
          rw [Cost_no hc] at hst
          unfold wObjs headD Cs stepsM goneD at hst
          rw [encT_eq t1] at hst
          (refine wpD_seqk fun K hK => ?_; refine wpD_region tyOK ?_; ((repeat (rw [wpS_cons]; simp)); (try simp only [wpS_nil, thenD, blockD])))
          refine CallX.objs globPure [0, 1] true (hst) ?_ (by rintro o hc ⟨_, rfl⟩; simp) (by decide) (by simp) (by simp [D.ren, D.rens, D.okN, D.okNs, Cp.ren, Cp.okN, HO.ren, HO.okN, okA, renA, renO, hOf, handed, D.fgt, D.fgts, List.range_succ, List.idxOf_cons]) (by simp [D.ren, D.rens, D.okN, D.okNs, Cp.ren, Cp.okN, HO.ren, HO.okN, okA, renA, renO, hOf, handed, D.fgt, D.fgts, List.range_succ, List.idxOf_cons]) (by simp [D.ren, D.rens, D.okN, D.okNs, Cp.ren, Cp.okN, HO.ren, HO.okN, okA, renA, renO, hOf, handed, D.fgt, D.fgts, List.range_succ, List.idxOf_cons]) (by simp [D.ren, D.rens, D.okN, D.okNs, Cp.ren, Cp.okN, HO.ren, HO.okN, okA, renA, renO, hOf, handed, D.fgt, D.fgts, List.range_succ, List.idxOf_cons])
          (rintro o hc ⟨rfl, rfl⟩; refine ⟨false, ?_⟩; simp [D.ren, D.rens, D.okN, D.okNs, Cp.ren, Cp.okN, HO.ren, HO.okN, okA, renA, renO, hOf, handed, D.fgt, D.fgts, List.range_succ, List.idxOf_cons, Out.ren, told, Out.fgt, upO, updS, setS])
          ((try simp only [thenD, blockD]); refine EndQ.pan (.inr ⟨[], by decide, by simp, ?_⟩); simp [Out.mov, movT, movH, movD, D.mov, HO.mov, okM, renM, getW, D.ren, D.rens, D.okN, D.okNs, Cp.ren, Cp.okN, HO.ren, HO.okN, okA, renA, renO, hOf, handed, D.fgt, D.fgts, List.range_succ, List.idxOf_cons, tmOf, Out.fgt, D.fgt, D.fgts])
          rw [hO]
          exact ⟨rfl, rfl⟩
end Go.Proofs.YtebmlojhdnldgaaGreatDoor

namespace Go.Proofs.YtebmlojhdnldgaaGreatDoor
set_option linter.unusedSimpArgs false
set_option linter.unusedVariables false
set_option maxHeartbeats 10000000
set_option maxRecDepth 20000
open Go.RowKit
attribute [local simp] wpAft_ret wpAft_pan wantD evOp opD tmOf putS updS setS hOf isFree isTok fillD TK.isAgg TK.known partD thenD blockD putAll D.ofV inB nilTest isNilS binX binD binE isCst bndD capB IntKind.min IntKind.max IntKind.signed IntKind.bits dstOf late
theorem hat_spec (l : List C) (f : Int) : Spec Tryz.prog glob 42 [Cs l, .int .i64 f] [] (fun o hc => o = .ret (.box 0 0) ∧ hc = wObjs f l false false) := by
  unfold wObjs headD Cs stepsM
  have L0 : 0 < LMax := by unfold LMax; omega
  have L1 : 1 < LMax := by unfold LMax; omega
  have L2 : 2 < LMax := by unfold LMax; omega
  have L3 : 3 < LMax := by unfold LMax; omega
  have L4 : 4 < LMax := by unfold LMax; omega
  have L5 : 5 < LMax := by unfold LMax; omega
  have L6 : 6 < LMax := by unfold LMax; omega
  have L7 : 7 < LMax := by unfold LMax; omega
  refine Spec.movd globPure (wpD_spec tyOK Tryz.func42 rfl (enters _ _ Tryz.func42 rfl (by decide)) rfl rfl ?_)
  (refine wpD_seqk fun K hK => ?_; refine wpD_region tyOK ?_; ((repeat (rw [wpS_cons]; simp)); (try simp only [wpS_nil, thenD, blockD])); refine hK _ _ _ ?_; clear hK K)
  (refine wpD_seqk fun K hK => ?_; refine wpD_region tyOK ?_; ((repeat (rw [wpS_cons]; simp)); (try simp only [wpS_nil, thenD, blockD])); refine hK _ _ _ ?_; clear hK K)
  (refine wpD_seqk fun K hK => ?_; refine wpD_region tyOK ?_; ((repeat (rw [wpS_cons]; simp [findD, keyEq, isIntK, L0, L1, L2, L3, L4, L5, L6, L7])); (try simp only [wpS_nil, thenD, blockD])); refine hK _ _ _ ?_; clear hK K)
  (refine wpD_seqk fun K hK => ?_; refine wpD_region tyOK ?_; ((repeat (rw [wpS_cons]; simp)); (try simp only [wpS_nil, thenD, blockD])); refine hK _ _ _ ?_; clear hK K)
  (refine wpD_ret ?_; (try simp only [thenD, blockD]); refine EndQ.ret rfl (.inr ⟨[0, 1], by decide, by simp, ?_⟩); simp [Out.mov, movT, movH, movD, D.mov, HO.mov, okM, renM, getW, D.ren, D.rens, D.okN, D.okNs, Cp.ren, Cp.okN, HO.ren, HO.okN, okA, renA, renO, hOf, handed, D.fgt, D.fgts, List.range_succ, List.idxOf_cons, tmOf, Out.fgt, D.fgt, D.fgts])
end Go.Proofs.YtebmlojhdnldgaaGreatDoor

namespace Go.Proofs.YtebmlojhdnldgaaGreatDoor
set_option linter.unusedSimpArgs false
set_option linter.unusedVariables false
set_option maxHeartbeats 10000000
set_option maxRecDepth 20000
open Go.RowKit
attribute [local simp] wpAft_ret wpAft_pan wantD evOp opD tmOf putS updS setS hOf isFree isTok fillD TK.isAgg TK.known partD thenD blockD putAll D.ofV inB nilTest isNilS binX binD binE isCst bndD capB IntKind.min IntKind.max IntKind.signed IntKind.bits dstOf late
theorem wcatch_idle (k n a x y : Int) (ls ks : D) : SpecD Tryz.prog glob 88 [.box 0 0, .box 1 0, .box 2 0] [.cells 27 [.int .i64 k, .int .i64 n, .int .i64 a, ls, ks], .cells 3 [.int .i64 x], .cells 33 [.int .i64 y]] none
    (fun hc => hc = [.cells 27 [.int .i64 k, .int .i64 n, .int .i64 a, ls, ks], .cells 3 [.int .i64 x], .cells 33 [.int .i64 y]]) := by
  refine wpD_specd tyOK Tryz.func88 rfl rfl (fun a w => rfl) rfl (enters _ _ Tryz.func88 rfl (by decide)) rfl rfl ?_
  ((try simp only [wpAft_ret, wpAft_pan, putS, updS, setS]); (repeat (rw [wpS_cons]; simp)); (try simp only [wpS_nil, thenD, blockD]))
  (refine wpD_seqk fun K hK => ?_; refine wpD_region tyOK ?_; ((repeat (rw [wpS_cons]; simp)); (try simp only [wpS_nil, thenD, blockD])); refine hK _ _ _ ?_; clear hK K)
  refine wpD_part rfl (fun h => by simp at h) (fun _ => ?_)
  refine wpD_skip ?_
  refine EndQ.nrm rfl ?_
  simp [updS]
theorem wcatch_gone (x y : Int) : SpecD Tryz.prog glob 88 [.box 0 0, .box 1 0, .box 2 0] [.cells 27 [.int .i64 0, .int .i64 0, .int .i64 0, .slice [] .full, .slice [] .full], .cells 3 [.int .i64 x], .cells 33 [.int .i64 y]] (some goneD)
    (fun hc => hc = [.cells 27 [.int .i64 0, .int .i64 0, .int .i64 0, .slice [] .full, .slice [] .full], .cells 3 [.int .i64 0], .cells 33 [.int .i64 5], .cells 122 []]) := by
  refine wpD_specd tyOK Tryz.func88 rfl rfl (fun a w => rfl) rfl (enters _ _ Tryz.func88 rfl (by decide)) rfl rfl ?_
  unfold goneD
  ((try simp only [wpAft_ret, wpAft_pan, putS, updS, setS]); (repeat (rw [wpS_cons]; simp)); (try simp only [wpS_nil, thenD, blockD]))
  (refine wpD_seqk fun K hK => ?_; refine wpD_region tyOK ?_; ((repeat (rw [wpS_cons]; simp)); (try simp only [wpS_nil, thenD, blockD])); refine hK _ _ _ ?_; clear hK K)
  refine wpD_part rfl (fun _ => ?_) (fun h => by simp at h)
  refine wpD_seqk fun K1 hK1 => ?_
  (refine wpD_seqk fun K hK => ?_; refine wpD_region tyOK ?_; ((repeat (rw [wpS_cons]; simp)); (try simp only [wpS_nil, thenD, blockD])); refine hK _ _ _ ?_; clear hK K)
  refine wpD_seqk fun K2 hK2 => ?_
  (refine wpD_region tyOK ?_; ((repeat (rw [wpS_cons]; simp)); (try simp only [wpS_nil, thenD, blockD])))
  refine hK2 _ _ _ ?_
  refine wpD_part rfl (fun h => by simp at h) (fun _ => ?_)
  refine wpD_skip (hK1 _ _ _ ?_)
  (refine wpD_region tyOK ?_; ((repeat (rw [wpS_cons]; simp)); (try simp only [wpS_nil, thenD, blockD])))
  refine EndQ.nrm rfl ?_
  simp
end Go.Proofs.YtebmlojhdnldgaaGreatDoor

namespace Go.Proofs.YtebmlojhdnldgaaGreatDoor
set_option linter.unusedSimpArgs false
set_option linter.unusedVariables false
set_option maxHeartbeats 10000000
set_option maxRecDepth 20000
open Go.RowKit
attribute [local simp] wpAft_ret wpAft_pan wantD evOp opD tmOf putS updS setS hOf isFree isTok fillD TK.isAgg TK.known partD thenD blockD putAll D.ofV inB nilTest isNilS binX binD binE isCst bndD capB IntKind.min IntKind.max IntKind.signed IntKind.bits dstOf late
theorem whnf_fin {l : List C} (hcs : okCs l) {t u : T} {f : Int} {n : Nat} (h0 : 0 ≤ f) (h1 : f ≤ 1073741824) (ht : okT t) (hp : t.pot + 7 * f.toNat ≤ PM) (h : Hd l t n u) (hn : (n : Int) ≤ f) :
    Spec Tryz.prog glob 52 [Cs l, encT t, .int .i64 f] [] (fun o _ => o.fgt = .ret (.tuple [encT u, .int .i64 (f - n), .int .i64 0])) := by
  have hat := hat_spec l f
  have hre := head_spec hcs _ _ t f false _ h0 rfl rfl ht hp (.fin h hn)
  have huo := h.ok hcs.ok ht
  have hup := h.pot
  have hud : u.deep ≤ DM := by have := u.deep_nsz; have := nsz_pot u; unfold PM at hp; unfold DM; omega
  have hli := lift_spec u 0 0 hud huo
  rw [show u.lift 0 0 0 = u from lift_zero huo 0] at hli
  have h0' : ¬ f < 0 := by omega
  have h1' : ¬ 1073741824 < f := by omega
  generalize (false || decide (0 < n)) = d at hre
  unfold RetP wObjs headD Cs stepsM at hre
  unfold wObjs headD Cs stepsM at hat
  rw [encT_eq t, encT_eq u] at hre
  rw [encT_eq u] at hli
  rw [encT_eq t]
  unfold Cs
  refine Spec.movd globPure (wpD_specD tyOK Tryz.func52 rfl (enters _ _ Tryz.func52 rfl (by decide)) rfl rfl ?_)
  (refine wpD_seqk fun K hK => ?_; refine wpD_region tyOK ?_; ((repeat (rw [wpS_cons]; simp)); (try simp only [wpS_nil, thenD, blockD])); refine hK _ _ _ ?_; clear hK K)
  refine wpD_seqk fun K1 hK1 => ?_
  (refine wpD_seqk fun K hK => ?_; refine wpD_region tyOK ?_; ((repeat (rw [wpS_cons]; simp [h0', h1'])); (try simp only [wpS_nil, thenD, blockD])); refine hK _ _ _ ?_; clear hK K)
  refine wpD_part rfl (fun h => by simp at h) (fun _ => ?_)
  refine wpD_skip (hK1 _ _ _ ?_)
  (refine wpD_seqk fun K hK => ?_; refine wpD_region tyOK ?_; ((repeat (rw [wpS_cons]; simp)); (try simp only [wpS_nil, thenD, blockD])); refine hK _ _ _ ?_; clear hK K)
  (refine wpD_seqk fun K hK => ?_; refine wpD_region tyOK ?_; ((repeat (rw [wpS_cons]; simp)); (try simp only [wpS_nil, thenD, blockD])))
  refine CallX.objs globPure [] true (hat) ?_ (by rintro o hc ⟨_, rfl⟩; simp) (by decide) (by simp) (by simp [D.ren, D.rens, D.okN, D.okNs, Cp.ren, Cp.okN, HO.ren, HO.okN, okA, renA, renO, hOf, handed, D.fgt, D.fgts, List.range_succ, List.idxOf_cons]) (by simp [D.ren, D.rens, D.okN, D.okNs, Cp.ren, Cp.okN, HO.ren, HO.okN, okA, renA, renO, hOf, handed, D.fgt, D.fgts, List.range_succ, List.idxOf_cons]) (by simp [D.ren, D.rens, D.okN, D.okNs, Cp.ren, Cp.okN, HO.ren, HO.okN, okA, renA, renO, hOf, handed, D.fgt, D.fgts, List.range_succ, List.idxOf_cons]) (by simp [D.ren, D.rens, D.okN, D.okNs, Cp.ren, Cp.okN, HO.ren, HO.okN, okA, renA, renO, hOf, handed, D.fgt, D.fgts, List.range_succ, List.idxOf_cons])
  (rintro o hc ⟨rfl, rfl⟩; refine ⟨false, ?_⟩; simp [D.ren, D.rens, D.okN, D.okNs, Cp.ren, Cp.okN, HO.ren, HO.okN, okA, renA, renO, hOf, handed, D.fgt, D.fgts, List.range_succ, List.idxOf_cons, Out.ren, told, Out.fgt, upO, updS, setS])
  ((try simp only [wpAft_ret, wpAft_pan, putS, updS, setS]); (repeat (rw [wpS_cons]; simp)); (try simp only [wpS_nil, thenD, blockD]))
  (refine hK _ _ _ ?_; clear hK K)
  (refine wpD_seqk fun K hK => ?_; refine wpD_region tyOK ?_; ((repeat (rw [wpS_cons]; simp)); (try simp only [wpS_nil, thenD, blockD])))
  refine CallX.objs globPure [4, 5] true (hre) ?_ (by rintro o hc ⟨_, rfl⟩; simp) (by decide) (by simp) (by simp [D.ren, D.rens, D.okN, D.okNs, Cp.ren, Cp.okN, HO.ren, HO.okN, okA, renA, renO, hOf, handed, D.fgt, D.fgts, List.range_succ, List.idxOf_cons]) (by simp [D.ren, D.rens, D.okN, D.okNs, Cp.ren, Cp.okN, HO.ren, HO.okN, okA, renA, renO, hOf, handed, D.fgt, D.fgts, List.range_succ, List.idxOf_cons]) (by simp [D.ren, D.rens, D.okN, D.okNs, Cp.ren, Cp.okN, HO.ren, HO.okN, okA, renA, renO, hOf, handed, D.fgt, D.fgts, List.range_succ, List.idxOf_cons]) (by simp [D.ren, D.rens, D.okN, D.okNs, Cp.ren, Cp.okN, HO.ren, HO.okN, okA, renA, renO, hOf, handed, D.fgt, D.fgts, List.range_succ, List.idxOf_cons])
  (rintro o hc ⟨ho, rfl⟩; refine ⟨true, ?_⟩; rw [show told true o = _ from ho]; clear ho; simp [D.ren, D.rens, D.okN, D.okNs, Cp.ren, Cp.okN, HO.ren, HO.okN, okA, renA, renO, hOf, handed, D.fgt, D.fgts, List.range_succ, List.idxOf_cons, Out.ren, told, Out.fgt, upO, updS, setS])
  ((try simp only [wpAft_ret, wpAft_pan, putS, updS, setS]); (repeat (rw [wpS_cons]; simp)); (try simp only [wpS_nil, thenD, blockD]))
  refine CallX.pure globPure (hli) ?_ (by simp [D.fgts, D.fgt]) (by simp [D.pures, D.pure, Cp.free, D.pures_map]) (by simp [Out.pure, D.pure, D.pures, Cp.free, D.pures_map])
  ((try simp only [wpAft_ret, wpAft_pan, putS, updS, setS]); (repeat (rw [wpS_cons]; simp)); (try simp only [wpS_nil, thenD, blockD]))
  (refine hK _ _ _ ?_; clear hK K)
  (refine wpD_seqk fun K hK => ?_; refine wpD_drawk tyOK (by kernel_rfl) (by kernel_rfl) fun KT hKT => ?_; ((repeat (rw [wpT_cons]; simp)); (try simp only [wpT_nil])))
  (refine hKT _ _ _ _ (by kernel_rfl) ?_; clear hKT KT; (try simp only [thenD, blockD]))
  (refine hK _ _ _ ?_; clear hK K)
  refine wpD_ret ?_
  refine DefX.objs globPure [1, 2, 3] (wcatch_idle u.k u.n u.a (f - n) 0 (.slice (u.ls.map encL) .any) (.slice (u.ks.map encT) .any)) ?_ ?_ (fun d h => by cases h) (by decide) (by simp) (by simp [D.ren, D.rens, D.okN, D.okNs, Cp.ren, Cp.okN, HO.ren, HO.okN, okA, renA, renO, hOf, handed, D.fgt, D.fgts, List.range_succ, List.idxOf_cons]) (by simp [D.ren, D.rens, D.okN, D.okNs, Cp.ren, Cp.okN, HO.ren, HO.okN, okA, renA, renO, hOf, handed, D.fgt, D.fgts, List.range_succ, List.idxOf_cons]) (by simp [D.ren, D.rens, D.okN, D.okNs, Cp.ren, Cp.okN, HO.ren, HO.okN, okA, renA, renO, hOf, handed, D.fgt, D.fgts, List.range_succ, List.idxOf_cons]) (by simp [D.ren, D.rens, D.okN, D.okNs, Cp.ren, Cp.okN, HO.ren, HO.okN, okA, renA, renO, hOf, handed, D.fgt, D.fgts, List.range_succ, List.idxOf_cons])
  · rintro hc rfl
    simp [D.ren, D.rens, D.okN, D.okNs, Cp.ren, Cp.okN, HO.ren, HO.okN, okA, renA, renO, hOf, handed, D.fgt, D.fgts, List.range_succ, List.idxOf_cons, upO, updS, setS]
    refine endD.intro rfl (.inr ⟨[], by decide, by simp, ?_⟩)
    simp [Out.mov, movT, movH, movD, D.mov, HO.mov, okM, renM, getW, D.ren, D.rens, D.okN, D.okNs, Cp.ren, Cp.okN, HO.ren, HO.okN, okA, renA, renO, hOf, handed, D.fgt, D.fgts, List.range_succ, List.idxOf_cons]
    simp [Out.fgt, encT_eq u, D.fgt, D.fgts]
  · rintro hc rfl
    simp
theorem whnf_gone {l : List C} (hcs : okCs l) {t : T} {f q : Int} (h0 : 0 ≤ f) (h1 : f ≤ 1073741824) (ht : okT t) (hp : t.pot + 7 * f.toNat ≤ PM) (h : GoneAt l t f q) :
    Spec Tryz.prog glob 52 [Cs l, encT t, .int .i64 f] [] (fun o _ => o.fgt = .ret (.tuple [encT zeroT, .int .i64 0, .int .i64 5])) := by
  have hat := hat_spec l f
  have hre := head_spec hcs _ _ t f false _ h0 rfl rfl ht hp (.gone h)
  have h0' : ¬ f < 0 := by omega
  have h1' : ¬ 1073741824 < f := by omega
  unfold GoneP wObjs headD Cs stepsM goneD at hre
  unfold wObjs headD Cs stepsM at hat
  rw [encT_eq t] at hre
  rw [encT_eq t, encZ]
  unfold Cs
  have hcg := wcatch_gone 0 0
  unfold goneD at hcg
  refine Spec.movd globPure (wpD_specD tyOK Tryz.func52 rfl (enters _ _ Tryz.func52 rfl (by decide)) rfl rfl ?_)
  (refine wpD_seqk fun K hK => ?_; refine wpD_region tyOK ?_; ((repeat (rw [wpS_cons]; simp)); (try simp only [wpS_nil, thenD, blockD])); refine hK _ _ _ ?_; clear hK K)
  refine wpD_seqk fun K1 hK1 => ?_
  (refine wpD_seqk fun K hK => ?_; refine wpD_region tyOK ?_; ((repeat (rw [wpS_cons]; simp [h0', h1'])); (try simp only [wpS_nil, thenD, blockD])); refine hK _ _ _ ?_; clear hK K)
  refine wpD_part rfl (fun h => by simp at h) (fun _ => ?_)
  refine wpD_skip (hK1 _ _ _ ?_)
  (refine wpD_seqk fun K hK => ?_; refine wpD_region tyOK ?_; ((repeat (rw [wpS_cons]; simp)); (try simp only [wpS_nil, thenD, blockD])); refine hK _ _ _ ?_; clear hK K)
  (refine wpD_seqk fun K hK => ?_; refine wpD_region tyOK ?_; ((repeat (rw [wpS_cons]; simp)); (try simp only [wpS_nil, thenD, blockD])))
  refine CallX.objs globPure [] true (hat) ?_ (by rintro o hc ⟨_, rfl⟩; simp) (by decide) (by simp) (by simp [D.ren, D.rens, D.okN, D.okNs, Cp.ren, Cp.okN, HO.ren, HO.okN, okA, renA, renO, hOf, handed, D.fgt, D.fgts, List.range_succ, List.idxOf_cons]) (by simp [D.ren, D.rens, D.okN, D.okNs, Cp.ren, Cp.okN, HO.ren, HO.okN, okA, renA, renO, hOf, handed, D.fgt, D.fgts, List.range_succ, List.idxOf_cons]) (by simp [D.ren, D.rens, D.okN, D.okNs, Cp.ren, Cp.okN, HO.ren, HO.okN, okA, renA, renO, hOf, handed, D.fgt, D.fgts, List.range_succ, List.idxOf_cons]) (by simp [D.ren, D.rens, D.okN, D.okNs, Cp.ren, Cp.okN, HO.ren, HO.okN, okA, renA, renO, hOf, handed, D.fgt, D.fgts, List.range_succ, List.idxOf_cons])
  (rintro o hc ⟨rfl, rfl⟩; refine ⟨false, ?_⟩; simp [D.ren, D.rens, D.okN, D.okNs, Cp.ren, Cp.okN, HO.ren, HO.okN, okA, renA, renO, hOf, handed, D.fgt, D.fgts, List.range_succ, List.idxOf_cons, Out.ren, told, Out.fgt, upO, updS, setS])
  ((try simp only [wpAft_ret, wpAft_pan, putS, updS, setS]); (repeat (rw [wpS_cons]; simp)); (try simp only [wpS_nil, thenD, blockD]))
  (refine hK _ _ _ ?_; clear hK K)
  (refine wpD_seqk fun K hK => ?_; refine wpD_region tyOK ?_; ((repeat (rw [wpS_cons]; simp)); (try simp only [wpS_nil, thenD, blockD])))
  refine CallX.objs globPure [4, 5] true (hre) ?_ (by rintro o hc ⟨_, rfl⟩; simp) (by decide) (by simp) (by simp [D.ren, D.rens, D.okN, D.okNs, Cp.ren, Cp.okN, HO.ren, HO.okN, okA, renA, renO, hOf, handed, D.fgt, D.fgts, List.range_succ, List.idxOf_cons]) (by simp [D.ren, D.rens, D.okN, D.okNs, Cp.ren, Cp.okN, HO.ren, HO.okN, okA, renA, renO, hOf, handed, D.fgt, D.fgts, List.range_succ, List.idxOf_cons]) (by simp [D.ren, D.rens, D.okN, D.okNs, Cp.ren, Cp.okN, HO.ren, HO.okN, okA, renA, renO, hOf, handed, D.fgt, D.fgts, List.range_succ, List.idxOf_cons]) (by simp [D.ren, D.rens, D.okN, D.okNs, Cp.ren, Cp.okN, HO.ren, HO.okN, okA, renA, renO, hOf, handed, D.fgt, D.fgts, List.range_succ, List.idxOf_cons])
  (rintro o hc ⟨rfl, rfl⟩; refine ⟨false, ?_⟩; simp [D.ren, D.rens, D.okN, D.okNs, Cp.ren, Cp.okN, HO.ren, HO.okN, okA, renA, renO, hOf, handed, D.fgt, D.fgts, List.range_succ, List.idxOf_cons, Out.ren, told, Out.fgt, upO, updS, setS])
  (try simp only [thenD, blockD])
  refine DefX.objs globPure [1, 2, 3] hcg ?_ ?_ (fun d h => by cases h; rfl) (by decide) (by simp) (by simp [D.ren, D.rens, D.okN, D.okNs, Cp.ren, Cp.okN, HO.ren, HO.okN, okA, renA, renO, hOf, handed, D.fgt, D.fgts, List.range_succ, List.idxOf_cons]) (by simp [D.ren, D.rens, D.okN, D.okNs, Cp.ren, Cp.okN, HO.ren, HO.okN, okA, renA, renO, hOf, handed, D.fgt, D.fgts, List.range_succ, List.idxOf_cons]) (by simp [D.ren, D.rens, D.okN, D.okNs, Cp.ren, Cp.okN, HO.ren, HO.okN, okA, renA, renO, hOf, handed, D.fgt, D.fgts, List.range_succ, List.idxOf_cons]) (by simp [D.ren, D.rens, D.okN, D.okNs, Cp.ren, Cp.okN, HO.ren, HO.okN, okA, renA, renO, hOf, handed, D.fgt, D.fgts, List.range_succ, List.idxOf_cons])
  · rintro hc rfl
    simp [D.ren, D.rens, D.okN, D.okNs, Cp.ren, Cp.okN, HO.ren, HO.okN, okA, renA, renO, hOf, handed, D.fgt, D.fgts, List.range_succ, List.idxOf_cons, upO, updS, setS]
    refine endD.intro rfl (.inr ⟨[], by decide, by simp, ?_⟩)
    simp [Out.mov, movT, movH, movD, D.mov, HO.mov, okM, renM, getW, D.ren, D.rens, D.okN, D.okNs, Cp.ren, Cp.okN, HO.ren, HO.okN, okA, renA, renO, hOf, handed, D.fgt, D.fgts, List.range_succ, List.idxOf_cons]
  · rintro hc rfl
    simp
theorem hstep_fin {l : List C} (hcs : okCs l) {t : T} (ht : okS t) (h : hstep l t = none) : Spec Tryz.prog glob 15 [Cs l, encT t] [] (fun o _ => o.fgt = .ret (.tuple [encT t, .int .i64 0, .bool false])) := by
  have hat := hat_spec l 9223372036854775807
  have hre := headO_spec hcs 9223372036854775807 (by omega) _ t rfl ht
  rw [OneP_none h] at hre
  have hli := lift_spec t 0 0 ht.deep ht.1
  rw [lift_zero ht.1 0] at hli
  generalize t.trunc = v at hre
  unfold wObjs headD Cs stepsM at hre
  unfold wObjs headD Cs stepsM at hat
  rw [encT_eq t, encT_eq v] at hre
  rw [encT_eq t] at hli
  rw [encT_eq t]
  unfold Cs
  refine Spec.movd globPure (wpD_spec tyOK Tryz.func15 rfl (enters _ _ Tryz.func15 rfl (by decide)) rfl rfl ?_)
  (refine wpD_seqk fun K hK => ?_; refine wpD_region tyOK ?_; ((repeat (rw [wpS_cons]; simp)); (try simp only [wpS_nil, thenD, blockD])); refine hK _ _ _ ?_; clear hK K)
  (refine wpD_seqk fun K hK => ?_; refine wpD_region tyOK ?_; ((repeat (rw [wpS_cons]; simp)); (try simp only [wpS_nil, thenD, blockD])))
  refine CallX.objs globPure [] true (hat) ?_ (by rintro o hc ⟨_, rfl⟩; simp) (by decide) (by simp) (by simp [D.ren, D.rens, D.okN, D.okNs, Cp.ren, Cp.okN, HO.ren, HO.okN, okA, renA, renO, hOf, handed, D.fgt, D.fgts, List.range_succ, List.idxOf_cons]) (by simp [D.ren, D.rens, D.okN, D.okNs, Cp.ren, Cp.okN, HO.ren, HO.okN, okA, renA, renO, hOf, handed, D.fgt, D.fgts, List.range_succ, List.idxOf_cons]) (by simp [D.ren, D.rens, D.okN, D.okNs, Cp.ren, Cp.okN, HO.ren, HO.okN, okA, renA, renO, hOf, handed, D.fgt, D.fgts, List.range_succ, List.idxOf_cons]) (by simp [D.ren, D.rens, D.okN, D.okNs, Cp.ren, Cp.okN, HO.ren, HO.okN, okA, renA, renO, hOf, handed, D.fgt, D.fgts, List.range_succ, List.idxOf_cons])
  (rintro o hc ⟨rfl, rfl⟩; refine ⟨false, ?_⟩; simp [D.ren, D.rens, D.okN, D.okNs, Cp.ren, Cp.okN, HO.ren, HO.okN, okA, renA, renO, hOf, handed, D.fgt, D.fgts, List.range_succ, List.idxOf_cons, Out.ren, told, Out.fgt, upO, updS, setS])
  ((try simp only [wpAft_ret, wpAft_pan, putS, updS, setS]); (repeat (rw [wpS_cons]; simp)); (try simp only [wpS_nil, thenD, blockD]))
  (refine hK _ _ _ ?_; clear hK K)
  (refine wpD_seqk fun K hK => ?_; refine wpD_region tyOK ?_; ((repeat (rw [wpS_cons]; simp)); (try simp only [wpS_nil, thenD, blockD])); refine hK _ _ _ ?_; clear hK K)
  (refine wpD_seqk fun K hK => ?_; refine wpD_region tyOK ?_; ((repeat (rw [wpS_cons]; simp)); (try simp only [wpS_nil, thenD, blockD])))
  refine CallX.objs globPure [2, 3] true (hre) ?_ (by rintro o hc ⟨_, rfl⟩; simp) (by decide) (by simp) (by simp [D.ren, D.rens, D.okN, D.okNs, Cp.ren, Cp.okN, HO.ren, HO.okN, okA, renA, renO, hOf, handed, D.fgt, D.fgts, List.range_succ, List.idxOf_cons]) (by simp [D.ren, D.rens, D.okN, D.okNs, Cp.ren, Cp.okN, HO.ren, HO.okN, okA, renA, renO, hOf, handed, D.fgt, D.fgts, List.range_succ, List.idxOf_cons]) (by simp [D.ren, D.rens, D.okN, D.okNs, Cp.ren, Cp.okN, HO.ren, HO.okN, okA, renA, renO, hOf, handed, D.fgt, D.fgts, List.range_succ, List.idxOf_cons]) (by simp [D.ren, D.rens, D.okN, D.okNs, Cp.ren, Cp.okN, HO.ren, HO.okN, okA, renA, renO, hOf, handed, D.fgt, D.fgts, List.range_succ, List.idxOf_cons])
  (rintro o hc ⟨ho, rfl⟩; refine ⟨true, ?_⟩; rw [show told true o = _ from ho]; clear ho; simp [D.ren, D.rens, D.okN, D.okNs, Cp.ren, Cp.okN, HO.ren, HO.okN, okA, renA, renO, hOf, handed, D.fgt, D.fgts, List.range_succ, List.idxOf_cons, Out.ren, told, Out.fgt, upO, updS, setS])
  ((try simp only [wpAft_ret, wpAft_pan, putS, updS, setS]); (repeat (rw [wpS_cons]; simp)); (try simp only [wpS_nil, thenD, blockD]))
  (refine hK _ _ _ ?_; clear hK K)
  refine wpD_seqk fun K1 hK1 => ?_
  (refine wpD_seqk fun K hK => ?_; refine wpD_region tyOK ?_; ((repeat (rw [wpS_cons]; simp)); (try simp only [wpS_nil, thenD, blockD])); refine hK _ _ _ ?_; clear hK K)
  refine wpD_part rfl (fun _ => ?_) (fun h => by simp at h)
  (refine wpD_seqk fun K hK => ?_; refine wpD_region tyOK ?_; ((repeat (rw [wpS_cons]; simp)); (try simp only [wpS_nil, thenD, blockD])))
  refine CallX.pure globPure (hli) ?_ (by simp [D.fgts, D.fgt]) (by simp [D.pures, D.pure, Cp.free, D.pures_map]) (by simp [Out.pure, D.pure, D.pures, Cp.free, D.pures_map])
  ((try simp only [wpAft_ret, wpAft_pan, putS, updS, setS]); (repeat (rw [wpS_cons]; simp)); (try simp only [wpS_nil, thenD, blockD]))
  (refine hK _ _ _ ?_; clear hK K)
  (refine wpD_ret ?_; (try simp only [thenD, blockD]); refine EndQ.ret rfl (.inl ?_); simp [tmOf, Out.fgt, D.fgt, D.fgts])
theorem hstep_more {l : List C} (hcs : okCs l) {t u : T} {c : Nat} (ht : okS t) (h : hstep l t = some (u, c)) (hd : t.pot + 7 * c ≤ DM) : Spec Tryz.prog glob 15 [Cs l, encT t] [] (fun o _ => o.fgt = .ret (.tuple [encT u, .int .i64 c, .bool true])) := by
  have hat := hat_spec l 9223372036854775807
  have hre := headO_spec hcs 9223372036854775807 (by omega) _ t rfl ht
  have hc : (c : Int) ≤ 9223372036854775807 := by unfold DM at hd; omega
  rw [OneP_some h hc] at hre
  have hup := hstep_pot t h
  have huo := hstep_ok hcs.ok t ht.1 h
  have hli := lift_spec u 0 0 (by have := u.deep_nsz; have := nsz_pot u; omega) huo
  rw [lift_zero huo 0] at hli
  have hw : IntKind.i64.wrap (9223372036854775807 - (9223372036854775807 - (c : Int))) = c := by rw [i64w (by omega) (by omega)]; omega
  unfold wObjs headD Cs stepsM at hre
  unfold wObjs headD Cs stepsM at hat
  rw [encT_eq t, encT_eq u] at hre
  rw [encT_eq u] at hli
  rw [encT_eq t, encT_eq u]
  unfold Cs
  refine Spec.movd globPure (wpD_spec tyOK Tryz.func15 rfl (enters _ _ Tryz.func15 rfl (by decide)) rfl rfl ?_)
  (refine wpD_seqk fun K hK => ?_; refine wpD_region tyOK ?_; ((repeat (rw [wpS_cons]; simp)); (try simp only [wpS_nil, thenD, blockD])); refine hK _ _ _ ?_; clear hK K)
  (refine wpD_seqk fun K hK => ?_; refine wpD_region tyOK ?_; ((repeat (rw [wpS_cons]; simp)); (try simp only [wpS_nil, thenD, blockD])))
  refine CallX.objs globPure [] true (hat) ?_ (by rintro o hc ⟨_, rfl⟩; simp) (by decide) (by simp) (by simp [D.ren, D.rens, D.okN, D.okNs, Cp.ren, Cp.okN, HO.ren, HO.okN, okA, renA, renO, hOf, handed, D.fgt, D.fgts, List.range_succ, List.idxOf_cons]) (by simp [D.ren, D.rens, D.okN, D.okNs, Cp.ren, Cp.okN, HO.ren, HO.okN, okA, renA, renO, hOf, handed, D.fgt, D.fgts, List.range_succ, List.idxOf_cons]) (by simp [D.ren, D.rens, D.okN, D.okNs, Cp.ren, Cp.okN, HO.ren, HO.okN, okA, renA, renO, hOf, handed, D.fgt, D.fgts, List.range_succ, List.idxOf_cons]) (by simp [D.ren, D.rens, D.okN, D.okNs, Cp.ren, Cp.okN, HO.ren, HO.okN, okA, renA, renO, hOf, handed, D.fgt, D.fgts, List.range_succ, List.idxOf_cons])
  (rintro o hc ⟨rfl, rfl⟩; refine ⟨false, ?_⟩; simp [D.ren, D.rens, D.okN, D.okNs, Cp.ren, Cp.okN, HO.ren, HO.okN, okA, renA, renO, hOf, handed, D.fgt, D.fgts, List.range_succ, List.idxOf_cons, Out.ren, told, Out.fgt, upO, updS, setS])
  ((try simp only [wpAft_ret, wpAft_pan, putS, updS, setS]); (repeat (rw [wpS_cons]; simp)); (try simp only [wpS_nil, thenD, blockD]))
  (refine hK _ _ _ ?_; clear hK K)
  (refine wpD_seqk fun K hK => ?_; refine wpD_region tyOK ?_; ((repeat (rw [wpS_cons]; simp)); (try simp only [wpS_nil, thenD, blockD])); refine hK _ _ _ ?_; clear hK K)
  (refine wpD_seqk fun K hK => ?_; refine wpD_region tyOK ?_; ((repeat (rw [wpS_cons]; simp)); (try simp only [wpS_nil, thenD, blockD])))
  refine CallX.objs globPure [2, 3] true (hre) ?_ (by rintro o hc ⟨_, rfl⟩; simp) (by decide) (by simp) (by simp [D.ren, D.rens, D.okN, D.okNs, Cp.ren, Cp.okN, HO.ren, HO.okN, okA, renA, renO, hOf, handed, D.fgt, D.fgts, List.range_succ, List.idxOf_cons]) (by simp [D.ren, D.rens, D.okN, D.okNs, Cp.ren, Cp.okN, HO.ren, HO.okN, okA, renA, renO, hOf, handed, D.fgt, D.fgts, List.range_succ, List.idxOf_cons]) (by simp [D.ren, D.rens, D.okN, D.okNs, Cp.ren, Cp.okN, HO.ren, HO.okN, okA, renA, renO, hOf, handed, D.fgt, D.fgts, List.range_succ, List.idxOf_cons]) (by simp [D.ren, D.rens, D.okN, D.okNs, Cp.ren, Cp.okN, HO.ren, HO.okN, okA, renA, renO, hOf, handed, D.fgt, D.fgts, List.range_succ, List.idxOf_cons])
  (rintro o hc ⟨ho, rfl⟩; refine ⟨true, ?_⟩; rw [show told true o = _ from ho]; clear ho; simp [D.ren, D.rens, D.okN, D.okNs, Cp.ren, Cp.okN, HO.ren, HO.okN, okA, renA, renO, hOf, handed, D.fgt, D.fgts, List.range_succ, List.idxOf_cons, Out.ren, told, Out.fgt, upO, updS, setS])
  ((try simp only [wpAft_ret, wpAft_pan, putS, updS, setS]); (repeat (rw [wpS_cons]; simp)); (try simp only [wpS_nil, thenD, blockD]))
  (refine hK _ _ _ ?_; clear hK K)
  refine wpD_seqk fun K1 hK1 => ?_
  (refine wpD_seqk fun K hK => ?_; refine wpD_region tyOK ?_; ((repeat (rw [wpS_cons]; simp)); (try simp only [wpS_nil, thenD, blockD])); refine hK _ _ _ ?_; clear hK K)
  refine wpD_part rfl (fun h => by simp at h) (fun _ => ?_)
  refine wpD_skip (hK1 _ _ _ ?_)
  (refine wpD_seqk fun K hK => ?_; refine wpD_drawk tyOK (by kernel_rfl) (by kernel_rfl) fun KT hKT => ?_; ((repeat (rw [wpT_cons]; simp)); (try simp only [wpT_nil])))
  refine CallY.pure globPure (hli) ?_ (by simp [D.fgts, D.fgt]) (by simp [D.pures, D.pure, Cp.free, D.pures_map]) (by simp [Out.pure, D.pure, D.pures, Cp.free, D.pures_map])
  ((try simp only [wpAftT_ret, wpAftT_pan, putS, updS, setS]); (repeat (rw [wpT_cons]; simp [hw])); (try simp only [wpT_nil]))
  (refine hKT _ _ _ _ (by kernel_rfl) ?_; clear hKT KT; (try simp only [thenD, blockD]))
  (refine hK _ _ _ ?_; clear hK K)
  (refine wpD_ret ?_; (try simp only [thenD, blockD]); refine EndQ.ret rfl (.inl ?_); simp [tmOf, Out.fgt, D.fgt, D.fgts])
end Go.Proofs.YtebmlojhdnldgaaGreatDoor

namespace Go.Proofs.YtebmlojhdnldgaaGreatDoor
set_option linter.unusedSimpArgs false
set_option linter.unusedVariables false
set_option maxHeartbeats 10000000
set_option maxRecDepth 20000
open Go.RowKit
attribute [local simp] wpAft_ret wpAft_pan wantD evOp opD tmOf putS updS setS hOf isFree isTok fillD TK.isAgg TK.known partD thenD blockD putAll D.ofV inB nilTest isNilS binX binD binE isCst bndD capB IntKind.min IntKind.max IntKind.signed IntKind.bits dstOf late
def idxOf (b : Bool) : List Bool → Int → Int
  | [], _ => -1
  | x :: r, i => if b = x then i else idxOf b r (i + 1)
theorem idxOf_at {b : Bool} {l : List Bool} {k : Nat} (h : k < l.length) : idxOf b (l.drop k) k = if b = l[k] then (k : Int) else idxOf b (l.drop (k + 1)) ((k + 1 : Nat) : Int) := by
  rw [List.drop_eq_getElem_cons h, idxOf]; simp
theorem indexB_spec (l : List Bool) (b : Bool) (hl : l.length ≤ LMax) : Spec Tryz.prog glob 127 [Bools l, .bool b] [] (fun o _ => o.fgt = .ret (.int .i64 (idxOf b l 0))) := by
  obtain ⟨R, hR⟩ : ∃ R, R = idxOf b l 0 := ⟨_, rfl⟩
  rw [← hR]
  refine Spec.movd globPure (wpD_spec tyOK Tryz.func127 rfl (enters _ _ Tryz.func127 rfl (by decide)) rfl rfl ?_)
  unfold Bools
  (refine wpD_seqk fun K hK => ?_; refine wpD_region tyOK ?_; ((repeat (rw [wpS_cons]; simp)); (try simp only [wpS_nil, thenD, blockD])); refine hK _ _ _ ?_; clear hK K)
  refine wpD_seqk fun K1 hK1 => ?_
  (refine wpD_seqk fun K hK => ?_; refine wpD_region tyOK ?_; ((repeat (rw [wpS_cons]; simp)); (try simp only [wpS_nil, thenD, blockD])); refine hK _ _ _ ?_; clear hK K)
  refine wpD_rangeJ tyOK globPure (ti := 3) (tk := 8) (tn := 7) (td := 9) (ts := 18) [4, 5, 8, 9, 10, 11, 12, 13, 14, 15, 16, 17, 18] [] (l.length) (fun k ys hl => ys = [] ∧ R = idxOf b (l.drop k) k ∧ hl = []) rfl rfl rfl rfl rfl rfl rfl rfl rfl rfl rfl rfl (by simp) (by decide) rfl (by first | assumption | omega | (unfold LMax; omega)) rfl (by kernel_rfl) (by decide) ?_ ?_ ?_
  · exact ⟨rfl, hR, rfl⟩
  · rintro i ys hl A hi ⟨rfl, hF, rfl⟩ hA hA2
    simp only [putAll, List.set, List.map_cons, List.map_nil, List.cons_append, List.nil_append]
    have hi' : (i : Int) < l.length := by omega
    rw [idxOf_at hi] at hF
    obtain ⟨x, hx⟩ : ∃ x, l[i] = x := ⟨_, rfl⟩
    rw [hx] at hF
    (refine wpD_seqk fun K hK => ?_; refine wpD_region tyOK ?_; ((repeat (rw [wpS_cons]; simp)); (try simp only [wpS_nil, thenD, blockD])); refine hK _ _ _ ?_; clear hK K)
    (refine wpD_seqk fun K hK => ?_; refine wpD_region tyOK ?_; ((repeat (rw [wpS_cons]; simp [hi, hi', hx, pairX])); (try simp only [wpS_nil, thenD, blockD])); refine hK _ _ _ ?_; clear hK K)
    by_cases hb : b = x
    · rw [if_pos hb] at hF
      subst hb
      refine wpD_part rfl (fun _ => ?_) (fun h => by simp at h)
      (refine wpD_seqk fun K hK => ?_; refine wpD_region tyOK ?_; ((repeat (rw [wpS_cons]; simp)); (try simp only [wpS_nil, thenD, blockD])); refine hK _ _ _ ?_; clear hK K)
      (refine wpD_ret ?_; (try simp only [thenD, blockD]); refine EndQ.ret rfl (.inl ?_); simp [tmOf, Out.fgt, D.fgt, D.fgts])
      exact hF.symm
    · rw [if_neg hb] at hF
      refine wpD_part rfl (fun h => absurd (by simpa using h) hb) (fun _ => ?_)
      refine wpD_skip ?_
      (refine hA2 ([]) _ _ _ (LeT.refl _) (by decide) (by simp) (by simp [movT, movH, movD, D.mov, HO.mov, okM, renM, getW, D.ren, D.rens, D.okN, D.okNs, Cp.ren, Cp.okN, HO.ren, HO.okN, okA, renA, renO, hOf, handed, D.fgt, D.fgts, List.range_succ, List.idxOf_cons, putAll]) ?_ rfl; simp [movT, movH, movD, D.mov, HO.mov, okM, renM, getW, D.ren, D.rens, D.okN, D.okNs, Cp.ren, Cp.okN, HO.ren, HO.okN, okA, renA, renO, hOf, handed, D.fgt, D.fgts, List.range_succ, List.idxOf_cons])
      exact hF
  · rintro ys hl tl' ⟨rfl, hF, rfl⟩ htl
    refine hK1 _ _ _ (wpD_weakL htl ?_)
    simp only [putAll, List.set, List.map_cons, List.map_nil, List.cons_append, List.nil_append]
    rw [List.drop_length, idxOf] at hF
    subst hF
    (refine wpD_seqk fun K hK => ?_; refine wpD_region tyOK ?_; ((repeat (rw [wpS_cons]; simp)); (try simp only [wpS_nil, thenD, blockD])); refine hK _ _ _ ?_; clear hK K)
    (refine wpD_ret ?_; (try simp only [thenD, blockD]); refine EndQ.ret rfl (.inl ?_); simp [tmOf, Out.fgt, D.fgt, D.fgts])
theorem idx_mem : ∀ (l : List Bool) (b : Bool) (i : Int), 0 ≤ i → (0 ≤ idxOf b l i ↔ b ∈ l)
  | [], b, i, h => by simp [idxOf]
  | x :: r, b, i, h => by
    rw [idxOf]
    by_cases hx : b = x
    · simp [hx, h]
    · rw [if_neg hx, idx_mem r b (i + 1) (by omega)]; simp [hx]
theorem containsB_spec (l : List Bool) (b : Bool) (hl : l.length ≤ LMax) : Spec Tryz.prog glob 89 [Bools l, .bool b] [] (fun o _ => o.fgt = .ret (.bool (decide (b ∈ l)))) := by
  refine Spec.movd globPure (wpD_spec tyOK Tryz.func89 rfl (enters _ _ Tryz.func89 rfl (by decide)) rfl rfl ?_)
  unfold Bools
  (refine wpD_seqk fun K hK => ?_; refine wpD_region tyOK ?_; ((repeat (rw [wpS_cons]; simp)); (try simp only [wpS_nil, thenD, blockD])); refine hK _ _ _ ?_; clear hK K)
  (refine wpD_seqk fun K hK => ?_; refine wpD_region tyOK ?_; ((repeat (rw [wpS_cons]; simp)); (try simp only [wpS_nil, thenD, blockD])))
  refine CallX.pure globPure (indexB_spec l b hl) ?_ (by simp [D.fgts, D.fgt, Bools]) (by simp [D.pures, D.pure, Cp.free, D.pures_map, Bools]) (by simp [Out.pure, D.pure, D.pures, Cp.free, D.pures_map, Bools])
  ((try simp only [wpAft_ret, wpAft_pan, putS, updS, setS]); (repeat (rw [wpS_cons]; simp)); (try simp only [wpS_nil, thenD, blockD]))
  (refine hK _ _ _ ?_; clear hK K)
  (refine wpD_ret ?_; (try simp only [thenD, blockD]); refine EndQ.ret rfl (.inl ?_); simp [tmOf, Out.fgt, D.fgt, D.fgts])
  exact idx_mem l b 0 (by omega)
def wrongD : D := .iface 88 (.agg [])
theorem must_spec (l : List Bool) (hl : l.length ≤ LMax) : Spec Tryz.prog glob 55 [Bools l] [] (fun o _ => o.fgt = if false ∈ l then .pan wrongD else .ret (.tuple [])) := by
  refine Spec.movd globPure (wpD_spec tyOK Tryz.func55 rfl (enters _ _ Tryz.func55 rfl (by decide)) rfl rfl ?_)
  unfold Bools
  (refine wpD_seqk fun K hK => ?_; refine wpD_region tyOK ?_; ((repeat (rw [wpS_cons]; simp)); (try simp only [wpS_nil, thenD, blockD])))
  refine CallX.pure globPure (containsB_spec l false hl) ?_ (by simp [D.fgts, D.fgt, Bools]) (by simp [D.pures, D.pure, Cp.free, D.pures_map, Bools]) (by simp [Out.pure, D.pure, D.pures, Cp.free, D.pures_map, Bools])
  ((try simp only [wpAft_ret, wpAft_pan, putS, updS, setS]); (repeat (rw [wpS_cons]; simp)); (try simp only [wpS_nil, thenD, blockD]))
  (refine hK _ _ _ ?_; clear hK K)
  refine wpD_part rfl (fun h => ?_) (fun h => ?_)
  · replace h : false ∈ l := by simpa using h
    (refine wpD_region tyOK ?_; ((repeat (rw [wpS_cons]; simp)); (try simp only [wpS_nil, thenD, blockD])))
    ((try simp only [thenD, blockD]); refine EndQ.pan (.inl ?_); simp [Out.fgt, D.fgt, D.fgts])
    simp [h, wrongD]
  · replace h : ¬ false ∈ l := by simpa using h
    refine wpD_skip ?_
    ((try simp only [thenD, blockD]); refine EndQ.nrm rfl (.inl ?_); simp [tmOf, Out.fgt, D.fgt, D.fgts])
    simp [h]
theorem must_ok (l : List Bool) (h : l.all id = true) (hl : l.length ≤ LMax := by simp [LMax]) : Spec Tryz.prog glob 55 [Bools l] [] (fun o _ => o.fgt = .ret (.tuple [])) := by
  have := must_spec l hl
  rw [if_neg (by simpa using h)] at this
  exact this
theorem must_no (l : List Bool) (h : l.all id = false) (hl : l.length ≤ LMax := by simp [LMax]) : Spec Tryz.prog glob 55 [Bools l] [] (fun o _ => o.fgt = .pan wrongD) := by
  have := must_spec l hl
  rw [if_pos (by simpa using h)] at this
  exact this
def askOut (b : Bool) (d : D) : Out := if b then .ret d else .pan wrongD
theorem bare_spec (t : T) : Spec Tryz.prog glob 129 [encT t] [] (fun o _ => o.fgt = askOut (bareB t) (.tuple [])) := by
  refine Spec.movd globPure (wpD_spec tyOK Tryz.func129 rfl (enters _ _ Tryz.func129 rfl (by decide)) rfl rfl ?_)
  (refine wpD_seqk fun K hK => ?_; refine wpD_region tyOK ?_; ((repeat (rw [wpS_cons]; simp)); (try simp only [wpS_nil, thenD, blockD])); refine hK _ _ _ ?_; clear hK K)
  cases hb : bareB t with
  | true =>
    (refine wpD_region tyOK ?_; ((repeat (rw [wpS_cons]; simp)); (try simp only [wpS_nil, thenD, blockD])))
    refine CallX.pure globPure (must_ok [decide (t.n = 0), decide (t.a = 0), decide (t.ls = [])] (by simpa [bareB, and_assoc] using hb)) ?_ (by simp [D.fgts, D.fgt, Bools]) (by simp [D.pures, D.pure, Cp.free, D.pures_map, Bools]) (by simp [Out.pure, D.pure, D.pures, Cp.free, D.pures_map, Bools])
    ((try simp only [wpAft_ret, wpAft_pan, putS, updS, setS]); (repeat (rw [wpS_cons]; simp)); (try simp only [wpS_nil, thenD, blockD]))
    ((try simp only [thenD, blockD]); refine EndQ.nrm rfl (.inl ?_); simp [tmOf, Out.fgt, D.fgt, D.fgts])
    rfl
  | false =>
    (refine wpD_region tyOK ?_; ((repeat (rw [wpS_cons]; simp)); (try simp only [wpS_nil, thenD, blockD])))
    refine CallX.pure globPure (must_no [decide (t.n = 0), decide (t.a = 0), decide (t.ls = [])] (by simpa [bareB, -Bool.and_eq_false_imp, Bool.and_assoc] using hb)) ?_ (by simp [D.fgts, D.fgt, Bools, wrongD]) (by simp [D.pures, D.pure, Cp.free, D.pures_map, Bools, wrongD]) (by simp [Out.pure, D.pure, D.pures, Cp.free, D.pures_map, Bools, wrongD])
    ((try simp only [wpAft_ret, wpAft_pan, putS, updS, setS]); (repeat (rw [wpS_cons]; simp)); (try simp only [wpS_nil, thenD, blockD]))
    ((try simp only [thenD, blockD]); refine EndQ.pan (.inl ?_); simp [Out.fgt, D.fgt, D.fgts])
    rfl
def scopeD (n sc : Int) : D := .agg [.int .i64 n, .int .i64 sc]
theorem sbelow_spec (n sc m : Int) : Spec Tryz.prog glob 103 [scopeD n sc, .int .i64 m] [] (fun o _ => o.fgt = .ret (scopeD n (IntKind.i64.wrap (sc + m)))) := by
  refine Spec.movd globPure (wpD_spec tyOK Tryz.func103 rfl (enters _ _ Tryz.func103 rfl (by decide)) rfl rfl ?_)
  unfold scopeD
  (refine wpD_seqk fun K hK => ?_; refine wpD_region tyOK ?_; ((repeat (rw [wpS_cons]; simp)); (try simp only [wpS_nil, thenD, blockD])); refine hK _ _ _ ?_; clear hK K)
  (refine wpD_seqk fun K hK => ?_; refine wpD_region tyOK ?_; ((repeat (rw [wpS_cons]; simp)); (try simp only [wpS_nil, thenD, blockD])); refine hK _ _ _ ?_; clear hK K)
  (refine wpD_ret ?_; (try simp only [thenD, blockD]); refine EndQ.ret rfl (.inl ?_); simp [tmOf, Out.fgt, D.fgt, D.fgts])
/-- which function asks for which kind -/
def coreAsk : List (Int × FuncId) := [(1, 90), (2, 91), (3, 92), (4, 93), (5, 93), (6, 93), (7, 94),
  (12, 93), (13, 93), (14, 95), (15, 95), (16, 93), (17, 93), (18, 96), (19, 94),
  (20, 97), (21, 98), (22, 99), (23, 100), (24, 101)]
def coreKeys : List D := coreAsk.map fun p => .int .i64 p.1
def coreVals : List D := coreAsk.map fun p => .fn (.func p.2) [] []
def coreMap : D := .mapc coreKeys coreVals
@[simp high] theorem coreMap_fgt : coreMap.fgt = coreMap := rfl
@[simp high] theorem coreMap_pure : coreMap.pure = true := by kernel_rfl
@[simp high] theorem coreMap_one : coreMap.one = true := rfl
@[simp high] theorem coreMap_cells : coreMap.cells = [coreMap] := rfl
@[simp high] theorem coreMap_size : coreMap.size = 1 := rfl
@[simp high] theorem coreMap_frz (bx : FK) (i : Nat) (x : D) : D.frz bx i x coreMap = coreMap := D.frz_pure bx i x _ coreMap_pure
@[simp high] theorem coreMap_low (m : Nat) : coreMap.low m = true := D.low_pure m _ coreMap_pure
@[simp high] theorem coreKeys_pure : D.pures coreKeys = true := by kernel_rfl
@[simp high] theorem coreVals_pure : D.pures coreVals = true := by kernel_rfl
@[simp high] theorem coreKeys_okN (p : Nat → Bool) : D.okNs p coreKeys = true := D.okNs_pure p _ coreKeys_pure
@[simp high] theorem coreVals_okN (p : Nat → Bool) : D.okNs p coreVals = true := D.okNs_pure p _ coreVals_pure
@[simp high] theorem coreKeys_ren (σ : Nat → Nat) : D.rens σ coreKeys = coreKeys := D.rens_pure σ _ coreKeys_pure
@[simp high] theorem coreVals_ren (σ : Nat → Nat) : D.rens σ coreVals = coreVals := D.rens_pure σ _ coreVals_pure
@[simp high] theorem coreMap_okN (p : Nat → Bool) : D.okN p coreMap = true := D.okN_pure p _ coreMap_pure
@[simp high] theorem coreMap_ren (σ : Nat → Nat) : D.ren σ coreMap = coreMap := D.ren_pure σ _ coreMap_pure
def walkD (n sc : Int) (cs : List Int) : D := .agg [.int .i64 n, .int .i64 sc, Ints cs, coreMap]
theorem two_spec (n sc : Int) (cs : List Int) (t : T) : Spec Tryz.prog glob 93 [walkD n sc cs, encT t] [] (fun o _ => o.fgt = askOut (bareB t) (.int .i64 2)) := by
  refine Spec.movd globPure (wpD_spec tyOK Tryz.func93 rfl (enters _ _ Tryz.func93 rfl (by decide)) rfl rfl ?_)
  unfold walkD Ints
  (refine wpD_seqk fun K hK => ?_; refine wpD_region tyOK ?_; ((repeat (rw [wpS_cons]; simp)); (try simp only [wpS_nil, thenD, blockD])); refine hK _ _ _ ?_; clear hK K)
  have hb := bare_spec t
  cases h : bareB t with
  | true =>
    simp only [h, askOut, if_true, if_false, Bool.false_eq_true] at hb
    (refine wpD_seqk fun K hK => ?_; refine wpD_region tyOK ?_; ((repeat (rw [wpS_cons]; simp)); (try simp only [wpS_nil, thenD, blockD])))
    refine CallX.pure globPure (hb) ?_ (by simp [D.fgts, D.fgt, encT_eq t]) (by simp [D.pures, D.pure, Cp.free, D.pures_map, encT_eq t]) (by simp [Out.pure, D.pure, D.pures, Cp.free, D.pures_map, encT_eq t])
    ((try simp only [wpAft_ret, wpAft_pan, putS, updS, setS]); (repeat (rw [wpS_cons]; simp)); (try simp only [wpS_nil, thenD, blockD]))
    (refine hK _ _ _ ?_; clear hK K)
    (refine wpD_seqk fun K hK => ?_; refine wpD_region tyOK ?_; ((repeat (rw [wpS_cons]; simp)); (try simp only [wpS_nil, thenD, blockD])); refine hK _ _ _ ?_; clear hK K)
    (refine wpD_ret ?_; (try simp only [thenD, blockD]); refine EndQ.ret rfl (.inl ?_); simp [tmOf, Out.fgt, D.fgt, D.fgts])
    rfl
  | false =>
    simp only [h, askOut, if_true, if_false, Bool.false_eq_true] at hb
    (refine wpD_seqk fun K hK => ?_; refine wpD_region tyOK ?_; ((repeat (rw [wpS_cons]; simp)); (try simp only [wpS_nil, thenD, blockD])))
    refine CallX.pure globPure (hb) ?_ (by simp [D.fgts, D.fgt, encT_eq t, wrongD]) (by simp [D.pures, D.pure, Cp.free, D.pures_map, encT_eq t, wrongD]) (by simp [Out.pure, D.pure, D.pures, Cp.free, D.pures_map, encT_eq t, wrongD])
    ((try simp only [wpAft_ret, wpAft_pan, putS, updS, setS]); (repeat (rw [wpS_cons]; simp)); (try simp only [wpS_nil, thenD, blockD]))
    ((try simp only [thenD, blockD]); refine EndQ.pan (.inl ?_); simp [Out.fgt, D.fgt, D.fgts])
    rfl
theorem three_spec (n sc : Int) (cs : List Int) (t : T) : Spec Tryz.prog glob 94 [walkD n sc cs, encT t] [] (fun o _ => o.fgt = askOut (bareB t) (.int .i64 3)) := by
  refine Spec.movd globPure (wpD_spec tyOK Tryz.func94 rfl (enters _ _ Tryz.func94 rfl (by decide)) rfl rfl ?_)
  unfold walkD Ints
  (refine wpD_seqk fun K hK => ?_; refine wpD_region tyOK ?_; ((repeat (rw [wpS_cons]; simp)); (try simp only [wpS_nil, thenD, blockD])); refine hK _ _ _ ?_; clear hK K)
  have hb := bare_spec t
  cases h : bareB t with
  | true =>
    simp only [h, askOut, if_true, if_false, Bool.false_eq_true] at hb
    (refine wpD_seqk fun K hK => ?_; refine wpD_region tyOK ?_; ((repeat (rw [wpS_cons]; simp)); (try simp only [wpS_nil, thenD, blockD])))
    refine CallX.pure globPure (hb) ?_ (by simp [D.fgts, D.fgt, encT_eq t]) (by simp [D.pures, D.pure, Cp.free, D.pures_map, encT_eq t]) (by simp [Out.pure, D.pure, D.pures, Cp.free, D.pures_map, encT_eq t])
    ((try simp only [wpAft_ret, wpAft_pan, putS, updS, setS]); (repeat (rw [wpS_cons]; simp)); (try simp only [wpS_nil, thenD, blockD]))
    (refine hK _ _ _ ?_; clear hK K)
    (refine wpD_seqk fun K hK => ?_; refine wpD_region tyOK ?_; ((repeat (rw [wpS_cons]; simp)); (try simp only [wpS_nil, thenD, blockD])); refine hK _ _ _ ?_; clear hK K)
    (refine wpD_ret ?_; (try simp only [thenD, blockD]); refine EndQ.ret rfl (.inl ?_); simp [tmOf, Out.fgt, D.fgt, D.fgts])
    rfl
  | false =>
    simp only [h, askOut, if_true, if_false, Bool.false_eq_true] at hb
    (refine wpD_seqk fun K hK => ?_; refine wpD_region tyOK ?_; ((repeat (rw [wpS_cons]; simp)); (try simp only [wpS_nil, thenD, blockD])))
    refine CallX.pure globPure (hb) ?_ (by simp [D.fgts, D.fgt, encT_eq t, wrongD]) (by simp [D.pures, D.pure, Cp.free, D.pures_map, encT_eq t, wrongD]) (by simp [Out.pure, D.pure, D.pures, Cp.free, D.pures_map, encT_eq t, wrongD])
    ((try simp only [wpAft_ret, wpAft_pan, putS, updS, setS]); (repeat (rw [wpS_cons]; simp)); (try simp only [wpS_nil, thenD, blockD]))
    ((try simp only [thenD, blockD]); refine EndQ.pan (.inl ?_); simp [Out.fgt, D.fgt, D.fgts])
    rfl
theorem one_spec (n sc : Int) (cs : List Int) (t : T) : Spec Tryz.prog glob 95 [walkD n sc cs, encT t] [] (fun o _ => o.fgt = askOut (bareB t) (.int .i64 1)) := by
  refine Spec.movd globPure (wpD_spec tyOK Tryz.func95 rfl (enters _ _ Tryz.func95 rfl (by decide)) rfl rfl ?_)
  unfold walkD Ints
  (refine wpD_seqk fun K hK => ?_; refine wpD_region tyOK ?_; ((repeat (rw [wpS_cons]; simp)); (try simp only [wpS_nil, thenD, blockD])); refine hK _ _ _ ?_; clear hK K)
  have hb := bare_spec t
  cases h : bareB t with
  | true =>
    simp only [h, askOut, if_true, if_false, Bool.false_eq_true] at hb
    (refine wpD_seqk fun K hK => ?_; refine wpD_region tyOK ?_; ((repeat (rw [wpS_cons]; simp)); (try simp only [wpS_nil, thenD, blockD])))
    refine CallX.pure globPure (hb) ?_ (by simp [D.fgts, D.fgt, encT_eq t]) (by simp [D.pures, D.pure, Cp.free, D.pures_map, encT_eq t]) (by simp [Out.pure, D.pure, D.pures, Cp.free, D.pures_map, encT_eq t])
    ((try simp only [wpAft_ret, wpAft_pan, putS, updS, setS]); (repeat (rw [wpS_cons]; simp)); (try simp only [wpS_nil, thenD, blockD]))
    (refine hK _ _ _ ?_; clear hK K)
    (refine wpD_seqk fun K hK => ?_; refine wpD_region tyOK ?_; ((repeat (rw [wpS_cons]; simp)); (try simp only [wpS_nil, thenD, blockD])); refine hK _ _ _ ?_; clear hK K)
    (refine wpD_ret ?_; (try simp only [thenD, blockD]); refine EndQ.ret rfl (.inl ?_); simp [tmOf, Out.fgt, D.fgt, D.fgts])
    rfl
  | false =>
    simp only [h, askOut, if_true, if_false, Bool.false_eq_true] at hb
    (refine wpD_seqk fun K hK => ?_; refine wpD_region tyOK ?_; ((repeat (rw [wpS_cons]; simp)); (try simp only [wpS_nil, thenD, blockD])))
    refine CallX.pure globPure (hb) ?_ (by simp [D.fgts, D.fgt, encT_eq t, wrongD]) (by simp [D.pures, D.pure, Cp.free, D.pures_map, encT_eq t, wrongD]) (by simp [Out.pure, D.pure, D.pures, Cp.free, D.pures_map, encT_eq t, wrongD])
    ((try simp only [wpAft_ret, wpAft_pan, putS, updS, setS]); (repeat (rw [wpS_cons]; simp)); (try simp only [wpS_nil, thenD, blockD]))
    ((try simp only [thenD, blockD]); refine EndQ.pan (.inl ?_); simp [Out.fgt, D.fgt, D.fgts])
    rfl
theorem five_spec (n sc : Int) (cs : List Int) (t : T) : Spec Tryz.prog glob 96 [walkD n sc cs, encT t] [] (fun o _ => o.fgt = askOut (bareB t) (.int .i64 5)) := by
  refine Spec.movd globPure (wpD_spec tyOK Tryz.func96 rfl (enters _ _ Tryz.func96 rfl (by decide)) rfl rfl ?_)
  unfold walkD Ints
  (refine wpD_seqk fun K hK => ?_; refine wpD_region tyOK ?_; ((repeat (rw [wpS_cons]; simp)); (try simp only [wpS_nil, thenD, blockD])); refine hK _ _ _ ?_; clear hK K)
  have hb := bare_spec t
  cases h : bareB t with
  | true =>
    simp only [h, askOut, if_true, if_false, Bool.false_eq_true] at hb
    (refine wpD_seqk fun K hK => ?_; refine wpD_region tyOK ?_; ((repeat (rw [wpS_cons]; simp)); (try simp only [wpS_nil, thenD, blockD])))
    refine CallX.pure globPure (hb) ?_ (by simp [D.fgts, D.fgt, encT_eq t]) (by simp [D.pures, D.pure, Cp.free, D.pures_map, encT_eq t]) (by simp [Out.pure, D.pure, D.pures, Cp.free, D.pures_map, encT_eq t])
    ((try simp only [wpAft_ret, wpAft_pan, putS, updS, setS]); (repeat (rw [wpS_cons]; simp)); (try simp only [wpS_nil, thenD, blockD]))
    (refine hK _ _ _ ?_; clear hK K)
    (refine wpD_seqk fun K hK => ?_; refine wpD_region tyOK ?_; ((repeat (rw [wpS_cons]; simp)); (try simp only [wpS_nil, thenD, blockD])); refine hK _ _ _ ?_; clear hK K)
    (refine wpD_ret ?_; (try simp only [thenD, blockD]); refine EndQ.ret rfl (.inl ?_); simp [tmOf, Out.fgt, D.fgt, D.fgts])
    rfl
  | false =>
    simp only [h, askOut, if_true, if_false, Bool.false_eq_true] at hb
    (refine wpD_seqk fun K hK => ?_; refine wpD_region tyOK ?_; ((repeat (rw [wpS_cons]; simp)); (try simp only [wpS_nil, thenD, blockD])))
    refine CallX.pure globPure (hb) ?_ (by simp [D.fgts, D.fgt, encT_eq t, wrongD]) (by simp [D.pures, D.pure, Cp.free, D.pures_map, encT_eq t, wrongD]) (by simp [Out.pure, D.pure, D.pures, Cp.free, D.pures_map, encT_eq t, wrongD])
    ((try simp only [wpAft_ret, wpAft_pan, putS, updS, setS]); (repeat (rw [wpS_cons]; simp)); (try simp only [wpS_nil, thenD, blockD]))
    ((try simp only [thenD, blockD]); refine EndQ.pan (.inl ?_); simp [Out.fgt, D.fgt, D.fgts])
    rfl
theorem leaf_spec (n sc : Int) (cs : List Int) (t : T) : Spec Tryz.prog glob 97 [walkD n sc cs, encT t] [] (fun o _ => o.fgt = askOut (bareB t) (.int .i64 0)) := by
  refine Spec.movd globPure (wpD_spec tyOK Tryz.func97 rfl (enters _ _ Tryz.func97 rfl (by decide)) rfl rfl ?_)
  unfold walkD Ints
  (refine wpD_seqk fun K hK => ?_; refine wpD_region tyOK ?_; ((repeat (rw [wpS_cons]; simp)); (try simp only [wpS_nil, thenD, blockD])); refine hK _ _ _ ?_; clear hK K)
  have hb := bare_spec t
  cases h : bareB t with
  | true =>
    simp only [h, askOut, if_true, if_false, Bool.false_eq_true] at hb
    (refine wpD_seqk fun K hK => ?_; refine wpD_region tyOK ?_; ((repeat (rw [wpS_cons]; simp)); (try simp only [wpS_nil, thenD, blockD])))
    refine CallX.pure globPure (hb) ?_ (by simp [D.fgts, D.fgt, encT_eq t]) (by simp [D.pures, D.pure, Cp.free, D.pures_map, encT_eq t]) (by simp [Out.pure, D.pure, D.pures, Cp.free, D.pures_map, encT_eq t])
    ((try simp only [wpAft_ret, wpAft_pan, putS, updS, setS]); (repeat (rw [wpS_cons]; simp)); (try simp only [wpS_nil, thenD, blockD]))
    (refine hK _ _ _ ?_; clear hK K)
    (refine wpD_seqk fun K hK => ?_; refine wpD_region tyOK ?_; ((repeat (rw [wpS_cons]; simp)); (try simp only [wpS_nil, thenD, blockD])); refine hK _ _ _ ?_; clear hK K)
    (refine wpD_ret ?_; (try simp only [thenD, blockD]); refine EndQ.ret rfl (.inl ?_); simp [tmOf, Out.fgt, D.fgt, D.fgts])
    rfl
  | false =>
    simp only [h, askOut, if_true, if_false, Bool.false_eq_true] at hb
    (refine wpD_seqk fun K hK => ?_; refine wpD_region tyOK ?_; ((repeat (rw [wpS_cons]; simp)); (try simp only [wpS_nil, thenD, blockD])))
    refine CallX.pure globPure (hb) ?_ (by simp [D.fgts, D.fgt, encT_eq t, wrongD]) (by simp [D.pures, D.pure, Cp.free, D.pures_map, encT_eq t, wrongD]) (by simp [Out.pure, D.pure, D.pures, Cp.free, D.pures_map, encT_eq t, wrongD])
    ((try simp only [wpAft_ret, wpAft_pan, putS, updS, setS]); (repeat (rw [wpS_cons]; simp)); (try simp only [wpS_nil, thenD, blockD]))
    ((try simp only [thenD, blockD]); refine EndQ.pan (.inl ?_); simp [Out.fgt, D.fgt, D.fgts])
    rfl
theorem six_spec (n sc : Int) (cs : List Int) (t : T) : Spec Tryz.prog glob 98 [walkD n sc cs, encT t] [] (fun o _ => o.fgt = askOut (bareB t) (.int .i64 6)) := by
  refine Spec.movd globPure (wpD_spec tyOK Tryz.func98 rfl (enters _ _ Tryz.func98 rfl (by decide)) rfl rfl ?_)
  unfold walkD Ints
  (refine wpD_seqk fun K hK => ?_; refine wpD_region tyOK ?_; ((repeat (rw [wpS_cons]; simp)); (try simp only [wpS_nil, thenD, blockD])); refine hK _ _ _ ?_; clear hK K)
  have hb := bare_spec t
  cases h : bareB t with
  | true =>
    simp only [h, askOut, if_true, if_false, Bool.false_eq_true] at hb
    (refine wpD_seqk fun K hK => ?_; refine wpD_region tyOK ?_; ((repeat (rw [wpS_cons]; simp)); (try simp only [wpS_nil, thenD, blockD])))
    refine CallX.pure globPure (hb) ?_ (by simp [D.fgts, D.fgt, encT_eq t]) (by simp [D.pures, D.pure, Cp.free, D.pures_map, encT_eq t]) (by simp [Out.pure, D.pure, D.pures, Cp.free, D.pures_map, encT_eq t])
    ((try simp only [wpAft_ret, wpAft_pan, putS, updS, setS]); (repeat (rw [wpS_cons]; simp)); (try simp only [wpS_nil, thenD, blockD]))
    (refine hK _ _ _ ?_; clear hK K)
    (refine wpD_seqk fun K hK => ?_; refine wpD_region tyOK ?_; ((repeat (rw [wpS_cons]; simp)); (try simp only [wpS_nil, thenD, blockD])); refine hK _ _ _ ?_; clear hK K)
    (refine wpD_ret ?_; (try simp only [thenD, blockD]); refine EndQ.ret rfl (.inl ?_); simp [tmOf, Out.fgt, D.fgt, D.fgts])
    rfl
  | false =>
    simp only [h, askOut, if_true, if_false, Bool.false_eq_true] at hb
    (refine wpD_seqk fun K hK => ?_; refine wpD_region tyOK ?_; ((repeat (rw [wpS_cons]; simp)); (try simp only [wpS_nil, thenD, blockD])))
    refine CallX.pure globPure (hb) ?_ (by simp [D.fgts, D.fgt, encT_eq t, wrongD]) (by simp [D.pures, D.pure, Cp.free, D.pures_map, encT_eq t, wrongD]) (by simp [Out.pure, D.pure, D.pures, Cp.free, D.pures_map, encT_eq t, wrongD])
    ((try simp only [wpAft_ret, wpAft_pan, putS, updS, setS]); (repeat (rw [wpS_cons]; simp)); (try simp only [wpS_nil, thenD, blockD]))
    ((try simp only [thenD, blockD]); refine EndQ.pan (.inl ?_); simp [Out.fgt, D.fgt, D.fgts])
    rfl
theorem variable_spec (n sc : Int) (cs : List Int) (t : T) : Spec Tryz.prog glob 90 [walkD n sc cs, encT t] [] (fun o _ => o.fgt = askOut (variableB sc t) (.int .i64 0)) := by
  refine Spec.movd globPure (wpD_spec tyOK Tryz.func90 rfl (enters _ _ Tryz.func90 rfl (by decide)) rfl rfl ?_)
  unfold walkD Ints
  (refine wpD_seqk fun K hK => ?_; refine wpD_region tyOK ?_; ((repeat (rw [wpS_cons]; simp)); (try simp only [wpS_nil, thenD, blockD])); refine hK _ _ _ ?_; clear hK K)
  cases h : variableB sc t with
  | true =>
    (refine wpD_seqk fun K hK => ?_; refine wpD_region tyOK ?_; ((repeat (rw [wpS_cons]; simp)); (try simp only [wpS_nil, thenD, blockD])))
    refine CallX.pure globPure (must_ok [decide (0 ≤ t.n), decide (t.n < sc), decide (t.a = 0), decide (t.ls = [])] (by simpa [variableB, and_assoc] using h)) ?_ (by simp [D.fgts, D.fgt, Bools]) (by simp [D.pures, D.pure, Cp.free, D.pures_map, Bools]) (by simp [Out.pure, D.pure, D.pures, Cp.free, D.pures_map, Bools])
    ((try simp only [wpAft_ret, wpAft_pan, putS, updS, setS]); (repeat (rw [wpS_cons]; simp)); (try simp only [wpS_nil, thenD, blockD]))
    (refine hK _ _ _ ?_; clear hK K)
    (refine wpD_seqk fun K hK => ?_; refine wpD_region tyOK ?_; ((repeat (rw [wpS_cons]; simp)); (try simp only [wpS_nil, thenD, blockD])); refine hK _ _ _ ?_; clear hK K)
    (refine wpD_ret ?_; (try simp only [thenD, blockD]); refine EndQ.ret rfl (.inl ?_); simp [tmOf, Out.fgt, D.fgt, D.fgts])
    rfl
  | false =>
    (refine wpD_seqk fun K hK => ?_; refine wpD_region tyOK ?_; ((repeat (rw [wpS_cons]; simp)); (try simp only [wpS_nil, thenD, blockD])))
    refine CallX.pure globPure (must_no [decide (0 ≤ t.n), decide (t.n < sc), decide (t.a = 0), decide (t.ls = [])] (by simpa [variableB, -Bool.and_eq_false_imp, Bool.and_assoc] using h)) ?_ (by simp [D.fgts, D.fgt, Bools, wrongD]) (by simp [D.pures, D.pure, Cp.free, D.pures_map, Bools, wrongD]) (by simp [Out.pure, D.pure, D.pures, Cp.free, D.pures_map, Bools, wrongD])
    ((try simp only [wpAft_ret, wpAft_pan, putS, updS, setS]); (repeat (rw [wpS_cons]; simp)); (try simp only [wpS_nil, thenD, blockD]))
    ((try simp only [thenD, blockD]); refine EndQ.pan (.inl ?_); simp [Out.fgt, D.fgt, D.fgts])
    rfl
theorem fin_spec (n sc : Int) (cs : List Int) (t : T) : Spec Tryz.prog glob 99 [walkD n sc cs, encT t] [] (fun o _ => o.fgt = askOut (finB t) (.int .i64 0)) := by
  refine Spec.movd globPure (wpD_spec tyOK Tryz.func99 rfl (enters _ _ Tryz.func99 rfl (by decide)) rfl rfl ?_)
  unfold walkD Ints
  (refine wpD_seqk fun K hK => ?_; refine wpD_region tyOK ?_; ((repeat (rw [wpS_cons]; simp)); (try simp only [wpS_nil, thenD, blockD])); refine hK _ _ _ ?_; clear hK K)
  cases h : finB t with
  | true =>
    (refine wpD_seqk fun K hK => ?_; refine wpD_region tyOK ?_; ((repeat (rw [wpS_cons]; simp)); (try simp only [wpS_nil, thenD, blockD])))
    refine CallX.pure globPure (must_ok [decide (0 ≤ t.n), decide (t.a = 0), decide (t.ls = [])] (by simpa [finB, and_assoc] using h)) ?_ (by simp [D.fgts, D.fgt, Bools]) (by simp [D.pures, D.pure, Cp.free, D.pures_map, Bools]) (by simp [Out.pure, D.pure, D.pures, Cp.free, D.pures_map, Bools])
    ((try simp only [wpAft_ret, wpAft_pan, putS, updS, setS]); (repeat (rw [wpS_cons]; simp)); (try simp only [wpS_nil, thenD, blockD]))
    (refine hK _ _ _ ?_; clear hK K)
    (refine wpD_seqk fun K hK => ?_; refine wpD_region tyOK ?_; ((repeat (rw [wpS_cons]; simp)); (try simp only [wpS_nil, thenD, blockD])); refine hK _ _ _ ?_; clear hK K)
    (refine wpD_ret ?_; (try simp only [thenD, blockD]); refine EndQ.ret rfl (.inl ?_); simp [tmOf, Out.fgt, D.fgt, D.fgts])
    rfl
  | false =>
    (refine wpD_seqk fun K hK => ?_; refine wpD_region tyOK ?_; ((repeat (rw [wpS_cons]; simp)); (try simp only [wpS_nil, thenD, blockD])))
    refine CallX.pure globPure (must_no [decide (0 ≤ t.n), decide (t.a = 0), decide (t.ls = [])] (by simpa [finB, -Bool.and_eq_false_imp, Bool.and_assoc] using h)) ?_ (by simp [D.fgts, D.fgt, Bools, wrongD]) (by simp [D.pures, D.pure, Cp.free, D.pures_map, Bools, wrongD]) (by simp [Out.pure, D.pure, D.pures, Cp.free, D.pures_map, Bools, wrongD])
    ((try simp only [wpAft_ret, wpAft_pan, putS, updS, setS]); (repeat (rw [wpS_cons]; simp)); (try simp only [wpS_nil, thenD, blockD]))
    ((try simp only [thenD, blockD]); refine EndQ.pan (.inl ?_); simp [Out.fgt, D.fgt, D.fgts])
    rfl
theorem elem_spec (n sc : Int) (cs : List Int) (t : T) : Spec Tryz.prog glob 100 [walkD n sc cs, encT t] [] (fun o _ => o.fgt = askOut (elemB t) (.int .i64 0)) := by
  refine Spec.movd globPure (wpD_spec tyOK Tryz.func100 rfl (enters _ _ Tryz.func100 rfl (by decide)) rfl rfl ?_)
  unfold walkD Ints
  (refine wpD_seqk fun K hK => ?_; refine wpD_region tyOK ?_; ((repeat (rw [wpS_cons]; simp)); (try simp only [wpS_nil, thenD, blockD])); refine hK _ _ _ ?_; clear hK K)
  cases h : elemB t with
  | true =>
    (refine wpD_seqk fun K hK => ?_; refine wpD_region tyOK ?_; ((repeat (rw [wpS_cons]; simp)); (try simp only [wpS_nil, thenD, blockD])))
    refine CallX.pure globPure (must_ok [decide (0 ≤ t.n), decide (t.n < t.a), decide (t.ls = [])] (by simpa [elemB, and_assoc] using h)) ?_ (by simp [D.fgts, D.fgt, Bools]) (by simp [D.pures, D.pure, Cp.free, D.pures_map, Bools]) (by simp [Out.pure, D.pure, D.pures, Cp.free, D.pures_map, Bools])
    ((try simp only [wpAft_ret, wpAft_pan, putS, updS, setS]); (repeat (rw [wpS_cons]; simp)); (try simp only [wpS_nil, thenD, blockD]))
    (refine hK _ _ _ ?_; clear hK K)
    (refine wpD_seqk fun K hK => ?_; refine wpD_region tyOK ?_; ((repeat (rw [wpS_cons]; simp)); (try simp only [wpS_nil, thenD, blockD])); refine hK _ _ _ ?_; clear hK K)
    (refine wpD_ret ?_; (try simp only [thenD, blockD]); refine EndQ.ret rfl (.inl ?_); simp [tmOf, Out.fgt, D.fgt, D.fgts])
    rfl
  | false =>
    (refine wpD_seqk fun K hK => ?_; refine wpD_region tyOK ?_; ((repeat (rw [wpS_cons]; simp)); (try simp only [wpS_nil, thenD, blockD])))
    refine CallX.pure globPure (must_no [decide (0 ≤ t.n), decide (t.n < t.a), decide (t.ls = [])] (by simpa [elemB, -Bool.and_eq_false_imp, Bool.and_assoc] using h)) ?_ (by simp [D.fgts, D.fgt, Bools, wrongD]) (by simp [D.pures, D.pure, Cp.free, D.pures_map, Bools, wrongD]) (by simp [Out.pure, D.pure, D.pures, Cp.free, D.pures_map, Bools, wrongD])
    ((try simp only [wpAft_ret, wpAft_pan, putS, updS, setS]); (repeat (rw [wpS_cons]; simp)); (try simp only [wpS_nil, thenD, blockD]))
    ((try simp only [thenD, blockD]); refine EndQ.pan (.inl ?_); simp [Out.fgt, D.fgt, D.fgts])
    rfl
theorem branches_spec (n sc : Int) (cs : List Int) (t : T) : Spec Tryz.prog glob 101 [walkD n sc cs, encT t] [] (fun o _ => o.fgt = askOut (branchesB t) (.int .i64 (IntKind.i64.wrap (t.a + 2)))) := by
  refine Spec.movd globPure (wpD_spec tyOK Tryz.func101 rfl (enters _ _ Tryz.func101 rfl (by decide)) rfl rfl ?_)
  unfold walkD Ints
  (refine wpD_seqk fun K hK => ?_; refine wpD_region tyOK ?_; ((repeat (rw [wpS_cons]; simp)); (try simp only [wpS_nil, thenD, blockD])); refine hK _ _ _ ?_; clear hK K)
  cases h : branchesB t with
  | true =>
    (refine wpD_seqk fun K hK => ?_; refine wpD_region tyOK ?_; ((repeat (rw [wpS_cons]; simp)); (try simp only [wpS_nil, thenD, blockD])))
    refine CallX.pure globPure (must_ok [decide (t.n = 0), decide (0 ≤ t.a), decide (t.ls = [])] (by simpa [branchesB, and_assoc] using h)) ?_ (by simp [D.fgts, D.fgt, Bools]) (by simp [D.pures, D.pure, Cp.free, D.pures_map, Bools]) (by simp [Out.pure, D.pure, D.pures, Cp.free, D.pures_map, Bools])
    ((try simp only [wpAft_ret, wpAft_pan, putS, updS, setS]); (repeat (rw [wpS_cons]; simp)); (try simp only [wpS_nil, thenD, blockD]))
    (refine hK _ _ _ ?_; clear hK K)
    (refine wpD_seqk fun K hK => ?_; refine wpD_region tyOK ?_; ((repeat (rw [wpS_cons]; simp)); (try simp only [wpS_nil, thenD, blockD])); refine hK _ _ _ ?_; clear hK K)
    (refine wpD_ret ?_; (try simp only [thenD, blockD]); refine EndQ.ret rfl (.inl ?_); simp [tmOf, Out.fgt, D.fgt, D.fgts])
    rfl
  | false =>
    (refine wpD_seqk fun K hK => ?_; refine wpD_region tyOK ?_; ((repeat (rw [wpS_cons]; simp)); (try simp only [wpS_nil, thenD, blockD])))
    refine CallX.pure globPure (must_no [decide (t.n = 0), decide (0 ≤ t.a), decide (t.ls = [])] (by simpa [branchesB, -Bool.and_eq_false_imp, Bool.and_assoc] using h)) ?_ (by simp [D.fgts, D.fgt, Bools, wrongD]) (by simp [D.pures, D.pure, Cp.free, D.pures_map, Bools, wrongD]) (by simp [Out.pure, D.pure, D.pures, Cp.free, D.pures_map, Bools, wrongD])
    ((try simp only [wpAft_ret, wpAft_pan, putS, updS, setS]); (repeat (rw [wpS_cons]; simp)); (try simp only [wpS_nil, thenD, blockD]))
    ((try simp only [thenD, blockD]); refine EndQ.pan (.inl ?_); simp [Out.fgt, D.fgt, D.fgts])
    rfl
theorem scopeRight_spec (n sc : Int) (ls : List LV) (hl : ls.length ≤ LMax) (hls : ∀ l, l ∈ ls → l.length ≤ LMax) : Spec Tryz.prog glob 128 [scopeD n sc, Lvs ls] [] (fun o _ => o.fgt = askOut (ls.all fun l => levelRight l n) (.tuple [])) := by
  obtain ⟨R, hR⟩ : ∃ R, R = ls.all fun l => levelRight l n := ⟨_, rfl⟩
  rw [← hR]
  refine Spec.movd globPure (wpD_spec tyOK Tryz.func128 rfl (enters _ _ Tryz.func128 rfl (by decide)) rfl rfl ?_)
  unfold scopeD Lvs
  (refine wpD_seqk fun K hK => ?_; refine wpD_region tyOK ?_; ((repeat (rw [wpS_cons]; simp)); (try simp only [wpS_nil, thenD, blockD])); refine hK _ _ _ ?_; clear hK K)
  (refine wpD_seqk fun K hK => ?_; refine wpD_region tyOK ?_; ((repeat (rw [wpS_cons]; simp)); (try simp only [wpS_nil, thenD, blockD])); refine hK _ _ _ ?_; clear hK K)
  refine wpD_rangeJ tyOK globPure (ti := 3) (tk := 8) (tn := 7) (td := 9) (ts := 18) [5, 8, 9, 10, 11, 12, 13, 14, 15, 16, 17, 18] [] (ls.length) (fun k ys hl => ys = [] ∧ R = ((ls.drop k).all fun l => levelRight l n) ∧ hl = [.cells 92 [.int .i64 n, .int .i64 sc]]) rfl rfl rfl rfl rfl rfl rfl rfl rfl rfl rfl rfl (by simp) (by decide) rfl (by first | assumption | omega | (unfold LMax; omega)) rfl (by kernel_rfl) (by decide) ?_ ?_ ?_
  · exact ⟨rfl, hR, rfl⟩
  · rintro i ys hl A hi ⟨rfl, hF, rfl⟩ hA hA2
    simp only [putAll, List.set, List.map_cons, List.map_nil, List.cons_append, List.nil_append]
    have hi' : (i : Int) < ls.length := by omega
    rw [List.drop_eq_getElem_cons hi, List.all_cons] at hF
    have hlr := levelRight_spec ls[i] n (hls _ (List.getElem_mem hi))
    obtain ⟨x, hx⟩ : ∃ x, ls[i] = x := ⟨_, rfl⟩
    rw [hx] at hF hlr
    unfold encL at hlr
    generalize levelRight x n = B at hF hlr
    (refine wpD_seqk fun K hK => ?_; refine wpD_region tyOK ?_; ((repeat (rw [wpS_cons]; simp [hi, hi', hx, encL])); (try simp only [wpS_nil, thenD, blockD])); refine hK _ _ _ ?_; clear hK K)
    cases B with
    | true =>
      (refine wpD_region tyOK ?_; ((repeat (rw [wpS_cons]; simp)); (try simp only [wpS_nil, thenD, blockD])))
      refine CallX.pure globPure (hlr) ?_ (by simp [D.fgts, D.fgt]) (by simp [D.pures, D.pure, Cp.free, D.pures_map]) (by simp [Out.pure, D.pure, D.pures, Cp.free, D.pures_map])
      ((try simp only [wpAft_ret, wpAft_pan, putS, updS, setS]); (repeat (rw [wpS_cons]; simp)); (try simp only [wpS_nil, thenD, blockD]))
      refine CallX.pure globPure (must_ok [true] rfl) ?_ (by simp [D.fgts, D.fgt, Bools]) (by simp [D.pures, D.pure, Cp.free, D.pures_map, Bools]) (by simp [Out.pure, D.pure, D.pures, Cp.free, D.pures_map, Bools])
      ((try simp only [wpAft_ret, wpAft_pan, putS, updS, setS]); (repeat (rw [wpS_cons]; simp)); (try simp only [wpS_nil, thenD, blockD]))
      (refine hA2 ([0]) _ _ _ (LeT.refl _) (by decide) (by simp) (by simp [movT, movH, movD, D.mov, HO.mov, okM, renM, getW, D.ren, D.rens, D.okN, D.okNs, Cp.ren, Cp.okN, HO.ren, HO.okN, okA, renA, renO, hOf, handed, D.fgt, D.fgts, List.range_succ, List.idxOf_cons, putAll]) ?_ rfl; simp [movT, movH, movD, D.mov, HO.mov, okM, renM, getW, D.ren, D.rens, D.okN, D.okNs, Cp.ren, Cp.okN, HO.ren, HO.okN, okA, renA, renO, hOf, handed, D.fgt, D.fgts, List.range_succ, List.idxOf_cons])
      simpa using hF
    | false =>
      (refine wpD_region tyOK ?_; ((repeat (rw [wpS_cons]; simp)); (try simp only [wpS_nil, thenD, blockD])))
      refine CallX.pure globPure (hlr) ?_ (by simp [D.fgts, D.fgt]) (by simp [D.pures, D.pure, Cp.free, D.pures_map]) (by simp [Out.pure, D.pure, D.pures, Cp.free, D.pures_map])
      ((try simp only [wpAft_ret, wpAft_pan, putS, updS, setS]); (repeat (rw [wpS_cons]; simp)); (try simp only [wpS_nil, thenD, blockD]))
      refine CallX.pure globPure (must_no [false] rfl) ?_ (by simp [D.fgts, D.fgt, Bools, wrongD]) (by simp [D.pures, D.pure, Cp.free, D.pures_map, Bools, wrongD]) (by simp [Out.pure, D.pure, D.pures, Cp.free, D.pures_map, Bools, wrongD])
      ((try simp only [wpAft_ret, wpAft_pan, putS, updS, setS]); (repeat (rw [wpS_cons]; simp)); (try simp only [wpS_nil, thenD, blockD]))
      ((try simp only [thenD, blockD]); refine EndQ.pan (.inl ?_); simp [Out.fgt, D.fgt, D.fgts])
      rw [hF]; rfl
  · rintro ys hl tl' ⟨rfl, hF, rfl⟩ htl
    rw [List.drop_length] at hF
    subst hF
    ((try simp only [thenD, blockD]); refine EndQ.nrm rfl (.inl ?_); simp [tmOf, Out.fgt, D.fgt, D.fgts])
    rfl
theorem scopeRight_ok (n sc : Int) (ls : List LV) (hl : ls.length ≤ LMax) (hls : ∀ l, l ∈ ls → l.length ≤ LMax) (h : (ls.all fun l => levelRight l n) = true) : Spec Tryz.prog glob 128 [scopeD n sc, Lvs ls] [] (fun o _ => o.fgt = .ret (.tuple [])) := by
  have := scopeRight_spec n sc ls hl hls
  rw [h] at this
  exact this
theorem scopeRight_no (n sc : Int) (ls : List LV) (hl : ls.length ≤ LMax) (hls : ∀ l, l ∈ ls → l.length ≤ LMax) (h : (ls.all fun l => levelRight l n) = false) : Spec Tryz.prog glob 128 [scopeD n sc, Lvs ls] [] (fun o _ => o.fgt = .pan wrongD) := by
  have := scopeRight_spec n sc ls hl hls
  rw [h] at this
  exact this
theorem sort_spec (n sc : Int) (cs : List Int) (t : T) (hl : t.ls.length ≤ LMax) (hls : ∀ l, l ∈ t.ls → l.length ≤ LMax) : Spec Tryz.prog glob 91 [walkD n sc cs, encT t] [] (fun o _ => o.fgt = askOut (sortB n t) (.int .i64 0)) := by
  refine Spec.movd globPure (wpD_spec tyOK Tryz.func91 rfl (enters _ _ Tryz.func91 rfl (by decide)) rfl rfl ?_)
  unfold walkD Ints
  (refine wpD_seqk fun K hK => ?_; refine wpD_region tyOK ?_; ((repeat (rw [wpS_cons]; simp)); (try simp only [wpS_nil, thenD, blockD])); refine hK _ _ _ ?_; clear hK K)
  have e1 : decide ((t.ls.length : Int) = 1) = decide (t.ls.length = 1) := by congr 1; exact propext (by omega)
  cases h : decide (t.n = 0) && decide (t.a = 0) && decide (t.ls.length = 1) with
  | false =>
    (refine wpD_seqk fun K hK => ?_; refine wpD_region tyOK ?_; ((repeat (rw [wpS_cons]; simp [e1])); (try simp only [wpS_nil, thenD, blockD])))
    refine CallX.pure globPure (must_no [decide (t.n = 0), decide (t.a = 0), decide (t.ls.length = 1)] (by simpa [-Bool.and_eq_false_imp, Bool.and_assoc] using h)) ?_ (by simp [D.fgts, D.fgt, Bools, wrongD, e1]) (by simp [D.pures, D.pure, Cp.free, D.pures_map, Bools, wrongD, e1]) (by simp [Out.pure, D.pure, D.pures, Cp.free, D.pures_map, Bools, wrongD, e1])
    ((try simp only [wpAft_ret, wpAft_pan, putS, updS, setS]); (repeat (rw [wpS_cons]; simp)); (try simp only [wpS_nil, thenD, blockD]))
    ((try simp only [thenD, blockD]); refine EndQ.pan (.inl ?_); simp [Out.fgt, D.fgt, D.fgts])
    simp [sortB, h, askOut, wrongD]; rfl
  | true =>
    (refine wpD_seqk fun K hK => ?_; refine wpD_region tyOK ?_; ((repeat (rw [wpS_cons]; simp [e1])); (try simp only [wpS_nil, thenD, blockD])))
    refine CallX.pure globPure (must_ok [decide (t.n = 0), decide (t.a = 0), decide (t.ls.length = 1)] (by simpa [and_assoc] using h)) ?_ (by simp [D.fgts, D.fgt, Bools, e1]) (by simp [D.pures, D.pure, Cp.free, D.pures_map, Bools, e1]) (by simp [Out.pure, D.pure, D.pures, Cp.free, D.pures_map, Bools, e1])
    ((try simp only [wpAft_ret, wpAft_pan, putS, updS, setS]); (repeat (rw [wpS_cons]; simp)); (try simp only [wpS_nil, thenD, blockD]))
    (refine hK _ _ _ ?_; clear hK K)
    cases h2 : t.ls.all fun l => levelRight l n with
    | false =>
      (refine wpD_seqk fun K hK => ?_; refine wpD_region tyOK ?_; ((repeat (rw [wpS_cons]; simp)); (try simp only [wpS_nil, thenD, blockD])))
      refine CallX.pure globPure (scopeRight_no n sc t.ls hl hls h2) ?_ (by simp [D.fgts, D.fgt, scopeD, Lvs, wrongD]) (by simp [D.pures, D.pure, Cp.free, D.pures_map, scopeD, Lvs, wrongD]) (by simp [Out.pure, D.pure, D.pures, Cp.free, D.pures_map, scopeD, Lvs, wrongD])
      ((try simp only [wpAft_ret, wpAft_pan, putS, updS, setS]); (repeat (rw [wpS_cons]; simp)); (try simp only [wpS_nil, thenD, blockD]))
      ((try simp only [thenD, blockD]); refine EndQ.pan (.inl ?_); simp [Out.fgt, D.fgt, D.fgts])
      simp [sortB, h, h2, askOut, wrongD]; rfl
    | true =>
      (refine wpD_seqk fun K hK => ?_; refine wpD_region tyOK ?_; ((repeat (rw [wpS_cons]; simp)); (try simp only [wpS_nil, thenD, blockD])))
      refine CallX.pure globPure (scopeRight_ok n sc t.ls hl hls h2) ?_ (by simp [D.fgts, D.fgt, scopeD, Lvs]) (by simp [D.pures, D.pure, Cp.free, D.pures_map, scopeD, Lvs]) (by simp [Out.pure, D.pure, D.pures, Cp.free, D.pures_map, scopeD, Lvs])
      ((try simp only [wpAft_ret, wpAft_pan, putS, updS, setS]); (repeat (rw [wpS_cons]; simp)); (try simp only [wpS_nil, thenD, blockD]))
      (refine hK _ _ _ ?_; clear hK K)
      (refine wpD_seqk fun K hK => ?_; refine wpD_region tyOK ?_; ((repeat (rw [wpS_cons]; simp)); (try simp only [wpS_nil, thenD, blockD])); refine hK _ _ _ ?_; clear hK K)
      (refine wpD_ret ?_; (try simp only [thenD, blockD]); refine EndQ.ret rfl (.inl ?_); simp [tmOf, Out.fgt, D.fgt, D.fgts])
      simp only [sortB, h, h2]; rfl
theorem constant_spec (n sc : Int) (cs : List Int) (t : T) (hcs : cs.length ≤ LMax) (hl : t.ls.length ≤ LMax) (hls : ∀ l, l ∈ t.ls → l.length ≤ LMax) : Spec Tryz.prog glob 92 [walkD n sc cs, encT t] [] (fun o _ => o.fgt = askOut (constB n cs t) (.int .i64 0)) := by
  refine Spec.movd globPure (wpD_spec tyOK Tryz.func92 rfl (enters _ _ Tryz.func92 rfl (by decide)) rfl rfl ?_)
  unfold walkD Ints
  (refine wpD_seqk fun K hK => ?_; refine wpD_region tyOK ?_; ((repeat (rw [wpS_cons]; simp)); (try simp only [wpS_nil, thenD, blockD])); refine hK _ _ _ ?_; clear hK K)
  cases h : decide (0 ≤ t.n) && decide (t.n < cs.length) && decide (t.a = 0) with
  | false =>
    (refine wpD_seqk fun K hK => ?_; refine wpD_region tyOK ?_; ((repeat (rw [wpS_cons]; simp)); (try simp only [wpS_nil, thenD, blockD])))
    refine CallX.pure globPure (must_no [decide (0 ≤ t.n), decide (t.n < cs.length), decide (t.a = 0)] (by simpa [-Bool.and_eq_false_imp, Bool.and_assoc] using h)) ?_ (by simp [D.fgts, D.fgt, Bools, wrongD]) (by simp [D.pures, D.pure, Cp.free, D.pures_map, Bools, wrongD]) (by simp [Out.pure, D.pure, D.pures, Cp.free, D.pures_map, Bools, wrongD])
    ((try simp only [wpAft_ret, wpAft_pan, putS, updS, setS]); (repeat (rw [wpS_cons]; simp)); (try simp only [wpS_nil, thenD, blockD]))
    ((try simp only [thenD, blockD]); refine EndQ.pan (.inl ?_); simp [Out.fgt, D.fgt, D.fgts])
    simp [constB, h, askOut, wrongD]; rfl
  | true =>
    (refine wpD_seqk fun K hK => ?_; refine wpD_region tyOK ?_; ((repeat (rw [wpS_cons]; simp)); (try simp only [wpS_nil, thenD, blockD])))
    refine CallX.pure globPure (must_ok [decide (0 ≤ t.n), decide (t.n < cs.length), decide (t.a = 0)] (by simpa [and_assoc] using h)) ?_ (by simp [D.fgts, D.fgt, Bools]) (by simp [D.pures, D.pure, Cp.free, D.pures_map, Bools]) (by simp [Out.pure, D.pure, D.pures, Cp.free, D.pures_map, Bools])
    ((try simp only [wpAft_ret, wpAft_pan, putS, updS, setS]); (repeat (rw [wpS_cons]; simp)); (try simp only [wpS_nil, thenD, blockD]))
    (refine hK _ _ _ ?_; clear hK K)
    have h0 := h
    simp only [Bool.and_eq_true, decide_eq_true_eq] at h0
    obtain ⟨⟨k1, k2⟩, k3⟩ := h0
    have k4 : t.n.toNat < cs.length := by omega
    have k5 : cs.getD t.n.toNat 0 = cs[t.n.toNat] := by rw [List.getD_eq_getElem?_getD, List.getElem?_eq_getElem k4]; rfl
    cases h1 : decide ((t.ls.length : Int) = cs[t.n.toNat]) with
    | false =>
      (refine wpD_seqk fun K hK => ?_; refine wpD_drawk tyOK (by kernel_rfl) (by kernel_rfl) fun KT hKT => ?_; ((repeat (rw [wpT_cons]; simp [k1, k4])); (try simp only [wpT_nil])))
      refine CallY.pure globPure (must_no [decide ((t.ls.length : Int) = cs[t.n.toNat])] (by simp [h1])) ?_ (by simp [D.fgts, D.fgt, Bools, wrongD]) (by simp [D.pures, D.pure, Cp.free, D.pures_map, Bools, wrongD]) (by simp [Out.pure, D.pure, D.pures, Cp.free, D.pures_map, Bools, wrongD])
      ((try simp only [wpAftT_ret, wpAftT_pan, putS, updS, setS]); (repeat (rw [wpT_cons]; simp)); (try simp only [wpT_nil]))
      (refine hKT _ _ _ _ (by kernel_rfl) ?_; clear hKT KT; (try simp only [thenD, blockD]))
      simp
      ((try simp only [thenD, blockD]); refine EndQ.pan (.inl ?_); simp [Out.fgt, D.fgt, D.fgts])
      simp only [constB, h, k5, h1]; rfl
    | true =>
      (refine wpD_seqk fun K hK => ?_; refine wpD_drawk tyOK (by kernel_rfl) (by kernel_rfl) fun KT hKT => ?_; ((repeat (rw [wpT_cons]; simp [k1, k4])); (try simp only [wpT_nil])))
      refine CallY.pure globPure (must_ok [decide ((t.ls.length : Int) = cs[t.n.toNat])] (by simp [h1])) ?_ (by simp [D.fgts, D.fgt, Bools]) (by simp [D.pures, D.pure, Cp.free, D.pures_map, Bools]) (by simp [Out.pure, D.pure, D.pures, Cp.free, D.pures_map, Bools])
      ((try simp only [wpAftT_ret, wpAftT_pan, putS, updS, setS]); (repeat (rw [wpT_cons]; simp)); (try simp only [wpT_nil]))
      (refine hKT _ _ _ _ (by kernel_rfl) ?_; clear hKT KT; (try simp only [thenD, blockD]))
      (refine hK _ _ _ ?_; clear hK K)
      cases h2 : t.ls.all fun l => levelRight l n with
      | false =>
        (refine wpD_seqk fun K hK => ?_; refine wpD_region tyOK ?_; ((repeat (rw [wpS_cons]; simp)); (try simp only [wpS_nil, thenD, blockD])))
        refine CallX.pure globPure (scopeRight_no n sc t.ls hl hls h2) ?_ (by simp [D.fgts, D.fgt, scopeD, Lvs, wrongD]) (by simp [D.pures, D.pure, Cp.free, D.pures_map, scopeD, Lvs, wrongD]) (by simp [Out.pure, D.pure, D.pures, Cp.free, D.pures_map, scopeD, Lvs, wrongD])
        ((try simp only [wpAft_ret, wpAft_pan, putS, updS, setS]); (repeat (rw [wpS_cons]; simp)); (try simp only [wpS_nil, thenD, blockD]))
        ((try simp only [thenD, blockD]); refine EndQ.pan (.inl ?_); simp [Out.fgt, D.fgt, D.fgts])
        simp only [constB, h, k5, h1, h2]; rfl
      | true =>
        (refine wpD_seqk fun K hK => ?_; refine wpD_region tyOK ?_; ((repeat (rw [wpS_cons]; simp)); (try simp only [wpS_nil, thenD, blockD])))
        refine CallX.pure globPure (scopeRight_ok n sc t.ls hl hls h2) ?_ (by simp [D.fgts, D.fgt, scopeD, Lvs]) (by simp [D.pures, D.pure, Cp.free, D.pures_map, scopeD, Lvs]) (by simp [Out.pure, D.pure, D.pures, Cp.free, D.pures_map, scopeD, Lvs])
        ((try simp only [wpAft_ret, wpAft_pan, putS, updS, setS]); (repeat (rw [wpS_cons]; simp)); (try simp only [wpS_nil, thenD, blockD]))
        (refine hK _ _ _ ?_; clear hK K)
        (refine wpD_seqk fun K hK => ?_; refine wpD_region tyOK ?_; ((repeat (rw [wpS_cons]; simp)); (try simp only [wpS_nil, thenD, blockD])); refine hK _ _ _ ?_; clear hK K)
        (refine wpD_ret ?_; (try simp only [thenD, blockD]); refine EndQ.ret rfl (.inl ?_); simp [tmOf, Out.fgt, D.fgt, D.fgts])
        simp only [constB, h, k5, h1, h2]; rfl
end Go.Proofs.YtebmlojhdnldgaaGreatDoor

namespace Go.Proofs.YtebmlojhdnldgaaGreatDoor
set_option linter.unusedSimpArgs false
set_option linter.unusedVariables false
set_option maxHeartbeats 10000000
set_option maxRecDepth 20000
open Go.RowKit
attribute [local simp] wpAft_ret wpAft_pan wantD evOp opD tmOf putS updS setS hOf isFree isTok fillD TK.isAgg TK.known partD thenD blockD putAll D.ofV inB nilTest isNilS binX binD binE isCst bndD capB IntKind.min IntKind.max IntKind.signed IntKind.bits dstOf late
theorem kinds_spec : Spec Tryz.prog glob 56 [] [] (fun o _ => o.fgt = .ret coreMap) := by
  refine Spec.movd globPure (wpD_spec tyOK Tryz.func56 rfl (enters _ _ Tryz.func56 rfl (by decide)) rfl rfl ?_)
  (refine wpD_seqk fun K hK => ?_; refine wpD_region tyOK ?_; ((repeat (rw [wpS_cons]; simp)); (try simp only [wpS_nil, thenD, blockD])); refine hK _ _ _ ?_; clear hK K)
  (refine wpD_seqk fun K hK => ?_; refine wpD_region tyOK ?_; ((repeat (rw [wpS_cons]; simp)); (try simp only [wpS_nil, thenD, blockD])); refine hK _ _ _ ?_; clear hK K)
  refine wpD_staym 0 (es := coreAsk.map fun p => (.int .i64 p.1, .fn (.func p.2) [] [])) rfl ?_
  simp [D.frzs, D.frz, HO.frz, dfFrz]
  (refine wpD_ret ?_; (try simp only [thenD, blockD]); refine EndQ.ret rfl (.inl ?_); simp [tmOf, Out.fgt, D.fgt, D.fgts])
  rfl
def lookAsk (k : Int) : Option FuncId := (coreAsk.find? fun p => decide (k = p.1)).map (·.2)
theorem look_small : ∀ j : Fin 25, (lookAsk (j.1 : Int)).isSome = inCore (j.1 : Int) := by decide
theorem look_in (k : Int) : (lookAsk k).isSome = inCore k := by
  by_cases h : 0 ≤ k ∧ k < 25
  · obtain ⟨j, rfl⟩ : ∃ j : Nat, k = j := ⟨k.toNat, by omega⟩
    exact look_small ⟨j, by omega⟩
  · have h1 : inCore k = false := by unfold inCore; simp; omega
    rw [h1]
    unfold lookAsk
    rw [Option.isSome_map, Option.isSome_eq_false_iff, Option.isNone_iff_eq_none, List.find?_eq_none]
    intro p hp
    simp only [coreAsk, List.mem_cons, List.not_mem_nil, or_false] at hp
    rcases hp with rfl | rfl | rfl | rfl | rfl | rfl | rfl | rfl | rfl | rfl | rfl | rfl | rfl | rfl | rfl | rfl | rfl | rfl | rfl | rfl <;> simp <;> omega
theorem ask_spec (n sc : Int) (cs : List Int) (t : T) (hcs : cs.length ≤ LMax) (ht : okT t) (f : FuncId) (hf : lookAsk t.k = some f) :
    Spec Tryz.prog glob f [walkD n sc cs, encT t] [] (fun o _ => o.fgt = askOut (askC n sc cs t) (.int .i64 (askN t.k t.a))) := by
  have hl := ht.ll
  have hls : ∀ l, l ∈ t.ls → l.length ≤ LMax := fun l h => (ht.ls l h).1
  have key : (t.k, f) ∈ coreAsk := by
    unfold lookAsk at hf
    cases h : coreAsk.find? (fun p => decide (t.k = p.1)) with
    | none => rw [h] at hf; cases hf
    | some p =>
      rw [h] at hf
      cases hf
      have h1 := List.find?_some h
      have h2 := List.mem_of_find?_eq_some h
      simp only [decide_eq_true_eq] at h1
      rw [h1]; exact h2
  simp only [coreAsk, List.mem_cons, Prod.mk.injEq, List.not_mem_nil, or_false] at key
  rcases key with ⟨h, rfl⟩ | ⟨h, rfl⟩ | ⟨h, rfl⟩ | ⟨h, rfl⟩ | ⟨h, rfl⟩ | ⟨h, rfl⟩ | ⟨h, rfl⟩ | ⟨h, rfl⟩ | ⟨h, rfl⟩ | ⟨h, rfl⟩ | ⟨h, rfl⟩ | ⟨h, rfl⟩ | ⟨h, rfl⟩ | ⟨h, rfl⟩ | ⟨h, rfl⟩ | ⟨h, rfl⟩ | ⟨h, rfl⟩ | ⟨h, rfl⟩ | ⟨h, rfl⟩ | ⟨h, rfl⟩ <;> simp only [askC, askN, h] <;> simp
  · exact variable_spec n sc cs t
  · exact sort_spec n sc cs t hl hls
  · exact constant_spec n sc cs t hcs hl hls
  all_goals first | exact two_spec n sc cs t | exact three_spec n sc cs t | exact one_spec n sc cs t | exact five_spec n sc cs t | exact leaf_spec n sc cs t | exact six_spec n sc cs t | exact fin_spec n sc cs t | exact elem_spec n sc cs t | exact branches_spec n sc cs t
theorem core_len : coreKeys.length = coreVals.length := by kernel_rfl
theorem core_all : ((coreKeys.zip coreVals).all fun p => isIntK IntKind.i64 p.1) = true := by kernel_rfl
theorem find_ask (a : Int) : ∀ l : List (Int × FuncId), findD (.int .i64 a) ((l.map fun p => (.int .i64 p.1 : D)).zip (l.map fun p => (.fn (.func p.2) [] [] : D))) = ((l.find? fun p => decide (a = p.1)).map (·.2)).map fun f => .fn (.func f) [] []
  | [] => rfl
  | p :: r => by
    rw [List.map_cons, List.map_cons, List.zip_cons_cons, findD, List.find?_cons]
    by_cases h : a = p.1
    · simp [keyEq, h]
    · simp [keyEq, h]; simpa using find_ask a r
theorem core_find (a : Int) : findD (.int .i64 a) (coreKeys.zip coreVals) = (lookAsk a).map fun f => .fn (.func f) [] [] := find_ask a coreAsk
def ksC (n : Int) (cs : List Int) (k sc : Int) (ks : List T) (j : Nat) : Bool := coreKs n cs (ks.drop j) k j sc
theorem ksC_at {n : Int} {cs : List Int} {k sc : Int} {ks : List T} {j : Nat} (h : j < ks.length) : ksC n cs k sc ks j = (coreB n cs ks[j] (belowD sc k j) && ksC n cs k sc ks (j + 1)) := by
  unfold ksC
  rw [List.drop_eq_getElem_cons h, coreKs]
theorem ksC_end {n : Int} {cs : List Int} {k sc : Int} {ks : List T} : ksC n cs k sc ks ks.length = true := by
  unfold ksC
  rw [List.drop_length, coreKs]
theorem cwalk_spec (n : Int) (cs : List Int) (hcs : cs.length ≤ LMax) (t : T) : ∀ sc, okT t → Spec Tryz.prog glob 57 [walkD n sc cs, encT t] [] (fun o _ => o.fgt = askOut (coreB n cs t sc) (.tuple [])) := by
  induction t using T.ind with
  | h kk m a ls ks ih =>
    intro sc ht
    have hkl : ks.length ≤ LMax := ht.kl
    have hks := ht.ks
    simp only [T.ks_mk] at hks
    have ha0 := fun f hf => ask_spec n sc cs _ hcs ht f hf
    simp only [T.k_mk, T.a_mk] at ha0
    have hC : coreB n cs (.mk kk m a ls ks) sc = (inCore kk && askC n sc cs (.mk kk m a ls ks) && decide ((ks.length : Int) = askN kk a) && ksC n cs kk sc ks 0) := by
      rw [coreB]; rfl
    generalize coreB n cs (.mk kk m a ls ks) sc = R at hC ⊢
    generalize askC n sc cs (.mk kk m a ls ks) = B at hC ha0
    generalize askN kk a = q at hC ha0
    have hin := look_in kk
    generalize inCore kk = I at hin hC
    rw [encT_eq] at ha0 ⊢
    simp only [T.k_mk, T.n_mk, T.a_mk, T.ls_mk, T.ks_mk] at ha0 ⊢
    unfold walkD Ints at ha0 ⊢
    refine Spec.movd globPure (wpD_spec tyOK Tryz.func57 rfl (enters _ _ Tryz.func57 rfl (by decide)) rfl rfl ?_)
    (refine wpD_seqk fun K hK => ?_; refine wpD_region tyOK ?_; ((repeat (rw [wpS_cons]; simp)); (try simp only [wpS_nil, thenD, blockD])); refine hK _ _ _ ?_; clear hK K)
    cases hf : lookAsk kk with
    | none =>
      rw [hf] at hin
      have hI : I = false := hin.symm
      subst hI
      (refine wpD_seqk fun K hK => ?_; refine wpD_region tyOK ?_; ((repeat (rw [wpS_cons]; simp [coreMap, core_len, core_all, core_find, hf])); (try simp only [wpS_nil, thenD, blockD])); refine hK _ _ _ ?_; clear hK K)
      (refine wpD_seqk fun K hK => ?_; refine wpD_region tyOK ?_; ((repeat (rw [wpS_cons]; simp)); (try simp only [wpS_nil, thenD, blockD])))
      refine CallX.pure globPure (must_no [false] rfl) ?_ (by simp [D.fgts, D.fgt, Bools, wrongD]) (by simp [D.pures, D.pure, Cp.free, D.pures_map, Bools, wrongD]) (by simp [Out.pure, D.pure, D.pures, Cp.free, D.pures_map, Bools, wrongD])
      ((try simp only [wpAft_ret, wpAft_pan, putS, updS, setS]); (repeat (rw [wpS_cons]; simp)); (try simp only [wpS_nil, thenD, blockD]))
      ((try simp only [thenD, blockD]); refine EndQ.pan (.inl ?_); simp [Out.fgt, D.fgt, D.fgts])
      rw [hC]; simp [askOut, wrongD, D.fgt, D.fgts]
    | some f =>
      rw [hf] at hin
      have hI : I = true := hin.symm
      subst hI
      have ha := ha0 f hf
      clear ha0
      (refine wpD_seqk fun K hK => ?_; refine wpD_region tyOK ?_; ((repeat (rw [wpS_cons]; simp [coreMap, core_len, core_all, core_find, hf])); (try simp only [wpS_nil, thenD, blockD])); refine hK _ _ _ ?_; clear hK K)
      (refine wpD_seqk fun K hK => ?_; refine wpD_region tyOK ?_; ((repeat (rw [wpS_cons]; simp)); (try simp only [wpS_nil, thenD, blockD])))
      refine CallX.pure globPure (must_ok [true] rfl) ?_ (by simp [D.fgts, D.fgt, Bools]) (by simp [D.pures, D.pure, Cp.free, D.pures_map, Bools]) (by simp [Out.pure, D.pure, D.pures, Cp.free, D.pures_map, Bools])
      ((try simp only [wpAft_ret, wpAft_pan, putS, updS, setS]); (repeat (rw [wpS_cons]; simp)); (try simp only [wpS_nil, thenD, blockD]))
      (refine hK _ _ _ ?_; clear hK K)
      cases B with
      | false =>
        simp only [askOut, if_false, Bool.false_eq_true] at ha
        (refine wpD_seqk fun K hK => ?_; refine wpD_drawk tyOK (by kernel_rfl) (by kernel_rfl) fun KT hKT => ?_; ((repeat (rw [wpT_cons]; simp)); (try simp only [wpT_nil])))
        refine CallY.pure globPure ha ?_ (by simp [D.fgts, D.fgt, coreMap]) (by simp [D.pures, D.pure, Cp.free, D.pures_map]) (by simp [Out.pure, D.pure, D.pures, wrongD])
        (try simp only [wpAftT_ret, wpAftT_pan, putS, updS, setS])
        ((try simp only [wpAftT_ret, wpAftT_pan, putS, updS, setS]); (repeat (refine wpT_late _ _ _ _ (by kernel_rfl) ?_; simp only [putS, List.set, List.nil_append, List.cons_append, Nat.reduceAdd])); (try simp only [wpT_nil]))
        (refine hKT _ _ _ _ (by kernel_rfl) ?_; clear hKT KT; (try simp only [thenD, blockD]))
        simp
        ((try simp only [thenD, blockD]); refine EndQ.pan (.inl ?_); simp [Out.fgt, D.fgt, D.fgts])
        rw [hC]; simp [askOut, wrongD, D.fgt, D.fgts]
      | true =>
        simp only [askOut, if_true] at ha
        cases hm : decide ((ks.length : Int) = q) with
        | false =>
          (refine wpD_seqk fun K hK => ?_; refine wpD_drawk tyOK (by kernel_rfl) (by kernel_rfl) fun KT hKT => ?_; ((repeat (rw [wpT_cons]; simp)); (try simp only [wpT_nil])))
          refine CallY.pure globPure ha ?_ (by simp [D.fgts, D.fgt, coreMap]) (by simp [D.pures, D.pure, Cp.free, D.pures_map]) (by simp [Out.pure, D.pure, D.pures])
          ((try simp only [wpAftT_ret, wpAftT_pan, putS, updS, setS]); (repeat (rw [wpT_cons]; simp)); (try simp only [wpT_nil]))
          refine CallY.pure globPure (must_no [decide ((ks.length : Int) = q)] (by simp [hm])) ?_ (by simp [D.fgts, D.fgt, Bools, wrongD]) (by simp [D.pures, D.pure, Cp.free, D.pures_map, Bools, wrongD]) (by simp [Out.pure, D.pure, D.pures, Cp.free, D.pures_map, Bools, wrongD])
          ((try simp only [wpAftT_ret, wpAftT_pan, putS, updS, setS]); (repeat (refine wpT_late _ _ _ _ (by kernel_rfl) ?_; simp only [putS, List.set, List.nil_append, List.cons_append, Nat.reduceAdd])); (try simp only [wpT_nil]))
          (refine hKT _ _ _ _ (by kernel_rfl) ?_; clear hKT KT; (try simp only [thenD, blockD]))
          simp
          ((try simp only [thenD, blockD]); refine EndQ.pan (.inl ?_); simp [Out.fgt, D.fgt, D.fgts])
          rw [hC, hm]; simp [askOut, wrongD, D.fgt, D.fgts]
        | true =>
          rw [hm] at hC
          simp only [Bool.true_and] at hC
          (refine wpD_seqk fun K hK => ?_; refine wpD_drawk tyOK (by kernel_rfl) (by kernel_rfl) fun KT hKT => ?_; ((repeat (rw [wpT_cons]; simp)); (try simp only [wpT_nil])))
          refine CallY.pure globPure ha ?_ (by simp [D.fgts, D.fgt, coreMap]) (by simp [D.pures, D.pure, Cp.free, D.pures_map]) (by simp [Out.pure, D.pure, D.pures])
          ((try simp only [wpAftT_ret, wpAftT_pan, putS, updS, setS]); (repeat (rw [wpT_cons]; simp)); (try simp only [wpT_nil]))
          refine CallY.pure globPure (must_ok [decide ((ks.length : Int) = q)] (by simp [hm])) ?_ (by simp [D.fgts, D.fgt, Bools]) (by simp [D.pures, D.pure, Cp.free, D.pures_map, Bools]) (by simp [Out.pure, D.pure, D.pures, Cp.free, D.pures_map, Bools])
          ((try simp only [wpAftT_ret, wpAftT_pan, putS, updS, setS]); (repeat (rw [wpT_cons]; simp)); (try simp only [wpT_nil]))
          (refine hKT _ _ _ _ (by kernel_rfl) ?_; clear hKT KT; (try simp only [thenD, blockD]))
          (refine hK _ _ _ ?_; clear hK K)
          clear ha hm
          (refine wpD_seqk fun K hK => ?_; refine wpD_region tyOK ?_; ((repeat (rw [wpS_cons]; simp)); (try simp only [wpS_nil, thenD, blockD])); refine hK _ _ _ ?_; clear hK K)
          refine wpD_rangeJ tyOK globPure (ti := 3) (tk := 33) (tn := 32) (td := 34) (ts := 50) [6, 7, 8, 33, 34, 35, 36, 37, 38, 39, 40, 41, 42, 43, 44, 45, 46, 47, 48, 49, 50] [] (ks.length) (fun k ys hl => ys = [] ∧ R = ksC n cs kk sc ks k ∧ hl = [.cells 96 [.int .i64 n, .int .i64 sc, .slice (cs.map (.int .i64)) .any, coreMap], .cells 27 [.int .i64 kk, .int .i64 m, .int .i64 a, .slice (ls.map encL) .any, .slice (ks.map encT) .any]]) rfl rfl rfl rfl rfl rfl rfl rfl rfl rfl rfl rfl (by simp) (by decide) rfl (by first | assumption | omega | (unfold LMax; omega)) rfl (by kernel_rfl) (by decide) ?_ ?_ ?_
          · exact ⟨rfl, hC, rfl⟩
          · rintro i ys hl A hi ⟨rfl, hF, rfl⟩ hA hA2
            simp only [putAll, List.set, List.map_cons, List.map_nil, List.cons_append, List.nil_append]
            have hi' : (i : Int) < ks.length := by omega
            rw [ksC_at hi] at hF
            have hrec := ih ks[i] (List.getElem_mem hi) (belowD sc kk i) (hks _ (List.getElem_mem hi))
            have hbi := binds_spec kk i
            have hbl := sbelow_spec n sc 1
            have hbd : belowD sc kk i = if bindsB kk i then IntKind.i64.wrap (sc + 1) else sc := rfl
            unfold walkD Ints at hrec
            unfold scopeD at hbl
            obtain ⟨x, hx⟩ : ∃ x, ks[i] = x := ⟨_, rfl⟩
            have hEx := encT_eq x
            rw [hx] at hrec hF
            rw [hEx] at hrec
            generalize coreB n cs x (belowD sc kk i) = Bx at hrec hF
            generalize belowD sc kk i = sc' at hrec hbd
            generalize bindsB kk i = bb at hbi hbd
            (refine wpD_seqk fun K hK => ?_; refine wpD_region tyOK ?_; ((repeat (rw [wpS_cons]; simp [hi, hi', hx, hEx])); (try simp only [wpS_nil, thenD, blockD])); refine hK _ _ _ ?_; clear hK K)
            (refine wpD_seqk fun K hK => ?_; refine wpD_region tyOK ?_; ((repeat (rw [wpS_cons]; simp)); (try simp only [wpS_nil, thenD, blockD])); refine hK _ _ _ ?_; clear hK K)
            refine wpD_seqk fun K2 hK2 => ?_
            cases bb with
            | true =>
              rw [if_pos rfl] at hbd
              subst hbd
              (refine wpD_seqk fun K hK => ?_; refine wpD_region tyOK ?_; ((repeat (rw [wpS_cons]; simp)); (try simp only [wpS_nil, thenD, blockD])))
              refine CallX.pure globPure (hbi) ?_ (by simp [D.fgts, D.fgt]) (by simp [D.pures, D.pure, Cp.free, D.pures_map]) (by simp [Out.pure, D.pure, D.pures, Cp.free, D.pures_map])
              ((try simp only [wpAft_ret, wpAft_pan, putS, updS, setS]); (repeat (rw [wpS_cons]; simp)); (try simp only [wpS_nil, thenD, blockD]))
              (refine hK _ _ _ ?_; clear hK K)
              refine wpD_part rfl (fun _ => ?_) (fun h => by simp at h)
              (refine wpD_region tyOK ?_; ((repeat (rw [wpS_cons]; simp)); (try simp only [wpS_nil, thenD, blockD])))
              refine CallX.pure globPure (hbl) ?_ (by simp [D.fgts, D.fgt]) (by simp [D.pures, D.pure, Cp.free, D.pures_map]) (by simp [Out.pure, D.pure, D.pures, Cp.free, D.pures_map])
              ((try simp only [wpAft_ret, wpAft_pan, putS, updS, setS]); (repeat (rw [wpS_cons]; simp)); (try simp only [wpS_nil, thenD, blockD]))
              refine hK2 _ _ _ ?_
              cases Bx with
              | true =>
                simp only [askOut, if_true] at hrec
                (refine wpD_region tyOK ?_; ((repeat (rw [wpS_cons]; simp)); (try simp only [wpS_nil, thenD, blockD])))
                refine CallX.pure globPure (hrec) ?_ (by simp [D.fgts, D.fgt]) (by simp [D.pures, D.pure, Cp.free, D.pures_map]) (by simp [Out.pure, D.pure, D.pures, Cp.free, D.pures_map])
                ((try simp only [wpAft_ret, wpAft_pan, putS, updS, setS]); (repeat (rw [wpS_cons]; simp)); (try simp only [wpS_nil, thenD, blockD]))
                (refine hA2 ([0, 1]) _ _ _ (LeT.refl _) (by decide) (by simp) (by simp [movT, movH, movD, D.mov, HO.mov, okM, renM, getW, D.ren, D.rens, D.okN, D.okNs, Cp.ren, Cp.okN, HO.ren, HO.okN, okA, renA, renO, hOf, handed, D.fgt, D.fgts, List.range_succ, List.idxOf_cons, putAll]) ?_ rfl; simp [movT, movH, movD, D.mov, HO.mov, okM, renM, getW, D.ren, D.rens, D.okN, D.okNs, Cp.ren, Cp.okN, HO.ren, HO.okN, okA, renA, renO, hOf, handed, D.fgt, D.fgts, List.range_succ, List.idxOf_cons])
                simpa using hF
              | false =>
                simp only [askOut, if_false, Bool.false_eq_true] at hrec
                (refine wpD_region tyOK ?_; ((repeat (rw [wpS_cons]; simp)); (try simp only [wpS_nil, thenD, blockD])))
                refine CallX.pure globPure (hrec) ?_ (by simp [D.fgts, D.fgt, wrongD]) (by simp [D.pures, D.pure, Cp.free, D.pures_map, wrongD]) (by simp [Out.pure, D.pure, D.pures, Cp.free, D.pures_map, wrongD])
                ((try simp only [wpAft_ret, wpAft_pan, putS, updS, setS]); (repeat (rw [wpS_cons]; simp)); (try simp only [wpS_nil, thenD, blockD]))
                ((try simp only [thenD, blockD]); refine EndQ.pan (.inl ?_); simp [Out.fgt, D.fgt, D.fgts])
                rw [hF]; simp [askOut, wrongD, D.fgt, D.fgts]
            | false =>
              rw [if_neg Bool.false_ne_true] at hbd
              subst hbd
              (refine wpD_seqk fun K hK => ?_; refine wpD_region tyOK ?_; ((repeat (rw [wpS_cons]; simp)); (try simp only [wpS_nil, thenD, blockD])))
              refine CallX.pure globPure (hbi) ?_ (by simp [D.fgts, D.fgt]) (by simp [D.pures, D.pure, Cp.free, D.pures_map]) (by simp [Out.pure, D.pure, D.pures, Cp.free, D.pures_map])
              ((try simp only [wpAft_ret, wpAft_pan, putS, updS, setS]); (repeat (rw [wpS_cons]; simp)); (try simp only [wpS_nil, thenD, blockD]))
              (refine hK _ _ _ ?_; clear hK K)
              refine wpD_part rfl (fun h => by simp at h) (fun _ => ?_)
              refine wpD_skip (hK2 _ _ _ ?_)
              cases Bx with
              | true =>
                simp only [askOut, if_true] at hrec
                (refine wpD_region tyOK ?_; ((repeat (rw [wpS_cons]; simp)); (try simp only [wpS_nil, thenD, blockD])))
                refine CallX.pure globPure (hrec) ?_ (by simp [D.fgts, D.fgt]) (by simp [D.pures, D.pure, Cp.free, D.pures_map]) (by simp [Out.pure, D.pure, D.pures, Cp.free, D.pures_map])
                ((try simp only [wpAft_ret, wpAft_pan, putS, updS, setS]); (repeat (rw [wpS_cons]; simp)); (try simp only [wpS_nil, thenD, blockD]))
                (refine hA2 ([0, 1]) _ _ _ (LeT.refl _) (by decide) (by simp) (by simp [movT, movH, movD, D.mov, HO.mov, okM, renM, getW, D.ren, D.rens, D.okN, D.okNs, Cp.ren, Cp.okN, HO.ren, HO.okN, okA, renA, renO, hOf, handed, D.fgt, D.fgts, List.range_succ, List.idxOf_cons, putAll]) ?_ rfl; simp [movT, movH, movD, D.mov, HO.mov, okM, renM, getW, D.ren, D.rens, D.okN, D.okNs, Cp.ren, Cp.okN, HO.ren, HO.okN, okA, renA, renO, hOf, handed, D.fgt, D.fgts, List.range_succ, List.idxOf_cons])
                simpa using hF
              | false =>
                simp only [askOut, if_false, Bool.false_eq_true] at hrec
                (refine wpD_region tyOK ?_; ((repeat (rw [wpS_cons]; simp)); (try simp only [wpS_nil, thenD, blockD])))
                refine CallX.pure globPure (hrec) ?_ (by simp [D.fgts, D.fgt, wrongD]) (by simp [D.pures, D.pure, Cp.free, D.pures_map, wrongD]) (by simp [Out.pure, D.pure, D.pures, Cp.free, D.pures_map, wrongD])
                ((try simp only [wpAft_ret, wpAft_pan, putS, updS, setS]); (repeat (rw [wpS_cons]; simp)); (try simp only [wpS_nil, thenD, blockD]))
                ((try simp only [thenD, blockD]); refine EndQ.pan (.inl ?_); simp [Out.fgt, D.fgt, D.fgts])
                rw [hF]; simp [askOut, wrongD, D.fgt, D.fgts]
          · rintro ys hl tl' ⟨rfl, hF, rfl⟩ htl
            rw [ksC_end] at hF
            subst hF
            ((try simp only [thenD, blockD]); refine EndQ.nrm rfl (.inl ?_); simp [tmOf, Out.fgt, D.fgt, D.fgts])
            simp [askOut]
end Go.Proofs.YtebmlojhdnldgaaGreatDoor

namespace Go.Proofs.YtebmlojhdnldgaaGreatDoor
set_option linter.unusedSimpArgs false
set_option linter.unusedVariables false
set_option maxHeartbeats 10000000
set_option maxRecDepth 20000
open Go.RowKit
attribute [local simp] wpAft_ret wpAft_pan wantD evOp opD tmOf putS updS setS hOf isFree isTok fillD TK.isAgg TK.known partD thenD blockD putAll D.ofV inB nilTest isNilS binX binD binE isCst bndD capB IntKind.min IntKind.max IntKind.signed IntKind.bits dstOf late
theorem catchR_idle (b : Bool) : SpecD Tryz.prog glob 54 [.box 0 0] [.cells 4 [.bool b]] none (fun hc => hc = [.cells 4 [.bool b]]) := by
  refine wpD_specd tyOK Tryz.func54 rfl rfl (fun a w => rfl) rfl (enters _ _ Tryz.func54 rfl (by decide)) rfl rfl ?_
  ((try simp only [wpAft_ret, wpAft_pan, putS, updS, setS]); (repeat (rw [wpS_cons]; simp)); (try simp only [wpS_nil, thenD, blockD]))
  (refine wpD_seqk fun K hK => ?_; refine wpD_region tyOK ?_; ((repeat (rw [wpS_cons]; simp)); (try simp only [wpS_nil, thenD, blockD])); refine hK _ _ _ ?_; clear hK K)
  refine wpD_part rfl (fun h => by simp at h) (fun _ => ?_)
  refine wpD_skip ?_
  refine EndQ.nrm rfl ?_
  simp [updS]
theorem catchR_wrong (b : Bool) : SpecD Tryz.prog glob 54 [.box 0 0] [.cells 4 [.bool b]] (some wrongD) (fun hc => hc = [.cells 4 [.bool false], .cells 88 []]) := by
  refine wpD_specd tyOK Tryz.func54 rfl rfl (fun a w => rfl) rfl (enters _ _ Tryz.func54 rfl (by decide)) rfl rfl ?_
  unfold wrongD
  ((try simp only [wpAft_ret, wpAft_pan, putS, updS, setS]); (repeat (rw [wpS_cons]; simp)); (try simp only [wpS_nil, thenD, blockD]))
  (refine wpD_seqk fun K hK => ?_; refine wpD_region tyOK ?_; ((repeat (rw [wpS_cons]; simp)); (try simp only [wpS_nil, thenD, blockD])); refine hK _ _ _ ?_; clear hK K)
  refine wpD_part rfl (fun _ => ?_) (fun h => by simp at h)
  refine wpD_seqk fun K1 hK1 => ?_
  (refine wpD_seqk fun K hK => ?_; refine wpD_region tyOK ?_; ((repeat (rw [wpS_cons]; simp)); (try simp only [wpS_nil, thenD, blockD])); refine hK _ _ _ ?_; clear hK K)
  (refine wpD_seqk fun K hK => ?_; refine wpD_region tyOK ?_; ((repeat (rw [wpS_cons]; simp)); (try simp only [wpS_nil, thenD, blockD])); refine hK _ _ _ ?_; clear hK K)
  refine wpD_part rfl (fun h => by simp at h) (fun _ => ?_)
  refine wpD_skip (hK1 _ _ _ ?_)
  (refine wpD_region tyOK ?_; ((repeat (rw [wpS_cons]; simp)); (try simp only [wpS_nil, thenD, blockD])))
  refine EndQ.nrm rfl ?_
  simp
theorem coreRight_spec (n sc : Int) (cs : List Int) (t : T) (hcs : cs.length ≤ LMax) (ht : okT t) : Spec Tryz.prog glob 22 [.int .i64 n, .int .i64 sc, Ints cs, encT t] [] (fun o _ => o.fgt = .ret (.bool (rightB n sc cs t))) := by
  have hw := cwalk_spec n cs hcs t sc ht
  have hR : rightB n sc cs t = (decide (0 ≤ n) && decide (0 ≤ sc) && coreB n cs t sc) := rfl
  generalize rightB n sc cs t = R at hR ⊢
  generalize coreB n cs t sc = B at hR hw
  unfold walkD at hw
  rw [encT_eq t] at hw ⊢
  unfold Ints at hw ⊢
  have hk := kinds_spec
  refine Spec.movd globPure (wpD_specD tyOK Tryz.func22 rfl (enters _ _ Tryz.func22 rfl (by decide)) rfl rfl ?_)
  (refine wpD_seqk fun K hK => ?_; refine wpD_region tyOK ?_; ((repeat (rw [wpS_cons]; simp)); (try simp only [wpS_nil, thenD, blockD])); refine hK _ _ _ ?_; clear hK K)
  (refine wpD_seqk fun K hK => ?_; refine wpD_region tyOK ?_; ((repeat (rw [wpS_cons]; simp)); (try simp only [wpS_nil, thenD, blockD])); refine hK _ _ _ ?_; clear hK K)
  cases hm : decide (0 ≤ n) && decide (0 ≤ sc) with
  | false =>
    rw [hm, Bool.false_and] at hR
    subst hR
    (refine wpD_seqk fun K hK => ?_; refine wpD_region tyOK ?_; ((repeat (rw [wpS_cons]; simp)); (try simp only [wpS_nil, thenD, blockD])))
    refine CallX.pure globPure (must_no [decide (0 ≤ n), decide (0 ≤ sc)] (by simpa [-Bool.and_eq_false_imp] using hm)) ?_ (by simp [D.fgts, D.fgt, Bools, wrongD]) (by simp [D.pures, D.pure, Cp.free, D.pures_map, Bools, wrongD]) (by simp [Out.pure, D.pure, D.pures, Cp.free, D.pures_map, Bools, wrongD])
    ((try simp only [wpAft_ret, wpAft_pan, putS, updS, setS]); (repeat (rw [wpS_cons]; simp)); (try simp only [wpS_nil, thenD, blockD]))
    (try simp only [thenD, blockD])
    refine DefX.objs globPure [1] (catchR_wrong false) ?_ ?_ (fun d h => by cases h; rfl) (by decide) (by simp) (by simp [D.ren, D.rens, D.okN, D.okNs, Cp.ren, Cp.okN, HO.ren, HO.okN, okA, renA, renO, hOf, handed, D.fgt, D.fgts, List.range_succ, List.idxOf_cons]) (by simp [D.ren, D.rens, D.okN, D.okNs, Cp.ren, Cp.okN, HO.ren, HO.okN, okA, renA, renO, hOf, handed, D.fgt, D.fgts, List.range_succ, List.idxOf_cons]) (by simp [D.ren, D.rens, D.okN, D.okNs, Cp.ren, Cp.okN, HO.ren, HO.okN, okA, renA, renO, hOf, handed, D.fgt, D.fgts, List.range_succ, List.idxOf_cons]) (by simp [D.ren, D.rens, D.okN, D.okNs, Cp.ren, Cp.okN, HO.ren, HO.okN, okA, renA, renO, hOf, handed, D.fgt, D.fgts, List.range_succ, List.idxOf_cons, wrongD])
    · rintro hc rfl
      simp [D.ren, D.rens, D.okN, D.okNs, Cp.ren, Cp.okN, HO.ren, HO.okN, okA, renA, renO, hOf, handed, D.fgt, D.fgts, List.range_succ, List.idxOf_cons, upO, updS, setS]
      refine endD.intro rfl (.inr ⟨[], by decide, by simp, ?_⟩)
      simp [Out.mov, movT, movH, movD, D.mov, HO.mov, okM, renM, getW, D.ren, D.rens, D.okN, D.okNs, Cp.ren, Cp.okN, HO.ren, HO.okN, okA, renA, renO, hOf, handed, D.fgt, D.fgts, List.range_succ, List.idxOf_cons, Out.fgt, D.fgt]
    · rintro hc rfl
      simp
  | true =>
    rw [hm, Bool.true_and] at hR
    subst hR
    (refine wpD_seqk fun K hK => ?_; refine wpD_region tyOK ?_; ((repeat (rw [wpS_cons]; simp)); (try simp only [wpS_nil, thenD, blockD])))
    refine CallX.pure globPure (must_ok [decide (0 ≤ n), decide (0 ≤ sc)] (by simpa using hm)) ?_ (by simp [D.fgts, D.fgt, Bools]) (by simp [D.pures, D.pure, Cp.free, D.pures_map, Bools]) (by simp [Out.pure, D.pure, D.pures, Cp.free, D.pures_map, Bools])
    ((try simp only [wpAft_ret, wpAft_pan, putS, updS, setS]); (repeat (rw [wpS_cons]; simp)); (try simp only [wpS_nil, thenD, blockD]))
    (refine hK _ _ _ ?_; clear hK K)
    cases R with
    | true =>
      simp only [askOut, if_true] at hw
      (refine wpD_seqk fun K hK => ?_; refine wpD_drawk tyOK (by kernel_rfl) (by kernel_rfl) fun KT hKT => ?_; ((repeat (rw [wpT_cons]; simp)); (try simp only [wpT_nil])))
      refine CallY.pure globPure (hk) ?_ (by simp [D.fgts, D.fgt]) (by simp [D.pures, D.pure, Cp.free, D.pures_map]) (by simp [Out.pure, D.pure, D.pures, Cp.free, D.pures_map])
      ((try simp only [wpAftT_ret, wpAftT_pan, putS, updS, setS]); (repeat (rw [wpT_cons]; simp)); (try simp only [wpT_nil]))
      refine CallY.pure globPure (hw) ?_ (by simp [D.fgts, D.fgt]) (by simp [D.pures, D.pure, Cp.free, D.pures_map]) (by simp [Out.pure, D.pure, D.pures, Cp.free, D.pures_map])
      ((try simp only [wpAftT_ret, wpAftT_pan, putS, updS, setS]); (repeat (rw [wpT_cons]; simp)); (try simp only [wpT_nil]))
      (refine hKT _ _ _ _ (by kernel_rfl) ?_; clear hKT KT; (try simp only [thenD, blockD]))
      (refine hK _ _ _ ?_; clear hK K)
      (refine wpD_seqk fun K hK => ?_; refine wpD_region tyOK ?_; ((repeat (rw [wpS_cons]; simp)); (try simp only [wpS_nil, thenD, blockD])); refine hK _ _ _ ?_; clear hK K)
      refine wpD_ret ?_
      refine DefX.objs globPure [1] (catchR_idle true) ?_ ?_ (fun d h => by cases h) (by decide) (by simp) (by simp [D.ren, D.rens, D.okN, D.okNs, Cp.ren, Cp.okN, HO.ren, HO.okN, okA, renA, renO, hOf, handed, D.fgt, D.fgts, List.range_succ, List.idxOf_cons]) (by simp [D.ren, D.rens, D.okN, D.okNs, Cp.ren, Cp.okN, HO.ren, HO.okN, okA, renA, renO, hOf, handed, D.fgt, D.fgts, List.range_succ, List.idxOf_cons]) (by simp [D.ren, D.rens, D.okN, D.okNs, Cp.ren, Cp.okN, HO.ren, HO.okN, okA, renA, renO, hOf, handed, D.fgt, D.fgts, List.range_succ, List.idxOf_cons]) (by simp [D.ren, D.rens, D.okN, D.okNs, Cp.ren, Cp.okN, HO.ren, HO.okN, okA, renA, renO, hOf, handed, D.fgt, D.fgts, List.range_succ, List.idxOf_cons])
      · rintro hc rfl
        simp [D.ren, D.rens, D.okN, D.okNs, Cp.ren, Cp.okN, HO.ren, HO.okN, okA, renA, renO, hOf, handed, D.fgt, D.fgts, List.range_succ, List.idxOf_cons, upO, updS, setS]
        refine endD.intro rfl (.inr ⟨[], by decide, by simp, ?_⟩)
        simp [Out.mov, movT, movH, movD, D.mov, HO.mov, okM, renM, getW, D.ren, D.rens, D.okN, D.okNs, Cp.ren, Cp.okN, HO.ren, HO.okN, okA, renA, renO, hOf, handed, D.fgt, D.fgts, List.range_succ, List.idxOf_cons, Out.fgt, D.fgt]
      · rintro hc rfl
        simp
    | false =>
      simp only [askOut, if_false, Bool.false_eq_true] at hw
      (refine wpD_seqk fun K hK => ?_; refine wpD_drawk tyOK (by kernel_rfl) (by kernel_rfl) fun KT hKT => ?_; ((repeat (rw [wpT_cons]; simp)); (try simp only [wpT_nil])))
      refine CallY.pure globPure (hk) ?_ (by simp [D.fgts, D.fgt]) (by simp [D.pures, D.pure, Cp.free, D.pures_map]) (by simp [Out.pure, D.pure, D.pures, Cp.free, D.pures_map])
      ((try simp only [wpAftT_ret, wpAftT_pan, putS, updS, setS]); (repeat (rw [wpT_cons]; simp)); (try simp only [wpT_nil]))
      refine CallY.pure globPure (hw) ?_ (by simp [D.fgts, D.fgt, wrongD]) (by simp [D.pures, D.pure, Cp.free, D.pures_map, wrongD]) (by simp [Out.pure, D.pure, D.pures, Cp.free, D.pures_map, wrongD])
      ((try simp only [wpAftT_ret, wpAftT_pan, putS, updS, setS]); (repeat (refine wpT_late _ _ _ _ (by kernel_rfl) ?_; simp only [putS, List.set, List.nil_append, List.cons_append, Nat.reduceAdd])); (try simp only [wpT_nil]))
      (refine hKT _ _ _ _ (by kernel_rfl) ?_; clear hKT KT; (try simp only [thenD, blockD]))
      simp
      refine DefX.objs globPure [1] (catchR_wrong false) ?_ ?_ (fun d h => by cases h; rfl) (by decide) (by simp [killHl]) (by simp [D.ren, D.rens, D.okN, D.okNs, Cp.ren, Cp.okN, HO.ren, HO.okN, okA, renA, renO, hOf, handed, D.fgt, D.fgts, List.range_succ, List.idxOf_cons, killHl]) (by simp [D.ren, D.rens, D.okN, D.okNs, Cp.ren, Cp.okN, HO.ren, HO.okN, okA, renA, renO, hOf, handed, D.fgt, D.fgts, List.range_succ, List.idxOf_cons, killHl]) (by simp [D.ren, D.rens, D.okN, D.okNs, Cp.ren, Cp.okN, HO.ren, HO.okN, okA, renA, renO, hOf, handed, D.fgt, D.fgts, List.range_succ, List.idxOf_cons]) (by simp [D.ren, D.rens, D.okN, D.okNs, Cp.ren, Cp.okN, HO.ren, HO.okN, okA, renA, renO, hOf, handed, D.fgt, D.fgts, List.range_succ, List.idxOf_cons, wrongD])
      · rintro hc rfl
        simp [D.ren, D.rens, D.okN, D.okNs, Cp.ren, Cp.okN, HO.ren, HO.okN, okA, renA, renO, hOf, handed, D.fgt, D.fgts, List.range_succ, List.idxOf_cons, upO, updS, setS, killHl, killTl]
        refine endD.intro rfl (.inr ⟨[], by decide, by simp, ?_⟩)
        simp [Out.mov, movT, movH, movD, D.mov, HO.mov, okM, renM, getW, D.ren, D.rens, D.okN, D.okNs, Cp.ren, Cp.okN, HO.ren, HO.okN, okA, renA, renO, hOf, handed, D.fgt, D.fgts, List.range_succ, List.idxOf_cons, Out.fgt, D.fgt]
      · rintro hc rfl
        simp
end Go.Proofs.YtebmlojhdnldgaaGreatDoor

namespace Go.Proofs.YtebmlojhdnldgaaGreatDoor
set_option linter.unusedSimpArgs false
set_option linter.unusedVariables false
set_option maxHeartbeats 10000000
set_option maxRecDepth 20000
open Go.RowKit
attribute [local simp] wpAft_ret wpAft_pan wantD evOp opD tmOf putS updS setS hOf isFree isTok fillD TK.isAgg TK.known partD thenD blockD putAll D.ofV inB nilTest isNilS binX binD binE isCst bndD capB IntKind.min IntKind.max IntKind.signed IntKind.bits dstOf late
theorem sameLevels_gen (p : LV → LV → Bool) (l m : List (LV)) (hl : l.length ≤ LMax) (hm : m.length ≤ LMax) (hg : ∀ x y, x ∈ l → y ∈ m → Spec Tryz.prog glob 69 [encL x, encL y] [] (fun o _ => o.fgt = .ret (.bool (p x y)))) :
    Spec Tryz.prog glob 39 [.slice (l.map encL) .any, .slice (m.map encL) .any] [] (fun o _ => o.fgt = .ret (.bool (eqAll p l m))) := by
  obtain ⟨R, hR⟩ : ∃ R, R = eqAll p l m := ⟨_, rfl⟩
  rw [← hR]
  have hl0 := hl
  unfold LMax at hl0
  refine Spec.movd globPure (wpD_spec tyOK Tryz.func39 rfl (enters _ _ Tryz.func39 rfl (by decide)) rfl rfl ?_)
  (refine wpD_seqk fun K hK => ?_; refine wpD_region tyOK ?_; ((repeat (rw [wpS_cons]; simp)); (try simp only [wpS_nil, thenD, blockD])); refine hK _ _ _ ?_; clear hK K)
  refine wpD_seqk fun K1 hK1 => ?_
  by_cases hlen : l.length = m.length
  · have hlen' : (l.length : Int) = m.length := by omega
    (refine wpD_seqk fun K hK => ?_; refine wpD_region tyOK ?_; ((repeat (rw [wpS_cons]; simp [hlen, hlen'])); (try simp only [wpS_nil, thenD, blockD])); refine hK _ _ _ ?_; clear hK K)
    refine wpD_part rfl (fun h => by simp at h) (fun _ => ?_)
    refine wpD_skip (hK1 _ _ _ ?_)
    clear hK1 K1
    refine wpD_seqk fun K1 hK1 => ?_
    (refine wpD_seqk fun K hK => ?_; refine wpD_region tyOK ?_; ((repeat (rw [wpS_cons]; simp)); (try simp only [wpS_nil, thenD, blockD])); refine hK _ _ _ ?_; clear hK K)
    refine wpD_block ?_
    refine wpD_loopWJ [4, 11, 12, 13, 14, 15, 16, 17, 18, 19, 20, 21, 22, 23, 24, 25, 26] [5] (fun n ys hl => ∃ (k : Nat), ys = [.int .i64 k] ∧ n + k = l.length ∧ R = eqAll p (l.drop k) (m.drop k) ∧ hl = []) (l.length) (by kernel_rfl) ?_ ?_
    · exact ⟨0, rfl, rfl, hR, rfl⟩
    · rintro n ys hl A hA ⟨i, rfl, hn, hF, rfl⟩
      simp only [putAll, List.set, List.map_cons, List.map_nil, List.cons_append, List.nil_append]
      refine wpD_seqk fun K2 hK2 => ?_
      by_cases hi : i < l.length
      · have hi2 : i < m.length := by omega
        have hi' : (i : Int) < l.length := by omega
        have hi2' : (i : Int) < m.length := by omega
        (refine wpD_seqk fun K hK => ?_; refine wpD_region tyOK ?_; ((repeat (rw [wpS_cons]; simp [hi, hi'])); (try simp only [wpS_nil, thenD, blockD])); refine hK _ _ _ ?_; clear hK K)
        refine wpD_part rfl (fun _ => ?_) (fun h => by simp at h)
        refine wpD_skip (hK2 _ _ _ ?_)
        clear hK2 K2
        refine wpD_seqk fun K3 hK3 => ?_
        refine wpD_block ?_
        rw [eqAll_drop hi hi2] at hF
        have hrec := hg l[i] m[i] (List.getElem_mem hi) (List.getElem_mem hi2)
        obtain ⟨x, hx⟩ : ∃ x, l[i] = x := ⟨_, rfl⟩
        obtain ⟨y, hy⟩ : ∃ y, m[i] = y := ⟨_, rfl⟩
        rw [hx, hy] at hrec hF
        have hEx : encL x = .agg [.slice (x.map encP) .any] := rfl
        have hEy : encL y = .agg [.slice (y.map encP) .any] := rfl
        rw [hEx, hEy] at hrec
        generalize p x y = B at hrec hF
        (refine wpD_seqk fun K hK => ?_; refine wpD_drawk tyOK (by kernel_rfl) (by kernel_rfl) fun KT hKT => ?_; ((repeat (rw [wpT_cons]; simp [hi, hi', hx, hi2, hi2', hy, hEx, hEy])); (try simp only [wpT_nil])))
        refine CallY.pure globPure (hrec) ?_ (by simp [D.fgts, D.fgt]) (by simp [D.pures, D.pure, Cp.free, D.pures_map]) (by simp [Out.pure, D.pure, D.pures, Cp.free, D.pures_map])
        ((try simp only [wpAftT_ret, wpAftT_pan, putS, updS, setS]); (repeat (rw [wpT_cons]; simp)); (try simp only [wpT_nil]))
        (refine hKT _ _ _ _ (by kernel_rfl) ?_; clear hKT KT; (try simp only [thenD, blockD]))
        (refine hK _ _ _ ?_; clear hK K)
        cases B with
        | true =>
          refine wpD_part rfl (fun h => by simp at h) (fun _ => ?_)
          refine wpD_skip (hK3 _ _ _ ?_)
          clear hK3 K3
          have hw1 : IntKind.i64.wrap ((i : Int) + 1) = (i : Int) + 1 := i64w (by omega) (by omega)
          (refine wpD_region tyOK ?_; ((repeat (rw [wpS_cons]; simp [hw1])); (try simp only [wpS_nil, thenD, blockD])))
          refine hA (n - 1) _ _ _ (LeT.refl _) (by omega) (by kernel_rfl) ?_
          exact ⟨i + 1, rfl, by omega, by simpa using hF, rfl⟩
        | false =>
          refine wpD_part rfl (fun _ => ?_) (fun h => by simp at h)
          (refine wpD_seqk fun K hK => ?_; refine wpD_region tyOK ?_; ((repeat (rw [wpS_cons]; simp)); (try simp only [wpS_nil, thenD, blockD])); refine hK _ _ _ ?_; clear hK K)
          (refine wpD_ret ?_; (try simp only [thenD, blockD]); refine EndQ.ret rfl (.inl ?_); simp [tmOf, Out.fgt, D.fgt, D.fgts])
          simpa using hF
      · have hi' : ¬ (i : Int) < l.length := by omega
        (refine wpD_seqk fun K hK => ?_; refine wpD_region tyOK ?_; ((repeat (rw [wpS_cons]; simp [hi, hi'])); (try simp only [wpS_nil, thenD, blockD])); refine hK _ _ _ ?_; clear hK K)
        refine wpD_part rfl (fun h => by simp at h) (fun _ => ?_)
        refine wpD_exit ?_
        refine hK1 _ _ _ ?_
        rw [List.drop_of_length_le (by omega), List.drop_of_length_le (by omega)] at hF
        have hF' : R = true := hF
        subst hF'
        (refine wpD_seqk fun K hK => ?_; refine wpD_region tyOK ?_; ((repeat (rw [wpS_cons]; simp)); (try simp only [wpS_nil, thenD, blockD])); refine hK _ _ _ ?_; clear hK K)
        (refine wpD_ret ?_; (try simp only [thenD, blockD]); refine EndQ.ret rfl (.inl ?_); simp [tmOf, Out.fgt, D.fgt, D.fgts])
  · have hlen' : ¬ (l.length : Int) = m.length := by omega
    (refine wpD_seqk fun K hK => ?_; refine wpD_region tyOK ?_; ((repeat (rw [wpS_cons]; simp [hlen, hlen'])); (try simp only [wpS_nil, thenD, blockD])); refine hK _ _ _ ?_; clear hK K)
    refine wpD_part rfl (fun _ => ?_) (fun h => by simp at h)
    (refine wpD_seqk fun K hK => ?_; refine wpD_region tyOK ?_; ((repeat (rw [wpS_cons]; simp)); (try simp only [wpS_nil, thenD, blockD])); refine hK _ _ _ ?_; clear hK K)
    (refine wpD_ret ?_; (try simp only [thenD, blockD]); refine EndQ.ret rfl (.inl ?_); simp [tmOf, Out.fgt, D.fgt, D.fgts])
    rw [hR]; exact eqAll_len hlen
theorem sameTerms_gen (p : T → T → Bool) (l m : List (T)) (hl : l.length ≤ LMax) (hm : m.length ≤ LMax) (hg : ∀ x y, x ∈ l → y ∈ m → Spec Tryz.prog glob 13 [encT x, encT y] [] (fun o _ => o.fgt = .ret (.bool (p x y)))) :
    Spec Tryz.prog glob 40 [.slice (l.map encT) .any, .slice (m.map encT) .any] [] (fun o _ => o.fgt = .ret (.bool (eqAll p l m))) := by
  obtain ⟨R, hR⟩ : ∃ R, R = eqAll p l m := ⟨_, rfl⟩
  rw [← hR]
  have hl0 := hl
  unfold LMax at hl0
  refine Spec.movd globPure (wpD_spec tyOK Tryz.func40 rfl (enters _ _ Tryz.func40 rfl (by decide)) rfl rfl ?_)
  (refine wpD_seqk fun K hK => ?_; refine wpD_region tyOK ?_; ((repeat (rw [wpS_cons]; simp)); (try simp only [wpS_nil, thenD, blockD])); refine hK _ _ _ ?_; clear hK K)
  refine wpD_seqk fun K1 hK1 => ?_
  by_cases hlen : l.length = m.length
  · have hlen' : (l.length : Int) = m.length := by omega
    (refine wpD_seqk fun K hK => ?_; refine wpD_region tyOK ?_; ((repeat (rw [wpS_cons]; simp [hlen, hlen'])); (try simp only [wpS_nil, thenD, blockD])); refine hK _ _ _ ?_; clear hK K)
    refine wpD_part rfl (fun h => by simp at h) (fun _ => ?_)
    refine wpD_skip (hK1 _ _ _ ?_)
    clear hK1 K1
    refine wpD_seqk fun K1 hK1 => ?_
    (refine wpD_seqk fun K hK => ?_; refine wpD_region tyOK ?_; ((repeat (rw [wpS_cons]; simp)); (try simp only [wpS_nil, thenD, blockD])); refine hK _ _ _ ?_; clear hK K)
    refine wpD_block ?_
    refine wpD_loopWJ [4, 11, 12, 13, 14, 15, 16, 17, 18, 19, 20, 21, 22, 23, 24, 25, 26] [5] (fun n ys hl => ∃ (k : Nat), ys = [.int .i64 k] ∧ n + k = l.length ∧ R = eqAll p (l.drop k) (m.drop k) ∧ hl = []) (l.length) (by kernel_rfl) ?_ ?_
    · exact ⟨0, rfl, rfl, hR, rfl⟩
    · rintro n ys hl A hA ⟨i, rfl, hn, hF, rfl⟩
      simp only [putAll, List.set, List.map_cons, List.map_nil, List.cons_append, List.nil_append]
      refine wpD_seqk fun K2 hK2 => ?_
      by_cases hi : i < l.length
      · have hi2 : i < m.length := by omega
        have hi' : (i : Int) < l.length := by omega
        have hi2' : (i : Int) < m.length := by omega
        (refine wpD_seqk fun K hK => ?_; refine wpD_region tyOK ?_; ((repeat (rw [wpS_cons]; simp [hi, hi'])); (try simp only [wpS_nil, thenD, blockD])); refine hK _ _ _ ?_; clear hK K)
        refine wpD_part rfl (fun _ => ?_) (fun h => by simp at h)
        refine wpD_skip (hK2 _ _ _ ?_)
        clear hK2 K2
        refine wpD_seqk fun K3 hK3 => ?_
        refine wpD_block ?_
        rw [eqAll_drop hi hi2] at hF
        have hrec := hg l[i] m[i] (List.getElem_mem hi) (List.getElem_mem hi2)
        obtain ⟨x, hx⟩ : ∃ x, l[i] = x := ⟨_, rfl⟩
        obtain ⟨y, hy⟩ : ∃ y, m[i] = y := ⟨_, rfl⟩
        rw [hx, hy] at hrec hF
        have hEx := encT_eq x
        have hEy := encT_eq y
        rw [hEx, hEy] at hrec
        generalize p x y = B at hrec hF
        (refine wpD_seqk fun K hK => ?_; refine wpD_drawk tyOK (by kernel_rfl) (by kernel_rfl) fun KT hKT => ?_; ((repeat (rw [wpT_cons]; simp [hi, hi', hx, hi2, hi2', hy, hEx, hEy])); (try simp only [wpT_nil])))
        refine CallY.pure globPure (hrec) ?_ (by simp [D.fgts, D.fgt]) (by simp [D.pures, D.pure, Cp.free, D.pures_map]) (by simp [Out.pure, D.pure, D.pures, Cp.free, D.pures_map])
        ((try simp only [wpAftT_ret, wpAftT_pan, putS, updS, setS]); (repeat (rw [wpT_cons]; simp)); (try simp only [wpT_nil]))
        (refine hKT _ _ _ _ (by kernel_rfl) ?_; clear hKT KT; (try simp only [thenD, blockD]))
        (refine hK _ _ _ ?_; clear hK K)
        cases B with
        | true =>
          refine wpD_part rfl (fun h => by simp at h) (fun _ => ?_)
          refine wpD_skip (hK3 _ _ _ ?_)
          clear hK3 K3
          have hw1 : IntKind.i64.wrap ((i : Int) + 1) = (i : Int) + 1 := i64w (by omega) (by omega)
          (refine wpD_region tyOK ?_; ((repeat (rw [wpS_cons]; simp [hw1])); (try simp only [wpS_nil, thenD, blockD])))
          refine hA (n - 1) _ _ _ (LeT.refl _) (by omega) (by kernel_rfl) ?_
          exact ⟨i + 1, rfl, by omega, by simpa using hF, rfl⟩
        | false =>
          refine wpD_part rfl (fun _ => ?_) (fun h => by simp at h)
          (refine wpD_seqk fun K hK => ?_; refine wpD_region tyOK ?_; ((repeat (rw [wpS_cons]; simp)); (try simp only [wpS_nil, thenD, blockD])); refine hK _ _ _ ?_; clear hK K)
          (refine wpD_ret ?_; (try simp only [thenD, blockD]); refine EndQ.ret rfl (.inl ?_); simp [tmOf, Out.fgt, D.fgt, D.fgts])
          simpa using hF
      · have hi' : ¬ (i : Int) < l.length := by omega
        (refine wpD_seqk fun K hK => ?_; refine wpD_region tyOK ?_; ((repeat (rw [wpS_cons]; simp [hi, hi'])); (try simp only [wpS_nil, thenD, blockD])); refine hK _ _ _ ?_; clear hK K)
        refine wpD_part rfl (fun h => by simp at h) (fun _ => ?_)
        refine wpD_exit ?_
        refine hK1 _ _ _ ?_
        rw [List.drop_of_length_le (by omega), List.drop_of_length_le (by omega)] at hF
        have hF' : R = true := hF
        subst hF'
        (refine wpD_seqk fun K hK => ?_; refine wpD_region tyOK ?_; ((repeat (rw [wpS_cons]; simp)); (try simp only [wpS_nil, thenD, blockD])); refine hK _ _ _ ?_; clear hK K)
        (refine wpD_ret ?_; (try simp only [thenD, blockD]); refine EndQ.ret rfl (.inl ?_); simp [tmOf, Out.fgt, D.fgt, D.fgts])
  · have hlen' : ¬ (l.length : Int) = m.length := by omega
    (refine wpD_seqk fun K hK => ?_; refine wpD_region tyOK ?_; ((repeat (rw [wpS_cons]; simp [hlen, hlen'])); (try simp only [wpS_nil, thenD, blockD])); refine hK _ _ _ ?_; clear hK K)
    refine wpD_part rfl (fun _ => ?_) (fun h => by simp at h)
    (refine wpD_seqk fun K hK => ?_; refine wpD_region tyOK ?_; ((repeat (rw [wpS_cons]; simp)); (try simp only [wpS_nil, thenD, blockD])); refine hK _ _ _ ?_; clear hK K)
    (refine wpD_ret ?_; (try simp only [thenD, blockD]); refine EndQ.ret rfl (.inl ?_); simp [tmOf, Out.fgt, D.fgt, D.fgts])
    rw [hR]; exact eqAll_len hlen
theorem eqAll_eq {α : Type} [DecidableEq α] : ∀ l m : List α, eqAll (fun x y => decide (x = y)) l m = decide (l = m)
  | [], [] => by simp [eqAll]
  | [], _ :: _ => by simp [eqAll]
  | _ :: _, [] => by simp [eqAll]
  | a :: r, b :: s => by rw [eqAll, eqAll_eq r s]; by_cases h : a = b <;> simp [h]
mutual
/-- are two terms one datum? -/
def T.eqB : T → T → Bool
  | .mk k n a ls ks, .mk k' n' a' ls' ks' => decide (k = k') && decide (n = n') && decide (a = a') && decide (ls = ls') && T.eqsB ks ks'
def T.eqsB : List T → List T → Bool
  | [], [] => true
  | a :: r, b :: s => T.eqB a b && T.eqsB r s
  | [], _ :: _ => false
  | _ :: _, [] => false
end
mutual
theorem T.eqB_iff : ∀ t u : T, T.eqB t u = true ↔ t = u
  | .mk k n a ls ks, .mk k' n' a' ls' ks' => by rw [T.eqB]; simp [T.eqsB_iff ks ks', and_assoc]
theorem T.eqsB_iff : ∀ l m : List T, T.eqsB l m = true ↔ l = m
  | [], [] => by rw [T.eqsB]; simp
  | a :: r, b :: s => by rw [T.eqsB]; simp [T.eqB_iff a b, T.eqsB_iff r s]
  | [], _ :: _ => by rw [T.eqsB]; simp
  | _ :: _, [] => by rw [T.eqsB]; simp
end
theorem eqs_all : ∀ l m : List T, T.eqsB l m = eqAll T.eqB l m
  | [], [] => by rw [T.eqsB]; rfl
  | a :: r, b :: s => by rw [T.eqsB, eqs_all r s]; rfl
  | [], _ :: _ => by rw [T.eqsB]; rfl
  | _ :: _, [] => by rw [T.eqsB]; rfl
theorem sameLevels_spec (l m : List LV) (hl : l.length ≤ LMax) (hm : m.length ≤ LMax) (hls : ∀ x, x ∈ l → x.length ≤ LMax) (hms : ∀ x, x ∈ m → x.length ≤ LMax) :
    Spec Tryz.prog glob 39 [.slice (l.map encL) .any, .slice (m.map encL) .any] [] (fun o _ => o.fgt = .ret (.bool (decide (l = m)))) := by
  rw [← eqAll_eq]
  exact sameLevels_gen _ l m hl hm fun x y hx hy => sameLevel_spec x y (hls x hx) (hms y hy)
theorem eqT_spec (t : T) : ∀ u, okT t → okT u → Spec Tryz.prog glob 13 [encT t, encT u] [] (fun o _ => o.fgt = .ret (.bool (t.eqB u))) := by
  induction t using T.ind with
  | h k n a ls ks ih =>
    rintro ⟨k', n', a', ls', ks'⟩ ht hu
    have hls := ht.ls
    have hls' := hu.ls
    have hks := ht.ks
    have hks' := hu.ks
    simp only [T.ls_mk, T.ks_mk] at hls hls' hks hks'
    have hL := sameLevels_spec ls ls' ht.ll hu.ll (fun x hx => (hls x hx).1) (fun x hx => (hls' x hx).1)
    have hT := sameTerms_gen T.eqB ks ks' ht.kl hu.kl (fun x y hx hy => ih x hx y (hks x hx) (hks' y hy))
    have hF : (T.mk k n a ls ks).eqB (.mk k' n' a' ls' ks') = (decide (k = k') && decide (n = n') && decide (a = a') && decide (ls = ls') && T.eqsB ks ks') := by rw [T.eqB]
    rw [hF, eqs_all]
    generalize eqAll T.eqB ks ks' = B2 at hT ⊢
    generalize decide (ls = ls') = B1 at hL ⊢
    clear hF ih hls hls' hks hks' ht hu
    rw [encT_eq, encT_eq]
    simp only [T.k_mk, T.n_mk, T.a_mk, T.ls_mk, T.ks_mk]
    refine Spec.movd globPure (wpD_spec tyOK Tryz.func13 rfl (enters _ _ Tryz.func13 rfl (by decide)) rfl rfl ?_)
    (refine wpD_seqk fun K hK => ?_; refine wpD_region tyOK ?_; ((repeat (rw [wpS_cons]; simp)); (try simp only [wpS_nil, thenD, blockD])); refine hK _ _ _ ?_; clear hK K)
    by_cases h1 : k = k'
    · subst h1
      by_cases h2 : n = n'
      · subst h2
        by_cases h3 : a = a'
        · subst h3
          cases B1 with
          | true =>
            (refine wpD_seqk fun K hK => ?_; refine wpD_region tyOK ?_; ((repeat (rw [wpS_cons]; simp)); (try simp only [wpS_nil, thenD, blockD])))
            refine CallX.pure globPure (hL) ?_ (by simp [D.fgts, D.fgt]) (by simp [D.pures, D.pure, Cp.free, D.pures_map]) (by simp [Out.pure, D.pure, D.pures, Cp.free, D.pures_map])
            ((try simp only [wpAft_ret, wpAft_pan, putS, updS, setS]); (repeat (rw [wpS_cons]; simp)); (try simp only [wpS_nil, thenD, blockD]))
            refine CallX.pure globPure (hT) ?_ (by simp [D.fgts, D.fgt]) (by simp [D.pures, D.pure, Cp.free, D.pures_map]) (by simp [Out.pure, D.pure, D.pures, Cp.free, D.pures_map])
            ((try simp only [wpAft_ret, wpAft_pan, putS, updS, setS]); (repeat (rw [wpS_cons]; simp)); (try simp only [wpS_nil, thenD, blockD]))
            (refine hK _ _ _ ?_; clear hK K)
            (refine wpD_ret ?_; (try simp only [thenD, blockD]); refine EndQ.ret rfl (.inl ?_); simp [tmOf, Out.fgt, D.fgt, D.fgts])
          | false =>
            (refine wpD_seqk fun K hK => ?_; refine wpD_region tyOK ?_; ((repeat (rw [wpS_cons]; simp)); (try simp only [wpS_nil, thenD, blockD])))
            refine CallX.pure globPure (hL) ?_ (by simp [D.fgts, D.fgt]) (by simp [D.pures, D.pure, Cp.free, D.pures_map]) (by simp [Out.pure, D.pure, D.pures, Cp.free, D.pures_map])
            ((try simp only [wpAft_ret, wpAft_pan, putS, updS, setS]); (repeat (rw [wpS_cons]; simp)); (try simp only [wpS_nil, thenD, blockD]))
            (refine hK _ _ _ ?_; clear hK K)
            (refine wpD_ret ?_; (try simp only [thenD, blockD]); refine EndQ.ret rfl (.inl ?_); simp [tmOf, Out.fgt, D.fgt, D.fgts])
        · (refine wpD_seqk fun K hK => ?_; refine wpD_region tyOK ?_; ((repeat (rw [wpS_cons]; simp [h3])); (try simp only [wpS_nil, thenD, blockD])); refine hK _ _ _ ?_; clear hK K)
          (refine wpD_ret ?_; (try simp only [thenD, blockD]); refine EndQ.ret rfl (.inl ?_); simp [tmOf, Out.fgt, D.fgt, D.fgts])
          simp [h3]
      · (refine wpD_seqk fun K hK => ?_; refine wpD_region tyOK ?_; ((repeat (rw [wpS_cons]; simp [h2])); (try simp only [wpS_nil, thenD, blockD])); refine hK _ _ _ ?_; clear hK K)
        (refine wpD_ret ?_; (try simp only [thenD, blockD]); refine EndQ.ret rfl (.inl ?_); simp [tmOf, Out.fgt, D.fgt, D.fgts])
        simp [h2]
    · (refine wpD_seqk fun K hK => ?_; refine wpD_region tyOK ?_; ((repeat (rw [wpS_cons]; simp [h1])); (try simp only [wpS_nil, thenD, blockD])); refine hK _ _ _ ?_; clear hK K)
      (refine wpD_ret ?_; (try simp only [thenD, blockD]); refine EndQ.ret rfl (.inl ?_); simp [tmOf, Out.fgt, D.fgt, D.fgts])
      simp [h1]
end Go.Proofs.YtebmlojhdnldgaaGreatDoor

namespace Go.Proofs.YtebmlojhdnldgaaGreatDoor
set_option linter.unusedSimpArgs false
set_option linter.unusedVariables false
set_option maxHeartbeats 10000000
set_option maxRecDepth 20000
open Go.RowKit
attribute [local simp] wpAft_ret wpAft_pan wantD evOp opD tmOf putS updS setS hOf isFree isTok fillD TK.isAgg TK.known partD thenD blockD putAll D.ofV inB nilTest isNilS binX binD binE isCst bndD capB IntKind.min IntKind.max IntKind.signed IntKind.bits dstOf late
def outNum (n : Int) : Bool := decide (n < 0) || decide (1048576 < n)
/-- how many kids, levels a node of a kind has -/
def nodeKids (k a : Int) : Int := if k = 24 then IntKind.i64.wrap ((kindAt k).2.2.2.1 + a) else (kindAt k).2.2.2.1
def nodeMost (k : Int) : Int := if k = 10 then 10 else 8
def nodeIn (k n a : Int) : Bool := decide (1 ≤ k) && decide (k ≤ 24) && !(outNum n || outNum a)
def nodeHas (k n a : Int) (ls : List LV) (len : Nat) : Bool :=
  decide ((len : Int) = nodeKids k a) && (decide (n = 0) || (kindAt k).1) && (decide (a = 0) || (kindAt k).2.1) && (decide ((kindAt k).2.2.1 < 0) || decide ((ls.length : Int) = (kindAt k).2.2.1)) && decide ((ls.length : Int) ≤ nodeMost k)
def nodeT (t : T) : Bool := nodeIn t.k t.n t.a && nodeHas t.k t.n t.a t.ls t.ks.length && !(t.ls.any fun l => !levelRight l 9)
end Go.Proofs.YtebmlojhdnldgaaGreatDoor

namespace Go.Proofs.YtebmlojhdnldgaaGreatDoor
set_option linter.unusedSimpArgs false
set_option linter.unusedVariables false
set_option maxHeartbeats 10000000
set_option maxRecDepth 20000
open Go.RowKit
attribute [local simp] wpAft_ret wpAft_pan wantD evOp opD tmOf putS updS setS hOf isFree isTok fillD TK.isAgg TK.known partD thenD blockD putAll D.ofV inB nilTest isNilS binX binD binE isCst bndD capB IntKind.min IntKind.max IntKind.signed IntKind.bits dstOf late
mutual
/-- what is counted: is all right, how many -/
def T.cnt : T → Int → Int → Bool × Int
  | .mk k n a ls ks, deep, c =>
    let c1 := IntKind.i64.wrap (c + 1)
    if deep ≤ 400 ∧ c1 ≤ 20000 ∧ nodeT (.mk k n a ls ks) = true then T.cnts ks (IntKind.i64.wrap (deep + 1)) c1 else (false, c1)
def T.cnts : List T → Int → Int → Bool × Int
  | [], _, c => (true, c)
  | t :: r, deep, c => if (T.cnt t deep c).1 = true then T.cnts r deep (T.cnt t deep c).2 else (false, (T.cnt t deep c).2)
end
end Go.Proofs.YtebmlojhdnldgaaGreatDoor

