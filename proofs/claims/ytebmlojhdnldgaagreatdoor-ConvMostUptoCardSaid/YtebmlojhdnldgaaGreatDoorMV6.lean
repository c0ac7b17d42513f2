/-
  MV6: the texts Hx Hrn Hy Hz Ha Hb Lrt Ccd Ccl Hc Cva Cvb, one behind the other.
-/
import Derived.Test.YtebmlojhdnldgaaGreatDoorMV5
namespace Go.Proofs.YtebmlojhdnldgaaGreatDoor
set_option linter.unusedSimpArgs false
set_option linter.unusedVariables false
set_option maxHeartbeats 10000000
set_option maxRecDepth 20000
open Go.RowKit
attribute [local simp] wpAft_ret wpAft_pan wantD evOp opD tmOf putS updS setS hOf isFree isTok fillD TK.isAgg TK.known partD thenD blockD putAll D.ofV inB nilTest isNilS binX binD binE isCst bndD capB IntKind.min IntKind.max IntKind.signed IntKind.bits dstOf late
theorem OwnP_cases (left : Int) (l : List C) (once done : Bool) (t : T) (w : Option (T × Nat)) : (∃ v b lf, OwnP left l once done t w = fun o hc => o.fgt = .ret (.tuple [encT v, .bool b]) ∧ hc = wObjs lf l once done) ∨ OwnP left l once done t w = fun o hc => o = .pan goneD ∧ hc = [.dead, .dead] := by
  cases w with
  | none => exact .inl ⟨t, false, left, rfl⟩
  | some p =>
    by_cases h : (p.2 : Int) ≤ left
    · exact .inl ⟨p.1, true, left - p.2, Cost_ok h⟩
    · exact .inr (Cost_no h)
theorem placeX_some {t : T} {i many : Nat} (h : spot t = some (i, many)) : placeX t = t.kid i := by unfold placeX; rw [h]
theorem placeX_none {t : T} (h : spot t = none) : placeX t = zeroT := by unfold placeX; rw [h]
theorem step_6 (left : Int) (l : List C) (once done : Bool) (hl : left ≤ 9223372036854775807) (t : T) (ht : okS t) (hk : t.k = 6) {i many : Nat} (hs : spot t = some (i, many)) (hp : Spec Tryz.prog glob 71 [.box 0 0, encT t, encT (placeX t)] (wObjs left l once done) (OwnP left l once done t (ownS l t (placeX t)))) : Spec Tryz.prog glob 81 [.box 0 0, encT t] (wObjs left l once done) (OwnP left l once done t (ownS l t (placeX t))) := by
  have hsp := spot_spec t ht.1.kl
  rw [spotO_some hs ht.1.kl] at hsp
  have hki := kidn_spec t i i rfl
  rw [← placeX_some hs] at hki
  rcases OwnP_cases left l once done t (ownS l t (placeX t)) with ⟨v, b, lf, e⟩ | e
  · rw [e] at hp ⊢
    generalize placeX t = x at hp hki
    have hEx := encT_eq x
    rw [hEx, encT_eq t, encT_eq v, hk] at hp
    rw [encT_eq t] at hsp
    rw [hEx, encT_eq t, hk] at hki
    rw [encT_eq t]
    unfold wObjs headD Cs stepsM at hp ⊢
    refine Spec.movd globPure (wpD_spec tyOK Tryz.func81 rfl (enters _ _ Tryz.func81 rfl (by decide)) rfl rfl ?_)
    (refine wpD_seqk fun K hK => ?_; refine wpD_region tyOK ?_; ((repeat (rw [wpS_cons]; simp)); (try simp only [wpS_nil, thenD, blockD])); refine hK _ _ _ ?_; clear hK K)
    (refine wpD_seqk fun K hK => ?_; refine wpD_region tyOK ?_; ((repeat (rw [wpS_cons]; simp)); (try simp only [wpS_nil, thenD, blockD])))
    refine cXp (hsp) ?_
    ((try simp only [wpAft_ret, wpAft_pan, putS, updS, setS]); (repeat (rw [wpS_cons]; simp)); (try simp only [wpS_nil, thenD, blockD]))
    (refine hK _ _ _ ?_; clear hK K)
    (refine wpD_seqk fun K hK => ?_; refine wpD_drawk tyOK (by kernel_rfl) (by kernel_rfl) fun KT hKT => ?_; ((repeat (rw [wpT_cons]; simp [hk])); (try simp only [wpT_nil])))
    (refine hKT _ _ _ _ (by kernel_rfl) ?_; clear hKT KT; (try simp only [thenD, blockD]))
    (refine hK _ _ _ ?_; clear hK K)
    refine wpD_seqk fun K1 hK1 => ?_
    (refine wpD_seqk fun K hK => ?_; refine wpD_region tyOK ?_; ((repeat (rw [wpS_cons]; simp [hk])); (try simp only [wpS_nil, thenD, blockD])); refine hK _ _ _ ?_; clear hK K)
    refine wpD_part rfl (fun h => by simp at h) (fun _ => ?_)
    refine wpD_skip (hK1 _ _ _ ?_)
    (refine wpD_seqk fun K hK => ?_; refine wpD_region tyOK ?_; ((repeat (rw [wpS_cons]; simp)); (try simp only [wpS_nil, thenD, blockD])); refine hK _ _ _ ?_; clear hK K)
    refine wpD_seqk fun K2 hK2 => ?_
    (refine wpD_seqk fun K hK => ?_; refine wpD_region tyOK ?_; ((repeat (rw [wpS_cons]; simp)); (try simp only [wpS_nil, thenD, blockD])); refine hK _ _ _ ?_; clear hK K)
    refine wpD_part rfl (fun _ => ?_) (fun h => by simp at h)
    (refine wpD_region tyOK ?_; ((repeat (rw [wpS_cons]; simp)); (try simp only [wpS_nil, thenD, blockD])))
    refine cXp (hki) ?_
    ((try simp only [wpAft_ret, wpAft_pan, putS, updS, setS]); (repeat (rw [wpS_cons]; simp)); (try simp only [wpS_nil, thenD, blockD]))
    refine hK2 _ _ _ ?_
    (refine wpD_seqk fun K hK => ?_; refine wpD_region tyOK ?_; ((repeat (rw [wpS_cons]; simp)); (try simp only [wpS_nil, thenD, blockD])))
    refine cXo [0, 1] true (hp) ?_
    (rintro o hc ⟨ho, rfl⟩; refine ⟨true, ?_⟩; rw [show told true o = _ from ho]; clear ho; simp [D.ren, D.rens, D.okN, D.okNs, Cp.ren, Cp.okN, HO.ren, HO.okN, okA, renA, renO, hOf, handed, D.fgt, D.fgts, List.range_succ, List.idxOf_cons, Out.ren, told, Out.fgt, upO, updS, setS])
    ((try simp only [wpAft_ret, wpAft_pan, putS, updS, setS]); (repeat (rw [wpS_cons]; simp)); (try simp only [wpS_nil, thenD, blockD]))
    (refine hK _ _ _ ?_; clear hK K)
    (refine wpD_ret ?_; (try simp only [thenD, blockD]); refine EndQ.ret rfl (.inr ⟨[], by decide, by simp, ?_⟩); simp [Out.mov, movT, movH, movD, D.mov, HO.mov, okM, renM, getW, D.ren, D.rens, D.okN, D.okNs, Cp.ren, Cp.okN, HO.ren, HO.okN, okA, renA, renO, hOf, handed, D.fgt, D.fgts, List.range_succ, List.idxOf_cons, tmOf, Out.fgt, D.fgt, D.fgts])
    first | done | simp [encT_eq v]
  · rw [e] at hp ⊢
    generalize placeX t = x at hp hki
    have hEx := encT_eq x
    rw [hEx, encT_eq t, hk] at hp
    rw [encT_eq t] at hsp
    rw [hEx, encT_eq t, hk] at hki
    rw [encT_eq t]
    unfold wObjs headD Cs stepsM goneD at hp
    unfold wObjs headD Cs stepsM goneD
    refine Spec.movd globPure (wpD_spec tyOK Tryz.func81 rfl (enters _ _ Tryz.func81 rfl (by decide)) rfl rfl ?_)
    (refine wpD_seqk fun K hK => ?_; refine wpD_region tyOK ?_; ((repeat (rw [wpS_cons]; simp)); (try simp only [wpS_nil, thenD, blockD])); refine hK _ _ _ ?_; clear hK K)
    (refine wpD_seqk fun K hK => ?_; refine wpD_region tyOK ?_; ((repeat (rw [wpS_cons]; simp)); (try simp only [wpS_nil, thenD, blockD])))
    refine cXp (hsp) ?_
    ((try simp only [wpAft_ret, wpAft_pan, putS, updS, setS]); (repeat (rw [wpS_cons]; simp)); (try simp only [wpS_nil, thenD, blockD]))
    (refine hK _ _ _ ?_; clear hK K)
    (refine wpD_seqk fun K hK => ?_; refine wpD_drawk tyOK (by kernel_rfl) (by kernel_rfl) fun KT hKT => ?_; ((repeat (rw [wpT_cons]; simp [hk])); (try simp only [wpT_nil])))
    (refine hKT _ _ _ _ (by kernel_rfl) ?_; clear hKT KT; (try simp only [thenD, blockD]))
    (refine hK _ _ _ ?_; clear hK K)
    refine wpD_seqk fun K1 hK1 => ?_
    (refine wpD_seqk fun K hK => ?_; refine wpD_region tyOK ?_; ((repeat (rw [wpS_cons]; simp [hk])); (try simp only [wpS_nil, thenD, blockD])); refine hK _ _ _ ?_; clear hK K)
    refine wpD_part rfl (fun h => by simp at h) (fun _ => ?_)
    refine wpD_skip (hK1 _ _ _ ?_)
    (refine wpD_seqk fun K hK => ?_; refine wpD_region tyOK ?_; ((repeat (rw [wpS_cons]; simp)); (try simp only [wpS_nil, thenD, blockD])); refine hK _ _ _ ?_; clear hK K)
    refine wpD_seqk fun K2 hK2 => ?_
    (refine wpD_seqk fun K hK => ?_; refine wpD_region tyOK ?_; ((repeat (rw [wpS_cons]; simp)); (try simp only [wpS_nil, thenD, blockD])); refine hK _ _ _ ?_; clear hK K)
    refine wpD_part rfl (fun _ => ?_) (fun h => by simp at h)
    (refine wpD_region tyOK ?_; ((repeat (rw [wpS_cons]; simp)); (try simp only [wpS_nil, thenD, blockD])))
    refine cXp (hki) ?_
    ((try simp only [wpAft_ret, wpAft_pan, putS, updS, setS]); (repeat (rw [wpS_cons]; simp)); (try simp only [wpS_nil, thenD, blockD]))
    refine hK2 _ _ _ ?_
    (refine wpD_seqk fun K hK => ?_; refine wpD_region tyOK ?_; ((repeat (rw [wpS_cons]; simp)); (try simp only [wpS_nil, thenD, blockD])))
    refine cXo [0, 1] true (hp) ?_
    (rintro o hc ⟨rfl, rfl⟩; refine ⟨false, ?_⟩; simp [D.ren, D.rens, D.okN, D.okNs, Cp.ren, Cp.okN, HO.ren, HO.okN, okA, renA, renO, hOf, handed, D.fgt, D.fgts, List.range_succ, List.idxOf_cons, Out.ren, told, Out.fgt, upO, updS, setS])
    ((try simp only [thenD, blockD]); refine EndQ.pan (.inr ⟨[], by decide, by simp, ?_⟩); simp [Out.mov, movT, movH, movD, D.mov, HO.mov, okM, renM, getW, D.ren, D.rens, D.okN, D.okNs, Cp.ren, Cp.okN, HO.ren, HO.okN, okA, renA, renO, hOf, handed, D.fgt, D.fgts, List.range_succ, List.idxOf_cons, tmOf, Out.fgt, D.fgt, D.fgts])
theorem step_14 (left : Int) (l : List C) (once done : Bool) (hl : left ≤ 9223372036854775807) (t : T) (ht : okS t) (hk : t.k = 14) {i many : Nat} (hs : spot t = some (i, many)) (hp : Spec Tryz.prog glob 72 [.box 0 0, encT t, encT (placeX t)] (wObjs left l once done) (OwnP left l once done t (ownS l t (placeX t)))) : Spec Tryz.prog glob 81 [.box 0 0, encT t] (wObjs left l once done) (OwnP left l once done t (ownS l t (placeX t))) := by
  have hsp := spot_spec t ht.1.kl
  rw [spotO_some hs ht.1.kl] at hsp
  have hki := kidn_spec t i i rfl
  rw [← placeX_some hs] at hki
  rcases OwnP_cases left l once done t (ownS l t (placeX t)) with ⟨v, b, lf, e⟩ | e
  · rw [e] at hp ⊢
    generalize placeX t = x at hp hki
    have hEx := encT_eq x
    rw [hEx, encT_eq t, encT_eq v, hk] at hp
    rw [encT_eq t] at hsp
    rw [hEx, encT_eq t, hk] at hki
    rw [encT_eq t]
    unfold wObjs headD Cs stepsM at hp ⊢
    refine Spec.movd globPure (wpD_spec tyOK Tryz.func81 rfl (enters _ _ Tryz.func81 rfl (by decide)) rfl rfl ?_)
    (refine wpD_seqk fun K hK => ?_; refine wpD_region tyOK ?_; ((repeat (rw [wpS_cons]; simp)); (try simp only [wpS_nil, thenD, blockD])); refine hK _ _ _ ?_; clear hK K)
    (refine wpD_seqk fun K hK => ?_; refine wpD_region tyOK ?_; ((repeat (rw [wpS_cons]; simp)); (try simp only [wpS_nil, thenD, blockD])))
    refine cXp (hsp) ?_
    ((try simp only [wpAft_ret, wpAft_pan, putS, updS, setS]); (repeat (rw [wpS_cons]; simp)); (try simp only [wpS_nil, thenD, blockD]))
    (refine hK _ _ _ ?_; clear hK K)
    (refine wpD_seqk fun K hK => ?_; refine wpD_drawk tyOK (by kernel_rfl) (by kernel_rfl) fun KT hKT => ?_; ((repeat (rw [wpT_cons]; simp [hk])); (try simp only [wpT_nil])))
    (refine hKT _ _ _ _ (by kernel_rfl) ?_; clear hKT KT; (try simp only [thenD, blockD]))
    (refine hK _ _ _ ?_; clear hK K)
    refine wpD_seqk fun K1 hK1 => ?_
    (refine wpD_seqk fun K hK => ?_; refine wpD_region tyOK ?_; ((repeat (rw [wpS_cons]; simp [hk])); (try simp only [wpS_nil, thenD, blockD])); refine hK _ _ _ ?_; clear hK K)
    refine wpD_part rfl (fun h => by simp at h) (fun _ => ?_)
    refine wpD_skip (hK1 _ _ _ ?_)
    (refine wpD_seqk fun K hK => ?_; refine wpD_region tyOK ?_; ((repeat (rw [wpS_cons]; simp)); (try simp only [wpS_nil, thenD, blockD])); refine hK _ _ _ ?_; clear hK K)
    refine wpD_seqk fun K2 hK2 => ?_
    (refine wpD_seqk fun K hK => ?_; refine wpD_region tyOK ?_; ((repeat (rw [wpS_cons]; simp)); (try simp only [wpS_nil, thenD, blockD])); refine hK _ _ _ ?_; clear hK K)
    refine wpD_part rfl (fun _ => ?_) (fun h => by simp at h)
    (refine wpD_region tyOK ?_; ((repeat (rw [wpS_cons]; simp)); (try simp only [wpS_nil, thenD, blockD])))
    refine cXp (hki) ?_
    ((try simp only [wpAft_ret, wpAft_pan, putS, updS, setS]); (repeat (rw [wpS_cons]; simp)); (try simp only [wpS_nil, thenD, blockD]))
    refine hK2 _ _ _ ?_
    (refine wpD_seqk fun K hK => ?_; refine wpD_region tyOK ?_; ((repeat (rw [wpS_cons]; simp)); (try simp only [wpS_nil, thenD, blockD])))
    refine cXo [0, 1] true (hp) ?_
    (rintro o hc ⟨ho, rfl⟩; refine ⟨true, ?_⟩; rw [show told true o = _ from ho]; clear ho; simp [D.ren, D.rens, D.okN, D.okNs, Cp.ren, Cp.okN, HO.ren, HO.okN, okA, renA, renO, hOf, handed, D.fgt, D.fgts, List.range_succ, List.idxOf_cons, Out.ren, told, Out.fgt, upO, updS, setS])
    ((try simp only [wpAft_ret, wpAft_pan, putS, updS, setS]); (repeat (rw [wpS_cons]; simp)); (try simp only [wpS_nil, thenD, blockD]))
    (refine hK _ _ _ ?_; clear hK K)
    (refine wpD_ret ?_; (try simp only [thenD, blockD]); refine EndQ.ret rfl (.inr ⟨[], by decide, by simp, ?_⟩); simp [Out.mov, movT, movH, movD, D.mov, HO.mov, okM, renM, getW, D.ren, D.rens, D.okN, D.okNs, Cp.ren, Cp.okN, HO.ren, HO.okN, okA, renA, renO, hOf, handed, D.fgt, D.fgts, List.range_succ, List.idxOf_cons, tmOf, Out.fgt, D.fgt, D.fgts])
    first | done | simp [encT_eq v]
  · rw [e] at hp ⊢
    generalize placeX t = x at hp hki
    have hEx := encT_eq x
    rw [hEx, encT_eq t, hk] at hp
    rw [encT_eq t] at hsp
    rw [hEx, encT_eq t, hk] at hki
    rw [encT_eq t]
    unfold wObjs headD Cs stepsM goneD at hp
    unfold wObjs headD Cs stepsM goneD
    refine Spec.movd globPure (wpD_spec tyOK Tryz.func81 rfl (enters _ _ Tryz.func81 rfl (by decide)) rfl rfl ?_)
    (refine wpD_seqk fun K hK => ?_; refine wpD_region tyOK ?_; ((repeat (rw [wpS_cons]; simp)); (try simp only [wpS_nil, thenD, blockD])); refine hK _ _ _ ?_; clear hK K)
    (refine wpD_seqk fun K hK => ?_; refine wpD_region tyOK ?_; ((repeat (rw [wpS_cons]; simp)); (try simp only [wpS_nil, thenD, blockD])))
    refine cXp (hsp) ?_
    ((try simp only [wpAft_ret, wpAft_pan, putS, updS, setS]); (repeat (rw [wpS_cons]; simp)); (try simp only [wpS_nil, thenD, blockD]))
    (refine hK _ _ _ ?_; clear hK K)
    (refine wpD_seqk fun K hK => ?_; refine wpD_drawk tyOK (by kernel_rfl) (by kernel_rfl) fun KT hKT => ?_; ((repeat (rw [wpT_cons]; simp [hk])); (try simp only [wpT_nil])))
    (refine hKT _ _ _ _ (by kernel_rfl) ?_; clear hKT KT; (try simp only [thenD, blockD]))
    (refine hK _ _ _ ?_; clear hK K)
    refine wpD_seqk fun K1 hK1 => ?_
    (refine wpD_seqk fun K hK => ?_; refine wpD_region tyOK ?_; ((repeat (rw [wpS_cons]; simp [hk])); (try simp only [wpS_nil, thenD, blockD])); refine hK _ _ _ ?_; clear hK K)
    refine wpD_part rfl (fun h => by simp at h) (fun _ => ?_)
    refine wpD_skip (hK1 _ _ _ ?_)
    (refine wpD_seqk fun K hK => ?_; refine wpD_region tyOK ?_; ((repeat (rw [wpS_cons]; simp)); (try simp only [wpS_nil, thenD, blockD])); refine hK _ _ _ ?_; clear hK K)
    refine wpD_seqk fun K2 hK2 => ?_
    (refine wpD_seqk fun K hK => ?_; refine wpD_region tyOK ?_; ((repeat (rw [wpS_cons]; simp)); (try simp only [wpS_nil, thenD, blockD])); refine hK _ _ _ ?_; clear hK K)
    refine wpD_part rfl (fun _ => ?_) (fun h => by simp at h)
    (refine wpD_region tyOK ?_; ((repeat (rw [wpS_cons]; simp)); (try simp only [wpS_nil, thenD, blockD])))
    refine cXp (hki) ?_
    ((try simp only [wpAft_ret, wpAft_pan, putS, updS, setS]); (repeat (rw [wpS_cons]; simp)); (try simp only [wpS_nil, thenD, blockD]))
    refine hK2 _ _ _ ?_
    (refine wpD_seqk fun K hK => ?_; refine wpD_region tyOK ?_; ((repeat (rw [wpS_cons]; simp)); (try simp only [wpS_nil, thenD, blockD])))
    refine cXo [0, 1] true (hp) ?_
    (rintro o hc ⟨rfl, rfl⟩; refine ⟨false, ?_⟩; simp [D.ren, D.rens, D.okN, D.okNs, Cp.ren, Cp.okN, HO.ren, HO.okN, okA, renA, renO, hOf, handed, D.fgt, D.fgts, List.range_succ, List.idxOf_cons, Out.ren, told, Out.fgt, upO, updS, setS])
    ((try simp only [thenD, blockD]); refine EndQ.pan (.inr ⟨[], by decide, by simp, ?_⟩); simp [Out.mov, movT, movH, movD, D.mov, HO.mov, okM, renM, getW, D.ren, D.rens, D.okN, D.okNs, Cp.ren, Cp.okN, HO.ren, HO.okN, okA, renA, renO, hOf, handed, D.fgt, D.fgts, List.range_succ, List.idxOf_cons, tmOf, Out.fgt, D.fgt, D.fgts])
theorem step_15 (left : Int) (l : List C) (once done : Bool) (hl : left ≤ 9223372036854775807) (t : T) (ht : okS t) (hk : t.k = 15) {i many : Nat} (hs : spot t = some (i, many)) (hp : Spec Tryz.prog glob 72 [.box 0 0, encT t, encT (placeX t)] (wObjs left l once done) (OwnP left l once done t (ownS l t (placeX t)))) : Spec Tryz.prog glob 81 [.box 0 0, encT t] (wObjs left l once done) (OwnP left l once done t (ownS l t (placeX t))) := by
  have hsp := spot_spec t ht.1.kl
  rw [spotO_some hs ht.1.kl] at hsp
  have hki := kidn_spec t i i rfl
  rw [← placeX_some hs] at hki
  rcases OwnP_cases left l once done t (ownS l t (placeX t)) with ⟨v, b, lf, e⟩ | e
  · rw [e] at hp ⊢
    generalize placeX t = x at hp hki
    have hEx := encT_eq x
    rw [hEx, encT_eq t, encT_eq v, hk] at hp
    rw [encT_eq t] at hsp
    rw [hEx, encT_eq t, hk] at hki
    rw [encT_eq t]
    unfold wObjs headD Cs stepsM at hp ⊢
    refine Spec.movd globPure (wpD_spec tyOK Tryz.func81 rfl (enters _ _ Tryz.func81 rfl (by decide)) rfl rfl ?_)
    (refine wpD_seqk fun K hK => ?_; refine wpD_region tyOK ?_; ((repeat (rw [wpS_cons]; simp)); (try simp only [wpS_nil, thenD, blockD])); refine hK _ _ _ ?_; clear hK K)
    (refine wpD_seqk fun K hK => ?_; refine wpD_region tyOK ?_; ((repeat (rw [wpS_cons]; simp)); (try simp only [wpS_nil, thenD, blockD])))
    refine cXp (hsp) ?_
    ((try simp only [wpAft_ret, wpAft_pan, putS, updS, setS]); (repeat (rw [wpS_cons]; simp)); (try simp only [wpS_nil, thenD, blockD]))
    (refine hK _ _ _ ?_; clear hK K)
    (refine wpD_seqk fun K hK => ?_; refine wpD_drawk tyOK (by kernel_rfl) (by kernel_rfl) fun KT hKT => ?_; ((repeat (rw [wpT_cons]; simp [hk])); (try simp only [wpT_nil])))
    (refine hKT _ _ _ _ (by kernel_rfl) ?_; clear hKT KT; (try simp only [thenD, blockD]))
    (refine hK _ _ _ ?_; clear hK K)
    refine wpD_seqk fun K1 hK1 => ?_
    (refine wpD_seqk fun K hK => ?_; refine wpD_region tyOK ?_; ((repeat (rw [wpS_cons]; simp [hk])); (try simp only [wpS_nil, thenD, blockD])); refine hK _ _ _ ?_; clear hK K)
    refine wpD_part rfl (fun h => by simp at h) (fun _ => ?_)
    refine wpD_skip (hK1 _ _ _ ?_)
    (refine wpD_seqk fun K hK => ?_; refine wpD_region tyOK ?_; ((repeat (rw [wpS_cons]; simp)); (try simp only [wpS_nil, thenD, blockD])); refine hK _ _ _ ?_; clear hK K)
    refine wpD_seqk fun K2 hK2 => ?_
    (refine wpD_seqk fun K hK => ?_; refine wpD_region tyOK ?_; ((repeat (rw [wpS_cons]; simp)); (try simp only [wpS_nil, thenD, blockD])); refine hK _ _ _ ?_; clear hK K)
    refine wpD_part rfl (fun _ => ?_) (fun h => by simp at h)
    (refine wpD_region tyOK ?_; ((repeat (rw [wpS_cons]; simp)); (try simp only [wpS_nil, thenD, blockD])))
    refine cXp (hki) ?_
    ((try simp only [wpAft_ret, wpAft_pan, putS, updS, setS]); (repeat (rw [wpS_cons]; simp)); (try simp only [wpS_nil, thenD, blockD]))
    refine hK2 _ _ _ ?_
    (refine wpD_seqk fun K hK => ?_; refine wpD_region tyOK ?_; ((repeat (rw [wpS_cons]; simp)); (try simp only [wpS_nil, thenD, blockD])))
    refine cXo [0, 1] true (hp) ?_
    (rintro o hc ⟨ho, rfl⟩; refine ⟨true, ?_⟩; rw [show told true o = _ from ho]; clear ho; simp [D.ren, D.rens, D.okN, D.okNs, Cp.ren, Cp.okN, HO.ren, HO.okN, okA, renA, renO, hOf, handed, D.fgt, D.fgts, List.range_succ, List.idxOf_cons, Out.ren, told, Out.fgt, upO, updS, setS])
    ((try simp only [wpAft_ret, wpAft_pan, putS, updS, setS]); (repeat (rw [wpS_cons]; simp)); (try simp only [wpS_nil, thenD, blockD]))
    (refine hK _ _ _ ?_; clear hK K)
    (refine wpD_ret ?_; (try simp only [thenD, blockD]); refine EndQ.ret rfl (.inr ⟨[], by decide, by simp, ?_⟩); simp [Out.mov, movT, movH, movD, D.mov, HO.mov, okM, renM, getW, D.ren, D.rens, D.okN, D.okNs, Cp.ren, Cp.okN, HO.ren, HO.okN, okA, renA, renO, hOf, handed, D.fgt, D.fgts, List.range_succ, List.idxOf_cons, tmOf, Out.fgt, D.fgt, D.fgts])
    first | done | simp [encT_eq v]
  · rw [e] at hp ⊢
    generalize placeX t = x at hp hki
    have hEx := encT_eq x
    rw [hEx, encT_eq t, hk] at hp
    rw [encT_eq t] at hsp
    rw [hEx, encT_eq t, hk] at hki
    rw [encT_eq t]
    unfold wObjs headD Cs stepsM goneD at hp
    unfold wObjs headD Cs stepsM goneD
    refine Spec.movd globPure (wpD_spec tyOK Tryz.func81 rfl (enters _ _ Tryz.func81 rfl (by decide)) rfl rfl ?_)
    (refine wpD_seqk fun K hK => ?_; refine wpD_region tyOK ?_; ((repeat (rw [wpS_cons]; simp)); (try simp only [wpS_nil, thenD, blockD])); refine hK _ _ _ ?_; clear hK K)
    (refine wpD_seqk fun K hK => ?_; refine wpD_region tyOK ?_; ((repeat (rw [wpS_cons]; simp)); (try simp only [wpS_nil, thenD, blockD])))
    refine cXp (hsp) ?_
    ((try simp only [wpAft_ret, wpAft_pan, putS, updS, setS]); (repeat (rw [wpS_cons]; simp)); (try simp only [wpS_nil, thenD, blockD]))
    (refine hK _ _ _ ?_; clear hK K)
    (refine wpD_seqk fun K hK => ?_; refine wpD_drawk tyOK (by kernel_rfl) (by kernel_rfl) fun KT hKT => ?_; ((repeat (rw [wpT_cons]; simp [hk])); (try simp only [wpT_nil])))
    (refine hKT _ _ _ _ (by kernel_rfl) ?_; clear hKT KT; (try simp only [thenD, blockD]))
    (refine hK _ _ _ ?_; clear hK K)
    refine wpD_seqk fun K1 hK1 => ?_
    (refine wpD_seqk fun K hK => ?_; refine wpD_region tyOK ?_; ((repeat (rw [wpS_cons]; simp [hk])); (try simp only [wpS_nil, thenD, blockD])); refine hK _ _ _ ?_; clear hK K)
    refine wpD_part rfl (fun h => by simp at h) (fun _ => ?_)
    refine wpD_skip (hK1 _ _ _ ?_)
    (refine wpD_seqk fun K hK => ?_; refine wpD_region tyOK ?_; ((repeat (rw [wpS_cons]; simp)); (try simp only [wpS_nil, thenD, blockD])); refine hK _ _ _ ?_; clear hK K)
    refine wpD_seqk fun K2 hK2 => ?_
    (refine wpD_seqk fun K hK => ?_; refine wpD_region tyOK ?_; ((repeat (rw [wpS_cons]; simp)); (try simp only [wpS_nil, thenD, blockD])); refine hK _ _ _ ?_; clear hK K)
    refine wpD_part rfl (fun _ => ?_) (fun h => by simp at h)
    (refine wpD_region tyOK ?_; ((repeat (rw [wpS_cons]; simp)); (try simp only [wpS_nil, thenD, blockD])))
    refine cXp (hki) ?_
    ((try simp only [wpAft_ret, wpAft_pan, putS, updS, setS]); (repeat (rw [wpS_cons]; simp)); (try simp only [wpS_nil, thenD, blockD]))
    refine hK2 _ _ _ ?_
    (refine wpD_seqk fun K hK => ?_; refine wpD_region tyOK ?_; ((repeat (rw [wpS_cons]; simp)); (try simp only [wpS_nil, thenD, blockD])))
    refine cXo [0, 1] true (hp) ?_
    (rintro o hc ⟨rfl, rfl⟩; refine ⟨false, ?_⟩; simp [D.ren, D.rens, D.okN, D.okNs, Cp.ren, Cp.okN, HO.ren, HO.okN, okA, renA, renO, hOf, handed, D.fgt, D.fgts, List.range_succ, List.idxOf_cons, Out.ren, told, Out.fgt, upO, updS, setS])
    ((try simp only [thenD, blockD]); refine EndQ.pan (.inr ⟨[], by decide, by simp, ?_⟩); simp [Out.mov, movT, movH, movD, D.mov, HO.mov, okM, renM, getW, D.ren, D.rens, D.okN, D.okNs, Cp.ren, Cp.okN, HO.ren, HO.okN, okA, renA, renO, hOf, handed, D.fgt, D.fgts, List.range_succ, List.idxOf_cons, tmOf, Out.fgt, D.fgt, D.fgts])
theorem step_18 (left : Int) (l : List C) (once done : Bool) (hl : left ≤ 9223372036854775807) (t : T) (ht : okS t) (hk : t.k = 18) {i many : Nat} (hs : spot t = some (i, many)) (hp : Spec Tryz.prog glob 75 [.box 0 0, encT t, encT (placeX t)] (wObjs left l once done) (OwnP left l once done t (ownS l t (placeX t)))) : Spec Tryz.prog glob 81 [.box 0 0, encT t] (wObjs left l once done) (OwnP left l once done t (ownS l t (placeX t))) := by
  have hsp := spot_spec t ht.1.kl
  rw [spotO_some hs ht.1.kl] at hsp
  have hki := kidn_spec t i i rfl
  rw [← placeX_some hs] at hki
  rcases OwnP_cases left l once done t (ownS l t (placeX t)) with ⟨v, b, lf, e⟩ | e
  · rw [e] at hp ⊢
    generalize placeX t = x at hp hki
    have hEx := encT_eq x
    rw [hEx, encT_eq t, encT_eq v, hk] at hp
    rw [encT_eq t] at hsp
    rw [hEx, encT_eq t, hk] at hki
    rw [encT_eq t]
    unfold wObjs headD Cs stepsM at hp ⊢
    refine Spec.movd globPure (wpD_spec tyOK Tryz.func81 rfl (enters _ _ Tryz.func81 rfl (by decide)) rfl rfl ?_)
    (refine wpD_seqk fun K hK => ?_; refine wpD_region tyOK ?_; ((repeat (rw [wpS_cons]; simp)); (try simp only [wpS_nil, thenD, blockD])); refine hK _ _ _ ?_; clear hK K)
    (refine wpD_seqk fun K hK => ?_; refine wpD_region tyOK ?_; ((repeat (rw [wpS_cons]; simp)); (try simp only [wpS_nil, thenD, blockD])))
    refine cXp (hsp) ?_
    ((try simp only [wpAft_ret, wpAft_pan, putS, updS, setS]); (repeat (rw [wpS_cons]; simp)); (try simp only [wpS_nil, thenD, blockD]))
    (refine hK _ _ _ ?_; clear hK K)
    (refine wpD_seqk fun K hK => ?_; refine wpD_drawk tyOK (by kernel_rfl) (by kernel_rfl) fun KT hKT => ?_; ((repeat (rw [wpT_cons]; simp [hk])); (try simp only [wpT_nil])))
    (refine hKT _ _ _ _ (by kernel_rfl) ?_; clear hKT KT; (try simp only [thenD, blockD]))
    (refine hK _ _ _ ?_; clear hK K)
    refine wpD_seqk fun K1 hK1 => ?_
    (refine wpD_seqk fun K hK => ?_; refine wpD_region tyOK ?_; ((repeat (rw [wpS_cons]; simp [hk])); (try simp only [wpS_nil, thenD, blockD])); refine hK _ _ _ ?_; clear hK K)
    refine wpD_part rfl (fun h => by simp at h) (fun _ => ?_)
    refine wpD_skip (hK1 _ _ _ ?_)
    (refine wpD_seqk fun K hK => ?_; refine wpD_region tyOK ?_; ((repeat (rw [wpS_cons]; simp)); (try simp only [wpS_nil, thenD, blockD])); refine hK _ _ _ ?_; clear hK K)
    refine wpD_seqk fun K2 hK2 => ?_
    (refine wpD_seqk fun K hK => ?_; refine wpD_region tyOK ?_; ((repeat (rw [wpS_cons]; simp)); (try simp only [wpS_nil, thenD, blockD])); refine hK _ _ _ ?_; clear hK K)
    refine wpD_part rfl (fun _ => ?_) (fun h => by simp at h)
    (refine wpD_region tyOK ?_; ((repeat (rw [wpS_cons]; simp)); (try simp only [wpS_nil, thenD, blockD])))
    refine cXp (hki) ?_
    ((try simp only [wpAft_ret, wpAft_pan, putS, updS, setS]); (repeat (rw [wpS_cons]; simp)); (try simp only [wpS_nil, thenD, blockD]))
    refine hK2 _ _ _ ?_
    (refine wpD_seqk fun K hK => ?_; refine wpD_region tyOK ?_; ((repeat (rw [wpS_cons]; simp)); (try simp only [wpS_nil, thenD, blockD])))
    refine cXo [0, 1] true (hp) ?_
    (rintro o hc ⟨ho, rfl⟩; refine ⟨true, ?_⟩; rw [show told true o = _ from ho]; clear ho; simp [D.ren, D.rens, D.okN, D.okNs, Cp.ren, Cp.okN, HO.ren, HO.okN, okA, renA, renO, hOf, handed, D.fgt, D.fgts, List.range_succ, List.idxOf_cons, Out.ren, told, Out.fgt, upO, updS, setS])
    ((try simp only [wpAft_ret, wpAft_pan, putS, updS, setS]); (repeat (rw [wpS_cons]; simp)); (try simp only [wpS_nil, thenD, blockD]))
    (refine hK _ _ _ ?_; clear hK K)
    (refine wpD_ret ?_; (try simp only [thenD, blockD]); refine EndQ.ret rfl (.inr ⟨[], by decide, by simp, ?_⟩); simp [Out.mov, movT, movH, movD, D.mov, HO.mov, okM, renM, getW, D.ren, D.rens, D.okN, D.okNs, Cp.ren, Cp.okN, HO.ren, HO.okN, okA, renA, renO, hOf, handed, D.fgt, D.fgts, List.range_succ, List.idxOf_cons, tmOf, Out.fgt, D.fgt, D.fgts])
    first | done | simp [encT_eq v]
  · rw [e] at hp ⊢
    generalize placeX t = x at hp hki
    have hEx := encT_eq x
    rw [hEx, encT_eq t, hk] at hp
    rw [encT_eq t] at hsp
    rw [hEx, encT_eq t, hk] at hki
    rw [encT_eq t]
    unfold wObjs headD Cs stepsM goneD at hp
    unfold wObjs headD Cs stepsM goneD
    refine Spec.movd globPure (wpD_spec tyOK Tryz.func81 rfl (enters _ _ Tryz.func81 rfl (by decide)) rfl rfl ?_)
    (refine wpD_seqk fun K hK => ?_; refine wpD_region tyOK ?_; ((repeat (rw [wpS_cons]; simp)); (try simp only [wpS_nil, thenD, blockD])); refine hK _ _ _ ?_; clear hK K)
    (refine wpD_seqk fun K hK => ?_; refine wpD_region tyOK ?_; ((repeat (rw [wpS_cons]; simp)); (try simp only [wpS_nil, thenD, blockD])))
    refine cXp (hsp) ?_
    ((try simp only [wpAft_ret, wpAft_pan, putS, updS, setS]); (repeat (rw [wpS_cons]; simp)); (try simp only [wpS_nil, thenD, blockD]))
    (refine hK _ _ _ ?_; clear hK K)
    (refine wpD_seqk fun K hK => ?_; refine wpD_drawk tyOK (by kernel_rfl) (by kernel_rfl) fun KT hKT => ?_; ((repeat (rw [wpT_cons]; simp [hk])); (try simp only [wpT_nil])))
    (refine hKT _ _ _ _ (by kernel_rfl) ?_; clear hKT KT; (try simp only [thenD, blockD]))
    (refine hK _ _ _ ?_; clear hK K)
    refine wpD_seqk fun K1 hK1 => ?_
    (refine wpD_seqk fun K hK => ?_; refine wpD_region tyOK ?_; ((repeat (rw [wpS_cons]; simp [hk])); (try simp only [wpS_nil, thenD, blockD])); refine hK _ _ _ ?_; clear hK K)
    refine wpD_part rfl (fun h => by simp at h) (fun _ => ?_)
    refine wpD_skip (hK1 _ _ _ ?_)
    (refine wpD_seqk fun K hK => ?_; refine wpD_region tyOK ?_; ((repeat (rw [wpS_cons]; simp)); (try simp only [wpS_nil, thenD, blockD])); refine hK _ _ _ ?_; clear hK K)
    refine wpD_seqk fun K2 hK2 => ?_
    (refine wpD_seqk fun K hK => ?_; refine wpD_region tyOK ?_; ((repeat (rw [wpS_cons]; simp)); (try simp only [wpS_nil, thenD, blockD])); refine hK _ _ _ ?_; clear hK K)
    refine wpD_part rfl (fun _ => ?_) (fun h => by simp at h)
    (refine wpD_region tyOK ?_; ((repeat (rw [wpS_cons]; simp)); (try simp only [wpS_nil, thenD, blockD])))
    refine cXp (hki) ?_
    ((try simp only [wpAft_ret, wpAft_pan, putS, updS, setS]); (repeat (rw [wpS_cons]; simp)); (try simp only [wpS_nil, thenD, blockD]))
    refine hK2 _ _ _ ?_
    (refine wpD_seqk fun K hK => ?_; refine wpD_region tyOK ?_; ((repeat (rw [wpS_cons]; simp)); (try simp only [wpS_nil, thenD, blockD])))
    refine cXo [0, 1] true (hp) ?_
    (rintro o hc ⟨rfl, rfl⟩; refine ⟨false, ?_⟩; simp [D.ren, D.rens, D.okN, D.okNs, Cp.ren, Cp.okN, HO.ren, HO.okN, okA, renA, renO, hOf, handed, D.fgt, D.fgts, List.range_succ, List.idxOf_cons, Out.ren, told, Out.fgt, upO, updS, setS])
    ((try simp only [thenD, blockD]); refine EndQ.pan (.inr ⟨[], by decide, by simp, ?_⟩); simp [Out.mov, movT, movH, movD, D.mov, HO.mov, okM, renM, getW, D.ren, D.rens, D.okN, D.okNs, Cp.ren, Cp.okN, HO.ren, HO.okN, okA, renA, renO, hOf, handed, D.fgt, D.fgts, List.range_succ, List.idxOf_cons, tmOf, Out.fgt, D.fgt, D.fgts])
theorem step_21 (left : Int) (l : List C) (once done : Bool) (hl : left ≤ 9223372036854775807) (t : T) (ht : okS t) (hk : t.k = 21) {i many : Nat} (hs : spot t = some (i, many)) (hp : Spec Tryz.prog glob 76 [.box 0 0, encT t, encT (placeX t)] (wObjs left l once done) (OwnP left l once done t (ownS l t (placeX t)))) : Spec Tryz.prog glob 81 [.box 0 0, encT t] (wObjs left l once done) (OwnP left l once done t (ownS l t (placeX t))) := by
  have hsp := spot_spec t ht.1.kl
  rw [spotO_some hs ht.1.kl] at hsp
  have hki := kidn_spec t i i rfl
  rw [← placeX_some hs] at hki
  rcases OwnP_cases left l once done t (ownS l t (placeX t)) with ⟨v, b, lf, e⟩ | e
  · rw [e] at hp ⊢
    generalize placeX t = x at hp hki
    have hEx := encT_eq x
    rw [hEx, encT_eq t, encT_eq v, hk] at hp
    rw [encT_eq t] at hsp
    rw [hEx, encT_eq t, hk] at hki
    rw [encT_eq t]
    unfold wObjs headD Cs stepsM at hp ⊢
    refine Spec.movd globPure (wpD_spec tyOK Tryz.func81 rfl (enters _ _ Tryz.func81 rfl (by decide)) rfl rfl ?_)
    (refine wpD_seqk fun K hK => ?_; refine wpD_region tyOK ?_; ((repeat (rw [wpS_cons]; simp)); (try simp only [wpS_nil, thenD, blockD])); refine hK _ _ _ ?_; clear hK K)
    (refine wpD_seqk fun K hK => ?_; refine wpD_region tyOK ?_; ((repeat (rw [wpS_cons]; simp)); (try simp only [wpS_nil, thenD, blockD])))
    refine cXp (hsp) ?_
    ((try simp only [wpAft_ret, wpAft_pan, putS, updS, setS]); (repeat (rw [wpS_cons]; simp)); (try simp only [wpS_nil, thenD, blockD]))
    (refine hK _ _ _ ?_; clear hK K)
    (refine wpD_seqk fun K hK => ?_; refine wpD_drawk tyOK (by kernel_rfl) (by kernel_rfl) fun KT hKT => ?_; ((repeat (rw [wpT_cons]; simp [hk])); (try simp only [wpT_nil])))
    (refine hKT _ _ _ _ (by kernel_rfl) ?_; clear hKT KT; (try simp only [thenD, blockD]))
    (refine hK _ _ _ ?_; clear hK K)
    refine wpD_seqk fun K1 hK1 => ?_
    (refine wpD_seqk fun K hK => ?_; refine wpD_region tyOK ?_; ((repeat (rw [wpS_cons]; simp [hk])); (try simp only [wpS_nil, thenD, blockD])); refine hK _ _ _ ?_; clear hK K)
    refine wpD_part rfl (fun h => by simp at h) (fun _ => ?_)
    refine wpD_skip (hK1 _ _ _ ?_)
    (refine wpD_seqk fun K hK => ?_; refine wpD_region tyOK ?_; ((repeat (rw [wpS_cons]; simp)); (try simp only [wpS_nil, thenD, blockD])); refine hK _ _ _ ?_; clear hK K)
    refine wpD_seqk fun K2 hK2 => ?_
    (refine wpD_seqk fun K hK => ?_; refine wpD_region tyOK ?_; ((repeat (rw [wpS_cons]; simp)); (try simp only [wpS_nil, thenD, blockD])); refine hK _ _ _ ?_; clear hK K)
    refine wpD_part rfl (fun _ => ?_) (fun h => by simp at h)
    (refine wpD_region tyOK ?_; ((repeat (rw [wpS_cons]; simp)); (try simp only [wpS_nil, thenD, blockD])))
    refine cXp (hki) ?_
    ((try simp only [wpAft_ret, wpAft_pan, putS, updS, setS]); (repeat (rw [wpS_cons]; simp)); (try simp only [wpS_nil, thenD, blockD]))
    refine hK2 _ _ _ ?_
    (refine wpD_seqk fun K hK => ?_; refine wpD_region tyOK ?_; ((repeat (rw [wpS_cons]; simp)); (try simp only [wpS_nil, thenD, blockD])))
    refine cXo [0, 1] true (hp) ?_
    (rintro o hc ⟨ho, rfl⟩; refine ⟨true, ?_⟩; rw [show told true o = _ from ho]; clear ho; simp [D.ren, D.rens, D.okN, D.okNs, Cp.ren, Cp.okN, HO.ren, HO.okN, okA, renA, renO, hOf, handed, D.fgt, D.fgts, List.range_succ, List.idxOf_cons, Out.ren, told, Out.fgt, upO, updS, setS])
    ((try simp only [wpAft_ret, wpAft_pan, putS, updS, setS]); (repeat (rw [wpS_cons]; simp)); (try simp only [wpS_nil, thenD, blockD]))
    (refine hK _ _ _ ?_; clear hK K)
    (refine wpD_ret ?_; (try simp only [thenD, blockD]); refine EndQ.ret rfl (.inr ⟨[], by decide, by simp, ?_⟩); simp [Out.mov, movT, movH, movD, D.mov, HO.mov, okM, renM, getW, D.ren, D.rens, D.okN, D.okNs, Cp.ren, Cp.okN, HO.ren, HO.okN, okA, renA, renO, hOf, handed, D.fgt, D.fgts, List.range_succ, List.idxOf_cons, tmOf, Out.fgt, D.fgt, D.fgts])
    first | done | simp [encT_eq v]
  · rw [e] at hp ⊢
    generalize placeX t = x at hp hki
    have hEx := encT_eq x
    rw [hEx, encT_eq t, hk] at hp
    rw [encT_eq t] at hsp
    rw [hEx, encT_eq t, hk] at hki
    rw [encT_eq t]
    unfold wObjs headD Cs stepsM goneD at hp
    unfold wObjs headD Cs stepsM goneD
    refine Spec.movd globPure (wpD_spec tyOK Tryz.func81 rfl (enters _ _ Tryz.func81 rfl (by decide)) rfl rfl ?_)
    (refine wpD_seqk fun K hK => ?_; refine wpD_region tyOK ?_; ((repeat (rw [wpS_cons]; simp)); (try simp only [wpS_nil, thenD, blockD])); refine hK _ _ _ ?_; clear hK K)
    (refine wpD_seqk fun K hK => ?_; refine wpD_region tyOK ?_; ((repeat (rw [wpS_cons]; simp)); (try simp only [wpS_nil, thenD, blockD])))
    refine cXp (hsp) ?_
    ((try simp only [wpAft_ret, wpAft_pan, putS, updS, setS]); (repeat (rw [wpS_cons]; simp)); (try simp only [wpS_nil, thenD, blockD]))
    (refine hK _ _ _ ?_; clear hK K)
    (refine wpD_seqk fun K hK => ?_; refine wpD_drawk tyOK (by kernel_rfl) (by kernel_rfl) fun KT hKT => ?_; ((repeat (rw [wpT_cons]; simp [hk])); (try simp only [wpT_nil])))
    (refine hKT _ _ _ _ (by kernel_rfl) ?_; clear hKT KT; (try simp only [thenD, blockD]))
    (refine hK _ _ _ ?_; clear hK K)
    refine wpD_seqk fun K1 hK1 => ?_
    (refine wpD_seqk fun K hK => ?_; refine wpD_region tyOK ?_; ((repeat (rw [wpS_cons]; simp [hk])); (try simp only [wpS_nil, thenD, blockD])); refine hK _ _ _ ?_; clear hK K)
    refine wpD_part rfl (fun h => by simp at h) (fun _ => ?_)
    refine wpD_skip (hK1 _ _ _ ?_)
    (refine wpD_seqk fun K hK => ?_; refine wpD_region tyOK ?_; ((repeat (rw [wpS_cons]; simp)); (try simp only [wpS_nil, thenD, blockD])); refine hK _ _ _ ?_; clear hK K)
    refine wpD_seqk fun K2 hK2 => ?_
    (refine wpD_seqk fun K hK => ?_; refine wpD_region tyOK ?_; ((repeat (rw [wpS_cons]; simp)); (try simp only [wpS_nil, thenD, blockD])); refine hK _ _ _ ?_; clear hK K)
    refine wpD_part rfl (fun _ => ?_) (fun h => by simp at h)
    (refine wpD_region tyOK ?_; ((repeat (rw [wpS_cons]; simp)); (try simp only [wpS_nil, thenD, blockD])))
    refine cXp (hki) ?_
    ((try simp only [wpAft_ret, wpAft_pan, putS, updS, setS]); (repeat (rw [wpS_cons]; simp)); (try simp only [wpS_nil, thenD, blockD]))
    refine hK2 _ _ _ ?_
    (refine wpD_seqk fun K hK => ?_; refine wpD_region tyOK ?_; ((repeat (rw [wpS_cons]; simp)); (try simp only [wpS_nil, thenD, blockD])))
    refine cXo [0, 1] true (hp) ?_
    (rintro o hc ⟨rfl, rfl⟩; refine ⟨false, ?_⟩; simp [D.ren, D.rens, D.okN, D.okNs, Cp.ren, Cp.okN, HO.ren, HO.okN, okA, renA, renO, hOf, handed, D.fgt, D.fgts, List.range_succ, List.idxOf_cons, Out.ren, told, Out.fgt, upO, updS, setS])
    ((try simp only [thenD, blockD]); refine EndQ.pan (.inr ⟨[], by decide, by simp, ?_⟩); simp [Out.mov, movT, movH, movD, D.mov, HO.mov, okM, renM, getW, D.ren, D.rens, D.okN, D.okNs, Cp.ren, Cp.okN, HO.ren, HO.okN, okA, renA, renO, hOf, handed, D.fgt, D.fgts, List.range_succ, List.idxOf_cons, tmOf, Out.fgt, D.fgt, D.fgts])
theorem step_24 (left : Int) (l : List C) (once done : Bool) (hl : left ≤ 9223372036854775807) (t : T) (ht : okS t) (hk : t.k = 24) {i many : Nat} (hs : spot t = some (i, many)) (hp : Spec Tryz.prog glob 77 [.box 0 0, encT t, encT (placeX t)] (wObjs left l once done) (OwnP left l once done t (ownS l t (placeX t)))) : Spec Tryz.prog glob 81 [.box 0 0, encT t] (wObjs left l once done) (OwnP left l once done t (ownS l t (placeX t))) := by
  have hsp := spot_spec t ht.1.kl
  rw [spotO_some hs ht.1.kl] at hsp
  have hki := kidn_spec t i i rfl
  rw [← placeX_some hs] at hki
  rcases OwnP_cases left l once done t (ownS l t (placeX t)) with ⟨v, b, lf, e⟩ | e
  · rw [e] at hp ⊢
    generalize placeX t = x at hp hki
    have hEx := encT_eq x
    rw [hEx, encT_eq t, encT_eq v, hk] at hp
    rw [encT_eq t] at hsp
    rw [hEx, encT_eq t, hk] at hki
    rw [encT_eq t]
    unfold wObjs headD Cs stepsM at hp ⊢
    refine Spec.movd globPure (wpD_spec tyOK Tryz.func81 rfl (enters _ _ Tryz.func81 rfl (by decide)) rfl rfl ?_)
    (refine wpD_seqk fun K hK => ?_; refine wpD_region tyOK ?_; ((repeat (rw [wpS_cons]; simp)); (try simp only [wpS_nil, thenD, blockD])); refine hK _ _ _ ?_; clear hK K)
    (refine wpD_seqk fun K hK => ?_; refine wpD_region tyOK ?_; ((repeat (rw [wpS_cons]; simp)); (try simp only [wpS_nil, thenD, blockD])))
    refine cXp (hsp) ?_
    ((try simp only [wpAft_ret, wpAft_pan, putS, updS, setS]); (repeat (rw [wpS_cons]; simp)); (try simp only [wpS_nil, thenD, blockD]))
    (refine hK _ _ _ ?_; clear hK K)
    (refine wpD_seqk fun K hK => ?_; refine wpD_drawk tyOK (by kernel_rfl) (by kernel_rfl) fun KT hKT => ?_; ((repeat (rw [wpT_cons]; simp [hk])); (try simp only [wpT_nil])))
    (refine hKT _ _ _ _ (by kernel_rfl) ?_; clear hKT KT; (try simp only [thenD, blockD]))
    (refine hK _ _ _ ?_; clear hK K)
    refine wpD_seqk fun K1 hK1 => ?_
    (refine wpD_seqk fun K hK => ?_; refine wpD_region tyOK ?_; ((repeat (rw [wpS_cons]; simp [hk])); (try simp only [wpS_nil, thenD, blockD])); refine hK _ _ _ ?_; clear hK K)
    refine wpD_part rfl (fun h => by simp at h) (fun _ => ?_)
    refine wpD_skip (hK1 _ _ _ ?_)
    (refine wpD_seqk fun K hK => ?_; refine wpD_region tyOK ?_; ((repeat (rw [wpS_cons]; simp)); (try simp only [wpS_nil, thenD, blockD])); refine hK _ _ _ ?_; clear hK K)
    refine wpD_seqk fun K2 hK2 => ?_
    (refine wpD_seqk fun K hK => ?_; refine wpD_region tyOK ?_; ((repeat (rw [wpS_cons]; simp)); (try simp only [wpS_nil, thenD, blockD])); refine hK _ _ _ ?_; clear hK K)
    refine wpD_part rfl (fun _ => ?_) (fun h => by simp at h)
    (refine wpD_region tyOK ?_; ((repeat (rw [wpS_cons]; simp)); (try simp only [wpS_nil, thenD, blockD])))
    refine cXp (hki) ?_
    ((try simp only [wpAft_ret, wpAft_pan, putS, updS, setS]); (repeat (rw [wpS_cons]; simp)); (try simp only [wpS_nil, thenD, blockD]))
    refine hK2 _ _ _ ?_
    (refine wpD_seqk fun K hK => ?_; refine wpD_region tyOK ?_; ((repeat (rw [wpS_cons]; simp)); (try simp only [wpS_nil, thenD, blockD])))
    refine cXo [0, 1] true (hp) ?_
    (rintro o hc ⟨ho, rfl⟩; refine ⟨true, ?_⟩; rw [show told true o = _ from ho]; clear ho; simp [D.ren, D.rens, D.okN, D.okNs, Cp.ren, Cp.okN, HO.ren, HO.okN, okA, renA, renO, hOf, handed, D.fgt, D.fgts, List.range_succ, List.idxOf_cons, Out.ren, told, Out.fgt, upO, updS, setS])
    ((try simp only [wpAft_ret, wpAft_pan, putS, updS, setS]); (repeat (rw [wpS_cons]; simp)); (try simp only [wpS_nil, thenD, blockD]))
    (refine hK _ _ _ ?_; clear hK K)
    (refine wpD_ret ?_; (try simp only [thenD, blockD]); refine EndQ.ret rfl (.inr ⟨[], by decide, by simp, ?_⟩); simp [Out.mov, movT, movH, movD, D.mov, HO.mov, okM, renM, getW, D.ren, D.rens, D.okN, D.okNs, Cp.ren, Cp.okN, HO.ren, HO.okN, okA, renA, renO, hOf, handed, D.fgt, D.fgts, List.range_succ, List.idxOf_cons, tmOf, Out.fgt, D.fgt, D.fgts])
    first | done | simp [encT_eq v]
  · rw [e] at hp ⊢
    generalize placeX t = x at hp hki
    have hEx := encT_eq x
    rw [hEx, encT_eq t, hk] at hp
    rw [encT_eq t] at hsp
    rw [hEx, encT_eq t, hk] at hki
    rw [encT_eq t]
    unfold wObjs headD Cs stepsM goneD at hp
    unfold wObjs headD Cs stepsM goneD
    refine Spec.movd globPure (wpD_spec tyOK Tryz.func81 rfl (enters _ _ Tryz.func81 rfl (by decide)) rfl rfl ?_)
    (refine wpD_seqk fun K hK => ?_; refine wpD_region tyOK ?_; ((repeat (rw [wpS_cons]; simp)); (try simp only [wpS_nil, thenD, blockD])); refine hK _ _ _ ?_; clear hK K)
    (refine wpD_seqk fun K hK => ?_; refine wpD_region tyOK ?_; ((repeat (rw [wpS_cons]; simp)); (try simp only [wpS_nil, thenD, blockD])))
    refine cXp (hsp) ?_
    ((try simp only [wpAft_ret, wpAft_pan, putS, updS, setS]); (repeat (rw [wpS_cons]; simp)); (try simp only [wpS_nil, thenD, blockD]))
    (refine hK _ _ _ ?_; clear hK K)
    (refine wpD_seqk fun K hK => ?_; refine wpD_drawk tyOK (by kernel_rfl) (by kernel_rfl) fun KT hKT => ?_; ((repeat (rw [wpT_cons]; simp [hk])); (try simp only [wpT_nil])))
    (refine hKT _ _ _ _ (by kernel_rfl) ?_; clear hKT KT; (try simp only [thenD, blockD]))
    (refine hK _ _ _ ?_; clear hK K)
    refine wpD_seqk fun K1 hK1 => ?_
    (refine wpD_seqk fun K hK => ?_; refine wpD_region tyOK ?_; ((repeat (rw [wpS_cons]; simp [hk])); (try simp only [wpS_nil, thenD, blockD])); refine hK _ _ _ ?_; clear hK K)
    refine wpD_part rfl (fun h => by simp at h) (fun _ => ?_)
    refine wpD_skip (hK1 _ _ _ ?_)
    (refine wpD_seqk fun K hK => ?_; refine wpD_region tyOK ?_; ((repeat (rw [wpS_cons]; simp)); (try simp only [wpS_nil, thenD, blockD])); refine hK _ _ _ ?_; clear hK K)
    refine wpD_seqk fun K2 hK2 => ?_
    (refine wpD_seqk fun K hK => ?_; refine wpD_region tyOK ?_; ((repeat (rw [wpS_cons]; simp)); (try simp only [wpS_nil, thenD, blockD])); refine hK _ _ _ ?_; clear hK K)
    refine wpD_part rfl (fun _ => ?_) (fun h => by simp at h)
    (refine wpD_region tyOK ?_; ((repeat (rw [wpS_cons]; simp)); (try simp only [wpS_nil, thenD, blockD])))
    refine cXp (hki) ?_
    ((try simp only [wpAft_ret, wpAft_pan, putS, updS, setS]); (repeat (rw [wpS_cons]; simp)); (try simp only [wpS_nil, thenD, blockD]))
    refine hK2 _ _ _ ?_
    (refine wpD_seqk fun K hK => ?_; refine wpD_region tyOK ?_; ((repeat (rw [wpS_cons]; simp)); (try simp only [wpS_nil, thenD, blockD])))
    refine cXo [0, 1] true (hp) ?_
    (rintro o hc ⟨rfl, rfl⟩; refine ⟨false, ?_⟩; simp [D.ren, D.rens, D.okN, D.okNs, Cp.ren, Cp.okN, HO.ren, HO.okN, okA, renA, renO, hOf, handed, D.fgt, D.fgts, List.range_succ, List.idxOf_cons, Out.ren, told, Out.fgt, upO, updS, setS])
    ((try simp only [thenD, blockD]); refine EndQ.pan (.inr ⟨[], by decide, by simp, ?_⟩); simp [Out.mov, movT, movH, movD, D.mov, HO.mov, okM, renM, getW, D.ren, D.rens, D.okN, D.okNs, Cp.ren, Cp.okN, HO.ren, HO.okN, okA, renA, renO, hOf, handed, D.fgt, D.fgts, List.range_succ, List.idxOf_cons, tmOf, Out.fgt, D.fgt, D.fgts])
theorem step_7 (left : Int) (l : List C) (once done : Bool) (hl : left ≤ 9223372036854775807) (t : T) (ht : okS t) (hk : t.k = 7) (hs : spot t = none) (hp : Spec Tryz.prog glob 73 [.box 0 0, encT t, encT (placeX t)] (wObjs left l once done) (OwnP left l once done t (ownS l t (placeX t)))) : Spec Tryz.prog glob 81 [.box 0 0, encT t] (wObjs left l once done) (OwnP left l once done t (ownS l t (placeX t))) := by
  have hsp := spot_spec t ht.1.kl
  obtain ⟨p, q, hpq⟩ := spotO_none hs
  rw [hpq] at hsp
  have hx0 := placeX_none hs
  rcases OwnP_cases left l once done t (ownS l t (placeX t)) with ⟨v, b, lf, e⟩ | e
  · rw [e] at hp ⊢
    generalize placeX t = x at hp hx0
    have hEx := encT_eq x
    rw [hEx, encT_eq t, encT_eq v, hk] at hp
    rw [encT_eq t] at hsp
    subst hx0
    rw [show (zeroT : T).k = 0 from rfl, show (zeroT : T).n = 0 from rfl, show (zeroT : T).a = 0 from rfl, show (zeroT : T).ls = [] from rfl, show (zeroT : T).ks = [] from rfl, List.map_nil, List.map_nil] at hp
    rw [encT_eq t]
    unfold wObjs headD Cs stepsM at hp ⊢
    refine Spec.movd globPure (wpD_spec tyOK Tryz.func81 rfl (enters _ _ Tryz.func81 rfl (by decide)) rfl rfl ?_)
    (refine wpD_seqk fun K hK => ?_; refine wpD_region tyOK ?_; ((repeat (rw [wpS_cons]; simp)); (try simp only [wpS_nil, thenD, blockD])); refine hK _ _ _ ?_; clear hK K)
    (refine wpD_seqk fun K hK => ?_; refine wpD_region tyOK ?_; ((repeat (rw [wpS_cons]; simp)); (try simp only [wpS_nil, thenD, blockD])))
    refine cXp (hsp) ?_
    ((try simp only [wpAft_ret, wpAft_pan, putS, updS, setS]); (repeat (rw [wpS_cons]; simp)); (try simp only [wpS_nil, thenD, blockD]))
    (refine hK _ _ _ ?_; clear hK K)
    (refine wpD_seqk fun K hK => ?_; refine wpD_drawk tyOK (by kernel_rfl) (by kernel_rfl) fun KT hKT => ?_; ((repeat (rw [wpT_cons]; simp [hk])); (try simp only [wpT_nil])))
    (refine hKT _ _ _ _ (by kernel_rfl) ?_; clear hKT KT; (try simp only [thenD, blockD]))
    (refine hK _ _ _ ?_; clear hK K)
    refine wpD_seqk fun K1 hK1 => ?_
    (refine wpD_seqk fun K hK => ?_; refine wpD_region tyOK ?_; ((repeat (rw [wpS_cons]; simp [hk])); (try simp only [wpS_nil, thenD, blockD])); refine hK _ _ _ ?_; clear hK K)
    refine wpD_part rfl (fun h => by simp at h) (fun _ => ?_)
    refine wpD_skip (hK1 _ _ _ ?_)
    (refine wpD_seqk fun K hK => ?_; refine wpD_region tyOK ?_; ((repeat (rw [wpS_cons]; simp)); (try simp only [wpS_nil, thenD, blockD])); refine hK _ _ _ ?_; clear hK K)
    refine wpD_seqk fun K2 hK2 => ?_
    (refine wpD_seqk fun K hK => ?_; refine wpD_region tyOK ?_; ((repeat (rw [wpS_cons]; simp)); (try simp only [wpS_nil, thenD, blockD])); refine hK _ _ _ ?_; clear hK K)
    refine wpD_part rfl (fun h => by simp at h) (fun _ => ?_)
    refine wpD_skip (hK2 _ _ _ ?_)
    (refine wpD_seqk fun K hK => ?_; refine wpD_region tyOK ?_; ((repeat (rw [wpS_cons]; simp)); (try simp only [wpS_nil, thenD, blockD])))
    refine cXo [0, 1] true (hp) ?_
    (rintro o hc ⟨ho, rfl⟩; refine ⟨true, ?_⟩; rw [show told true o = _ from ho]; clear ho; simp [D.ren, D.rens, D.okN, D.okNs, Cp.ren, Cp.okN, HO.ren, HO.okN, okA, renA, renO, hOf, handed, D.fgt, D.fgts, List.range_succ, List.idxOf_cons, Out.ren, told, Out.fgt, upO, updS, setS])
    ((try simp only [wpAft_ret, wpAft_pan, putS, updS, setS]); (repeat (rw [wpS_cons]; simp)); (try simp only [wpS_nil, thenD, blockD]))
    (refine hK _ _ _ ?_; clear hK K)
    (refine wpD_ret ?_; (try simp only [thenD, blockD]); refine EndQ.ret rfl (.inr ⟨[], by decide, by simp, ?_⟩); simp [Out.mov, movT, movH, movD, D.mov, HO.mov, okM, renM, getW, D.ren, D.rens, D.okN, D.okNs, Cp.ren, Cp.okN, HO.ren, HO.okN, okA, renA, renO, hOf, handed, D.fgt, D.fgts, List.range_succ, List.idxOf_cons, tmOf, Out.fgt, D.fgt, D.fgts])
    first | done | simp [encT_eq v]
  · rw [e] at hp ⊢
    generalize placeX t = x at hp hx0
    have hEx := encT_eq x
    rw [hEx, encT_eq t, hk] at hp
    rw [encT_eq t] at hsp
    subst hx0
    rw [show (zeroT : T).k = 0 from rfl, show (zeroT : T).n = 0 from rfl, show (zeroT : T).a = 0 from rfl, show (zeroT : T).ls = [] from rfl, show (zeroT : T).ks = [] from rfl, List.map_nil, List.map_nil] at hp
    rw [encT_eq t]
    unfold wObjs headD Cs stepsM goneD at hp
    unfold wObjs headD Cs stepsM goneD
    refine Spec.movd globPure (wpD_spec tyOK Tryz.func81 rfl (enters _ _ Tryz.func81 rfl (by decide)) rfl rfl ?_)
    (refine wpD_seqk fun K hK => ?_; refine wpD_region tyOK ?_; ((repeat (rw [wpS_cons]; simp)); (try simp only [wpS_nil, thenD, blockD])); refine hK _ _ _ ?_; clear hK K)
    (refine wpD_seqk fun K hK => ?_; refine wpD_region tyOK ?_; ((repeat (rw [wpS_cons]; simp)); (try simp only [wpS_nil, thenD, blockD])))
    refine cXp (hsp) ?_
    ((try simp only [wpAft_ret, wpAft_pan, putS, updS, setS]); (repeat (rw [wpS_cons]; simp)); (try simp only [wpS_nil, thenD, blockD]))
    (refine hK _ _ _ ?_; clear hK K)
    (refine wpD_seqk fun K hK => ?_; refine wpD_drawk tyOK (by kernel_rfl) (by kernel_rfl) fun KT hKT => ?_; ((repeat (rw [wpT_cons]; simp [hk])); (try simp only [wpT_nil])))
    (refine hKT _ _ _ _ (by kernel_rfl) ?_; clear hKT KT; (try simp only [thenD, blockD]))
    (refine hK _ _ _ ?_; clear hK K)
    refine wpD_seqk fun K1 hK1 => ?_
    (refine wpD_seqk fun K hK => ?_; refine wpD_region tyOK ?_; ((repeat (rw [wpS_cons]; simp [hk])); (try simp only [wpS_nil, thenD, blockD])); refine hK _ _ _ ?_; clear hK K)
    refine wpD_part rfl (fun h => by simp at h) (fun _ => ?_)
    refine wpD_skip (hK1 _ _ _ ?_)
    (refine wpD_seqk fun K hK => ?_; refine wpD_region tyOK ?_; ((repeat (rw [wpS_cons]; simp)); (try simp only [wpS_nil, thenD, blockD])); refine hK _ _ _ ?_; clear hK K)
    refine wpD_seqk fun K2 hK2 => ?_
    (refine wpD_seqk fun K hK => ?_; refine wpD_region tyOK ?_; ((repeat (rw [wpS_cons]; simp)); (try simp only [wpS_nil, thenD, blockD])); refine hK _ _ _ ?_; clear hK K)
    refine wpD_part rfl (fun h => by simp at h) (fun _ => ?_)
    refine wpD_skip (hK2 _ _ _ ?_)
    (refine wpD_seqk fun K hK => ?_; refine wpD_region tyOK ?_; ((repeat (rw [wpS_cons]; simp)); (try simp only [wpS_nil, thenD, blockD])))
    refine cXo [0, 1] true (hp) ?_
    (rintro o hc ⟨rfl, rfl⟩; refine ⟨false, ?_⟩; simp [D.ren, D.rens, D.okN, D.okNs, Cp.ren, Cp.okN, HO.ren, HO.okN, okA, renA, renO, hOf, handed, D.fgt, D.fgts, List.range_succ, List.idxOf_cons, Out.ren, told, Out.fgt, upO, updS, setS])
    ((try simp only [thenD, blockD]); refine EndQ.pan (.inr ⟨[], by decide, by simp, ?_⟩); simp [Out.mov, movT, movH, movD, D.mov, HO.mov, okM, renM, getW, D.ren, D.rens, D.okN, D.okNs, Cp.ren, Cp.okN, HO.ren, HO.okN, okA, renA, renO, hOf, handed, D.fgt, D.fgts, List.range_succ, List.idxOf_cons, tmOf, Out.fgt, D.fgt, D.fgts])
theorem step_3 (left : Int) (l : List C) (once done : Bool) (hl : left ≤ 9223372036854775807) (t : T) (ht : okS t) (hk : t.k = 3) (hs : spot t = none) (hp : Spec Tryz.prog glob 74 [.box 0 0, encT t, encT (placeX t)] (wObjs left l once done) (OwnP left l once done t (ownS l t (placeX t)))) : Spec Tryz.prog glob 81 [.box 0 0, encT t] (wObjs left l once done) (OwnP left l once done t (ownS l t (placeX t))) := by
  have hsp := spot_spec t ht.1.kl
  obtain ⟨p, q, hpq⟩ := spotO_none hs
  rw [hpq] at hsp
  have hx0 := placeX_none hs
  rcases OwnP_cases left l once done t (ownS l t (placeX t)) with ⟨v, b, lf, e⟩ | e
  · rw [e] at hp ⊢
    generalize placeX t = x at hp hx0
    have hEx := encT_eq x
    rw [hEx, encT_eq t, encT_eq v, hk] at hp
    rw [encT_eq t] at hsp
    subst hx0
    rw [show (zeroT : T).k = 0 from rfl, show (zeroT : T).n = 0 from rfl, show (zeroT : T).a = 0 from rfl, show (zeroT : T).ls = [] from rfl, show (zeroT : T).ks = [] from rfl, List.map_nil, List.map_nil] at hp
    rw [encT_eq t]
    unfold wObjs headD Cs stepsM at hp ⊢
    refine Spec.movd globPure (wpD_spec tyOK Tryz.func81 rfl (enters _ _ Tryz.func81 rfl (by decide)) rfl rfl ?_)
    (refine wpD_seqk fun K hK => ?_; refine wpD_region tyOK ?_; ((repeat (rw [wpS_cons]; simp)); (try simp only [wpS_nil, thenD, blockD])); refine hK _ _ _ ?_; clear hK K)
    (refine wpD_seqk fun K hK => ?_; refine wpD_region tyOK ?_; ((repeat (rw [wpS_cons]; simp)); (try simp only [wpS_nil, thenD, blockD])))
    refine cXp (hsp) ?_
    ((try simp only [wpAft_ret, wpAft_pan, putS, updS, setS]); (repeat (rw [wpS_cons]; simp)); (try simp only [wpS_nil, thenD, blockD]))
    (refine hK _ _ _ ?_; clear hK K)
    (refine wpD_seqk fun K hK => ?_; refine wpD_drawk tyOK (by kernel_rfl) (by kernel_rfl) fun KT hKT => ?_; ((repeat (rw [wpT_cons]; simp [hk])); (try simp only [wpT_nil])))
    (refine hKT _ _ _ _ (by kernel_rfl) ?_; clear hKT KT; (try simp only [thenD, blockD]))
    (refine hK _ _ _ ?_; clear hK K)
    refine wpD_seqk fun K1 hK1 => ?_
    (refine wpD_seqk fun K hK => ?_; refine wpD_region tyOK ?_; ((repeat (rw [wpS_cons]; simp [hk])); (try simp only [wpS_nil, thenD, blockD])); refine hK _ _ _ ?_; clear hK K)
    refine wpD_part rfl (fun h => by simp at h) (fun _ => ?_)
    refine wpD_skip (hK1 _ _ _ ?_)
    (refine wpD_seqk fun K hK => ?_; refine wpD_region tyOK ?_; ((repeat (rw [wpS_cons]; simp)); (try simp only [wpS_nil, thenD, blockD])); refine hK _ _ _ ?_; clear hK K)
    refine wpD_seqk fun K2 hK2 => ?_
    (refine wpD_seqk fun K hK => ?_; refine wpD_region tyOK ?_; ((repeat (rw [wpS_cons]; simp)); (try simp only [wpS_nil, thenD, blockD])); refine hK _ _ _ ?_; clear hK K)
    refine wpD_part rfl (fun h => by simp at h) (fun _ => ?_)
    refine wpD_skip (hK2 _ _ _ ?_)
    (refine wpD_seqk fun K hK => ?_; refine wpD_region tyOK ?_; ((repeat (rw [wpS_cons]; simp)); (try simp only [wpS_nil, thenD, blockD])))
    refine cXo [0, 1] true (hp) ?_
    (rintro o hc ⟨ho, rfl⟩; refine ⟨true, ?_⟩; rw [show told true o = _ from ho]; clear ho; simp [D.ren, D.rens, D.okN, D.okNs, Cp.ren, Cp.okN, HO.ren, HO.okN, okA, renA, renO, hOf, handed, D.fgt, D.fgts, List.range_succ, List.idxOf_cons, Out.ren, told, Out.fgt, upO, updS, setS])
    ((try simp only [wpAft_ret, wpAft_pan, putS, updS, setS]); (repeat (rw [wpS_cons]; simp)); (try simp only [wpS_nil, thenD, blockD]))
    (refine hK _ _ _ ?_; clear hK K)
    (refine wpD_ret ?_; (try simp only [thenD, blockD]); refine EndQ.ret rfl (.inr ⟨[], by decide, by simp, ?_⟩); simp [Out.mov, movT, movH, movD, D.mov, HO.mov, okM, renM, getW, D.ren, D.rens, D.okN, D.okNs, Cp.ren, Cp.okN, HO.ren, HO.okN, okA, renA, renO, hOf, handed, D.fgt, D.fgts, List.range_succ, List.idxOf_cons, tmOf, Out.fgt, D.fgt, D.fgts])
    first | done | simp [encT_eq v]
  · rw [e] at hp ⊢
    generalize placeX t = x at hp hx0
    have hEx := encT_eq x
    rw [hEx, encT_eq t, hk] at hp
    rw [encT_eq t] at hsp
    subst hx0
    rw [show (zeroT : T).k = 0 from rfl, show (zeroT : T).n = 0 from rfl, show (zeroT : T).a = 0 from rfl, show (zeroT : T).ls = [] from rfl, show (zeroT : T).ks = [] from rfl, List.map_nil, List.map_nil] at hp
    rw [encT_eq t]
    unfold wObjs headD Cs stepsM goneD at hp
    unfold wObjs headD Cs stepsM goneD
    refine Spec.movd globPure (wpD_spec tyOK Tryz.func81 rfl (enters _ _ Tryz.func81 rfl (by decide)) rfl rfl ?_)
    (refine wpD_seqk fun K hK => ?_; refine wpD_region tyOK ?_; ((repeat (rw [wpS_cons]; simp)); (try simp only [wpS_nil, thenD, blockD])); refine hK _ _ _ ?_; clear hK K)
    (refine wpD_seqk fun K hK => ?_; refine wpD_region tyOK ?_; ((repeat (rw [wpS_cons]; simp)); (try simp only [wpS_nil, thenD, blockD])))
    refine cXp (hsp) ?_
    ((try simp only [wpAft_ret, wpAft_pan, putS, updS, setS]); (repeat (rw [wpS_cons]; simp)); (try simp only [wpS_nil, thenD, blockD]))
    (refine hK _ _ _ ?_; clear hK K)
    (refine wpD_seqk fun K hK => ?_; refine wpD_drawk tyOK (by kernel_rfl) (by kernel_rfl) fun KT hKT => ?_; ((repeat (rw [wpT_cons]; simp [hk])); (try simp only [wpT_nil])))
    (refine hKT _ _ _ _ (by kernel_rfl) ?_; clear hKT KT; (try simp only [thenD, blockD]))
    (refine hK _ _ _ ?_; clear hK K)
    refine wpD_seqk fun K1 hK1 => ?_
    (refine wpD_seqk fun K hK => ?_; refine wpD_region tyOK ?_; ((repeat (rw [wpS_cons]; simp [hk])); (try simp only [wpS_nil, thenD, blockD])); refine hK _ _ _ ?_; clear hK K)
    refine wpD_part rfl (fun h => by simp at h) (fun _ => ?_)
    refine wpD_skip (hK1 _ _ _ ?_)
    (refine wpD_seqk fun K hK => ?_; refine wpD_region tyOK ?_; ((repeat (rw [wpS_cons]; simp)); (try simp only [wpS_nil, thenD, blockD])); refine hK _ _ _ ?_; clear hK K)
    refine wpD_seqk fun K2 hK2 => ?_
    (refine wpD_seqk fun K hK => ?_; refine wpD_region tyOK ?_; ((repeat (rw [wpS_cons]; simp)); (try simp only [wpS_nil, thenD, blockD])); refine hK _ _ _ ?_; clear hK K)
    refine wpD_part rfl (fun h => by simp at h) (fun _ => ?_)
    refine wpD_skip (hK2 _ _ _ ?_)
    (refine wpD_seqk fun K hK => ?_; refine wpD_region tyOK ?_; ((repeat (rw [wpS_cons]; simp)); (try simp only [wpS_nil, thenD, blockD])))
    refine cXo [0, 1] true (hp) ?_
    (rintro o hc ⟨rfl, rfl⟩; refine ⟨false, ?_⟩; simp [D.ren, D.rens, D.okN, D.okNs, Cp.ren, Cp.okN, HO.ren, HO.okN, okA, renA, renO, hOf, handed, D.fgt, D.fgts, List.range_succ, List.idxOf_cons, Out.ren, told, Out.fgt, upO, updS, setS])
    ((try simp only [thenD, blockD]); refine EndQ.pan (.inr ⟨[], by decide, by simp, ?_⟩); simp [Out.mov, movT, movH, movD, D.mov, HO.mov, okM, renM, getW, D.ren, D.rens, D.okN, D.okNs, Cp.ren, Cp.okN, HO.ren, HO.okN, okA, renA, renO, hOf, handed, D.fgt, D.fgts, List.range_succ, List.idxOf_cons, tmOf, Out.fgt, D.fgt, D.fgts])
theorem step_24n (left : Int) (l : List C) (once done : Bool) (hl : left ≤ 9223372036854775807) (t : T) (ht : okS t) (hk : t.k = 24) (hs : spot t = none) : Spec Tryz.prog glob 81 [.box 0 0, encT t] (wObjs left l once done) (OwnP left l once done t (ownS l t (placeX t))) := by
  have hw : ownS l t (placeX t) = none := by
    unfold ownS
    rw [if_neg (by omega), if_neg (by omega), if_neg (by omega), if_neg (by omega), if_neg (by omega), if_neg (by omega), if_neg (by rw [hs]; simp)]
  rw [hw]
  have hsp := spot_spec t ht.1.kl
  obtain ⟨p, q, hpq⟩ := spotO_none hs
  rw [hpq] at hsp
  unfold OwnP wObjs headD Cs stepsM
  rw [encT_eq t] at hsp
  rw [encT_eq t]
  refine Spec.movd globPure (wpD_spec tyOK Tryz.func81 rfl (enters _ _ Tryz.func81 rfl (by decide)) rfl rfl ?_)
  (refine wpD_seqk fun K hK => ?_; refine wpD_region tyOK ?_; ((repeat (rw [wpS_cons]; simp)); (try simp only [wpS_nil, thenD, blockD])); refine hK _ _ _ ?_; clear hK K)
  (refine wpD_seqk fun K hK => ?_; refine wpD_region tyOK ?_; ((repeat (rw [wpS_cons]; simp)); (try simp only [wpS_nil, thenD, blockD])))
  refine cXp (hsp) ?_
  ((try simp only [wpAft_ret, wpAft_pan, putS, updS, setS]); (repeat (rw [wpS_cons]; simp)); (try simp only [wpS_nil, thenD, blockD]))
  (refine hK _ _ _ ?_; clear hK K)
  (refine wpD_seqk fun K hK => ?_; refine wpD_drawk tyOK (by kernel_rfl) (by kernel_rfl) fun KT hKT => ?_; ((repeat (rw [wpT_cons]; simp [hk])); (try simp only [wpT_nil])))
  (refine hKT _ _ _ _ (by kernel_rfl) ?_; clear hKT KT; (try simp only [thenD, blockD]))
  (refine hK _ _ _ ?_; clear hK K)
  refine wpD_seqk fun K1 hK1 => ?_
  (refine wpD_seqk fun K hK => ?_; refine wpD_region tyOK ?_; ((repeat (rw [wpS_cons]; simp [hk])); (try simp only [wpS_nil, thenD, blockD])); refine hK _ _ _ ?_; clear hK K)
  refine wpD_part rfl (fun _ => ?_) (fun h => by simp at h)
  (refine wpD_seqk fun K hK => ?_; refine wpD_region tyOK ?_; ((repeat (rw [wpS_cons]; simp)); (try simp only [wpS_nil, thenD, blockD])); refine hK _ _ _ ?_; clear hK K)
  (refine wpD_ret ?_; (try simp only [thenD, blockD]); refine EndQ.ret rfl (.inr ⟨[], by decide, by simp, ?_⟩); simp [Out.mov, movT, movH, movD, D.mov, HO.mov, okM, renM, getW, D.ren, D.rens, D.okN, D.okNs, Cp.ren, Cp.okN, HO.ren, HO.okN, okA, renA, renO, hOf, handed, D.fgt, D.fgts, List.range_succ, List.idxOf_cons, tmOf, Out.fgt, D.fgt, D.fgts])
  first | done | simp [encT_eq t, hk]
theorem find_no (k : Int) (h6 : ¬ k = 6) (h14 : ¬ k = 14) (h15 : ¬ k = 15) (h7 : ¬ k = 7) (h3 : ¬ k = 3) (h18 : ¬ k = 18) (h21 : ¬ k = 21) (h24 : ¬ k = 24) : findD (.int .i64 k) [(.int .i64 6, .fn (.func 71) [.box 0 0] []), (.int .i64 14, .fn (.func 72) [.box 0 0] []), (.int .i64 15, .fn (.func 72) [.box 0 0] []), (.int .i64 7, .fn (.func 73) [.box 0 0] []),
  (.int .i64 3, .fn (.func 74) [.box 0 0] []), (.int .i64 18, .fn (.func 75) [.box 0 0] []), (.int .i64 21, .fn (.func 76) [.box 0 0] []), (.int .i64 24, .fn (.func 77) [.box 0 0] [])] = none := by
  simp [findD, keyEq, h6, h14, h15, h7, h3, h18, h21, h24]
theorem step_no (left : Int) (l : List C) (once done : Bool) (hl : left ≤ 9223372036854775807) (t : T) (ht : okS t) (h6 : ¬ t.k = 6) (h14 : ¬ t.k = 14) (h15 : ¬ t.k = 15) (h7 : ¬ t.k = 7) (h3 : ¬ t.k = 3) (h18 : ¬ t.k = 18) (h21 : ¬ t.k = 21) (h24 : ¬ t.k = 24) : Spec Tryz.prog glob 81 [.box 0 0, encT t] (wObjs left l once done) (OwnP left l once done t (ownS l t (placeX t))) := by
  have hw : ownS l t (placeX t) = none := by
    unfold ownS
    rw [if_neg h6, if_neg (by omega), if_neg h7, if_neg h3, if_neg h18, if_neg h21, if_neg (fun h => h24 h.1)]
  rw [hw]
  have hs : spot t = none := by
    unfold spot
    rw [if_neg h6, if_neg (by omega), if_neg h18, if_neg h21, if_neg (fun h => h24 h.1)]
  have hfd := find_no t.k h6 h14 h15 h7 h3 h18 h21 h24
  have hsp := spot_spec t ht.1.kl
  obtain ⟨p, q, hpq⟩ := spotO_none hs
  rw [hpq] at hsp
  unfold OwnP wObjs headD Cs stepsM
  rw [encT_eq t] at hsp
  rw [encT_eq t]
  refine Spec.movd globPure (wpD_spec tyOK Tryz.func81 rfl (enters _ _ Tryz.func81 rfl (by decide)) rfl rfl ?_)
  (refine wpD_seqk fun K hK => ?_; refine wpD_region tyOK ?_; ((repeat (rw [wpS_cons]; simp)); (try simp only [wpS_nil, thenD, blockD])); refine hK _ _ _ ?_; clear hK K)
  (refine wpD_seqk fun K hK => ?_; refine wpD_region tyOK ?_; ((repeat (rw [wpS_cons]; simp)); (try simp only [wpS_nil, thenD, blockD])))
  refine cXp (hsp) ?_
  ((try simp only [wpAft_ret, wpAft_pan, putS, updS, setS]); (repeat (rw [wpS_cons]; simp)); (try simp only [wpS_nil, thenD, blockD]))
  (refine hK _ _ _ ?_; clear hK K)
  (refine wpD_seqk fun K hK => ?_; refine wpD_drawk tyOK (by kernel_rfl) (by kernel_rfl) fun KT hKT => ?_; ((repeat (rw [wpT_cons]; simp [hfd, isIntK, h24])); (try simp only [wpT_nil])))
  (refine hKT _ _ _ _ (by kernel_rfl) ?_; clear hKT KT; (try simp only [thenD, blockD]))
  (refine hK _ _ _ ?_; clear hK K)
  refine wpD_seqk fun K1 hK1 => ?_
  (refine wpD_seqk fun K hK => ?_; refine wpD_region tyOK ?_; ((repeat (rw [wpS_cons]; simp [hfd, isIntK, h24])); (try simp only [wpS_nil, thenD, blockD])); refine hK _ _ _ ?_; clear hK K)
  refine wpD_part rfl (fun _ => ?_) (fun h => by simp at h)
  (refine wpD_seqk fun K hK => ?_; refine wpD_region tyOK ?_; ((repeat (rw [wpS_cons]; simp)); (try simp only [wpS_nil, thenD, blockD])); refine hK _ _ _ ?_; clear hK K)
  (refine wpD_ret ?_; (try simp only [thenD, blockD]); refine EndQ.ret rfl (.inr ⟨[], by decide, by simp, ?_⟩); simp [Out.mov, movT, movH, movD, D.mov, HO.mov, okM, renM, getW, D.ren, D.rens, D.okN, D.okNs, Cp.ren, Cp.okN, HO.ren, HO.okN, okA, renA, renO, hOf, handed, D.fgt, D.fgts, List.range_succ, List.idxOf_cons, tmOf, Out.fgt, D.fgt, D.fgts])
  first | done | simp [encT_eq t]
theorem step_spec (left : Int) (l : List C) (once done : Bool) (hl : left ≤ 9223372036854775807) (hcs : okCs l) (t : T) (ht : okS t) : Spec Tryz.prog glob 81 [.box 0 0, encT t] (wObjs left l once done) (OwnP left l once done t (ownS l t (placeX t))) := by
  have hz : okS zeroT := ⟨zero_ok, by rw [pot_zero]; unfold PM; omega⟩
  have hx : okS (placeX t) := by
    rcases spot_of t with h | ⟨i, many, h⟩
    · rw [placeX_none h]; exact hz
    · rw [placeX_some h]; exact ht.kid i
  by_cases h6 : t.k = 6
  · exact step_6 left l once done hl t ht h6 (i := 0) (many := 2) (by unfold spot; rw [if_pos h6]) (happ_spec left l once done hl t _ ht hx h6)
  by_cases h14 : t.k = 14
  · exact step_14 left l once done hl t ht h14 (i := 0) (many := 1) (by unfold spot; rw [if_neg h6, if_pos (.inl h14)]) (hhalf_spec left l once done hl t _ hx (.inl h14))
  by_cases h15 : t.k = 15
  · exact step_15 left l once done hl t ht h15 (i := 0) (many := 1) (by unfold spot; rw [if_neg h6, if_pos (.inr h15)]) (hhalf_spec left l once done hl t _ hx (.inr h15))
  have h145 : ¬ (t.k = 14 ∨ t.k = 15) := by omega
  by_cases h18 : t.k = 18
  · exact step_18 left l once done hl t ht h18 (i := 4) (many := 5) (by unfold spot; rw [if_neg h6, if_neg h145, if_pos h18]) (htree_spec left l once done hl t _ ht hx h18)
  by_cases h21 : t.k = 21
  · exact step_21 left l once done hl t ht h21 (i := 5) (many := 6) (by unfold spot; rw [if_neg h6, if_neg h145, if_neg h18, if_pos h21]) (hpath_spec left l once done hl t _ ht h21)
  by_cases h24 : t.k = 24
  · rcases spot_of t with h | ⟨i, many, h⟩
    · exact step_24n left l once done hl t ht h24 h
    · exact step_24 left l once done hl t ht h24 h (hbranch_spec left l once done hl t _ ht hx h24 (by rw [h]; rfl))
  have hs : spot t = none := by unfold spot; rw [if_neg h6, if_neg h145, if_neg h18, if_neg h21, if_neg (fun h => h24 h.1)]
  by_cases h7 : t.k = 7
  · exact step_7 left l once done hl t ht h7 hs (hlet_spec left l once done hl t _ ht h7)
  by_cases h3 : t.k = 3
  · exact step_3 left l once done hl t ht h3 hs (hconst_spec left l once done hl hcs t _ ht h3)
  exact step_no left l once done hl t ht h6 h14 h15 h7 h3 h18 h21 h24
end Go.Proofs.YtebmlojhdnldgaaGreatDoor

namespace Go.Proofs.YtebmlojhdnldgaaGreatDoor
set_option linter.unusedSimpArgs false
set_option linter.unusedVariables false
open Go.RowKit
def RetP (l : List C) (u : T) (lf : Int) (d : Bool) : Out → List HO → Prop := fun o hc => o.fgt = .ret (encT u) ∧ hc = wObjs lf l false d
def GoneP : Out → List HO → Prop := fun o hc => o = .pan goneD ∧ hc = [.dead, .dead]
/-- what a head's run comes to -/
inductive RunH (l : List C) : T → Int → Bool → (Out → List HO → Prop) → Prop where
  | fin {t u : T} {n : Nat} {lf : Int} {d : Bool} (h : Hd l t n u) (hn : (n : Int) ≤ lf) : RunH l t lf d (RetP l u (lf - n) (d || decide (0 < n)))
  | gone {t : T} {lf q : Int} {d : Bool} (h : GoneAt l t lf q) : RunH l t lf d GoneP
/-- its place is at its head -/
def Ready (l : List C) (t : T) : Prop := hstep l t = ownS l t (placeX t) ∧ t.trunc = t
theorem Ready.none {l : List C} {t : T} (h : spot t = none) : Ready l t := ⟨by rw [hstep_none h]; unfold placeX; rw [h], trunc_none h⟩
theorem Ready.some {l : List C} {t v : T} {i many : Nat} (hs : spot t = some (i, many)) {m : Nat} {x : T} (h : Hd l x m v) : Ready l (t.withT v i many) := by
  obtain ⟨h1, h2⟩ := h.done
  obtain ⟨h3, h4⟩ := ready hs h1 h2
  exact ⟨by rw [h3, place_with hs], h4⟩
theorem RunH.place {l : List C} {t : T} {lf : Int} {d : Bool} {P : Out → List HO → Prop} (h : RunH l t lf d P) (h0 : 0 ≤ lf) {i many : Nat} (hs : spot t = some (i, many)) :
    (∃ q, GoneAt l (t.kid i) lf q ∧ P = GoneP) ∨ ∃ m v, Hd l (t.kid i) m v ∧ (m : Int) ≤ lf ∧ Ready l (t.withT v i many) ∧ RunH l (t.withT v i many) (lf - m) (d || decide (0 < m)) P := by
  cases h with
  | fin h hn =>
    rename_i u n
    obtain ⟨m, v, h1, h2, h3⟩ := h.place hs
    refine .inr ⟨m, v, h1, by omega, .some hs h1, ?_⟩
    have := RunH.fin (lf := lf - m) (d := d || decide (0 < m)) h3 (by omega)
    rw [show lf - (m : Int) - ((n - m : Nat) : Int) = lf - n by omega, Bool.or_assoc, show (decide (0 < m) || decide (0 < n - m)) = decide (0 < n) by rw [← Bool.decide_or]; apply decide_eq_decide.2; omega] at this
    exact this
  | gone h =>
    rcases h.place h0 hs with h1 | ⟨m, v, h1, h2, h3⟩
    · exact .inl ⟨_, h1, rfl⟩
    · exact .inr ⟨m, v, h1, h2, .some hs h1, .gone h3⟩
theorem RunH.own {l : List C} {t : T} {lf : Int} {d : Bool} {P : Out → List HO → Prop} (h : RunH l t lf d P) (hr : Ready l t) :
    match ownS l t (placeX t) with
    | none => P = RetP l t lf d
    | some p => if (p.2 : Int) ≤ lf then RunH l p.1 (lf - p.2) true P else P = GoneP := by
  rw [← hr.1]
  cases h with
  | fin h hn =>
    rename_i u n
    cases h with
    | stop h => rw [h]; simp only; rw [hr.2]; simp
    | @step _ w _ c n h r =>
      have := hstep_pos t h
      rw [h]
      simp only
      rw [if_pos (by omega)]
      have := RunH.fin (lf := lf - c) (d := true) r (by omega)
      rw [show lf - (c : Int) - (n : Int) = lf - ((c + n : Nat) : Int) by omega, Bool.true_or] at this
      rw [show (d || decide (0 < c + n)) = true by rw [decide_eq_true (by omega), Bool.or_true]]
      exact this
  | gone h =>
    cases h with
    | now h hf => rw [h]; simp only; rw [if_neg (by omega)]; trivial
    | later h hf r => rw [h]; simp only; rw [if_pos hf]; exact .gone r
theorem Hd.pot {l : List C} {t u : T} {n : Nat} (h : Hd l t n u) : u.pot ≤ t.pot + 7 * n := by
  induction h with
  | stop h => have := trunc_pot ‹T›; omega
  | step h r ih => have := hstep_pot _ h; omega
theorem Hd.ok {l : List C} (hl : ∀ c, c ∈ l → okC c) {t u : T} {n : Nat} (h : Hd l t n u) : okT t → okT u := by
  induction h with
  | stop h => exact trunc_ok _
  | step h r ih => intro ht; exact ih (hstep_ok hl _ ht h)
/-- how deep its place lies -/
def mu (t : T) : Nat := if spot t = none then 0 else t.deep + 1
theorem mu_kid {t : T} {i many : Nat} (hs : spot t = some (i, many)) : mu (t.kid i) < mu t := by
  have h0 : mu t = t.deep + 1 := by unfold mu; rw [if_neg (by rw [hs]; simp)]
  rw [h0]
  by_cases hi : i < t.ks.length
  · rw [kid_in hi]
    have hd : (t.ks[i]).deep + 1 ≤ t.deep := by
      cases t with
      | mk k n a ls ks => exact T.deep_kid (List.getElem_mem hi)
    unfold mu
    split <;> omega
  · rw [kid_out hi]
    unfold mu
    rw [if_pos zero_spot]
    omega
end Go.Proofs.YtebmlojhdnldgaaGreatDoor

namespace Go.Proofs.YtebmlojhdnldgaaGreatDoor
set_option linter.unusedSimpArgs false
set_option linter.unusedVariables false
set_option maxHeartbeats 10000000
set_option maxRecDepth 20000
open Go.RowKit
attribute [local simp] wpAft_ret wpAft_pan wantD evOp opD tmOf putS updS setS hOf isFree isTok fillD TK.isAgg TK.known partD thenD blockD putAll D.ofV inB nilTest isNilS binX binD binE isCst bndD capB IntKind.min IntKind.max IntKind.signed IntKind.bits dstOf late
theorem head_spec {l : List C} (hcs : okCs l) (N : Nat) : ∀ (k : Nat) (t : T) (left : Int) (done : Bool) (P : Out → List HO → Prop), 0 ≤ left → left.toNat = N → mu t = k → okT t → t.pot + 7 * left.toNat ≤ PM → RunH l t left done P →
    Spec Tryz.prog glob 43 [.box 0 0, encT t] (wObjs left l false done) P := by
  induction N using Nat.strongRecOn with
  | ind N ihN =>
  intro k
  induction k using Nat.strongRecOn with
  | ind k ihk =>
  intro t left done P h0 hN hk ht hpot hrun
  have hrec : ∀ (t' : T) (lf : Int) (d : Bool) (P' : Out → List HO → Prop), 0 ≤ lf → (lf < left ∨ (lf = left ∧ mu t' < mu t)) → okT t' → t'.pot + 7 * lf.toNat ≤ PM → RunH l t' lf d P' → Spec Tryz.prog glob 43 [.box 0 0, encT t'] (wObjs lf l false d) P' := by
    intro t' lf d P' g0 gc gt gp gr
    rcases gc with gc | ⟨rfl, gc⟩
    · exact ihN lf.toNat (by omega) (mu t') t' lf d P' g0 rfl rfl gt gp gr
    · exact ihk (mu t') (by omega) t' lf d P' g0 hN rfl gt gp gr
  clear ihN ihk
  rw [encT_eq t]
  unfold wObjs headD Cs stepsM
  refine Spec.movd globPure (wpD_spec tyOK Tryz.func43 rfl (enters _ _ Tryz.func43 rfl (by decide)) rfl rfl ?_)
  (refine wpD_seqk fun K hK => ?_; refine wpD_region tyOK ?_; ((repeat (rw [wpS_cons]; simp)); (try simp only [wpS_nil, thenD, blockD])); refine hK _ _ _ ?_; clear hK K)
  refine wpD_block ?_
  refine wpD_loopMJ globPure [5, 6, 7, 8, 9, 10, 11, 12, 13, 14, 15, 16, 17, 18, 19, 20, 21, 22, 23, 24, 25, 26, 27, 28, 29, 30, 31, 32, 33, 34, 35, 36, 37, 38, 39, 40, 41, 42, 43, 44, 45, 46, 47, 48, 49, 50, 51, 52, 53, 54] [] (fun n ys hl => ∃ (t' : T) (lf : Int) (d : Bool), ys = [] ∧ n = lf.toNat ∧ 0 ≤ lf ∧ (lf = left ∧ t' = t ∨ lf < left) ∧ okT t' ∧ t'.pot + 7 * lf.toNat ≤ PM ∧ RunH l t' lf d P ∧ hl = [.cells 76 [.int .i64 lf, .slice (l.map encC) .any, .bool false, .bool d, .map 1], .mp [(.int .i64 6, .fn (.func 71) [.box 0 0] []), (.int .i64 14, .fn (.func 72) [.box 0 0] []), (.int .i64 15, .fn (.func 72) [.box 0 0] []), (.int .i64 7, .fn (.func 73) [.box 0 0] []), (.int .i64 3, .fn (.func 74) [.box 0 0] []), (.int .i64 18, .fn (.func 75) [.box 0 0] []), (.int .i64 21, .fn (.func 76) [.box 0 0] []), (.int .i64 24, .fn (.func 77) [.box 0 0] [])], .cells 27 [.int .i64 t'.k, .int .i64 t'.n, .int .i64 t'.a, .slice (t'.ls.map encL) .any, .slice (t'.ks.map encT) .any], .cells 27 [.int .i64 0, .int .i64 0, .int .i64 0, .slice [] .full, .slice [] .full]]) (left.toNat) (by kernel_rfl) ?_ ?_
  · exact ⟨t, left, done, rfl, rfl, h0, .inl ⟨rfl, rfl⟩, ht, hpot, hrun, rfl⟩
  · rintro n ys hl A hA hA2 ⟨t', lf, d, rfl, hn, h0', hcase, ht', hp', hrun', rfl⟩
    have hle : lf ≤ left := by omega
    have hlf : lf ≤ 9223372036854775807 := by unfold PM at hp'; omega
    simp only [putAll, List.set, List.map_cons, List.map_nil, List.cons_append, List.nil_append]
    refine wpD_block ?_
    refine wpD_seqE (α := T × Int × Bool) [5, 6, 7, 10, 11, 12, 13, 14, 15, 16, 17, 18, 19, 20, 21, 22, 23, 24, 25, 26, 27, 28, 29, 30, 31, 32, 33, 34, 35] (fun _ => [5, 6, 7, 10, 11, 12, 13, 14, 15, 16, 17, 18, 19, 20, 21, 22, 23, 24, 25, 26, 27, 28, 29, 30, 31, 32, 33, 34, 35].map fun _ => .junk) (fun a => [.cells 76 [.int .i64 a.2.1, .slice (l.map encC) .any, .bool false, .bool a.2.2, .map 1], .mp [(.int .i64 6, .fn (.func 71) [.box 0 0] []), (.int .i64 14, .fn (.func 72) [.box 0 0] []), (.int .i64 15, .fn (.func 72) [.box 0 0] []), (.int .i64 7, .fn (.func 73) [.box 0 0] []), (.int .i64 3, .fn (.func 74) [.box 0 0] []), (.int .i64 18, .fn (.func 75) [.box 0 0] []), (.int .i64 21, .fn (.func 76) [.box 0 0] []), (.int .i64 24, .fn (.func 77) [.box 0 0] [])], .cells 27 [.int .i64 a.1.k, .int .i64 a.1.n, .int .i64 a.1.a, .slice (a.1.ls.map encL) .any, .slice (a.1.ks.map encT) .any], .cells 27 [.int .i64 0, .int .i64 0, .int .i64 0, .slice [] .full, .slice [] .full]]) (fun a => 0 ≤ a.2.1 ∧ a.2.1 ≤ lf ∧ okT a.1 ∧ a.1.pot + 7 * a.2.1.toNat ≤ PM ∧ RunH l a.1 a.2.1 a.2.2 P ∧ Ready l a.1) ?_ ?_
    rotate_left
    · intro K hK0
      rcases spot_of t' with hs | ⟨i, many, hs⟩
      · obtain ⟨p, q, hpq⟩ := spotO_none hs
        have hsp := spot_spec t' ht'.kl
        rw [hpq, encT_eq t'] at hsp
        (refine wpD_seqk fun K hK => ?_; refine wpD_region tyOK ?_; ((repeat (rw [wpS_cons]; simp)); (try simp only [wpS_nil, thenD, blockD])))
        refine cXp (hsp) ?_
        ((try simp only [wpAft_ret, wpAft_pan, putS, updS, setS]); (repeat (rw [wpS_cons]; simp)); (try simp only [wpS_nil, thenD, blockD]))
        (refine hK _ _ _ ?_; clear hK K)
        (refine wpD_seqk fun K hK => ?_; refine wpD_region tyOK ?_; ((repeat (rw [wpS_cons]; simp)); (try simp only [wpS_nil, thenD, blockD])); refine hK _ _ _ ?_; clear hK K)
        refine wpD_part rfl (fun h => by simp at h) (fun _ => ?_)
        refine wpD_skip (hK0 (t', lf, d) _ ⟨h0', Int.le_refl _, ht', hp', hrun', .none hs⟩ ?_)
        simp [leT, putAll]
      · have hsp := spot_spec t' ht'.kl
        rw [spotO_some hs ht'.kl, encT_eq t'] at hsp
        have hki := kidn_spec t' i i rfl
        have hmu := mu_kid hs
        have hkp := kid_pot t' i
        have hcs2 : lf < left ∨ (lf = left ∧ mu (t'.kid i) < mu t) := by
          rcases hcase with ⟨e1, e2⟩ | h
          · subst e2; exact .inr ⟨e1, hmu⟩
          · exact .inl h
        rcases hrun'.place h0' hs with ⟨q, hq, hP⟩ | ⟨m, v, hv, hm, hrd, hrun2⟩
        · subst hP
          have hre := hrec (t'.kid i) lf d GoneP h0' hcs2 (kid_ok ht' i) (by omega) (.gone hq)
          generalize t'.kid i = y at hki hre
          rw [encT_eq t', encT_eq y] at hki
          rw [encT_eq y] at hre
          unfold GoneP wObjs headD Cs stepsM goneD at hre
          (refine wpD_seqk fun K hK => ?_; refine wpD_region tyOK ?_; ((repeat (rw [wpS_cons]; simp)); (try simp only [wpS_nil, thenD, blockD])))
          refine cXp (hsp) ?_
          ((try simp only [wpAft_ret, wpAft_pan, putS, updS, setS]); (repeat (rw [wpS_cons]; simp)); (try simp only [wpS_nil, thenD, blockD]))
          (refine hK _ _ _ ?_; clear hK K)
          (refine wpD_seqk fun K hK => ?_; refine wpD_region tyOK ?_; ((repeat (rw [wpS_cons]; simp)); (try simp only [wpS_nil, thenD, blockD])); refine hK _ _ _ ?_; clear hK K)
          refine wpD_part rfl (fun _ => ?_) (fun h => by simp at h)
          (refine wpD_seqk fun K hK => ?_; refine wpD_drawk tyOK (by kernel_rfl) (by kernel_rfl) fun KT hKT => ?_; ((repeat (rw [wpT_cons]; simp)); (try simp only [wpT_nil])))
          refine cYp (hki) ?_
          ((try simp only [wpAftT_ret, wpAftT_pan, putS, updS, setS]); (repeat (rw [wpT_cons]; simp)); (try simp only [wpT_nil]))
          refine cYo [0, 1] true false (hre) (fun o h e => e) ?_; simp [D.ren, D.rens, D.okN, D.okNs, Cp.ren, Cp.okN, HO.ren, HO.okN, okA, renA, renO, hOf, handed, D.fgt, D.fgts, List.range_succ, List.idxOf_cons, Out.ren, upO, renO, rdO]
          (try simp only [wpAftT_ret, wpAftT_pan, putS, updS, setS])
          (rw [wpT_cons, if_neg (Bool.eq_false_iff.mp (by kernel_rfl))]; simp)
          (rw [wpT_cons, if_neg (Bool.eq_false_iff.mp (by kernel_rfl))]; simp)
          ((try simp only [wpAftT_ret, wpAftT_pan, putS, updS, setS]); (repeat (refine wpT_late _ _ _ _ (by kernel_rfl) ?_; simp only [putS, List.set, List.nil_append, List.cons_append, Nat.reduceAdd])); (try simp only [wpT_nil]))
          (refine hKT _ _ _ _ (by kernel_rfl) ?_; clear hKT KT; (try simp only [thenD, blockD]))
          simp [killHl]
          ((try simp only [thenD, blockD]); refine EndQ.pan (.inr ⟨[], by decide, by simp, ?_⟩); simp [Out.mov, movT, movH, movD, D.mov, HO.mov, okM, renM, getW, D.ren, D.rens, D.okN, D.okNs, Cp.ren, Cp.okN, HO.ren, HO.okN, okA, renA, renO, hOf, handed, D.fgt, D.fgts, List.range_succ, List.idxOf_cons, tmOf, Out.fgt, D.fgt, D.fgts])
          exact ⟨rfl, rfl⟩
        · have hre := hrec (t'.kid i) lf d _ h0' hcs2 (kid_ok ht' i) (by omega) (.fin hv hm)
          have hw := with_spec t' v i many (spot_many hs ht')
          have hvo := hv.ok hcs.ok (kid_ok ht' i)
          have hvp := hv.pot
          have hwp := with_pot (x := v) hs
          have hwo := with_ok (i := i) ht' hvo (spot_many hs ht')
          generalize hy : t'.kid i = y at hki hre hvp hwp hkp
          generalize hu : t'.withT v i many = u at hw hrd hrun2 hwp hwo
          rw [encT_eq t', encT_eq y] at hki
          unfold RetP wObjs headD Cs stepsM at hre
          rw [encT_eq y, encT_eq v] at hre
          rw [encT_eq t', encT_eq v, encT_eq u] at hw
          generalize hd1 : (d || decide (0 < m)) = d1 at hre hrun2
          (refine wpD_seqk fun K hK => ?_; refine wpD_region tyOK ?_; ((repeat (rw [wpS_cons]; simp)); (try simp only [wpS_nil, thenD, blockD])))
          refine cXp (hsp) ?_
          ((try simp only [wpAft_ret, wpAft_pan, putS, updS, setS]); (repeat (rw [wpS_cons]; simp)); (try simp only [wpS_nil, thenD, blockD]))
          (refine hK _ _ _ ?_; clear hK K)
          (refine wpD_seqk fun K hK => ?_; refine wpD_region tyOK ?_; ((repeat (rw [wpS_cons]; simp)); (try simp only [wpS_nil, thenD, blockD])); refine hK _ _ _ ?_; clear hK K)
          refine wpD_part rfl (fun _ => ?_) (fun h => by simp at h)
          (refine wpD_seqk fun K hK => ?_; refine wpD_drawk tyOK (by kernel_rfl) (by kernel_rfl) fun KT hKT => ?_; ((repeat (rw [wpT_cons]; simp)); (try simp only [wpT_nil])))
          refine cYp (hki) ?_
          ((try simp only [wpAftT_ret, wpAftT_pan, putS, updS, setS]); (repeat (rw [wpT_cons]; simp)); (try simp only [wpT_nil]))
          refine cYo [0, 1] true true (hre) (fun o h e => e) ?_; simp [D.ren, D.rens, D.okN, D.okNs, Cp.ren, Cp.okN, HO.ren, HO.okN, okA, renA, renO, hOf, handed, D.fgt, D.fgts, List.range_succ, List.idxOf_cons, Out.ren, upO, renO, rdO]
          ((try simp only [wpAftT_ret, wpAftT_pan, putS, updS, setS]); (repeat (rw [wpT_cons]; simp)); (try simp only [wpT_nil]))
          refine cYp (hw) ?_
          ((try simp only [wpAftT_ret, wpAftT_pan, putS, updS, setS]); (repeat (rw [wpT_cons]; simp)); (try simp only [wpT_nil]))
          (refine hKT _ _ _ _ (by kernel_rfl) ?_; clear hKT KT; (try simp only [thenD, blockD]))
          (refine hK _ _ _ ?_; clear hK K)
          (refine wpD_seqk fun K hK => ?_; refine wpD_region tyOK ?_; ((repeat (rw [wpS_cons]; simp)); (try simp only [wpS_nil, thenD, blockD])); refine hK _ _ _ ?_; clear hK K)
          refine wpD_part rfl (fun h => by simp at h) (fun _ => ?_)
          refine wpD_skip (hK0 (u, lf - m, d1) _ ⟨by simp only; omega, by simp only; omega, hwo, by simp only; omega, hrun2, hrd⟩ ?_)
          simp [leT, putAll]
    · rintro ⟨t1, lf1, d1⟩ ⟨g0, gle, gt, gp, grun, grd⟩
      simp only at g0 gle gt gp grun grd
      simp only [putAll, List.set, List.map_cons, List.map_nil, List.cons_append, List.nil_append]
      have hst := step_spec lf1 l false d1 (by omega) hcs t1 ⟨gt, by omega⟩
      have hown := grun.own grd
      have hrd := grd.1
      cases ho : ownS l t1 (placeX t1) with
      | none =>
        rw [ho] at hst hown
        simp only at hown
        subst hown
        unfold OwnP wObjs headD Cs stepsM at hst
        rw [encT_eq t1] at hst
        (refine wpD_seqk fun K hK => ?_; refine wpD_region tyOK ?_; ((repeat (rw [wpS_cons]; simp)); (try simp only [wpS_nil, thenD, blockD])))
        refine cXo [0, 1] true (hst) ?_
        (rintro o hc ⟨ho, rfl⟩; refine ⟨true, ?_⟩; rw [show told true o = _ from ho]; clear ho; simp [D.ren, D.rens, D.okN, D.okNs, Cp.ren, Cp.okN, HO.ren, HO.okN, okA, renA, renO, hOf, handed, D.fgt, D.fgts, List.range_succ, List.idxOf_cons, Out.ren, told, Out.fgt, upO, updS, setS])
        ((try simp only [wpAft_ret, wpAft_pan, putS, updS, setS]); (repeat (rw [wpS_cons]; simp)); (try simp only [wpS_nil, thenD, blockD]))
        (refine hK _ _ _ ?_; clear hK K)
        refine wpD_seqk fun K1 hK1 => ?_
        (refine wpD_seqk fun K hK => ?_; refine wpD_region tyOK ?_; ((repeat (rw [wpS_cons]; simp)); (try simp only [wpS_nil, thenD, blockD])); refine hK _ _ _ ?_; clear hK K)
        refine wpD_part rfl (fun _ => ?_) (fun h => by simp at h)
        (refine wpD_seqk fun K hK => ?_; refine wpD_region tyOK ?_; ((repeat (rw [wpS_cons]; simp)); (try simp only [wpS_nil, thenD, blockD])); refine hK _ _ _ ?_; clear hK K)
        (refine wpD_ret ?_; (try simp only [thenD, blockD]); refine EndQ.ret rfl (.inr ⟨[], by decide, by simp, ?_⟩); simp [Out.mov, movT, movH, movD, D.mov, HO.mov, okM, renM, getW, D.ren, D.rens, D.okN, D.okNs, Cp.ren, Cp.okN, HO.ren, HO.okN, okA, renA, renO, hOf, handed, D.fgt, D.fgts, List.range_succ, List.idxOf_cons, tmOf, Out.fgt, D.fgt, D.fgts])
        refine ⟨?_, rfl⟩
        simp [Out.fgt, encT_eq t1, D.fgt, D.fgts]
      | some p =>
        obtain ⟨w, c⟩ := p
        rw [ho] at hst hown hrd
        simp only at hown
        unfold OwnP at hst
        simp only at hst
        by_cases hc : (c : Int) ≤ lf1
        · rw [if_pos hc] at hown
          rw [Cost_ok hc] at hst
          unfold wObjs headD Cs stepsM at hst
          rw [encT_eq t1, encT_eq w] at hst
          have hpos := hstep_pos t1 hrd
          have hwo := hstep_ok hcs.ok t1 gt hrd
          have hwp := hstep_pot t1 hrd
          (refine wpD_seqk fun K hK => ?_; refine wpD_region tyOK ?_; ((repeat (rw [wpS_cons]; simp)); (try simp only [wpS_nil, thenD, blockD])))
          refine cXo [0, 1] true (hst) ?_
          (rintro o hc ⟨ho, rfl⟩; refine ⟨true, ?_⟩; rw [show told true o = _ from ho]; clear ho; simp [D.ren, D.rens, D.okN, D.okNs, Cp.ren, Cp.okN, HO.ren, HO.okN, okA, renA, renO, hOf, handed, D.fgt, D.fgts, List.range_succ, List.idxOf_cons, Out.ren, told, Out.fgt, upO, updS, setS])
          ((try simp only [wpAft_ret, wpAft_pan, putS, updS, setS]); (repeat (rw [wpS_cons]; simp)); (try simp only [wpS_nil, thenD, blockD]))
          (refine hK _ _ _ ?_; clear hK K)
          refine wpD_seqk fun K1 hK1 => ?_
          (refine wpD_seqk fun K hK => ?_; refine wpD_region tyOK ?_; ((repeat (rw [wpS_cons]; simp)); (try simp only [wpS_nil, thenD, blockD])); refine hK _ _ _ ?_; clear hK K)
          refine wpD_part rfl (fun h => by simp at h) (fun _ => ?_)
          refine wpD_skip (hK1 _ _ _ ?_)
          (refine wpD_seqk fun K hK => ?_; refine wpD_region tyOK ?_; ((repeat (rw [wpS_cons]; simp)); (try simp only [wpS_nil, thenD, blockD])); refine hK _ _ _ ?_; clear hK K)
          (refine wpD_seqk fun K hK => ?_; refine wpD_region tyOK ?_; ((repeat (rw [wpS_cons]; simp)); (try simp only [wpS_nil, thenD, blockD])); refine hK _ _ _ ?_; clear hK K)
          refine wpD_part rfl (fun h => by simp at h) (fun _ => ?_)
          refine wpD_skip ?_
          (refine hA2 ([2, 3]) ((lf1 - c).toNat) _ _ _ (LeT.refl _) (by decide) (by simp) (by omega) (by simp [movT, movH, movD, D.mov, HO.mov, okM, renM, getW, D.ren, D.rens, D.okN, D.okNs, Cp.ren, Cp.okN, HO.ren, HO.okN, okA, renA, renO, hOf, handed, D.fgt, D.fgts, List.range_succ, List.idxOf_cons, putAll]) ?_; simp [movT, movH, movD, D.mov, HO.mov, okM, renM, getW, D.ren, D.rens, D.okN, D.okNs, Cp.ren, Cp.okN, HO.ren, HO.okN, okA, renA, renO, hOf, handed, D.fgt, D.fgts, List.range_succ, List.idxOf_cons])
          exact ⟨w, lf1 - c, by omega, by omega, .inr (by omega), hwo, by omega, hown, rfl, rfl, rfl, rfl, rfl, rfl⟩
        · rw [if_neg hc] at hown
          subst hown
          rw [Cost_no hc] at hst
          unfold wObjs headD Cs stepsM goneD at hst
          rw [encT_eq t1] at hst
          (refine wpD_seqk fun K hK => ?_; refine wpD_region tyOK ?_; ((repeat (rw [wpS_cons]; simp)); (try simp only [wpS_nil, thenD, blockD])))
          refine cXo [0, 1] true (hst) ?_
          (rintro o hc ⟨rfl, rfl⟩; refine ⟨false, ?_⟩; simp [D.ren, D.rens, D.okN, D.okNs, Cp.ren, Cp.okN, HO.ren, HO.okN, okA, renA, renO, hOf, handed, D.fgt, D.fgts, List.range_succ, List.idxOf_cons, Out.ren, told, Out.fgt, upO, updS, setS])
          ((try simp only [thenD, blockD]); refine EndQ.pan (.inr ⟨[], by decide, by simp, ?_⟩); simp [Out.mov, movT, movH, movD, D.mov, HO.mov, okM, renM, getW, D.ren, D.rens, D.okN, D.okNs, Cp.ren, Cp.okN, HO.ren, HO.okN, okA, renA, renO, hOf, handed, D.fgt, D.fgts, List.range_succ, List.idxOf_cons, tmOf, Out.fgt, D.fgt, D.fgts])
          exact ⟨rfl, rfl⟩
end Go.Proofs.YtebmlojhdnldgaaGreatDoor

namespace Go.Proofs.YtebmlojhdnldgaaGreatDoor
set_option linter.unusedSimpArgs false
set_option linter.unusedVariables false
set_option maxHeartbeats 10000000
set_option maxRecDepth 20000
open Go.RowKit
attribute [local simp] wpAft_ret wpAft_pan wantD evOp opD tmOf putS updS setS hOf isFree isTok fillD TK.isAgg TK.known partD thenD blockD putAll D.ofV inB nilTest isNilS binX binD binE isCst bndD capB IntKind.min IntKind.max IntKind.signed IntKind.bits dstOf late
end Go.Proofs.YtebmlojhdnldgaaGreatDoor

namespace Go.Proofs.YtebmlojhdnldgaaGreatDoor
set_option linter.unusedSimpArgs false
set_option linter.unusedVariables false
set_option maxHeartbeats 10000000
set_option maxRecDepth 20000
open Go.RowKit
attribute [local simp] wpAft_ret wpAft_pan wantD evOp opD tmOf putS updS setS hOf isFree isTok fillD TK.isAgg TK.known partD thenD blockD putAll D.ofV inB nilTest isNilS binX binD binE isCst bndD capB IntKind.min IntKind.max IntKind.signed IntKind.bits dstOf late
theorem hat_spec (l : List C) (f : Int) : Spec Tryz.prog glob 42 [Cs l, .int .i64 f] [] (fun o hc => o = .ret (.box 0 0) ∧ hc = wObjs f l false false) := by
  unfold wObjs headD Cs stepsM
  have L0 : 0 < LMax := by unfold LMax; omega
  have L1 : 1 < LMax := by unfold LMax; omega
  have L2 : 2 < LMax := by unfold LMax; omega
  have L3 : 3 < LMax := by unfold LMax; omega
  have L4 : 4 < LMax := by unfold LMax; omega
  have L5 : 5 < LMax := by unfold LMax; omega
  have L6 : 6 < LMax := by unfold LMax; omega
  have L7 : 7 < LMax := by unfold LMax; omega
  refine Spec.movd globPure (wpD_spec tyOK Tryz.func42 rfl (enters _ _ Tryz.func42 rfl (by decide)) rfl rfl ?_)
  (refine wpD_seqk fun K hK => ?_; refine wpD_region tyOK ?_; ((repeat (rw [wpS_cons]; simp)); (try simp only [wpS_nil, thenD, blockD])); refine hK _ _ _ ?_; clear hK K)
  (refine wpD_seqk fun K hK => ?_; refine wpD_region tyOK ?_; ((repeat (rw [wpS_cons]; simp)); (try simp only [wpS_nil, thenD, blockD])); refine hK _ _ _ ?_; clear hK K)
  (refine wpD_seqk fun K hK => ?_; refine wpD_region tyOK ?_; ((repeat (rw [wpS_cons]; simp [findD, keyEq, isIntK, L0, L1, L2, L3, L4, L5, L6, L7])); (try simp only [wpS_nil, thenD, blockD])); refine hK _ _ _ ?_; clear hK K)
  (refine wpD_seqk fun K hK => ?_; refine wpD_region tyOK ?_; ((repeat (rw [wpS_cons]; simp)); (try simp only [wpS_nil, thenD, blockD])); refine hK _ _ _ ?_; clear hK K)
  (refine wpD_ret ?_; (try simp only [thenD, blockD]); refine EndQ.ret rfl (.inr ⟨[0, 1], by decide, by simp, ?_⟩); simp [Out.mov, movT, movH, movD, D.mov, HO.mov, okM, renM, getW, D.ren, D.rens, D.okN, D.okNs, Cp.ren, Cp.okN, HO.ren, HO.okN, okA, renA, renO, hOf, handed, D.fgt, D.fgts, List.range_succ, List.idxOf_cons, tmOf, Out.fgt, D.fgt, D.fgts])
end Go.Proofs.YtebmlojhdnldgaaGreatDoor

namespace Go.Proofs.YtebmlojhdnldgaaGreatDoor
set_option linter.unusedSimpArgs false
set_option linter.unusedVariables false
set_option maxHeartbeats 10000000
set_option maxRecDepth 20000
open Go.RowKit
attribute [local simp] wpAft_ret wpAft_pan wantD evOp opD tmOf putS updS setS hOf isFree isTok fillD TK.isAgg TK.known partD thenD blockD putAll D.ofV inB nilTest isNilS binX binD binE isCst bndD capB IntKind.min IntKind.max IntKind.signed IntKind.bits dstOf late
theorem wcatch_idle (k n a x y : Int) (ls ks : D) : SpecD Tryz.prog glob 88 [.box 0 0, .box 1 0, .box 2 0] [.cells 27 [.int .i64 k, .int .i64 n, .int .i64 a, ls, ks], .cells 3 [.int .i64 x], .cells 33 [.int .i64 y]] none
    (fun hc => hc = [.cells 27 [.int .i64 k, .int .i64 n, .int .i64 a, ls, ks], .cells 3 [.int .i64 x], .cells 33 [.int .i64 y]]) := by
  refine wpD_specd tyOK Tryz.func88 rfl rfl (fun a w => rfl) rfl (enters _ _ Tryz.func88 rfl (by decide)) rfl rfl ?_
  ((try simp only [wpAft_ret, wpAft_pan, putS, updS, setS]); (repeat (rw [wpS_cons]; simp)); (try simp only [wpS_nil, thenD, blockD]))
  (refine wpD_seqk fun K hK => ?_; refine wpD_region tyOK ?_; ((repeat (rw [wpS_cons]; simp)); (try simp only [wpS_nil, thenD, blockD])); refine hK _ _ _ ?_; clear hK K)
  refine wpD_part rfl (fun h => by simp at h) (fun _ => ?_)
  refine wpD_skip ?_
  refine EndQ.nrm rfl ?_
  simp [updS]
theorem wcatch_gone (x y : Int) : SpecD Tryz.prog glob 88 [.box 0 0, .box 1 0, .box 2 0] [.cells 27 [.int .i64 0, .int .i64 0, .int .i64 0, .slice [] .full, .slice [] .full], .cells 3 [.int .i64 x], .cells 33 [.int .i64 y]] (some goneD)
    (fun hc => hc = [.cells 27 [.int .i64 0, .int .i64 0, .int .i64 0, .slice [] .full, .slice [] .full], .cells 3 [.int .i64 0], .cells 33 [.int .i64 5], .cells 122 []]) := by
  refine wpD_specd tyOK Tryz.func88 rfl rfl (fun a w => rfl) rfl (enters _ _ Tryz.func88 rfl (by decide)) rfl rfl ?_
  unfold goneD
  ((try simp only [wpAft_ret, wpAft_pan, putS, updS, setS]); (repeat (rw [wpS_cons]; simp)); (try simp only [wpS_nil, thenD, blockD]))
  (refine wpD_seqk fun K hK => ?_; refine wpD_region tyOK ?_; ((repeat (rw [wpS_cons]; simp)); (try simp only [wpS_nil, thenD, blockD])); refine hK _ _ _ ?_; clear hK K)
  refine wpD_part rfl (fun _ => ?_) (fun h => by simp at h)
  refine wpD_seqk fun K1 hK1 => ?_
  (refine wpD_seqk fun K hK => ?_; refine wpD_region tyOK ?_; ((repeat (rw [wpS_cons]; simp)); (try simp only [wpS_nil, thenD, blockD])); refine hK _ _ _ ?_; clear hK K)
  refine wpD_seqk fun K2 hK2 => ?_
  (refine wpD_region tyOK ?_; ((repeat (rw [wpS_cons]; simp)); (try simp only [wpS_nil, thenD, blockD])))
  refine hK2 _ _ _ ?_
  refine wpD_part rfl (fun h => by simp at h) (fun _ => ?_)
  refine wpD_skip (hK1 _ _ _ ?_)
  (refine wpD_region tyOK ?_; ((repeat (rw [wpS_cons]; simp)); (try simp only [wpS_nil, thenD, blockD])))
  refine EndQ.nrm rfl ?_
  simp
end Go.Proofs.YtebmlojhdnldgaaGreatDoor

namespace Go.Proofs.YtebmlojhdnldgaaGreatDoor
set_option linter.unusedSimpArgs false
set_option linter.unusedVariables false
set_option maxHeartbeats 10000000
set_option maxRecDepth 20000
open Go.RowKit
attribute [local simp] wpAft_ret wpAft_pan wantD evOp opD tmOf putS updS setS hOf isFree isTok fillD TK.isAgg TK.known partD thenD blockD putAll D.ofV inB nilTest isNilS binX binD binE isCst bndD capB IntKind.min IntKind.max IntKind.signed IntKind.bits dstOf late
def sortedB : LV → Bool
  | [] => true
  | [_] => true
  | a :: b :: r => decide (a.1 < b.1) && sortedB (b :: r)
def partBad (n : Int) (p : Int × Int) : Bool := decide (p.1 < 0) || decide (n < p.1) || decide (p.2 < 0) || decide (1000 < p.2)
def levelRight (l : LV) (n : Int) : Bool := sortedB l && decide (l.length ≤ 9) && !(l.any (partBad n))
end Go.Proofs.YtebmlojhdnldgaaGreatDoor

namespace Go.Proofs.YtebmlojhdnldgaaGreatDoor
set_option linter.unusedSimpArgs false
set_option linter.unusedVariables false
open Go.RowKit
def bareB (t : T) : Bool := decide (t.n = 0) && decide (t.a = 0) && decide (t.ls = [])
def variableB (sc : Int) (t : T) : Bool := decide (0 ≤ t.n) && decide (t.n < sc) && decide (t.a = 0) && decide (t.ls = [])
def finB (t : T) : Bool := decide (0 ≤ t.n) && decide (t.a = 0) && decide (t.ls = [])
def elemB (t : T) : Bool := decide (0 ≤ t.n) && decide (t.n < t.a) && decide (t.ls = [])
def branchesB (t : T) : Bool := decide (t.n = 0) && decide (0 ≤ t.a) && decide (t.ls = [])
def sortB (n : Int) (t : T) : Bool := decide (t.n = 0) && decide (t.a = 0) && decide (t.ls.length = 1) && (t.ls.all fun l => levelRight l n)
def constB (n : Int) (cs : List Int) (t : T) : Bool := decide (0 ≤ t.n) && decide (t.n < cs.length) && decide (t.a = 0) && decide ((t.ls.length : Int) = cs.getD t.n.toNat 0) && (t.ls.all fun l => levelRight l n)
/-- what a kind asks of its term; how many kids -/
def askC (n sc : Int) (cs : List Int) (t : T) : Bool :=
  if t.k = 1 then variableB sc t else if t.k = 2 then sortB n t else if t.k = 3 then constB n cs t else if t.k = 22 then finB t else if t.k = 23 then elemB t else if t.k = 24 then branchesB t else bareB t
def askN (k a : Int) : Int :=
  if k = 7 ∨ k = 19 then 3 else if k = 14 ∨ k = 15 then 1 else if k = 18 then 5 else if k = 21 then 6 else if k = 24 then IntKind.i64.wrap (a + 2) else if k = 1 ∨ k = 2 ∨ k = 3 ∨ k = 20 ∨ k = 22 ∨ k = 23 then 0 else 2
def inCore (k : Int) : Bool := (decide (1 ≤ k) && decide (k ≤ 7)) || (decide (12 ≤ k) && decide (k ≤ 24))
/-- a node, but for its kids -/
def nodeB (n sc : Int) (cs : List Int) (t : T) : Bool := inCore t.k && askC n sc cs t && decide ((t.ks.length : Int) = askN t.k t.a)
mutual
def coreB (n : Int) (cs : List Int) : T → Int → Bool
  | .mk k m a ls ks, sc => nodeB n sc cs (.mk k m a ls ks) && coreKs n cs ks k 0 sc
def coreKs (n : Int) (cs : List Int) : List T → Int → Nat → Int → Bool
  | [], _, _, _ => true
  | t :: r, k, i, sc => coreB n cs t (belowD sc k i) && coreKs n cs r k (i + 1) sc
end
end Go.Proofs.YtebmlojhdnldgaaGreatDoor

namespace Go.Proofs.YtebmlojhdnldgaaGreatDoor
set_option linter.unusedSimpArgs false
set_option linter.unusedVariables false
open Go.RowKit
theorem belowD_in {d k i : Int} (h : -1000000000000000 ≤ d) (h2 : d ≤ 1000000000000000) : belowD d k i = if bindsB k i then d + 1 else d := by
  unfold belowD
  split
  · rw [i64w (by omega) (by omega)]
  · rfl
theorem belowD_le {d k i : Int} (h : -1000000000000000 ≤ d) (h2 : d ≤ 1000000000000000) : d ≤ belowD d k i ∧ belowD d k i ≤ d + 1 := by
  rw [belowD_in h h2]; split <;> omega
/-- more constants: each as it was -/
def ConstsLe (cs cs' : List Int) : Prop := cs.length ≤ cs'.length ∧ ∀ i, i < cs.length → cs'.getD i 0 = cs.getD i 0
theorem ConstsLe.refl (cs : List Int) : ConstsLe cs cs := ⟨Nat.le_refl _, fun _ _ => rfl⟩
theorem ConstsLe.append (cs more : List Int) : ConstsLe cs (cs ++ more) := by
  refine ⟨by simp, fun i hi => ?_⟩
  rw [List.getD_eq_getElem?_getD, List.getD_eq_getElem?_getD, List.getElem?_append_left hi]
def ScOk (sc : Int) (t : T) : Prop := 0 ≤ sc ∧ sc + t.deep ≤ 1000000000000000
theorem ScOk.kid {sc k m a : Int} {ls : List LV} {ks : List T} (h : ScOk sc (.mk k m a ls ks)) {t : T} (ht : t ∈ ks) (i : Int) : ScOk (belowD sc k i) t := by
  have h1 := T.deep_kid (k := k) (n := m) (a := a) (ls := ls) ht
  obtain ⟨h2, h3⟩ := h
  have := belowD_le (d := sc) (k := k) (i := i) (by omega) (by omega)
  unfold ScOk
  omega
/-! levels -/
/-- no Plus above one -/
def lowL (most : Int) (l : LV) : Bool := l.all fun p => decide (p.2 ≤ most)
mutual
def T.lowB (most : Int) : T → Bool
  | .mk _ _ _ ls ks => ls.all (lowL most) && T.lowsB most ks
def T.lowsB (most : Int) : List T → Bool
  | [] => true
  | t :: r => T.lowB most t && T.lowsB most r
end
end Go.Proofs.YtebmlojhdnldgaaGreatDoor

namespace Go.Proofs.YtebmlojhdnldgaaGreatDoor
set_option linter.unusedSimpArgs false
set_option linter.unusedVariables false
set_option maxHeartbeats 10000000
set_option maxRecDepth 20000
open Go.RowKit
attribute [local simp] wpAft_ret wpAft_pan wantD evOp opD tmOf putS updS setS hOf isFree isTok fillD TK.isAgg TK.known partD thenD blockD putAll D.ofV inB nilTest isNilS binX binD binE isCst bndD capB IntKind.min IntKind.max IntKind.signed IntKind.bits dstOf late
theorem whnf_fin {l : List C} (hcs : okCs l) {t u : T} {f : Int} {n : Nat} (h0 : 0 ≤ f) (h1 : f ≤ 1073741824) (ht : okT t) (hp : t.pot + 7 * f.toNat ≤ PM) (h : Hd l t n u) (hn : (n : Int) ≤ f) :
    Spec Tryz.prog glob 52 [Cs l, encT t, .int .i64 f] [] (fun o _ => o.fgt = .ret (.tuple [encT u, .int .i64 (f - n), .int .i64 0])) := by
  have hat := hat_spec l f
  have hre := head_spec hcs _ _ t f false _ h0 rfl rfl ht hp (.fin h hn)
  have huo := h.ok hcs.ok ht
  have hup := h.pot
  have hud : u.deep ≤ DM := by have := u.deep_nsz; have := nsz_pot u; unfold PM at hp; unfold DM; omega
  have hli := lift_spec u 0 0 hud huo
  rw [show u.lift 0 0 0 = u from lift_zero huo 0] at hli
  have h0' : ¬ f < 0 := by omega
  have h1' : ¬ 1073741824 < f := by omega
  generalize (false || decide (0 < n)) = d at hre
  unfold RetP wObjs headD Cs stepsM at hre
  unfold wObjs headD Cs stepsM at hat
  rw [encT_eq t, encT_eq u] at hre
  rw [encT_eq u] at hli
  rw [encT_eq t]
  unfold Cs
  refine Spec.movd globPure (wpD_specD tyOK Tryz.func52 rfl (enters _ _ Tryz.func52 rfl (by decide)) rfl rfl ?_)
  (refine wpD_seqk fun K hK => ?_; refine wpD_region tyOK ?_; ((repeat (rw [wpS_cons]; simp)); (try simp only [wpS_nil, thenD, blockD])); refine hK _ _ _ ?_; clear hK K)
  refine wpD_seqk fun K1 hK1 => ?_
  (refine wpD_seqk fun K hK => ?_; refine wpD_region tyOK ?_; ((repeat (rw [wpS_cons]; simp [h0', h1'])); (try simp only [wpS_nil, thenD, blockD])); refine hK _ _ _ ?_; clear hK K)
  refine wpD_part rfl (fun h => by simp at h) (fun _ => ?_)
  refine wpD_skip (hK1 _ _ _ ?_)
  (refine wpD_seqk fun K hK => ?_; refine wpD_region tyOK ?_; ((repeat (rw [wpS_cons]; simp)); (try simp only [wpS_nil, thenD, blockD])); refine hK _ _ _ ?_; clear hK K)
  (refine wpD_seqk fun K hK => ?_; refine wpD_region tyOK ?_; ((repeat (rw [wpS_cons]; simp)); (try simp only [wpS_nil, thenD, blockD])))
  refine cXo [] true (hat) ?_
  (rintro o hc ⟨rfl, rfl⟩; refine ⟨false, ?_⟩; simp [D.ren, D.rens, D.okN, D.okNs, Cp.ren, Cp.okN, HO.ren, HO.okN, okA, renA, renO, hOf, handed, D.fgt, D.fgts, List.range_succ, List.idxOf_cons, Out.ren, told, Out.fgt, upO, updS, setS])
  ((try simp only [wpAft_ret, wpAft_pan, putS, updS, setS]); (repeat (rw [wpS_cons]; simp)); (try simp only [wpS_nil, thenD, blockD]))
  (refine hK _ _ _ ?_; clear hK K)
  (refine wpD_seqk fun K hK => ?_; refine wpD_region tyOK ?_; ((repeat (rw [wpS_cons]; simp)); (try simp only [wpS_nil, thenD, blockD])))
  refine cXo [4, 5] true (hre) ?_
  (rintro o hc ⟨ho, rfl⟩; refine ⟨true, ?_⟩; rw [show told true o = _ from ho]; clear ho; simp [D.ren, D.rens, D.okN, D.okNs, Cp.ren, Cp.okN, HO.ren, HO.okN, okA, renA, renO, hOf, handed, D.fgt, D.fgts, List.range_succ, List.idxOf_cons, Out.ren, told, Out.fgt, upO, updS, setS])
  ((try simp only [wpAft_ret, wpAft_pan, putS, updS, setS]); (repeat (rw [wpS_cons]; simp)); (try simp only [wpS_nil, thenD, blockD]))
  refine cXp (hli) ?_
  ((try simp only [wpAft_ret, wpAft_pan, putS, updS, setS]); (repeat (rw [wpS_cons]; simp)); (try simp only [wpS_nil, thenD, blockD]))
  (refine hK _ _ _ ?_; clear hK K)
  (refine wpD_seqk fun K hK => ?_; refine wpD_drawk tyOK (by kernel_rfl) (by kernel_rfl) fun KT hKT => ?_; ((repeat (rw [wpT_cons]; simp)); (try simp only [wpT_nil])))
  (refine hKT _ _ _ _ (by kernel_rfl) ?_; clear hKT KT; (try simp only [thenD, blockD]))
  (refine hK _ _ _ ?_; clear hK K)
  refine wpD_ret ?_
  refine DefX.objs globPure [1, 2, 3] (wcatch_idle u.k u.n u.a (f - n) 0 (.slice (u.ls.map encL) .any) (.slice (u.ks.map encT) .any)) ?_ ?_ (fun d h => by cases h) (by decide) (by simp) (by simp [D.ren, D.rens, D.okN, D.okNs, Cp.ren, Cp.okN, HO.ren, HO.okN, okA, renA, renO, hOf, handed, D.fgt, D.fgts, List.range_succ, List.idxOf_cons]) (by simp [D.ren, D.rens, D.okN, D.okNs, Cp.ren, Cp.okN, HO.ren, HO.okN, okA, renA, renO, hOf, handed, D.fgt, D.fgts, List.range_succ, List.idxOf_cons]) (by simp [D.ren, D.rens, D.okN, D.okNs, Cp.ren, Cp.okN, HO.ren, HO.okN, okA, renA, renO, hOf, handed, D.fgt, D.fgts, List.range_succ, List.idxOf_cons]) (by simp [D.ren, D.rens, D.okN, D.okNs, Cp.ren, Cp.okN, HO.ren, HO.okN, okA, renA, renO, hOf, handed, D.fgt, D.fgts, List.range_succ, List.idxOf_cons])
  · rintro hc rfl
    simp [D.ren, D.rens, D.okN, D.okNs, Cp.ren, Cp.okN, HO.ren, HO.okN, okA, renA, renO, hOf, handed, D.fgt, D.fgts, List.range_succ, List.idxOf_cons, upO, updS, setS]
    refine endD.intro rfl (.inr ⟨[], by decide, by simp, ?_⟩)
    simp [Out.mov, movT, movH, movD, D.mov, HO.mov, okM, renM, getW, D.ren, D.rens, D.okN, D.okNs, Cp.ren, Cp.okN, HO.ren, HO.okN, okA, renA, renO, hOf, handed, D.fgt, D.fgts, List.range_succ, List.idxOf_cons]
    simp [Out.fgt, encT_eq u, D.fgt, D.fgts]
  · rintro hc rfl
    simp
theorem whnf_gone {l : List C} (hcs : okCs l) {t : T} {f q : Int} (h0 : 0 ≤ f) (h1 : f ≤ 1073741824) (ht : okT t) (hp : t.pot + 7 * f.toNat ≤ PM) (h : GoneAt l t f q) :
    Spec Tryz.prog glob 52 [Cs l, encT t, .int .i64 f] [] (fun o _ => o.fgt = .ret (.tuple [encT zeroT, .int .i64 0, .int .i64 5])) := by
  have hat := hat_spec l f
  have hre := head_spec hcs _ _ t f false _ h0 rfl rfl ht hp (.gone h)
  have h0' : ¬ f < 0 := by omega
  have h1' : ¬ 1073741824 < f := by omega
  unfold GoneP wObjs headD Cs stepsM goneD at hre
  unfold wObjs headD Cs stepsM at hat
  rw [encT_eq t] at hre
  rw [encT_eq t, encZ]
  unfold Cs
  have hcg := wcatch_gone 0 0
  unfold goneD at hcg
  refine Spec.movd globPure (wpD_specD tyOK Tryz.func52 rfl (enters _ _ Tryz.func52 rfl (by decide)) rfl rfl ?_)
  (refine wpD_seqk fun K hK => ?_; refine wpD_region tyOK ?_; ((repeat (rw [wpS_cons]; simp)); (try simp only [wpS_nil, thenD, blockD])); refine hK _ _ _ ?_; clear hK K)
  refine wpD_seqk fun K1 hK1 => ?_
  (refine wpD_seqk fun K hK => ?_; refine wpD_region tyOK ?_; ((repeat (rw [wpS_cons]; simp [h0', h1'])); (try simp only [wpS_nil, thenD, blockD])); refine hK _ _ _ ?_; clear hK K)
  refine wpD_part rfl (fun h => by simp at h) (fun _ => ?_)
  refine wpD_skip (hK1 _ _ _ ?_)
  (refine wpD_seqk fun K hK => ?_; refine wpD_region tyOK ?_; ((repeat (rw [wpS_cons]; simp)); (try simp only [wpS_nil, thenD, blockD])); refine hK _ _ _ ?_; clear hK K)
  (refine wpD_seqk fun K hK => ?_; refine wpD_region tyOK ?_; ((repeat (rw [wpS_cons]; simp)); (try simp only [wpS_nil, thenD, blockD])))
  refine cXo [] true (hat) ?_
  (rintro o hc ⟨rfl, rfl⟩; refine ⟨false, ?_⟩; simp [D.ren, D.rens, D.okN, D.okNs, Cp.ren, Cp.okN, HO.ren, HO.okN, okA, renA, renO, hOf, handed, D.fgt, D.fgts, List.range_succ, List.idxOf_cons, Out.ren, told, Out.fgt, upO, updS, setS])
  ((try simp only [wpAft_ret, wpAft_pan, putS, updS, setS]); (repeat (rw [wpS_cons]; simp)); (try simp only [wpS_nil, thenD, blockD]))
  (refine hK _ _ _ ?_; clear hK K)
  (refine wpD_seqk fun K hK => ?_; refine wpD_region tyOK ?_; ((repeat (rw [wpS_cons]; simp)); (try simp only [wpS_nil, thenD, blockD])))
  refine cXo [4, 5] true (hre) ?_
  (rintro o hc ⟨rfl, rfl⟩; refine ⟨false, ?_⟩; simp [D.ren, D.rens, D.okN, D.okNs, Cp.ren, Cp.okN, HO.ren, HO.okN, okA, renA, renO, hOf, handed, D.fgt, D.fgts, List.range_succ, List.idxOf_cons, Out.ren, told, Out.fgt, upO, updS, setS])
  (try simp only [thenD, blockD])
  refine DefX.objs globPure [1, 2, 3] hcg ?_ ?_ (fun d h => by cases h; rfl) (by decide) (by simp) (by simp [D.ren, D.rens, D.okN, D.okNs, Cp.ren, Cp.okN, HO.ren, HO.okN, okA, renA, renO, hOf, handed, D.fgt, D.fgts, List.range_succ, List.idxOf_cons]) (by simp [D.ren, D.rens, D.okN, D.okNs, Cp.ren, Cp.okN, HO.ren, HO.okN, okA, renA, renO, hOf, handed, D.fgt, D.fgts, List.range_succ, List.idxOf_cons]) (by simp [D.ren, D.rens, D.okN, D.okNs, Cp.ren, Cp.okN, HO.ren, HO.okN, okA, renA, renO, hOf, handed, D.fgt, D.fgts, List.range_succ, List.idxOf_cons]) (by simp [D.ren, D.rens, D.okN, D.okNs, Cp.ren, Cp.okN, HO.ren, HO.okN, okA, renA, renO, hOf, handed, D.fgt, D.fgts, List.range_succ, List.idxOf_cons])
  · rintro hc rfl
    simp [D.ren, D.rens, D.okN, D.okNs, Cp.ren, Cp.okN, HO.ren, HO.okN, okA, renA, renO, hOf, handed, D.fgt, D.fgts, List.range_succ, List.idxOf_cons, upO, updS, setS]
    refine endD.intro rfl (.inr ⟨[], by decide, by simp, ?_⟩)
    simp [Out.mov, movT, movH, movD, D.mov, HO.mov, okM, renM, getW, D.ren, D.rens, D.okN, D.okNs, Cp.ren, Cp.okN, HO.ren, HO.okN, okA, renA, renO, hOf, handed, D.fgt, D.fgts, List.range_succ, List.idxOf_cons]
  · rintro hc rfl
    simp
end Go.Proofs.YtebmlojhdnldgaaGreatDoor

namespace Go.Proofs.YtebmlojhdnldgaaGreatDoor
set_option linter.unusedSimpArgs false
set_option linter.unusedVariables false
set_option maxHeartbeats 10000000
set_option maxRecDepth 20000
open Go.RowKit
attribute [local simp] wpAft_ret wpAft_pan wantD evOp opD tmOf putS updS setS hOf isFree isTok fillD TK.isAgg TK.known partD thenD blockD putAll D.ofV inB nilTest isNilS binX binD binE isCst bndD capB IntKind.min IntKind.max IntKind.signed IntKind.bits dstOf late
def askO (left : Int) (l : List C) : List HO := [.cells 134 [.int .i64 left, Cs l]]
def fuelE : D := .iface 33 (.int .i64 5)
theorem call_ok (left : Int) (l : List C) (h : 1 ≤ left) (hl : left ≤ 9223372036854775807) : Spec Tryz.prog glob 105 [.box 0 0] (askO left l) (fun o hc => o = .ret (.tuple []) ∧ hc = askO (left - 1) l) := by
  have hw : IntKind.i64.wrap (left - 1) = left - 1 := i64w (by omega) (by omega)
  have h' : ¬ left = 0 := by omega
  unfold askO Cs
  refine Spec.movd globPure (wpD_spec tyOK Tryz.func105 rfl (enters _ _ Tryz.func105 rfl (by decide)) rfl rfl ?_)
  refine wpD_seqk fun K1 hK1 => ?_
  (refine wpD_seqk fun K hK => ?_; refine wpD_region tyOK ?_; ((repeat (rw [wpS_cons]; simp [h'])); (try simp only [wpS_nil, thenD, blockD])); refine hK _ _ _ ?_; clear hK K)
  refine wpD_part rfl (fun h => by simp at h) (fun _ => ?_)
  refine wpD_skip (hK1 _ _ _ ?_)
  (refine wpD_region tyOK ?_; ((repeat (rw [wpS_cons]; simp [hw])); (try simp only [wpS_nil, thenD, blockD])))
  ((try simp only [thenD, blockD]); refine EndQ.nrm rfl (.inr ⟨[], by decide, by simp, ?_⟩); simp [Out.mov, movT, movH, movD, D.mov, HO.mov, okM, renM, getW, D.ren, D.rens, D.okN, D.okNs, Cp.ren, Cp.okN, HO.ren, HO.okN, okA, renA, renO, hOf, handed, D.fgt, D.fgts, List.range_succ, List.idxOf_cons, tmOf, Out.fgt, D.fgt, D.fgts])
theorem call_no (l : List C) : Spec Tryz.prog glob 105 [.box 0 0] (askO 0 l) (fun o hc => o = .pan fuelE ∧ hc = [.dead]) := by
  refine Spec.dead (Post := fun o hc => o = .pan fuelE ∧ hc = askO 0 l) ?_ fun o hc hp => ⟨[.dead], fun r => by
    rw [hp.2]
    match r with
    | 0 => exact .inr rfl
    | r + 1 => exact .inl rfl, hp.1, rfl⟩
  unfold askO Cs fuelE
  refine Spec.movd globPure (wpD_spec tyOK Tryz.func105 rfl (enters _ _ Tryz.func105 rfl (by decide)) rfl rfl ?_)
  refine wpD_seqk fun K1 hK1 => ?_
  (refine wpD_seqk fun K hK => ?_; refine wpD_region tyOK ?_; ((repeat (rw [wpS_cons]; simp)); (try simp only [wpS_nil, thenD, blockD])); refine hK _ _ _ ?_; clear hK K)
  refine wpD_part rfl (fun _ => ?_) (fun h => by simp at h)
  (refine wpD_region tyOK ?_; ((repeat (rw [wpS_cons]; simp)); (try simp only [wpS_nil, thenD, blockD])))
  ((try simp only [thenD, blockD]); refine EndQ.pan (.inr ⟨[], by decide, by simp, ?_⟩); simp [Out.mov, movT, movH, movD, D.mov, HO.mov, okM, renM, getW, D.ren, D.rens, D.okN, D.okNs, Cp.ren, Cp.okN, HO.ren, HO.okN, okA, renA, renO, hOf, handed, D.fgt, D.fgts, List.range_succ, List.idxOf_cons, tmOf, Out.fgt, D.fgt, D.fgts])
theorem spend_ok (left g : Int) (l : List C) : Spec Tryz.prog glob 130 [.box 0 0, .int .i64 g, .int .i64 0] (askO left l) (fun o hc => o = .ret (.tuple []) ∧ hc = askO g l) := by
  unfold askO Cs
  refine Spec.movd globPure (wpD_spec tyOK Tryz.func130 rfl (enters _ _ Tryz.func130 rfl (by decide)) rfl rfl ?_)
  (refine wpD_seqk fun K hK => ?_; refine wpD_region tyOK ?_; ((repeat (rw [wpS_cons]; simp)); (try simp only [wpS_nil, thenD, blockD])); refine hK _ _ _ ?_; clear hK K)
  (refine wpD_seqk fun K hK => ?_; refine wpD_region tyOK ?_; ((repeat (rw [wpS_cons]; simp)); (try simp only [wpS_nil, thenD, blockD])); refine hK _ _ _ ?_; clear hK K)
  refine wpD_part rfl (fun h => by simp at h) (fun _ => ?_)
  refine wpD_skip ?_
  ((try simp only [thenD, blockD]); refine EndQ.nrm rfl (.inr ⟨[], by decide, by simp, ?_⟩); simp [Out.mov, movT, movH, movD, D.mov, HO.mov, okM, renM, getW, D.ren, D.rens, D.okN, D.okNs, Cp.ren, Cp.okN, HO.ren, HO.okN, okA, renA, renO, hOf, handed, D.fgt, D.fgts, List.range_succ, List.idxOf_cons, tmOf, Out.fgt, D.fgt, D.fgts])
theorem spend_no (left g : Int) (l : List C) : Spec Tryz.prog glob 130 [.box 0 0, .int .i64 g, .int .i64 5] (askO left l) (fun o hc => o = .pan fuelE ∧ hc = [.dead]) := by
  refine Spec.dead (Post := fun o hc => o = .pan fuelE ∧ hc = askO g l) ?_ fun o hc hp => ⟨[.dead], fun r => by
    rw [hp.2]
    match r with
    | 0 => exact .inr rfl
    | r + 1 => exact .inl rfl, hp.1, rfl⟩
  unfold askO Cs fuelE
  refine Spec.movd globPure (wpD_spec tyOK Tryz.func130 rfl (enters _ _ Tryz.func130 rfl (by decide)) rfl rfl ?_)
  (refine wpD_seqk fun K hK => ?_; refine wpD_region tyOK ?_; ((repeat (rw [wpS_cons]; simp)); (try simp only [wpS_nil, thenD, blockD])); refine hK _ _ _ ?_; clear hK K)
  (refine wpD_seqk fun K hK => ?_; refine wpD_region tyOK ?_; ((repeat (rw [wpS_cons]; simp)); (try simp only [wpS_nil, thenD, blockD])); refine hK _ _ _ ?_; clear hK K)
  refine wpD_part rfl (fun _ => ?_) (fun h => by simp at h)
  (refine wpD_region tyOK ?_; ((repeat (rw [wpS_cons]; simp)); (try simp only [wpS_nil, thenD, blockD])))
  ((try simp only [thenD, blockD]); refine EndQ.pan (.inr ⟨[], by decide, by simp, ?_⟩); simp [Out.mov, movT, movH, movD, D.mov, HO.mov, okM, renM, getW, D.ren, D.rens, D.okN, D.okNs, Cp.ren, Cp.okN, HO.ren, HO.okN, okA, renA, renO, hOf, handed, D.fgt, D.fgts, List.range_succ, List.idxOf_cons, tmOf, Out.fgt, D.fgt, D.fgts])
/-- what to bring to the head leaves -/
def HeadP (l : List C) : Option (T × Int) → Out → List HO → Prop
  | some (u, g) => fun o hc => o.fgt = .ret (encT u) ∧ hc = askO g l
  | none => fun o hc => o = .pan fuelE ∧ hc = [.dead]
theorem ahead_spec {l : List C} (hcs : okCs l) {t : T} {f : Int} {r : Option (T × Int)} (h0 : 0 ≤ f) (h1 : f ≤ 1073741824) (ht : okT t) (hp : t.pot + 7 * f.toNat ≤ PM) (h : HdO l t f r) :
    Spec Tryz.prog glob 106 [.box 0 0, encT t] (askO f l) (HeadP l r) := by
  cases h with
  | @fin m u h hm =>
    have wh := whnf_fin hcs h0 h1 ht hp h hm
    have sp := spend_ok f (f - m) l
    generalize f - (m : Int) = g at wh sp ⊢
    show Spec Tryz.prog glob 106 _ _ (fun o hc => o.fgt = .ret (encT u) ∧ hc = askO g l)
    unfold askO Cs at sp ⊢
    unfold Cs at wh
    have hEt := encT_eq t
    have hEu := encT_eq u
    rw [hEt, hEu] at wh
    rw [hEt, hEu]
    refine Spec.movd globPure (wpD_spec tyOK Tryz.func106 rfl (enters _ _ Tryz.func106 rfl (by decide)) rfl rfl ?_)
    (refine wpD_seqk fun K hK => ?_; refine wpD_region tyOK ?_; ((repeat (rw [wpS_cons]; simp)); (try simp only [wpS_nil, thenD, blockD])); refine hK _ _ _ ?_; clear hK K)
    (refine wpD_seqk fun K hK => ?_; refine wpD_drawk tyOK (by kernel_rfl) (by kernel_rfl) fun KT hKT => ?_; ((repeat (rw [wpT_cons]; simp)); (try simp only [wpT_nil])))
    refine cYp (wh) ?_
    ((try simp only [wpAftT_ret, wpAftT_pan, putS, updS, setS]); (repeat (rw [wpT_cons]; simp)); (try simp only [wpT_nil]))
    (refine hKT _ _ _ _ (by kernel_rfl) ?_; clear hKT KT; (try simp only [thenD, blockD]))
    (refine hK _ _ _ ?_; clear hK K)
    (refine wpD_seqk fun K hK => ?_; refine wpD_region tyOK ?_; ((repeat (rw [wpS_cons]; simp)); (try simp only [wpS_nil, thenD, blockD])))
    refine cXo [0] false (sp) ?_
    (rintro o hc ⟨rfl, rfl⟩; refine ⟨false, ?_⟩; simp [D.ren, D.rens, D.okN, D.okNs, Cp.ren, Cp.okN, HO.ren, HO.okN, okA, renA, renO, hOf, handed, D.fgt, D.fgts, List.range_succ, List.idxOf_cons, Out.ren, told, Out.fgt, upO, updS, setS])
    ((try simp only [wpAft_ret, wpAft_pan, putS, updS, setS]); (repeat (rw [wpS_cons]; simp)); (try simp only [wpS_nil, thenD, blockD]))
    (refine hK _ _ _ ?_; clear hK K)
    (refine wpD_seqk fun K hK => ?_; refine wpD_region tyOK ?_; ((repeat (rw [wpS_cons]; simp)); (try simp only [wpS_nil, thenD, blockD])); refine hK _ _ _ ?_; clear hK K)
    (refine wpD_ret ?_; (try simp only [thenD, blockD]); refine EndQ.ret rfl (.inr ⟨[], by decide, by simp, ?_⟩); simp [Out.mov, movT, movH, movD, D.mov, HO.mov, okM, renM, getW, D.ren, D.rens, D.okN, D.okNs, Cp.ren, Cp.okN, HO.ren, HO.okN, okA, renA, renO, hOf, handed, D.fgt, D.fgts, List.range_succ, List.idxOf_cons, tmOf, Out.fgt, D.fgt, D.fgts])
  | @gone q g =>
    have wh := whnf_gone hcs h0 h1 ht hp g
    have sp := spend_no f 0 l
    show Spec Tryz.prog glob 106 _ _ (fun o hc => o = .pan fuelE ∧ hc = [.dead])
    unfold askO Cs fuelE at sp
    unfold askO Cs fuelE
    unfold Cs at wh
    have hEt := encT_eq t
    rw [hEt, encZ] at wh
    rw [hEt]
    refine Spec.movd globPure (wpD_spec tyOK Tryz.func106 rfl (enters _ _ Tryz.func106 rfl (by decide)) rfl rfl ?_)
    (refine wpD_seqk fun K hK => ?_; refine wpD_region tyOK ?_; ((repeat (rw [wpS_cons]; simp)); (try simp only [wpS_nil, thenD, blockD])); refine hK _ _ _ ?_; clear hK K)
    (refine wpD_seqk fun K hK => ?_; refine wpD_drawk tyOK (by kernel_rfl) (by kernel_rfl) fun KT hKT => ?_; ((repeat (rw [wpT_cons]; simp)); (try simp only [wpT_nil])))
    refine cYp (wh) ?_
    ((try simp only [wpAftT_ret, wpAftT_pan, putS, updS, setS]); (repeat (rw [wpT_cons]; simp)); (try simp only [wpT_nil]))
    (refine hKT _ _ _ _ (by kernel_rfl) ?_; clear hKT KT; (try simp only [thenD, blockD]))
    (refine hK _ _ _ ?_; clear hK K)
    (refine wpD_seqk fun K hK => ?_; refine wpD_region tyOK ?_; ((repeat (rw [wpS_cons]; simp)); (try simp only [wpS_nil, thenD, blockD])))
    refine cXo [0] false (sp) ?_
    (rintro o hc ⟨rfl, rfl⟩; refine ⟨false, ?_⟩; simp [D.ren, D.rens, D.okN, D.okNs, Cp.ren, Cp.okN, HO.ren, HO.okN, okA, renA, renO, hOf, handed, D.fgt, D.fgts, List.range_succ, List.idxOf_cons, Out.ren, told, Out.fgt, upO, updS, setS])
    ((try simp only [thenD, blockD]); refine EndQ.pan (.inr ⟨[], by decide, by simp, ?_⟩); simp [Out.mov, movT, movH, movD, D.mov, HO.mov, okM, renM, getW, D.ren, D.rens, D.okN, D.okNs, Cp.ren, Cp.okN, HO.ren, HO.okN, okA, renA, renO, hOf, handed, D.fgt, D.fgts, List.range_succ, List.idxOf_cons, tmOf, Out.fgt, D.fgt, D.fgts])
/-- the first kids of some numbers -/
def kidsT (t : T) (ns : List Int) (k : Nat) : List T := (ns.take k).map (kidI t)
theorem kidsT_succ {t : T} {ns : List Int} {k : Nat} (h : k < ns.length) : kidsT t ns (k + 1) = kidsT t ns k ++ [kidI t ns[k]] := by unfold kidsT; rw [List.take_succ_eq_append_getElem h, List.map_append]; rfl
theorem kidsT_end (t : T) (ns : List Int) : kidsT t ns ns.length = ns.map (kidI t) := by unfold kidsT; rw [List.take_length]
theorem kidsT_len {t : T} {ns : List Int} {k : Nat} (h : k ≤ ns.length) : (kidsT t ns k).length = k := by unfold kidsT; rw [List.length_map, List.length_take]; omega
theorem kids_spec (t : T) (ht : okT t) (ns : List Int) (hl : ns.length ≤ LMax) (hn : ∀ n, n ∈ ns → 0 ≤ n) : Spec Tryz.prog glob 111 [encT t, Ints ns] [] (fun o _ => o.fgt = .ret (Ts (ns.map (kidI t)))) := by
  rw [← kidsT_end]
  have hkl := ht.kl
  unfold LMax at hkl
  obtain ⟨kk, nn, aa, ls, ks⟩ := t
  simp only [T.ks_mk] at hkl
  rw [encT_mk']
  unfold Ints Ts
  refine Spec.movd globPure (wpD_spec tyOK Tryz.func111 rfl (enters _ _ Tryz.func111 rfl (by decide)) rfl rfl ?_)
  (refine wpD_seqk fun K hK => ?_; refine wpD_region tyOK ?_; ((repeat (rw [wpS_cons]; simp)); (try simp only [wpS_nil, thenD, blockD])); refine hK _ _ _ ?_; clear hK K)
  refine wpD_tokT 4 ?_
  simp [D.tokd]
  refine wpD_seqk fun K1 hK1 => ?_
  (refine wpD_seqk fun K hK => ?_; refine wpD_region tyOK ?_; ((repeat (rw [wpS_cons]; simp)); (try simp only [wpS_nil, thenD, blockD])); refine hK _ _ _ ?_; clear hK K)
  refine wpD_rangeJ tyOK globPure (ti := 3) (tk := 10) (tn := 9) (td := 11) (ts := 29) [6, 7, 10, 11, 12, 13, 14, 15, 16, 17, 18, 19, 20, 21, 22, 23, 24, 25, 26, 27, 28, 29] [4] (ns.length) (fun k ys hl => ys = [.slice ((kidsT (.mk kk nn aa ls ks) ns k).map encT) (.tok 1)] ∧ hl = [.cells 27 [.int .i64 kk, .int .i64 nn, .int .i64 aa, .slice (ls.map encL) .any, .slice (ks.map encT) .any], .tok]) rfl rfl rfl rfl rfl rfl rfl rfl rfl rfl rfl rfl (by simp) (by decide) rfl (by first | assumption | omega | (unfold LMax; omega)) rfl (by kernel_rfl) (by decide) ?_ ?_ ?_
  · exact ⟨rfl, rfl⟩
  · rintro i ys hl A hi ⟨rfl, rfl⟩ hA hA2
    simp only [putAll, List.set, List.map_cons, List.map_nil, List.cons_append, List.nil_append]
    have hi' : (i : Int) < ns.length := by omega
    have hsn := kidsT_succ (t := .mk kk nn aa ls ks) hi
    have hln := kidsT_len (t := .mk kk nn aa ls ks) (Nat.le_of_lt hi)
    have hx0 := hn _ (List.getElem_mem hi)
    obtain ⟨x, hx⟩ : ∃ x, ns[i] = x := ⟨_, rfl⟩
    rw [hx] at hsn hx0
    obtain ⟨m, rfl⟩ : ∃ m : Nat, x = m := ⟨x.toNat, by omega⟩
    rw [kidI_nat] at hsn
    have hel : (kidsT (.mk kk nn aa ls ks) ns i).length + 1 ≤ LMax := by omega
    generalize kidsT (.mk kk nn aa ls ks) ns i = es at hsn hln hel ⊢
    (refine wpD_seqk fun K hK => ?_; refine wpD_region tyOK ?_; ((repeat (rw [wpS_cons]; simp [hi, hi', hx])); (try simp only [wpS_nil, thenD, blockD])); refine hK _ _ _ ?_; clear hK K)
    (refine wpD_seqk fun K hK => ?_; refine wpD_region tyOK ?_; ((repeat (rw [wpS_cons]; simp)); (try simp only [wpS_nil, thenD, blockD])); refine hK _ _ _ ?_; clear hK K)
    refine wpD_fgtO 2 rfl ?_
    simp [D.fgts, D.fgt]
    refine wpD_seqk fun K2 hK2 => ?_
    by_cases hm : m < ks.length
    · have hm' : (m : Int) < ks.length := by omega
      have hk : (T.mk kk nn aa ls ks).kid m = ks[m] := by unfold T.kid; simp [List.getD_eq_getElem?_getD, hm]
      rw [hk] at hsn
      obtain ⟨y, hy⟩ : ∃ y, ks[m] = y := ⟨_, rfl⟩
      rw [hy] at hsn
      have hEy := encT_eq y
      (refine wpD_seqk fun K hK => ?_; refine wpD_region tyOK ?_; ((repeat (rw [wpS_cons]; simp [hm, hm'])); (try simp only [wpS_nil, thenD, blockD])); refine hK _ _ _ ?_; clear hK K)
      refine wpD_part rfl (fun _ => ?_) (fun h => by simp at h)
      (refine wpD_region tyOK ?_; ((repeat (rw [wpS_cons]; simp [hm, hm', hy, hEy])); (try simp only [wpS_nil, thenD, blockD])))
      refine hK2 _ _ _ ?_
      clear hK2 K2
      (refine wpD_region tyOK ?_; ((repeat (rw [wpS_cons]; simp [hel])); (try simp only [wpS_nil, thenD, blockD])))
      (refine hA2 ([0, 3]) _ _ _ (LeT.refl _) (by decide) (by simp) (by simp [movT, movH, movD, D.mov, HO.mov, okM, renM, getW, D.ren, D.rens, D.okN, D.okNs, Cp.ren, Cp.okN, HO.ren, HO.okN, okA, renA, renO, hOf, handed, D.fgt, D.fgts, List.range_succ, List.idxOf_cons, putAll]) ?_ rfl; simp [movT, movH, movD, D.mov, HO.mov, okM, renM, getW, D.ren, D.rens, D.okN, D.okNs, Cp.ren, Cp.okN, HO.ren, HO.okN, okA, renA, renO, hOf, handed, D.fgt, D.fgts, List.range_succ, List.idxOf_cons])
      rw [hsn, ← hEy, show es.map encT ++ [encT y] = (es ++ [y]).map encT by simp, mapT_ren]
    · have hm' : ¬ (m : Int) < ks.length := by omega
      have hk : (T.mk kk nn aa ls ks).kid m = zeroT := by unfold T.kid; simp [List.getD_eq_getElem?_getD, hm]
      rw [hk] at hsn
      (refine wpD_seqk fun K hK => ?_; refine wpD_region tyOK ?_; ((repeat (rw [wpS_cons]; simp [hm, hm'])); (try simp only [wpS_nil, thenD, blockD])); refine hK _ _ _ ?_; clear hK K)
      refine wpD_part rfl (fun h => by simp at h) (fun _ => ?_)
      refine wpD_skip (hK2 _ _ _ ?_)
      clear hK2 K2
      (refine wpD_region tyOK ?_; ((repeat (rw [wpS_cons]; simp [hel])); (try simp only [wpS_nil, thenD, blockD])))
      (refine hA2 ([0, 3]) _ _ _ (LeT.refl _) (by decide) (by simp) (by simp [movT, movH, movD, D.mov, HO.mov, okM, renM, getW, D.ren, D.rens, D.okN, D.okNs, Cp.ren, Cp.okN, HO.ren, HO.okN, okA, renA, renO, hOf, handed, D.fgt, D.fgts, List.range_succ, List.idxOf_cons, putAll]) ?_ rfl; simp [movT, movH, movD, D.mov, HO.mov, okM, renM, getW, D.ren, D.rens, D.okN, D.okNs, Cp.ren, Cp.okN, HO.ren, HO.okN, okA, renA, renO, hOf, handed, D.fgt, D.fgts, List.range_succ, List.idxOf_cons])
      rw [hsn, ← encZ, show es.map encT ++ [encT zeroT] = (es ++ [zeroT]).map encT by simp, mapT_ren]
  · rintro ys hl tl' ⟨rfl, rfl⟩ htl
    refine hK1 _ _ _ (wpD_weakL htl ?_)
    simp only [putAll, List.set, List.map_cons, List.map_nil, List.cons_append, List.nil_append]
    (refine wpD_seqk fun K hK => ?_; refine wpD_region tyOK ?_; ((repeat (rw [wpS_cons]; simp)); (try simp only [wpS_nil, thenD, blockD])); refine hK _ _ _ ?_; clear hK K)
    (refine wpD_ret ?_; (try simp only [thenD, blockD]); refine EndQ.ret rfl (.inl ?_); simp [tmOf, Out.fgt, D.fgt, D.fgts])
theorem applied_spec (t : T) (ht : okT t) (hd : t.deep ≤ DM) : Spec Tryz.prog glob 146 [encT t] [] (fun o _ => o.fgt = .ret (Ts [appliedT t])) := by
  have hli := lift_spec t 1 0 hd ht
  unfold appliedT
  generalize t.lift 1 0 0 = u at hli ⊢
  have hEu := encT_eq u
  have hEt := encT_eq t
  rw [hEt, hEu] at hli
  rw [hEt]
  refine Spec.deepR (e := .slice [.agg [.int .i64 6, .int .i64 0, .int .i64 0, .slice [] .full, .slice [encT u, .agg [.int .i64 1, .int .i64 0, .int .i64 0, .slice [] .full, .slice [] .full]] .full]] .any) ?_ ?_
  rotate_left
  · unfold Ts ofT
    simp only [List.map_cons, List.map_nil, encT_mk', D.deep, D.deeps, mapT_deep, encT_deep]
  rw [hEu]
  refine Spec.movd globPure (wpD_spec tyOK Tryz.func146 rfl (enters _ _ Tryz.func146 rfl (by decide)) rfl rfl ?_)
  (refine wpD_seqk fun K hK => ?_; refine wpD_region tyOK ?_; ((repeat (rw [wpS_cons]; simp)); (try simp only [wpS_nil, thenD, blockD])); refine hK _ _ _ ?_; clear hK K)
  (refine wpD_seqk fun K hK => ?_; refine wpD_region tyOK ?_; ((repeat (rw [wpS_cons]; simp)); (try simp only [wpS_nil, thenD, blockD])))
  refine cXp (hli) ?_
  ((try simp only [wpAft_ret, wpAft_pan, putS, updS, setS]); (repeat (rw [wpS_cons]; simp)); (try simp only [wpS_nil, thenD, blockD]))
  (refine hK _ _ _ ?_; clear hK K)
  (refine wpD_ret ?_; (try simp only [thenD, blockD]); refine EndQ.ret rfl (.inl ?_); simp [tmOf, Out.fgt, D.fgt, D.fgts])
theorem halves_spec (t : T) : Spec Tryz.prog glob 148 [encT t] [] (fun o _ => o.fgt = .ret (Ts [ofT 14 [t], ofT 15 [t]])) := by
  have hEt := encT_eq t
  refine Spec.deepR (e := .slice [.agg [.int .i64 14, .int .i64 0, .int .i64 0, .slice [] .full, .slice [encT t] .full], .agg [.int .i64 15, .int .i64 0, .int .i64 0, .slice [] .full, .slice [encT t] .full]] .any) ?_ ?_
  rotate_left
  · unfold Ts ofT
    simp only [List.map_cons, List.map_nil, encT_mk', D.deep, D.deeps, mapT_deep, encT_deep]
  rw [hEt]
  refine Spec.movd globPure (wpD_spec tyOK Tryz.func148 rfl (enters _ _ Tryz.func148 rfl (by decide)) rfl rfl ?_)
  (refine wpD_seqk fun K hK => ?_; refine wpD_region tyOK ?_; ((repeat (rw [wpS_cons]; simp)); (try simp only [wpS_nil, thenD, blockD])); refine hK _ _ _ ?_; clear hK K)
  (refine wpD_seqk fun K hK => ?_; refine wpD_region tyOK ?_; ((repeat (rw [wpS_cons]; simp)); (try simp only [wpS_nil, thenD, blockD])); refine hK _ _ _ ?_; clear hK K)
  (refine wpD_ret ?_; (try simp only [thenD, blockD]); refine EndQ.ret rfl (.inl ?_); simp [tmOf, Out.fgt, D.fgt, D.fgts])
theorem parts1_spec (t : T) (ht : okT t) : Spec Tryz.prog glob 145 [.ref (encT t)] [] (fun o _ => o.fgt = .ret (Ts [t.kid 1])) := by
  have hk := kids_spec t ht [1] (by unfold LMax; simp) (by simp)
  unfold Ints at hk
  simp only [List.map_cons, List.map_nil] at hk
  rw [show kidI t 1 = t.kid 1 from rfl] at hk
  unfold Ts at hk ⊢
  simp only [List.map_cons, List.map_nil] at hk ⊢
  rw [encT_eq t] at hk ⊢
  refine Spec.movd globPure (wpD_spec tyOK Tryz.func145 rfl (enters _ _ Tryz.func145 rfl (by decide)) rfl rfl ?_)
  (refine wpD_seqk fun K hK => ?_; refine wpD_region tyOK ?_; ((repeat (rw [wpS_cons]; simp)); (try simp only [wpS_nil, thenD, blockD])); refine hK _ _ _ ?_; clear hK K)
  (refine wpD_seqk fun K hK => ?_; refine wpD_region tyOK ?_; ((repeat (rw [wpS_cons]; simp)); (try simp only [wpS_nil, thenD, blockD])))
  refine cXp (hk) ?_
  ((try simp only [wpAft_ret, wpAft_pan, putS, updS, setS]); (repeat (rw [wpS_cons]; simp)); (try simp only [wpS_nil, thenD, blockD]))
  (refine hK _ _ _ ?_; clear hK K)
  (refine wpD_ret ?_; (try simp only [thenD, blockD]); refine EndQ.ret rfl (.inl ?_); simp [tmOf, Out.fgt, D.fgt, D.fgts])
theorem parts2_spec (t : T) (ht : okT t) : Spec Tryz.prog glob 147 [.ref (encT t)] [] (fun o _ => o.fgt = .ret (Ts [t.kid 0, t.kid 1])) := by
  have hk := kids_spec t ht [0, 1] (by unfold LMax; simp) (by simp)
  unfold Ints at hk
  simp only [List.map_cons, List.map_nil] at hk
  rw [show kidI t 1 = t.kid 1 from rfl, show kidI t 0 = t.kid 0 from rfl] at hk
  unfold Ts at hk ⊢
  simp only [List.map_cons, List.map_nil] at hk ⊢
  rw [encT_eq t] at hk ⊢
  refine Spec.movd globPure (wpD_spec tyOK Tryz.func147 rfl (enters _ _ Tryz.func147 rfl (by decide)) rfl rfl ?_)
  (refine wpD_seqk fun K hK => ?_; refine wpD_region tyOK ?_; ((repeat (rw [wpS_cons]; simp)); (try simp only [wpS_nil, thenD, blockD])); refine hK _ _ _ ?_; clear hK K)
  (refine wpD_seqk fun K hK => ?_; refine wpD_region tyOK ?_; ((repeat (rw [wpS_cons]; simp)); (try simp only [wpS_nil, thenD, blockD])))
  refine cXp (hk) ?_
  ((try simp only [wpAft_ret, wpAft_pan, putS, updS, setS]); (repeat (rw [wpS_cons]; simp)); (try simp only [wpS_nil, thenD, blockD]))
  (refine hK _ _ _ ?_; clear hK K)
  (refine wpD_ret ?_; (try simp only [thenD, blockD]); refine EndQ.ret rfl (.inl ?_); simp [tmOf, Out.fgt, D.fgt, D.fgts])
theorem parts_spec (t : T) (ht : okT t) (hd : t.deep ≤ DM) (k : Int) (hk : k = 5 ∨ k = 13) : Spec Tryz.prog glob 131 [encT t, .int .i64 k] [] (fun o _ => o.fgt = .ret (Ts (partsT k t))) := by
  have h1 := parts1_spec t ht
  have h2 := parts2_spec t ht
  have h3 := applied_spec t ht hd
  have h4 := halves_spec t
  have hEt := encT_eq t
  obtain ⟨R, hR⟩ : ∃ R, R = partsT k t := ⟨_, rfl⟩
  rw [← hR]
  unfold partsT at hR
  generalize t.kid 0 = k0 at h2 hR
  generalize t.kid 1 = k1 at h1 h2 hR
  generalize ofT 14 [t] = o1 at h4 hR
  generalize ofT 15 [t] = o2 at h4 hR
  generalize appliedT t = ap at h3 hR
  unfold Ts at h1 h2 h3 h4 ⊢
  rw [hEt] at h1 h2 h3 h4 ⊢
  rcases hk with rfl | rfl
  · refine Spec.movd globPure (wpD_spec tyOK Tryz.func131 rfl (enters _ _ Tryz.func131 rfl (by decide)) rfl rfl ?_)
    (refine wpD_seqk fun K hK => ?_; refine wpD_region tyOK ?_; ((repeat (rw [wpS_cons]; simp)); (try simp only [wpS_nil, thenD, blockD])); refine hK _ _ _ ?_; clear hK K)
    (refine wpD_stay (T := tyOf) 0 (ty := 27) (ds := [.int .i64 t.k, .int .i64 t.n, .int .i64 t.a, .slice (t.ls.map encL) .any, .slice (t.ks.map encT) .any]) rfl rfl (by first | exact ⟨rfl, .inr ⟨_, rfl, rfl⟩⟩ | exact ⟨rfl, .inl rfl⟩) ?_; simp [D.frzs, D.frz, HO.frz, dfFrz, refOf, TK.isAgg, FK.isB, FK.isM, FK.isO, D.isLen])
    (refine wpD_seqk fun K hK => ?_; refine wpD_region tyOK ?_; ((repeat (rw [wpS_cons]; simp)); (try simp only [wpS_nil, thenD, blockD])); refine hK _ _ _ ?_; clear hK K)
    refine wpD_seqk fun K1 hK1 => ?_
    (refine wpD_seqk fun K hK => ?_; refine wpD_region tyOK ?_; ((repeat (rw [wpS_cons]; simp)); (try simp only [wpS_nil, thenD, blockD])); refine hK _ _ _ ?_; clear hK K)
    refine wpD_part rfl (fun h => by simp at h) (fun _ => ?_)
    refine wpD_skip (hK1 _ _ _ ?_)
    clear hK1 K1
    refine wpD_seqk fun K1 hK1 => ?_
    by_cases hk5 : t.k = 5
    · rw [if_pos hk5, if_neg (by omega)] at hR
      subst hR
      rw [hk5] at h1
      (refine wpD_seqk fun K hK => ?_; refine wpD_region tyOK ?_; ((repeat (rw [wpS_cons]; simp [hk5])); (try simp only [wpS_nil, thenD, blockD])); refine hK _ _ _ ?_; clear hK K)
      refine wpD_part rfl (fun _ => ?_) (fun h => by simp at h)
      (refine wpD_seqk fun K hK => ?_; refine wpD_region tyOK ?_; ((repeat (rw [wpS_cons]; simp)); (try simp only [wpS_nil, thenD, blockD])))
      refine cXp (h1) ?_
      ((try simp only [wpAft_ret, wpAft_pan, putS, updS, setS]); (repeat (rw [wpS_cons]; simp)); (try simp only [wpS_nil, thenD, blockD]))
      (refine hK _ _ _ ?_; clear hK K)
      (refine wpD_ret ?_; (try simp only [thenD, blockD]); refine EndQ.ret rfl (.inl ?_); simp [tmOf, Out.fgt, D.fgt, D.fgts])
    · rw [if_neg hk5, if_neg (by omega)] at hR
      subst hR
      (refine wpD_seqk fun K hK => ?_; refine wpD_region tyOK ?_; ((repeat (rw [wpS_cons]; simp [hk5])); (try simp only [wpS_nil, thenD, blockD])); refine hK _ _ _ ?_; clear hK K)
      refine wpD_part rfl (fun h => by simp at h) (fun _ => ?_)
      refine wpD_skip (hK1 _ _ _ ?_)
      (refine wpD_seqk fun K hK => ?_; refine wpD_region tyOK ?_; ((repeat (rw [wpS_cons]; simp)); (try simp only [wpS_nil, thenD, blockD])))
      refine cXp (h3) ?_
      ((try simp only [wpAft_ret, wpAft_pan, putS, updS, setS]); (repeat (rw [wpS_cons]; simp)); (try simp only [wpS_nil, thenD, blockD]))
      (refine hK _ _ _ ?_; clear hK K)
      (refine wpD_ret ?_; (try simp only [thenD, blockD]); refine EndQ.ret rfl (.inl ?_); simp [tmOf, Out.fgt, D.fgt, D.fgts])
  · refine Spec.movd globPure (wpD_spec tyOK Tryz.func131 rfl (enters _ _ Tryz.func131 rfl (by decide)) rfl rfl ?_)
    (refine wpD_seqk fun K hK => ?_; refine wpD_region tyOK ?_; ((repeat (rw [wpS_cons]; simp)); (try simp only [wpS_nil, thenD, blockD])); refine hK _ _ _ ?_; clear hK K)
    (refine wpD_stay (T := tyOf) 0 (ty := 27) (ds := [.int .i64 t.k, .int .i64 t.n, .int .i64 t.a, .slice (t.ls.map encL) .any, .slice (t.ks.map encT) .any]) rfl rfl (by first | exact ⟨rfl, .inr ⟨_, rfl, rfl⟩⟩ | exact ⟨rfl, .inl rfl⟩) ?_; simp [D.frzs, D.frz, HO.frz, dfFrz, refOf, TK.isAgg, FK.isB, FK.isM, FK.isO, D.isLen])
    (refine wpD_seqk fun K hK => ?_; refine wpD_region tyOK ?_; ((repeat (rw [wpS_cons]; simp)); (try simp only [wpS_nil, thenD, blockD])); refine hK _ _ _ ?_; clear hK K)
    refine wpD_seqk fun K1 hK1 => ?_
    (refine wpD_seqk fun K hK => ?_; refine wpD_region tyOK ?_; ((repeat (rw [wpS_cons]; simp)); (try simp only [wpS_nil, thenD, blockD])); refine hK _ _ _ ?_; clear hK K)
    refine wpD_part rfl (fun _ => ?_) (fun h => by simp at h)
    (refine wpD_region tyOK ?_; ((repeat (rw [wpS_cons]; simp)); (try simp only [wpS_nil, thenD, blockD])))
    refine hK1 _ _ _ ?_
    clear hK1 K1
    refine wpD_seqk fun K1 hK1 => ?_
    by_cases hk5 : t.k = 13
    · rw [if_pos hk5, if_pos rfl] at hR
      subst hR
      rw [hk5] at h2
      (refine wpD_seqk fun K hK => ?_; refine wpD_region tyOK ?_; ((repeat (rw [wpS_cons]; simp [hk5])); (try simp only [wpS_nil, thenD, blockD])); refine hK _ _ _ ?_; clear hK K)
      refine wpD_part rfl (fun _ => ?_) (fun h => by simp at h)
      (refine wpD_seqk fun K hK => ?_; refine wpD_region tyOK ?_; ((repeat (rw [wpS_cons]; simp)); (try simp only [wpS_nil, thenD, blockD])))
      refine cXp (h2) ?_
      ((try simp only [wpAft_ret, wpAft_pan, putS, updS, setS]); (repeat (rw [wpS_cons]; simp)); (try simp only [wpS_nil, thenD, blockD]))
      (refine hK _ _ _ ?_; clear hK K)
      (refine wpD_ret ?_; (try simp only [thenD, blockD]); refine EndQ.ret rfl (.inl ?_); simp [tmOf, Out.fgt, D.fgt, D.fgts])
    · rw [if_neg hk5, if_pos rfl] at hR
      subst hR
      (refine wpD_seqk fun K hK => ?_; refine wpD_region tyOK ?_; ((repeat (rw [wpS_cons]; simp [hk5])); (try simp only [wpS_nil, thenD, blockD])); refine hK _ _ _ ?_; clear hK K)
      refine wpD_part rfl (fun h => by simp at h) (fun _ => ?_)
      refine wpD_skip (hK1 _ _ _ ?_)
      (refine wpD_seqk fun K hK => ?_; refine wpD_region tyOK ?_; ((repeat (rw [wpS_cons]; simp)); (try simp only [wpS_nil, thenD, blockD])))
      refine cXp (h4) ?_
      ((try simp only [wpAft_ret, wpAft_pan, putS, updS, setS]); (repeat (rw [wpS_cons]; simp)); (try simp only [wpS_nil, thenD, blockD]))
      (refine hK _ _ _ ?_; clear hK K)
      (refine wpD_ret ?_; (try simp only [thenD, blockD]); refine EndQ.ret rfl (.inl ?_); simp [tmOf, Out.fgt, D.fgt, D.fgts])
theorem matters_spec (t : T) (ht : okT t) : Spec Tryz.prog glob 132 [encT t] [] (fun o _ => o.fgt = .ret (Ts (mattersT t))) := by
  have h1 := kids_spec t ht [2, 3, 4] (by unfold LMax; simp) (by simp)
  have h2 := kids_spec t ht [2, 3, 5] (by unfold LMax; simp) (by simp)
  unfold Ints at h1 h2
  simp only [List.map_cons, List.map_nil] at h1 h2
  rw [show kidI t 2 = t.kid 2 from rfl, show kidI t 3 = t.kid 3 from rfl] at h1 h2
  rw [show kidI t 4 = t.kid 4 from rfl] at h1
  rw [show kidI t 5 = t.kid 5 from rfl] at h2
  obtain ⟨R, hR⟩ : ∃ R, R = mattersT t := ⟨_, rfl⟩
  rw [← hR]
  unfold mattersT at hR
  generalize t.kid 2 = k2 at h1 h2 hR
  generalize t.kid 3 = k3 at h1 h2 hR
  generalize t.kid 4 = k4 at h1 hR
  generalize t.kid 5 = k5 at h2 hR
  unfold Ts at h1 h2 ⊢
  have hEt := encT_eq t
  rw [hEt] at h1 h2 ⊢
  refine Spec.movd globPure (wpD_spec tyOK Tryz.func132 rfl (enters _ _ Tryz.func132 rfl (by decide)) rfl rfl ?_)
  (refine wpD_seqk fun K hK => ?_; refine wpD_region tyOK ?_; ((repeat (rw [wpS_cons]; simp)); (try simp only [wpS_nil, thenD, blockD])); refine hK _ _ _ ?_; clear hK K)
  refine wpD_seqk fun K1 hK1 => ?_
  (refine wpD_seqk fun K hK => ?_; refine wpD_region tyOK ?_; ((repeat (rw [wpS_cons]; simp)); (try simp only [wpS_nil, thenD, blockD])); refine hK _ _ _ ?_; clear hK K)
  refine wpD_block ?_
  by_cases k18 : t.k = 18
  · rw [if_pos k18] at hR
    subst hR
    rw [k18] at h1
    (refine wpD_seqk fun K hK => ?_; refine wpD_region tyOK ?_; ((repeat (rw [wpS_cons]; simp [k18])); (try simp only [wpS_nil, thenD, blockD])); refine hK _ _ _ ?_; clear hK K)
    refine wpD_part rfl (fun _ => ?_) (fun h => by simp at h)
    (refine wpD_seqk fun K hK => ?_; refine wpD_region tyOK ?_; ((repeat (rw [wpS_cons]; simp)); (try simp only [wpS_nil, thenD, blockD])))
    refine cXp (h1) ?_
    ((try simp only [wpAft_ret, wpAft_pan, putS, updS, setS]); (repeat (rw [wpS_cons]; simp)); (try simp only [wpS_nil, thenD, blockD]))
    (refine hK _ _ _ ?_; clear hK K)
    (refine wpD_ret ?_; (try simp only [thenD, blockD]); refine EndQ.ret rfl (.inl ?_); simp [tmOf, Out.fgt, D.fgt, D.fgts])
  · rw [if_neg k18] at hR
    (refine wpD_seqk fun K hK => ?_; refine wpD_region tyOK ?_; ((repeat (rw [wpS_cons]; simp [k18])); (try simp only [wpS_nil, thenD, blockD])); refine hK _ _ _ ?_; clear hK K)
    refine wpD_part rfl (fun h => by simp at h) (fun _ => ?_)
    by_cases k21 : t.k = 21
    · rw [if_pos k21] at hR
      subst hR
      rw [k21] at h2
      (refine wpD_seqk fun K hK => ?_; refine wpD_region tyOK ?_; ((repeat (rw [wpS_cons]; simp [k21])); (try simp only [wpS_nil, thenD, blockD])); refine hK _ _ _ ?_; clear hK K)
      refine wpD_part rfl (fun _ => ?_) (fun h => by simp at h)
      (refine wpD_seqk fun K hK => ?_; refine wpD_region tyOK ?_; ((repeat (rw [wpS_cons]; simp)); (try simp only [wpS_nil, thenD, blockD])))
      refine cXp (h2) ?_
      ((try simp only [wpAft_ret, wpAft_pan, putS, updS, setS]); (repeat (rw [wpS_cons]; simp)); (try simp only [wpS_nil, thenD, blockD]))
      (refine hK _ _ _ ?_; clear hK K)
      (refine wpD_ret ?_; (try simp only [thenD, blockD]); refine EndQ.ret rfl (.inl ?_); simp [tmOf, Out.fgt, D.fgt, D.fgts])
    · rw [if_neg k21] at hR
      subst hR
      (refine wpD_seqk fun K hK => ?_; refine wpD_region tyOK ?_; ((repeat (rw [wpS_cons]; simp [k21])); (try simp only [wpS_nil, thenD, blockD])); refine hK _ _ _ ?_; clear hK K)
      refine wpD_part rfl (fun h => by simp at h) (fun _ => ?_)
      refine wpD_skip (hK1 _ _ _ ?_)
      (refine wpD_seqk fun K hK => ?_; refine wpD_region tyOK ?_; ((repeat (rw [wpS_cons]; simp)); (try simp only [wpS_nil, thenD, blockD])); refine hK _ _ _ ?_; clear hK K)
      (refine wpD_ret ?_; (try simp only [thenD, blockD]); refine EndQ.ret rfl (.inl ?_); simp [tmOf, Out.fgt, D.fgt, D.fgts])
end Go.Proofs.YtebmlojhdnldgaaGreatDoor

namespace Go.Proofs.YtebmlojhdnldgaaGreatDoor
set_option linter.unusedSimpArgs false
set_option linter.unusedVariables false
set_option maxHeartbeats 10000000
set_option maxRecDepth 20000
open Go.RowKit
attribute [local simp] wpAft_ret wpAft_pan wantD evOp opD tmOf putS updS setS hOf isFree isTok fillD TK.isAgg TK.known partD thenD blockD putAll D.ofV inB nilTest isNilS binX binD binE isCst bndD capB IntKind.min IntKind.max IntKind.signed IntKind.bits dstOf late
/-- what a question leaves -/
def AnsP (l : List C) : Option (Bool × Int) → Out → List HO → Prop
  | some (b, g) => fun o hc => o.fgt = .ret (.bool b) ∧ hc = askO g l
  | none => fun o hc => o = .pan fuelE ∧ hc = [.dead]
theorem AnsP_some {l : List C} {b : Bool} {g : Int} : AnsP l (some (b, g)) = fun o hc => o.fgt = .ret (.bool b) ∧ hc = askO g l := rfl
theorem AnsP_none {l : List C} : AnsP l none = fun o hc => o = .pan fuelE ∧ hc = [.dead] := rfl
/-- a term that may be asked with so much -/
def okP (f : Int) (t : T) : Prop := okT t ∧ t.pot + 7 * f.toNat ≤ PM
theorem okP.le {f g : Int} {t : T} (h : okP f t) (hg : g ≤ f) : okP g t := ⟨h.1, by have := h.2; omega⟩
theorem okP.head {l : List C} (hcs : okCs l) {f g : Int} {t u : T} (h : okP f t) (hd : HdO l t f (some (u, g))) : okP g u := by
  obtain ⟨m, h1, h2, h3⟩ := hd.cost
  have := h1.pot
  have := h.2
  exact ⟨h1.ok hcs.ok h.1, by omega⟩
mutual
theorem pot_lift (n fr : Int) : ∀ (t : T) (d : Int), (T.walk (liftTurn n fr) t d).pot = t.pot
  | .mk k m a ls ks, d => by rw [walk_lift, T.pot, T.pot, pots_lift n fr k ks 0 d, T.walks_length]
theorem pots_lift (n fr k : Int) : ∀ (ks : List T) (i : Nat) (d : Int), T.pots (T.walks (liftTurn n fr) k ks i d) = T.pots ks
  | [], _, _ => by rw [T.walks]
  | t :: r, i, d => by rw [T.walks, T.pots, T.pots, pot_lift n fr t, pots_lift n fr k r]
end
theorem pot_lift1 (t : T) (n fr : Int) : (t.lift n fr 0).pot ≤ t.pot := Nat.le_of_eq (pot_lift n fr t 0)
theorem parts_pot {k : Int} {t a : T} (h : a ∈ partsT k t) : a.pot ≤ t.pot + 7 := by
  unfold partsT at h
  split at h
  · split at h
    · simp only [List.mem_cons, List.not_mem_nil, or_false] at h
      rcases h with rfl | rfl
      · have := kid_pot t 0; omega
      · have := kid_pot t 1; omega
    · simp only [List.mem_cons, List.not_mem_nil, or_false] at h
      subst h
      have := kid_pot t 1; omega
  · split at h
    · simp only [List.mem_cons, List.not_mem_nil, or_false] at h
      rcases h with rfl | rfl
      · unfold ofT; rw [T.pot, T.pots, T.pots, show lackN 14 [t].length = 0 from rfl]; omega
      · unfold ofT; rw [T.pot, T.pots, T.pots, show lackN 15 [t].length = 0 from rfl]; omega
    · simp only [List.mem_cons, List.not_mem_nil, or_false] at h
      subst h
      unfold appliedT ofT
      have := pot_lift1 t 1 0
      rw [T.pot, T.pots, T.pots, T.pots, T.pot, T.pots, show lackN 1 ([] : List T).length = 0 from rfl]
      generalize t.lift 1 0 0 = u at this
      rw [show lackN 6 [u, T.mk 1 0 0 [] []].length = 0 from rfl]
      omega
theorem parts_okT {k : Int} {t a : T} (ht : okT t) (h : a ∈ partsT k t) : okT a := by
  unfold partsT at h
  split at h
  · split at h
    · simp only [List.mem_cons, List.not_mem_nil, or_false] at h
      rcases h with rfl | rfl <;> exact kid_ok ht _
    · simp only [List.mem_cons, List.not_mem_nil, or_false] at h
      subst h; exact kid_ok ht _
  · split at h
    · simp only [List.mem_cons, List.not_mem_nil, or_false] at h
      rcases h with rfl | rfl
      · exact ok_of (by unfold I64; omega) (by unfold LMax; simp) fun x hx => by rw [List.mem_singleton.1 hx]; exact ht
      · exact ok_of (by unfold I64; omega) (by unfold LMax; simp) fun x hx => by rw [List.mem_singleton.1 hx]; exact ht
    · simp only [List.mem_cons, List.not_mem_nil, or_false] at h
      subst h
      exact ok_of2 (by unfold I64; omega) (lift_ok 1 0 0 ht) (ok_of (by unfold I64; omega) (by unfold LMax; simp) fun x hx => by cases hx)
theorem matters_in {t a : T} (h : a ∈ mattersT t) : a ∈ t.ks ∨ ∃ i, a = t.kid i := by
  unfold mattersT at h
  split at h
  · simp only [List.mem_cons, List.not_mem_nil, or_false] at h
    rcases h with rfl | rfl | rfl <;> exact .inr ⟨_, rfl⟩
  · split at h
    · simp only [List.mem_cons, List.not_mem_nil, or_false] at h
      rcases h with rfl | rfl | rfl <;> exact .inr ⟨_, rfl⟩
    · exact .inl h
theorem matters_okP {f : Int} {t a : T} (ht : okP f t) (h : a ∈ mattersT t) : okP f a := by
  rcases matters_in h with h | ⟨i, rfl⟩
  · refine ⟨ht.1.ks a h, ?_⟩
    have h2 := ht.2
    cases t with
    | mk k n x ls ks => have := pots_mem (show a ∈ ks from h); rw [T.pot] at h2; omega
  · exact ⟨kid_ok ht.1 i, by have := kid_pot t i; have := ht.2; omega⟩
theorem parts_okP {k f : Int} {t a : T} (h0 : 0 ≤ f) (ht : okP (f + 1) t) (h : a ∈ partsT k t) : okP f a := ⟨parts_okT ht.1 h, by have := parts_pot h; have := ht.2; omega⟩
theorem matters_len {f : Int} {t : T} (ht : okP f t) : (mattersT t).length ≤ LMax := by
  unfold mattersT
  split
  · unfold LMax; simp
  · split
    · unfold LMax; simp
    · exact ht.1.kl
theorem parts_lmax (k : Int) (t : T) : (partsT k t).length ≤ LMax := by unfold partsT LMax; split <;> split <;> simp
/-- one question, as deep -/
def OneSpec (l : List C) (h : Nat) : Prop := ∀ p q f o, 0 ≤ f → f ≤ 1073741824 → okP f p → okP f q → CR l h [p] [q] f o → Spec Tryz.prog glob 64 [.box 0 0, encT p, encT q] (askO f l) (AnsP l o)
set_option maxHeartbeats 4000000 in
theorem all_spec {l : List C} {h : Nat} (H : OneSpec l h) {ps qs : List T} {f : Int} {o : Option (Bool × Int)} (hlen : ps.length = qs.length) (hl : ps.length ≤ LMax) (h0 : 0 ≤ f) (h1 : f ≤ 1073741824) (hp : ∀ p, p ∈ ps → okP f p) (hq : ∀ q, q ∈ qs → okP f q) (hcr : CR l h ps qs f o) :
    Spec Tryz.prog glob 110 [.box 0 0, Ts ps, Ts qs] (askO f l) (AnsP l o) := by
  have hl0 := hl
  unfold LMax at hl0
  unfold Ts askO Cs
  refine Spec.movd globPure (wpD_spec tyOK Tryz.func110 rfl (enters _ _ Tryz.func110 rfl (by decide)) rfl rfl ?_)
  (refine wpD_seqk fun K hK => ?_; refine wpD_region tyOK ?_; ((repeat (rw [wpS_cons]; simp)); (try simp only [wpS_nil, thenD, blockD])); refine hK _ _ _ ?_; clear hK K)
  refine wpD_seqk fun K1 hK1 => ?_
  (refine wpD_seqk fun K hK => ?_; refine wpD_region tyOK ?_; ((repeat (rw [wpS_cons]; simp)); (try simp only [wpS_nil, thenD, blockD])); refine hK _ _ _ ?_; clear hK K)
  refine wpD_rangeJ tyOK globPure (ti := 3) (tk := 10) (tn := 9) (td := 11) (ts := 24) [6, 7, 10, 11, 12, 13, 14, 15, 16, 17, 18, 19, 20, 21, 22, 23, 24] [] (ps.length) (fun k ys hl => ∃ (g : Int), ys = [] ∧ CR l h (ps.drop k) (qs.drop k) g o ∧ 0 ≤ g ∧ g ≤ f ∧ hl = [.cells 134 [.int .i64 g, .slice (l.map encC) .any]]) rfl rfl rfl rfl rfl rfl rfl rfl rfl rfl rfl rfl (by simp) (by decide) rfl (by first | assumption | omega | (unfold LMax; omega)) rfl (by kernel_rfl) (by decide) ?_ ?_ ?_
  · exact ⟨f, rfl, hcr, h0, Int.le_refl _, rfl⟩
  · rintro i ys hl A hi ⟨g, rfl, hg, hg0, hg1, rfl⟩ hA hA2
    simp only [putAll, List.set, List.map_cons, List.map_nil, List.cons_append, List.nil_append]
    have hi' : (i : Int) < ps.length := by omega
    have hi2 : i < qs.length := by omega
    have hi2' : (i : Int) < qs.length := by omega
    rw [List.drop_eq_getElem_cons hi, List.drop_eq_getElem_cons hi2] at hg
    have hpo := (hp _ (List.getElem_mem hi)).le hg1
    have hqo := (hq _ (List.getElem_mem hi2)).le hg1
    obtain ⟨x, hx⟩ : ∃ x, ps[i] = x := ⟨_, rfl⟩
    obtain ⟨y, hy⟩ : ∃ y, qs[i] = y := ⟨_, rfl⟩
    rw [hx, hy] at hg
    rw [hx] at hpo
    rw [hy] at hqo
    have hEx := encT_eq x
    have hEy := encT_eq y
    have hone := fun o' => H x y g o' hg0 (by omega) hpo hqo
    rw [hEx, hEy] at hone
    unfold askO Cs at hone
    have hsp : (CR l h [x] [y] g none ∧ o = none) ∨ (∃ g', CR l h [x] [y] g (some (false, g')) ∧ o = some (false, g')) ∨ ∃ g', CR l h [x] [y] g (some (true, g')) ∧ CR l h (ps.drop (i + 1)) (qs.drop (i + 1)) g' o := by
      cases h with
      | zero => cases hg
      | succ h => exact hg.split
    rcases hsp with ⟨c1, rfl⟩ | ⟨g', c1, rfl⟩ | ⟨g', c1, c2⟩
    · have one := hone _ c1
      rw [AnsP_none] at one
      unfold fuelE at one
      (refine wpD_seqk fun K hK => ?_; refine wpD_region tyOK ?_; ((repeat (rw [wpS_cons]; simp [hi, hi'])); (try simp only [wpS_nil, thenD, blockD])); refine hK _ _ _ ?_; clear hK K)
      (refine wpD_seqk fun K hK => ?_; refine wpD_drawk tyOK (by kernel_rfl) (by kernel_rfl) fun KT hKT => ?_; ((repeat (rw [wpT_cons]; simp [hi, hi', hx, hi2, hi2', hy, hEx, hEy])); (try simp only [wpT_nil])))
      refine cYo [0] true false (one) (fun o h e => e) ?_; simp [D.ren, D.rens, D.okN, D.okNs, Cp.ren, Cp.okN, HO.ren, HO.okN, okA, renA, renO, hOf, handed, D.fgt, D.fgts, List.range_succ, List.idxOf_cons, Out.ren, upO, renO, rdO]
      ((try simp only [wpAftT_ret, wpAftT_pan, putS, updS, setS]); (repeat (refine wpT_late _ _ _ _ (by kernel_rfl) ?_; simp only [putS, List.set, List.nil_append, List.cons_append, Nat.reduceAdd])); (try simp only [wpT_nil]))
      (refine hKT _ _ _ _ (by kernel_rfl) ?_; clear hKT KT; (try simp only [thenD, blockD]))
      simp [killHl]
      rw [AnsP_none]
      unfold fuelE
      ((try simp only [thenD, blockD]); refine EndQ.pan (.inr ⟨[], by decide, by simp, ?_⟩); simp [Out.mov, movT, movH, movD, D.mov, HO.mov, okM, renM, getW, D.ren, D.rens, D.okN, D.okNs, Cp.ren, Cp.okN, HO.ren, HO.okN, okA, renA, renO, hOf, handed, D.fgt, D.fgts, List.range_succ, List.idxOf_cons, tmOf, Out.fgt, D.fgt, D.fgts])
    · have one := hone _ c1
      rw [AnsP_some] at one
      unfold askO Cs at one
      (refine wpD_seqk fun K hK => ?_; refine wpD_region tyOK ?_; ((repeat (rw [wpS_cons]; simp [hi, hi'])); (try simp only [wpS_nil, thenD, blockD])); refine hK _ _ _ ?_; clear hK K)
      (refine wpD_seqk fun K hK => ?_; refine wpD_drawk tyOK (by kernel_rfl) (by kernel_rfl) fun KT hKT => ?_; ((repeat (rw [wpT_cons]; simp [hi, hi', hx, hi2, hi2', hy, hEx, hEy])); (try simp only [wpT_nil])))
      refine cYo [0] true true (one) (fun o h e => e) ?_; simp [D.ren, D.rens, D.okN, D.okNs, Cp.ren, Cp.okN, HO.ren, HO.okN, okA, renA, renO, hOf, handed, D.fgt, D.fgts, List.range_succ, List.idxOf_cons, Out.ren, upO, renO, rdO]
      ((try simp only [wpAftT_ret, wpAftT_pan, putS, updS, setS]); (repeat (rw [wpT_cons]; simp)); (try simp only [wpT_nil]))
      (refine hKT _ _ _ _ (by kernel_rfl) ?_; clear hKT KT; (try simp only [thenD, blockD]))
      (refine hK _ _ _ ?_; clear hK K)
      refine wpD_part rfl (fun _ => ?_) (fun h => by simp at h)
      (refine wpD_seqk fun K hK => ?_; refine wpD_region tyOK ?_; ((repeat (rw [wpS_cons]; simp)); (try simp only [wpS_nil, thenD, blockD])); refine hK _ _ _ ?_; clear hK K)
      rw [AnsP_some]
      unfold askO Cs
      (refine wpD_ret ?_; (try simp only [thenD, blockD]); refine EndQ.ret rfl (.inr ⟨[], by decide, by simp, ?_⟩); simp [Out.mov, movT, movH, movD, D.mov, HO.mov, okM, renM, getW, D.ren, D.rens, D.okN, D.okNs, Cp.ren, Cp.okN, HO.ren, HO.okN, okA, renA, renO, hOf, handed, D.fgt, D.fgts, List.range_succ, List.idxOf_cons, tmOf, Out.fgt, D.fgt, D.fgts])
    · have one := hone _ c1
      have hle := c1.le hg0 _ _ rfl
      rw [AnsP_some] at one
      unfold askO Cs at one
      (refine wpD_seqk fun K hK => ?_; refine wpD_region tyOK ?_; ((repeat (rw [wpS_cons]; simp [hi, hi'])); (try simp only [wpS_nil, thenD, blockD])); refine hK _ _ _ ?_; clear hK K)
      (refine wpD_seqk fun K hK => ?_; refine wpD_drawk tyOK (by kernel_rfl) (by kernel_rfl) fun KT hKT => ?_; ((repeat (rw [wpT_cons]; simp [hi, hi', hx, hi2, hi2', hy, hEx, hEy])); (try simp only [wpT_nil])))
      refine cYo [0] true true (one) (fun o h e => e) ?_; simp [D.ren, D.rens, D.okN, D.okNs, Cp.ren, Cp.okN, HO.ren, HO.okN, okA, renA, renO, hOf, handed, D.fgt, D.fgts, List.range_succ, List.idxOf_cons, Out.ren, upO, renO, rdO]
      ((try simp only [wpAftT_ret, wpAftT_pan, putS, updS, setS]); (repeat (rw [wpT_cons]; simp)); (try simp only [wpT_nil]))
      (refine hKT _ _ _ _ (by kernel_rfl) ?_; clear hKT KT; (try simp only [thenD, blockD]))
      (refine hK _ _ _ ?_; clear hK K)
      refine wpD_part rfl (fun h => by simp at h) (fun _ => ?_)
      refine wpD_skip ?_
      (refine hA2 ([]) _ _ _ (LeT.refl _) (by decide) (by simp) (by simp [movT, movH, movD, D.mov, HO.mov, okM, renM, getW, D.ren, D.rens, D.okN, D.okNs, Cp.ren, Cp.okN, HO.ren, HO.okN, okA, renA, renO, hOf, handed, D.fgt, D.fgts, List.range_succ, List.idxOf_cons, putAll]) ?_ rfl; simp [movT, movH, movD, D.mov, HO.mov, okM, renM, getW, D.ren, D.rens, D.okN, D.okNs, Cp.ren, Cp.okN, HO.ren, HO.okN, okA, renA, renO, hOf, handed, D.fgt, D.fgts, List.range_succ, List.idxOf_cons])
      exact ⟨g', c2, hle.1, by omega, rfl⟩
  · rintro ys hl tl' ⟨g, rfl, hg, hg0, hg1, rfl⟩ htl
    refine hK1 _ _ _ (wpD_weakL htl ?_)
    simp only [putAll, List.set, List.map_cons, List.map_nil, List.cons_append, List.nil_append]
    rw [List.drop_length, hlen, List.drop_length] at hg
    cases hg
    rw [AnsP_some]
    unfold askO Cs
    (refine wpD_seqk fun K hK => ?_; refine wpD_region tyOK ?_; ((repeat (rw [wpS_cons]; simp)); (try simp only [wpS_nil, thenD, blockD])); refine hK _ _ _ ?_; clear hK K)
    (refine wpD_ret ?_; (try simp only [thenD, blockD]); refine EndQ.ret rfl (.inr ⟨[], by decide, by simp, ?_⟩); simp [Out.mov, movT, movH, movD, D.mov, HO.mov, okM, renM, getW, D.ren, D.rens, D.okN, D.okNs, Cp.ren, Cp.okN, HO.ren, HO.okN, okA, renA, renO, hOf, handed, D.fgt, D.fgts, List.range_succ, List.idxOf_cons, tmOf, Out.fgt, D.fgt, D.fgts])
end Go.Proofs.YtebmlojhdnldgaaGreatDoor

