/-
  MV4: the texts Lput Lpt2 Tlv, one behind the other.
-/
import Derived.Test.YtebmlojhdnldgaaGreatDoorMV3
namespace Go.Proofs.YtebmlojhdnldgaaGreatDoor
set_option linter.unusedSimpArgs false
set_option linter.unusedVariables false
set_option maxHeartbeats 10000000
set_option maxRecDepth 20000
open Go.RowKit
attribute [local simp] wpAft_ret wpAft_pan wantD evOp opD tmOf putS updS setS hOf isFree isTok fillD TK.isAgg TK.known partD thenD blockD putAll D.ofV inB nilTest isNilS binX binD binE isCst bndD capB IntKind.min IntKind.max IntKind.signed IntKind.bits dstOf late
set_option maxHeartbeats 20000000 in
theorem put1_spec (l : LV) (bys : List LV) (hl : l.length ≤ LMax) (hbl : bys.length ≤ LMax) (hbys : ∀ x, x ∈ bys → x.length ≤ LMax) : Spec Tryz.prog glob 159 [.agg [.map 0], .ref (encL l), .ref (Lvs bys)] [.mp []] (PutsM (putsOf (putL l bys) [])) := by
  have hsp0 := norm_spec l hl
  have hnf := normOf_nf l
  have hnl := normOf_len l
  unfold putL
  generalize normOf l = N at hsp0 hnf hnl
  have hNl : N.length ≤ LMax := by unfold LMax; omega
  obtain ⟨rs, hrs⟩ : ∃ rs, rs = N.map (rowP bys) := ⟨_, rfl⟩
  rw [← hrs]
  have hrl : rs.length = N.length := by rw [hrs, List.length_map]
  obtain ⟨L, hL⟩ : ∃ L, L = rs.flatten := ⟨_, rfl⟩
  rw [← hL]
  unfold LMax at hbl
  refine Spec.movd globPure (wpD_spec tyOK Tryz.func159 rfl (enters _ _ Tryz.func159 rfl (by decide)) rfl rfl ?_)
  unfold encL Lvs
  (refine wpD_seqk fun K hK => ?_; refine wpD_region tyOK ?_; ((repeat (rw [wpS_cons]; simp)); (try simp only [wpS_nil, thenD, blockD])); refine hK _ _ _ ?_; clear hK K)
  unfold encL at hsp0
  (refine wpD_seqk fun K hK => ?_; refine wpD_region tyOK ?_; ((repeat (rw [wpS_cons]; simp)); (try simp only [wpS_nil, thenD, blockD])))
  refine CallX.pure globPure (hsp0) ?_ (by simp [D.fgts, D.fgt, encP_pure]) (by simp [D.pures, D.pure, Cp.free, D.pures_map, encP_pure]) (by simp [Out.pure, D.pure, D.pures, Cp.free, D.pures_map, encP_pure])
  ((try simp only [wpAft_ret, wpAft_pan, putS, updS, setS]); (repeat (rw [wpS_cons]; simp)); (try simp only [wpS_nil, thenD, blockD]))
  (refine hK _ _ _ ?_; clear hK K)
  refine wpD_range tyOK globPure (ti := 3) (tk := 13) (tn := 12) (td := 14) (ts := 62) [5, 6, 8, 13, 14, 15, 16, 17, 18, 19, 20, 21, 22, 23, 24, 25, 26, 27, 28, 29, 30, 31, 32, 33, 34, 35, 36, 37, 38, 39, 40, 41, 42, 43, 44, 45, 46, 47, 48, 49, 50, 51, 52, 53, 54, 55, 56, 57, 58, 59, 60, 61, 62] (N.length) (fun k ys hl => ∃ (m' : MP) (x5 x6 x8 x13 x14 x15 x16 x17 x18 x19 x20 x21 x22 x23 x24 x25 x26 x27 x28 x29 x30 x31 x32 x33 x34 x35 x36 x37 x38 x39 x40 x41 x42 x43 x44 x45 x46 x47 x48 x49 x50 x51 x52 x53 x54 x55 x56 x57 x58 x59 x60 x61 x62 : D), ys = [x5, x6, x8, x13, x14, x15, x16, x17, x18, x19, x20, x21, x22, x23, x24, x25, x26, x27, x28, x29, x30, x31, x32, x33, x34, x35, x36, x37, x38, x39, x40, x41, x42, x43, x44, x45, x46, x47, x48, x49, x50, x51, x52, x53, x54, x55, x56, x57, x58, x59, x60, x61, x62] ∧ anyBad L = anyBad (rs.drop k).flatten ∧ (rs.drop k).flatten.foldl putM m' = L.foldl putM [] ∧ MOK m' ∧ hl = [.mp (encM m'), .cells 170 [.map 0]]) rfl rfl rfl rfl rfl rfl rfl rfl rfl rfl rfl rfl (by simp) (by decide) rfl (by first | assumption | omega | (unfold LMax; omega)) rfl (by kernel_rfl) (by decide) ?_ ?_ ?_
  · exact ⟨[], _, _, _, _, _, _, _, _, _, _, _, _, _, _, _, _, _, _, _, _, _, _, _, _, _, _, _, _, _, _, _, _, _, _, _, _, _, _, _, _, _, _, _, _, _, _, _, _, _, _, _, _, _, rfl, by rw [hL]; rfl, by rw [hL]; rfl, MOK.nil, rfl⟩
  rotate_left
  · rintro ys hl ⟨m', x5, x6, x8, x13, x14, x15, x16, x17, x18, x19, x20, x21, x22, x23, x24, x25, x26, x27, x28, x29, x30, x31, x32, x33, x34, x35, x36, x37, x38, x39, x40, x41, x42, x43, x44, x45, x46, x47, x48, x49, x50, x51, x52, x53, x54, x55, x56, x57, x58, x59, x60, x61, x62, rfl, hb, hf, hml, rfl⟩
    simp only [putAll, List.set]
    rw [show N.length = rs.length from hrl.symm, List.drop_length] at hb hf
    ((try simp only [thenD, blockD]); refine EndQ.nrm rfl (.inr ⟨[], by decide, by simp, ?_⟩); simp [Out.mov, movT, movH, movD, D.mov, HO.mov, okM, renM, getW, D.ren, D.rens, D.okN, D.okNs, Cp.ren, Cp.okN, HO.ren, HO.okN, okA, renA, renO, hOf, handed, D.fgt, D.fgts, List.range_succ, List.idxOf_cons, tmOf, Out.fgt, D.fgt, D.fgts])
    have hall : anyBad L = false := hb
    simp [PutsM, putsOf, hall, Out.fgt, D.fgt, D.fgts]
    rw [← hf]; rfl
  · rintro k ys hl A hk ⟨m', x5, x6, x8, x13, x14, x15, x16, x17, x18, x19, x20, x21, x22, x23, x24, x25, x26, x27, x28, x29, x30, x31, x32, x33, x34, x35, x36, x37, x38, x39, x40, x41, x42, x43, x44, x45, x46, x47, x48, x49, x50, x51, x52, x53, x54, x55, x56, x57, x58, x59, x60, x61, x62, rfl, hb, hf, hml, rfl⟩ hA hA2
    simp only [putAll, List.set]
    have hkr : k < rs.length := by omega
    have hd : rs.drop k = rs[k] :: rs.drop (k + 1) := List.drop_eq_getElem_cons hkr
    obtain ⟨p, hp⟩ : ∃ p, p = N[k] := ⟨_, rfl⟩
    have hgp : N[k] = p := hp.symm
    have hrk : rs[k] = (xsP bys p).map (addP p.2) := by
      have : rs[k] = rowP bys N[k] := by simp [hrs]
      rw [this, hgp]; rfl
    rw [hd, List.flatten_cons, hrk] at hb hf
    have hpb := badP_nn (hnf.ok N[k] (List.getElem_mem hk))
    rw [hgp] at hpb
    have hXok := xsP_ok bys p
    have hXe : xsP bys p = orZero (levOf bys p.1) := rfl
    have hlv : levOf bys p.1 = (if 0 < p.1 ∧ p.1 ≤ bys.length then normOf (bys.getD (p.1 - 1).toNat []) else []) := rfl
    generalize xsP bys p = X at hb hf hXok hXe
    have hXl : ∀ n, X.length ≤ n → n ≤ LMax → X.length ≤ LMax := fun n h1 h2 => Nat.le_trans h1 h2
    (refine wpD_seqk fun K hK => ?_; refine wpD_region tyOK ?_; ((repeat (rw [wpS_cons]; simp [hk, hgp, encP])); (try simp only [wpS_nil, thenD, blockD])); refine hK _ _ _ ?_; clear hK K)
    (refine wpD_seqk fun K hK => ?_; refine wpD_region tyOK ?_; ((repeat (rw [wpS_cons]; simp)); (try simp only [wpS_nil, thenD, blockD])); refine hK _ _ _ ?_; clear hK K)
    refine wpD_seqk fun K2 hK2 => ?_
    by_cases h1 : 0 < p.1
    · by_cases h2 : p.1 ≤ bys.length
      · obtain ⟨j0, hj0⟩ : ∃ j0 : Nat, p.1 - 1 = j0 := ⟨(p.1 - 1).toNat, by omega⟩
        have hjl : j0 < bys.length := by omega
        have hw0 : IntKind.i64.wrap (p.1 - 1) = (j0 : Int) := by rw [i64w (by omega) (by omega)]; exact hj0
        have hgd : bys.getD (p.1 - 1).toNat [] = bys[j0] := by rw [hj0]; simp [List.getD_eq_getElem?_getD, hjl]
        rw [if_pos ⟨h1, h2⟩, hgd] at hlv
        rw [hlv] at hXe
        unfold orZero at hXe
        have hspj := norm_spec bys[j0] (hbys _ (List.getElem_mem hjl))
        have hYl := normOf_lmax bys[j0]
        unfold encL at hspj
        generalize normOf bys[j0] = Y at hXe hspj hYl
        (refine wpD_seqk fun K hK => ?_; refine wpD_region tyOK ?_; ((repeat (rw [wpS_cons]; simp [h1, h2])); (try simp only [wpS_nil, thenD, blockD])); refine hK _ _ _ ?_; clear hK K)
        refine wpD_part rfl (fun _ => ?_) (fun h => by simp at h)
        (refine wpD_region tyOK ?_; ((repeat (rw [wpS_cons]; simp [hw0, hjl, encL])); (try simp only [wpS_nil, thenD, blockD])))
        refine CallX.pure globPure (hspj) ?_ (by simp [D.fgts, D.fgt, encP_pure]) (by simp [D.pures, D.pure, Cp.free, D.pures_map, encP_pure]) (by simp [Out.pure, D.pure, D.pures, Cp.free, D.pures_map, encP_pure])
        ((try simp only [wpAft_ret, wpAft_pan, putS, updS, setS]); (repeat (rw [wpS_cons]; simp)); (try simp only [wpS_nil, thenD, blockD]))
        refine hK2 _ _ _ ?_
        clear hK2 K2
        refine wpD_seqk fun K2 hK2 => ?_
        by_cases hY : Y = []
        · rw [if_pos hY] at hXe
          subst hY
          have hXL : X.length ≤ LMax := by rw [hXe]; simp [LMax]
          (refine wpD_seqk fun K hK => ?_; refine wpD_region tyOK ?_; ((repeat (rw [wpS_cons]; simp)); (try simp only [wpS_nil, thenD, blockD])); refine hK _ _ _ ?_; clear hK K)
          refine wpD_part rfl (fun _ => ?_) (fun h => by simp at h)
          (refine wpD_region tyOK ?_; ((repeat (rw [wpS_cons]; simp)); (try simp only [wpS_nil, thenD, blockD])))
          refine hK2 _ _ _ ?_
          clear hK2 K2
          have hXm : [D.agg [.int .i64 0, .int .i64 0]] = X.map encP := by rw [hXe]; rfl
          rw [hXm]
          have hX1 : (1 : Int) = X.length := by rw [hXe]; rfl
          clear hXe hXm
          (refine wpD_seqk fun K hK => ?_; refine wpD_region tyOK ?_; ((repeat (rw [wpS_cons]; simp)); (try simp only [wpS_nil, thenD, blockD])); refine hK _ _ _ ?_; clear hK K)
          obtain ⟨rest, hrest⟩ : ∃ rest, rest = (rs.drop (k + 1)).flatten := ⟨_, rfl⟩
          rw [← hrest] at hb hf
          refine wpD_range tyOK globPure (ti := 3) (tk := 45) (tn := 44) (td := 46) (ts := 61) [8, 45, 46, 47, 48, 49, 50, 51, 52, 53, 54, 55, 56, 57, 58, 59, 60, 61, 62] (X.length) (fun k ys hl => ∃ (m2 : MP) (x8 x45 x46 x47 x48 x49 x50 x51 x52 x53 x54 x55 x56 x57 x58 x59 x60 x61 x62 : D), ys = [x8, x45, x46, x47, x48, x49, x50, x51, x52, x53, x54, x55, x56, x57, x58, x59, x60, x61, x62] ∧ anyBad L = anyBad ((X.drop k).map (addP p.2) ++ rest) ∧ ((X.drop k).map (addP p.2) ++ rest).foldl putM m2 = L.foldl putM [] ∧ MOK m2 ∧ hl = [.mp (encM m2), .cells 170 [.map 0], .cells 99 [.int .i64 p.1, .int .i64 p.2], .cells 82 [.slice (X.map encP) .full]]) rfl rfl rfl rfl rfl rfl rfl rfl rfl rfl rfl rfl (by simp) (by decide) rfl (by first | assumption | omega | (unfold LMax; omega)) rfl (by kernel_rfl) (by decide) ?_ ?_ ?_
          · exact ⟨m', _, _, _, _, _, _, _, _, _, _, _, _, _, _, _, _, _, _, _, rfl, hb, hf, hml, rfl⟩
          · rintro j zs hl2 B hj ⟨m2, x8, x45, x46, x47, x48, x49, x50, x51, x52, x53, x54, x55, x56, x57, x58, x59, x60, x61, x62, rfl, hb2, hf2, hml2, rfl⟩ hB hB2
            simp only [putAll, List.set]
            have hd2 : X.drop j = X[j] :: X.drop (j + 1) := List.drop_eq_getElem_cons hj
            have hqb := badP_nn (hXok X[j] (List.getElem_mem hj))
            rw [hd2, List.map_cons, List.cons_append] at hb2 hf2
            obtain ⟨q, hq⟩ : ∃ q, q = X[j] := ⟨_, rfl⟩
            have hge : X[j] = q := hq.symm
            rw [hge] at hb2 hf2 hqb
            have hw1 : IntKind.i64.wrap (q.2 + p.2) = q.2 + p.2 := i64w (by omega) (by omega)
            have hsp := rowPut_spec [(q.1, q.2 + p.2)] m2 (by simp [LMax]) hml2
            have hone : [(q.1, q.2 + p.2)].foldl putM m2 = putM m2 (addP p.2 q) := rfl
            rw [hone] at hsp
            have hbad1 : anyBad [(q.1, q.2 + p.2)] = badP (addP p.2 q) := by simp [anyBad, addP]
            rw [hbad1] at hsp
            (refine wpD_seqk fun K hK => ?_; refine wpD_region tyOK ?_; ((repeat (rw [wpS_cons]; simp [hj, hge, encP])); (try simp only [wpS_nil, thenD, blockD])); refine hK _ _ _ ?_; clear hK K)
            (refine wpD_region tyOK ?_; ((repeat (rw [wpS_cons]; simp [hw1])); (try simp only [wpS_nil, thenD, blockD])))
            refine CallX.objs globPure [0] true hsp ?_ ?_ (by decide) (by simp) (by simp [D.ren, D.rens, D.okN, D.okNs, Cp.ren, Cp.okN, HO.ren, HO.okN, okA, renA, renO, hOf, handed, D.fgt, D.fgts, List.range_succ, List.idxOf_cons]) (by simp [D.ren, D.rens, D.okN, D.okNs, Cp.ren, Cp.okN, HO.ren, HO.okN, okA, renA, renO, hOf, handed, D.fgt, D.fgts, List.range_succ, List.idxOf_cons]) (by simp [D.ren, D.rens, D.okN, D.okNs, Cp.ren, Cp.okN, HO.ren, HO.okN, okA, renA, renO, hOf, handed, D.fgt, D.fgts, List.range_succ, List.idxOf_cons, Ps, encP]) (by simp [D.ren, D.rens, D.okN, D.okNs, Cp.ren, Cp.okN, HO.ren, HO.okN, okA, renA, renO, hOf, handed, D.fgt, D.fgts, List.range_succ, List.idxOf_cons])
            · cases hbad : badP (addP p.2 q) with
              | true =>
                simp only [if_true]
                rintro o hc ⟨rfl, m3, rfl⟩
                refine ⟨false, ?_⟩
                unfold noneD
                simp [D.ren, D.rens, D.okN, D.okNs, Cp.ren, Cp.okN, HO.ren, HO.okN, okA, renA, renO, hOf, handed, D.fgt, D.fgts, List.range_succ, List.idxOf_cons, Out.ren, told, Out.fgt, upO, updS, setS]
                ((try simp only [wpAft_ret, wpAft_pan, putS, updS, setS]); (repeat (rw [wpS_cons]; simp)); (try simp only [wpS_nil, thenD, blockD]))
                ((try simp only [thenD, blockD]); refine EndQ.pan (.inr ⟨[], by decide, by simp, ?_⟩); simp [Out.mov, movT, movH, movD, D.mov, HO.mov, okM, renM, getW, D.ren, D.rens, D.okN, D.okNs, Cp.ren, Cp.okN, HO.ren, HO.okN, okA, renA, renO, hOf, handed, D.fgt, D.fgts, List.range_succ, List.idxOf_cons, tmOf, Out.fgt, D.fgt, D.fgts])
                have hall : anyBad L = true := by rw [hb2]; unfold anyBad; rw [List.any_cons, hbad]; rfl
                simp [PutsM, putsOf, hall, noneD]
                exact ⟨m3, rfl⟩
              | false =>
                simp only [if_false, Bool.false_eq_true]
                rintro o hc ⟨ho, rfl⟩
                refine ⟨true, ?_⟩
                rw [show told true o = _ from ho]
                clear ho
                simp [D.ren, D.rens, D.okN, D.okNs, Cp.ren, Cp.okN, HO.ren, HO.okN, okA, renA, renO, hOf, handed, D.fgt, D.fgts, List.range_succ, List.idxOf_cons, Out.ren, told, Out.fgt, upO, updS, setS]
                ((try simp only [wpAft_ret, wpAft_pan, putS, updS, setS]); (repeat (rw [wpS_cons]; simp)); (try simp only [wpS_nil, thenD, blockD]))
                (refine hB2 ([1, 2, 3]) _ _ (by decide) (by simp) (by simp [movT, movH, movD, D.mov, HO.mov, okM, renM, getW, D.ren, D.rens, D.okN, D.okNs, Cp.ren, Cp.okN, HO.ren, HO.okN, okA, renA, renO, hOf, handed, D.fgt, D.fgts, List.range_succ, List.idxOf_cons, putAll]) ?_ rfl; simp [movT, movH, movD, D.mov, HO.mov, okM, renM, getW, D.ren, D.rens, D.okN, D.okNs, Cp.ren, Cp.okN, HO.ren, HO.okN, okA, renA, renO, hOf, handed, D.fgt, D.fgts, List.range_succ, List.idxOf_cons])
                refine ⟨by rw [hb2]; unfold anyBad; rw [List.any_cons, hbad, Bool.false_or, List.map_drop], _, ?_, ?_, rfl⟩
                · rw [← hf2, List.foldl_cons, List.foldl_append, List.map_drop]
                · exact putM_ok hml2 hbad
            · intro o hc h
              split at h
              · obtain ⟨-, m3, rfl⟩ := h; simp
              · obtain ⟨-, rfl⟩ := h; simp
          · rintro zs hl2 ⟨m2, x8, x45, x46, x47, x48, x49, x50, x51, x52, x53, x54, x55, x56, x57, x58, x59, x60, x61, x62, rfl, hb2, hf2, hml2, rfl⟩
            simp only [putAll, List.set]
            rw [List.drop_length, List.map_nil, List.nil_append] at hb2 hf2
            (refine hA2 ([1]) _ _ (by decide) (by simp) (by simp [movT, movH, movD, D.mov, HO.mov, okM, renM, getW, D.ren, D.rens, D.okN, D.okNs, Cp.ren, Cp.okN, HO.ren, HO.okN, okA, renA, renO, hOf, handed, D.fgt, D.fgts, List.range_succ, List.idxOf_cons, putAll]) ?_ rfl; simp [movT, movH, movD, D.mov, HO.mov, okM, renM, getW, D.ren, D.rens, D.okN, D.okNs, Cp.ren, Cp.okN, HO.ren, HO.okN, okA, renA, renO, hOf, handed, D.fgt, D.fgts, List.range_succ, List.idxOf_cons])
            exact ⟨by rw [hb2, hrest], m2, by rw [← hf2, hrest], hml2, rfl⟩
        · rw [if_neg hY] at hXe
          subst hXe
          have hXL := hYl
          have hY0 : ¬ (X.length : Int) = 0 := by
            have : X.length ≠ 0 := fun h => hY (List.eq_nil_of_length_eq_zero h)
            omega
          (refine wpD_seqk fun K hK => ?_; refine wpD_region tyOK ?_; ((repeat (rw [wpS_cons]; simp [hY, hY0])); (try simp only [wpS_nil, thenD, blockD])); refine hK _ _ _ ?_; clear hK K)
          refine wpD_part rfl (fun h => by simp at h) (fun _ => ?_)
          refine wpD_skip (hK2 _ _ _ ?_)
          clear hK2 K2
          (refine wpD_seqk fun K hK => ?_; refine wpD_region tyOK ?_; ((repeat (rw [wpS_cons]; simp)); (try simp only [wpS_nil, thenD, blockD])); refine hK _ _ _ ?_; clear hK K)
          obtain ⟨rest, hrest⟩ : ∃ rest, rest = (rs.drop (k + 1)).flatten := ⟨_, rfl⟩
          rw [← hrest] at hb hf
          refine wpD_range tyOK globPure (ti := 3) (tk := 45) (tn := 44) (td := 46) (ts := 61) [8, 39, 40, 41, 45, 46, 47, 48, 49, 50, 51, 52, 53, 54, 55, 56, 57, 58, 59, 60, 61, 62] (X.length) (fun k ys hl => ∃ (m2 : MP) (x8 x39 x40 x41 x45 x46 x47 x48 x49 x50 x51 x52 x53 x54 x55 x56 x57 x58 x59 x60 x61 x62 : D), ys = [x8, x39, x40, x41, x45, x46, x47, x48, x49, x50, x51, x52, x53, x54, x55, x56, x57, x58, x59, x60, x61, x62] ∧ anyBad L = anyBad ((X.drop k).map (addP p.2) ++ rest) ∧ ((X.drop k).map (addP p.2) ++ rest).foldl putM m2 = L.foldl putM [] ∧ MOK m2 ∧ hl = [.mp (encM m2), .cells 170 [.map 0], .cells 99 [.int .i64 p.1, .int .i64 p.2], .cells 82 [.slice (X.map encP) .any]]) rfl rfl rfl rfl rfl rfl rfl rfl rfl rfl rfl rfl (by simp) (by decide) rfl (by first | assumption | omega | (unfold LMax; omega)) rfl (by kernel_rfl) (by decide) ?_ ?_ ?_
          · exact ⟨m', _, _, _, _, _, _, _, _, _, _, _, _, _, _, _, _, _, _, _, _, _, _, rfl, hb, hf, hml, rfl⟩
          · rintro j zs hl2 B hj ⟨m2, x8, x39, x40, x41, x45, x46, x47, x48, x49, x50, x51, x52, x53, x54, x55, x56, x57, x58, x59, x60, x61, x62, rfl, hb2, hf2, hml2, rfl⟩ hB hB2
            simp only [putAll, List.set]
            have hd2 : X.drop j = X[j] :: X.drop (j + 1) := List.drop_eq_getElem_cons hj
            have hqb := badP_nn (hXok X[j] (List.getElem_mem hj))
            rw [hd2, List.map_cons, List.cons_append] at hb2 hf2
            obtain ⟨q, hq⟩ : ∃ q, q = X[j] := ⟨_, rfl⟩
            have hge : X[j] = q := hq.symm
            rw [hge] at hb2 hf2 hqb
            have hw1 : IntKind.i64.wrap (q.2 + p.2) = q.2 + p.2 := i64w (by omega) (by omega)
            have hsp := rowPut_spec [(q.1, q.2 + p.2)] m2 (by simp [LMax]) hml2
            have hone : [(q.1, q.2 + p.2)].foldl putM m2 = putM m2 (addP p.2 q) := rfl
            rw [hone] at hsp
            have hbad1 : anyBad [(q.1, q.2 + p.2)] = badP (addP p.2 q) := by simp [anyBad, addP]
            rw [hbad1] at hsp
            (refine wpD_seqk fun K hK => ?_; refine wpD_region tyOK ?_; ((repeat (rw [wpS_cons]; simp [hj, hge, encP])); (try simp only [wpS_nil, thenD, blockD])); refine hK _ _ _ ?_; clear hK K)
            (refine wpD_region tyOK ?_; ((repeat (rw [wpS_cons]; simp [hw1])); (try simp only [wpS_nil, thenD, blockD])))
            refine CallX.objs globPure [0] true hsp ?_ ?_ (by decide) (by simp) (by simp [D.ren, D.rens, D.okN, D.okNs, Cp.ren, Cp.okN, HO.ren, HO.okN, okA, renA, renO, hOf, handed, D.fgt, D.fgts, List.range_succ, List.idxOf_cons]) (by simp [D.ren, D.rens, D.okN, D.okNs, Cp.ren, Cp.okN, HO.ren, HO.okN, okA, renA, renO, hOf, handed, D.fgt, D.fgts, List.range_succ, List.idxOf_cons]) (by simp [D.ren, D.rens, D.okN, D.okNs, Cp.ren, Cp.okN, HO.ren, HO.okN, okA, renA, renO, hOf, handed, D.fgt, D.fgts, List.range_succ, List.idxOf_cons, Ps, encP]) (by simp [D.ren, D.rens, D.okN, D.okNs, Cp.ren, Cp.okN, HO.ren, HO.okN, okA, renA, renO, hOf, handed, D.fgt, D.fgts, List.range_succ, List.idxOf_cons])
            · cases hbad : badP (addP p.2 q) with
              | true =>
                simp only [if_true]
                rintro o hc ⟨rfl, m3, rfl⟩
                refine ⟨false, ?_⟩
                unfold noneD
                simp [D.ren, D.rens, D.okN, D.okNs, Cp.ren, Cp.okN, HO.ren, HO.okN, okA, renA, renO, hOf, handed, D.fgt, D.fgts, List.range_succ, List.idxOf_cons, Out.ren, told, Out.fgt, upO, updS, setS]
                ((try simp only [wpAft_ret, wpAft_pan, putS, updS, setS]); (repeat (rw [wpS_cons]; simp)); (try simp only [wpS_nil, thenD, blockD]))
                ((try simp only [thenD, blockD]); refine EndQ.pan (.inr ⟨[], by decide, by simp, ?_⟩); simp [Out.mov, movT, movH, movD, D.mov, HO.mov, okM, renM, getW, D.ren, D.rens, D.okN, D.okNs, Cp.ren, Cp.okN, HO.ren, HO.okN, okA, renA, renO, hOf, handed, D.fgt, D.fgts, List.range_succ, List.idxOf_cons, tmOf, Out.fgt, D.fgt, D.fgts])
                have hall : anyBad L = true := by rw [hb2]; unfold anyBad; rw [List.any_cons, hbad]; rfl
                simp [PutsM, putsOf, hall, noneD]
                exact ⟨m3, rfl⟩
              | false =>
                simp only [if_false, Bool.false_eq_true]
                rintro o hc ⟨ho, rfl⟩
                refine ⟨true, ?_⟩
                rw [show told true o = _ from ho]
                clear ho
                simp [D.ren, D.rens, D.okN, D.okNs, Cp.ren, Cp.okN, HO.ren, HO.okN, okA, renA, renO, hOf, handed, D.fgt, D.fgts, List.range_succ, List.idxOf_cons, Out.ren, told, Out.fgt, upO, updS, setS]
                ((try simp only [wpAft_ret, wpAft_pan, putS, updS, setS]); (repeat (rw [wpS_cons]; simp)); (try simp only [wpS_nil, thenD, blockD]))
                (refine hB2 ([1, 2, 3]) _ _ (by decide) (by simp) (by simp [movT, movH, movD, D.mov, HO.mov, okM, renM, getW, D.ren, D.rens, D.okN, D.okNs, Cp.ren, Cp.okN, HO.ren, HO.okN, okA, renA, renO, hOf, handed, D.fgt, D.fgts, List.range_succ, List.idxOf_cons, putAll]) ?_ rfl; simp [movT, movH, movD, D.mov, HO.mov, okM, renM, getW, D.ren, D.rens, D.okN, D.okNs, Cp.ren, Cp.okN, HO.ren, HO.okN, okA, renA, renO, hOf, handed, D.fgt, D.fgts, List.range_succ, List.idxOf_cons])
                refine ⟨by rw [hb2]; unfold anyBad; rw [List.any_cons, hbad, Bool.false_or, List.map_drop], _, ?_, ?_, rfl⟩
                · rw [← hf2, List.foldl_cons, List.foldl_append, List.map_drop]
                · exact putM_ok hml2 hbad
            · intro o hc h
              split at h
              · obtain ⟨-, m3, rfl⟩ := h; simp
              · obtain ⟨-, rfl⟩ := h; simp
          · rintro zs hl2 ⟨m2, x8, x39, x40, x41, x45, x46, x47, x48, x49, x50, x51, x52, x53, x54, x55, x56, x57, x58, x59, x60, x61, x62, rfl, hb2, hf2, hml2, rfl⟩
            simp only [putAll, List.set]
            rw [List.drop_length, List.map_nil, List.nil_append] at hb2 hf2
            (refine hA2 ([1]) _ _ (by decide) (by simp) (by simp [movT, movH, movD, D.mov, HO.mov, okM, renM, getW, D.ren, D.rens, D.okN, D.okNs, Cp.ren, Cp.okN, HO.ren, HO.okN, okA, renA, renO, hOf, handed, D.fgt, D.fgts, List.range_succ, List.idxOf_cons, putAll]) ?_ rfl; simp [movT, movH, movD, D.mov, HO.mov, okM, renM, getW, D.ren, D.rens, D.okN, D.okNs, Cp.ren, Cp.okN, HO.ren, HO.okN, okA, renA, renO, hOf, handed, D.fgt, D.fgts, List.range_succ, List.idxOf_cons])
            exact ⟨by rw [hb2, hrest], m2, by rw [← hf2, hrest], hml2, rfl⟩
      · have hXe : X = [(0, 0)] := by
          rw [if_neg (fun h => h2 h.2)] at hlv
          rw [hXe, hlv]; rfl
        have hXL : X.length ≤ LMax := by rw [hXe]; simp [LMax]
        (refine wpD_seqk fun K hK => ?_; refine wpD_region tyOK ?_; ((repeat (rw [wpS_cons]; simp [h1, h2])); (try simp only [wpS_nil, thenD, blockD])); refine hK _ _ _ ?_; clear hK K)
        refine wpD_part rfl (fun h => by simp at h) (fun _ => ?_)
        refine wpD_skip (hK2 _ _ _ ?_)
        clear hK2 K2
        refine wpD_seqk fun K2 hK2 => ?_
        (refine wpD_seqk fun K hK => ?_; refine wpD_region tyOK ?_; ((repeat (rw [wpS_cons]; simp)); (try simp only [wpS_nil, thenD, blockD])); refine hK _ _ _ ?_; clear hK K)
        refine wpD_part rfl (fun _ => ?_) (fun h => by simp at h)
        (refine wpD_region tyOK ?_; ((repeat (rw [wpS_cons]; simp)); (try simp only [wpS_nil, thenD, blockD])))
        refine hK2 _ _ _ ?_
        clear hK2 K2
        have hXm : [D.agg [.int .i64 0, .int .i64 0]] = X.map encP := by rw [hXe]; rfl
        rw [hXm]
        have hX1 : (1 : Int) = X.length := by rw [hXe]; rfl
        clear hXe hXm
        (refine wpD_seqk fun K hK => ?_; refine wpD_region tyOK ?_; ((repeat (rw [wpS_cons]; simp)); (try simp only [wpS_nil, thenD, blockD])); refine hK _ _ _ ?_; clear hK K)
        obtain ⟨rest, hrest⟩ : ∃ rest, rest = (rs.drop (k + 1)).flatten := ⟨_, rfl⟩
        rw [← hrest] at hb hf
        refine wpD_range tyOK globPure (ti := 3) (tk := 45) (tn := 44) (td := 46) (ts := 61) [8, 28, 29, 30, 31, 32, 33, 34, 45, 46, 47, 48, 49, 50, 51, 52, 53, 54, 55, 56, 57, 58, 59, 60, 61, 62] (X.length) (fun k ys hl => ∃ (m2 : MP) (x8 x28 x29 x30 x31 x32 x33 x34 x45 x46 x47 x48 x49 x50 x51 x52 x53 x54 x55 x56 x57 x58 x59 x60 x61 x62 : D), ys = [x8, x28, x29, x30, x31, x32, x33, x34, x45, x46, x47, x48, x49, x50, x51, x52, x53, x54, x55, x56, x57, x58, x59, x60, x61, x62] ∧ anyBad L = anyBad ((X.drop k).map (addP p.2) ++ rest) ∧ ((X.drop k).map (addP p.2) ++ rest).foldl putM m2 = L.foldl putM [] ∧ MOK m2 ∧ hl = [.mp (encM m2), .cells 170 [.map 0], .cells 99 [.int .i64 p.1, .int .i64 p.2], .cells 82 [.slice (X.map encP) .full]]) rfl rfl rfl rfl rfl rfl rfl rfl rfl rfl rfl rfl (by simp) (by decide) rfl (by first | assumption | omega | (unfold LMax; omega)) rfl (by kernel_rfl) (by decide) ?_ ?_ ?_
        · exact ⟨m', _, _, _, _, _, _, _, _, _, _, _, _, _, _, _, _, _, _, _, _, _, _, _, _, _, _, rfl, hb, hf, hml, rfl⟩
        · rintro j zs hl2 B hj ⟨m2, x8, x28, x29, x30, x31, x32, x33, x34, x45, x46, x47, x48, x49, x50, x51, x52, x53, x54, x55, x56, x57, x58, x59, x60, x61, x62, rfl, hb2, hf2, hml2, rfl⟩ hB hB2
          simp only [putAll, List.set]
          have hd2 : X.drop j = X[j] :: X.drop (j + 1) := List.drop_eq_getElem_cons hj
          have hqb := badP_nn (hXok X[j] (List.getElem_mem hj))
          rw [hd2, List.map_cons, List.cons_append] at hb2 hf2
          obtain ⟨q, hq⟩ : ∃ q, q = X[j] := ⟨_, rfl⟩
          have hge : X[j] = q := hq.symm
          rw [hge] at hb2 hf2 hqb
          have hw1 : IntKind.i64.wrap (q.2 + p.2) = q.2 + p.2 := i64w (by omega) (by omega)
          have hsp := rowPut_spec [(q.1, q.2 + p.2)] m2 (by simp [LMax]) hml2
          have hone : [(q.1, q.2 + p.2)].foldl putM m2 = putM m2 (addP p.2 q) := rfl
          rw [hone] at hsp
          have hbad1 : anyBad [(q.1, q.2 + p.2)] = badP (addP p.2 q) := by simp [anyBad, addP]
          rw [hbad1] at hsp
          (refine wpD_seqk fun K hK => ?_; refine wpD_region tyOK ?_; ((repeat (rw [wpS_cons]; simp [hj, hge, encP])); (try simp only [wpS_nil, thenD, blockD])); refine hK _ _ _ ?_; clear hK K)
          (refine wpD_region tyOK ?_; ((repeat (rw [wpS_cons]; simp [hw1])); (try simp only [wpS_nil, thenD, blockD])))
          refine CallX.objs globPure [0] true hsp ?_ ?_ (by decide) (by simp) (by simp [D.ren, D.rens, D.okN, D.okNs, Cp.ren, Cp.okN, HO.ren, HO.okN, okA, renA, renO, hOf, handed, D.fgt, D.fgts, List.range_succ, List.idxOf_cons]) (by simp [D.ren, D.rens, D.okN, D.okNs, Cp.ren, Cp.okN, HO.ren, HO.okN, okA, renA, renO, hOf, handed, D.fgt, D.fgts, List.range_succ, List.idxOf_cons]) (by simp [D.ren, D.rens, D.okN, D.okNs, Cp.ren, Cp.okN, HO.ren, HO.okN, okA, renA, renO, hOf, handed, D.fgt, D.fgts, List.range_succ, List.idxOf_cons, Ps, encP]) (by simp [D.ren, D.rens, D.okN, D.okNs, Cp.ren, Cp.okN, HO.ren, HO.okN, okA, renA, renO, hOf, handed, D.fgt, D.fgts, List.range_succ, List.idxOf_cons])
          · cases hbad : badP (addP p.2 q) with
            | true =>
              simp only [if_true]
              rintro o hc ⟨rfl, m3, rfl⟩
              refine ⟨false, ?_⟩
              unfold noneD
              simp [D.ren, D.rens, D.okN, D.okNs, Cp.ren, Cp.okN, HO.ren, HO.okN, okA, renA, renO, hOf, handed, D.fgt, D.fgts, List.range_succ, List.idxOf_cons, Out.ren, told, Out.fgt, upO, updS, setS]
              ((try simp only [wpAft_ret, wpAft_pan, putS, updS, setS]); (repeat (rw [wpS_cons]; simp)); (try simp only [wpS_nil, thenD, blockD]))
              ((try simp only [thenD, blockD]); refine EndQ.pan (.inr ⟨[], by decide, by simp, ?_⟩); simp [Out.mov, movT, movH, movD, D.mov, HO.mov, okM, renM, getW, D.ren, D.rens, D.okN, D.okNs, Cp.ren, Cp.okN, HO.ren, HO.okN, okA, renA, renO, hOf, handed, D.fgt, D.fgts, List.range_succ, List.idxOf_cons, tmOf, Out.fgt, D.fgt, D.fgts])
              have hall : anyBad L = true := by rw [hb2]; unfold anyBad; rw [List.any_cons, hbad]; rfl
              simp [PutsM, putsOf, hall, noneD]
              exact ⟨m3, rfl⟩
            | false =>
              simp only [if_false, Bool.false_eq_true]
              rintro o hc ⟨ho, rfl⟩
              refine ⟨true, ?_⟩
              rw [show told true o = _ from ho]
              clear ho
              simp [D.ren, D.rens, D.okN, D.okNs, Cp.ren, Cp.okN, HO.ren, HO.okN, okA, renA, renO, hOf, handed, D.fgt, D.fgts, List.range_succ, List.idxOf_cons, Out.ren, told, Out.fgt, upO, updS, setS]
              ((try simp only [wpAft_ret, wpAft_pan, putS, updS, setS]); (repeat (rw [wpS_cons]; simp)); (try simp only [wpS_nil, thenD, blockD]))
              (refine hB2 ([1, 2, 3]) _ _ (by decide) (by simp) (by simp [movT, movH, movD, D.mov, HO.mov, okM, renM, getW, D.ren, D.rens, D.okN, D.okNs, Cp.ren, Cp.okN, HO.ren, HO.okN, okA, renA, renO, hOf, handed, D.fgt, D.fgts, List.range_succ, List.idxOf_cons, putAll]) ?_ rfl; simp [movT, movH, movD, D.mov, HO.mov, okM, renM, getW, D.ren, D.rens, D.okN, D.okNs, Cp.ren, Cp.okN, HO.ren, HO.okN, okA, renA, renO, hOf, handed, D.fgt, D.fgts, List.range_succ, List.idxOf_cons])
              refine ⟨by rw [hb2]; unfold anyBad; rw [List.any_cons, hbad, Bool.false_or, List.map_drop], _, ?_, ?_, rfl⟩
              · rw [← hf2, List.foldl_cons, List.foldl_append, List.map_drop]
              · exact putM_ok hml2 hbad
          · intro o hc h
            split at h
            · obtain ⟨-, m3, rfl⟩ := h; simp
            · obtain ⟨-, rfl⟩ := h; simp
        · rintro zs hl2 ⟨m2, x8, x28, x29, x30, x31, x32, x33, x34, x45, x46, x47, x48, x49, x50, x51, x52, x53, x54, x55, x56, x57, x58, x59, x60, x61, x62, rfl, hb2, hf2, hml2, rfl⟩
          simp only [putAll, List.set]
          rw [List.drop_length, List.map_nil, List.nil_append] at hb2 hf2
          (refine hA2 ([1]) _ _ (by decide) (by simp) (by simp [movT, movH, movD, D.mov, HO.mov, okM, renM, getW, D.ren, D.rens, D.okN, D.okNs, Cp.ren, Cp.okN, HO.ren, HO.okN, okA, renA, renO, hOf, handed, D.fgt, D.fgts, List.range_succ, List.idxOf_cons, putAll]) ?_ rfl; simp [movT, movH, movD, D.mov, HO.mov, okM, renM, getW, D.ren, D.rens, D.okN, D.okNs, Cp.ren, Cp.okN, HO.ren, HO.okN, okA, renA, renO, hOf, handed, D.fgt, D.fgts, List.range_succ, List.idxOf_cons])
          exact ⟨by rw [hb2, hrest], m2, by rw [← hf2, hrest], hml2, rfl⟩
    · have hXe : X = [(0, 0)] := by
        rw [if_neg (fun h => h1 h.1)] at hlv
        rw [hXe, hlv]; rfl
      have hXL : X.length ≤ LMax := by rw [hXe]; simp [LMax]
      (refine wpD_seqk fun K hK => ?_; refine wpD_region tyOK ?_; ((repeat (rw [wpS_cons]; simp [h1])); (try simp only [wpS_nil, thenD, blockD])); refine hK _ _ _ ?_; clear hK K)
      refine wpD_part rfl (fun h => by simp at h) (fun _ => ?_)
      refine wpD_skip (hK2 _ _ _ ?_)
      clear hK2 K2
      refine wpD_seqk fun K2 hK2 => ?_
      (refine wpD_seqk fun K hK => ?_; refine wpD_region tyOK ?_; ((repeat (rw [wpS_cons]; simp)); (try simp only [wpS_nil, thenD, blockD])); refine hK _ _ _ ?_; clear hK K)
      refine wpD_part rfl (fun _ => ?_) (fun h => by simp at h)
      (refine wpD_region tyOK ?_; ((repeat (rw [wpS_cons]; simp)); (try simp only [wpS_nil, thenD, blockD])))
      refine hK2 _ _ _ ?_
      clear hK2 K2
      have hXm : [D.agg [.int .i64 0, .int .i64 0]] = X.map encP := by rw [hXe]; rfl
      rw [hXm]
      have hX1 : (1 : Int) = X.length := by rw [hXe]; rfl
      clear hXe hXm
      (refine wpD_seqk fun K hK => ?_; refine wpD_region tyOK ?_; ((repeat (rw [wpS_cons]; simp)); (try simp only [wpS_nil, thenD, blockD])); refine hK _ _ _ ?_; clear hK K)
      obtain ⟨rest, hrest⟩ : ∃ rest, rest = (rs.drop (k + 1)).flatten := ⟨_, rfl⟩
      rw [← hrest] at hb hf
      refine wpD_range tyOK globPure (ti := 3) (tk := 45) (tn := 44) (td := 46) (ts := 61) [8, 28, 29, 30, 31, 32, 33, 34, 45, 46, 47, 48, 49, 50, 51, 52, 53, 54, 55, 56, 57, 58, 59, 60, 61, 62] (X.length) (fun k ys hl => ∃ (m2 : MP) (x8 x28 x29 x30 x31 x32 x33 x34 x45 x46 x47 x48 x49 x50 x51 x52 x53 x54 x55 x56 x57 x58 x59 x60 x61 x62 : D), ys = [x8, x28, x29, x30, x31, x32, x33, x34, x45, x46, x47, x48, x49, x50, x51, x52, x53, x54, x55, x56, x57, x58, x59, x60, x61, x62] ∧ anyBad L = anyBad ((X.drop k).map (addP p.2) ++ rest) ∧ ((X.drop k).map (addP p.2) ++ rest).foldl putM m2 = L.foldl putM [] ∧ MOK m2 ∧ hl = [.mp (encM m2), .cells 170 [.map 0], .cells 99 [.int .i64 p.1, .int .i64 p.2], .cells 82 [.slice (X.map encP) .full]]) rfl rfl rfl rfl rfl rfl rfl rfl rfl rfl rfl rfl (by simp) (by decide) rfl (by first | assumption | omega | (unfold LMax; omega)) rfl (by kernel_rfl) (by decide) ?_ ?_ ?_
      · exact ⟨m', _, _, _, _, _, _, _, _, _, _, _, _, _, _, _, _, _, _, _, _, _, _, _, _, _, _, rfl, hb, hf, hml, rfl⟩
      · rintro j zs hl2 B hj ⟨m2, x8, x28, x29, x30, x31, x32, x33, x34, x45, x46, x47, x48, x49, x50, x51, x52, x53, x54, x55, x56, x57, x58, x59, x60, x61, x62, rfl, hb2, hf2, hml2, rfl⟩ hB hB2
        simp only [putAll, List.set]
        have hd2 : X.drop j = X[j] :: X.drop (j + 1) := List.drop_eq_getElem_cons hj
        have hqb := badP_nn (hXok X[j] (List.getElem_mem hj))
        rw [hd2, List.map_cons, List.cons_append] at hb2 hf2
        obtain ⟨q, hq⟩ : ∃ q, q = X[j] := ⟨_, rfl⟩
        have hge : X[j] = q := hq.symm
        rw [hge] at hb2 hf2 hqb
        have hw1 : IntKind.i64.wrap (q.2 + p.2) = q.2 + p.2 := i64w (by omega) (by omega)
        have hsp := rowPut_spec [(q.1, q.2 + p.2)] m2 (by simp [LMax]) hml2
        have hone : [(q.1, q.2 + p.2)].foldl putM m2 = putM m2 (addP p.2 q) := rfl
        rw [hone] at hsp
        have hbad1 : anyBad [(q.1, q.2 + p.2)] = badP (addP p.2 q) := by simp [anyBad, addP]
        rw [hbad1] at hsp
        (refine wpD_seqk fun K hK => ?_; refine wpD_region tyOK ?_; ((repeat (rw [wpS_cons]; simp [hj, hge, encP])); (try simp only [wpS_nil, thenD, blockD])); refine hK _ _ _ ?_; clear hK K)
        (refine wpD_region tyOK ?_; ((repeat (rw [wpS_cons]; simp [hw1])); (try simp only [wpS_nil, thenD, blockD])))
        refine CallX.objs globPure [0] true hsp ?_ ?_ (by decide) (by simp) (by simp [D.ren, D.rens, D.okN, D.okNs, Cp.ren, Cp.okN, HO.ren, HO.okN, okA, renA, renO, hOf, handed, D.fgt, D.fgts, List.range_succ, List.idxOf_cons]) (by simp [D.ren, D.rens, D.okN, D.okNs, Cp.ren, Cp.okN, HO.ren, HO.okN, okA, renA, renO, hOf, handed, D.fgt, D.fgts, List.range_succ, List.idxOf_cons]) (by simp [D.ren, D.rens, D.okN, D.okNs, Cp.ren, Cp.okN, HO.ren, HO.okN, okA, renA, renO, hOf, handed, D.fgt, D.fgts, List.range_succ, List.idxOf_cons, Ps, encP]) (by simp [D.ren, D.rens, D.okN, D.okNs, Cp.ren, Cp.okN, HO.ren, HO.okN, okA, renA, renO, hOf, handed, D.fgt, D.fgts, List.range_succ, List.idxOf_cons])
        · cases hbad : badP (addP p.2 q) with
          | true =>
            simp only [if_true]
            rintro o hc ⟨rfl, m3, rfl⟩
            refine ⟨false, ?_⟩
            unfold noneD
            simp [D.ren, D.rens, D.okN, D.okNs, Cp.ren, Cp.okN, HO.ren, HO.okN, okA, renA, renO, hOf, handed, D.fgt, D.fgts, List.range_succ, List.idxOf_cons, Out.ren, told, Out.fgt, upO, updS, setS]
            ((try simp only [wpAft_ret, wpAft_pan, putS, updS, setS]); (repeat (rw [wpS_cons]; simp)); (try simp only [wpS_nil, thenD, blockD]))
            ((try simp only [thenD, blockD]); refine EndQ.pan (.inr ⟨[], by decide, by simp, ?_⟩); simp [Out.mov, movT, movH, movD, D.mov, HO.mov, okM, renM, getW, D.ren, D.rens, D.okN, D.okNs, Cp.ren, Cp.okN, HO.ren, HO.okN, okA, renA, renO, hOf, handed, D.fgt, D.fgts, List.range_succ, List.idxOf_cons, tmOf, Out.fgt, D.fgt, D.fgts])
            have hall : anyBad L = true := by rw [hb2]; unfold anyBad; rw [List.any_cons, hbad]; rfl
            simp [PutsM, putsOf, hall, noneD]
            exact ⟨m3, rfl⟩
          | false =>
            simp only [if_false, Bool.false_eq_true]
            rintro o hc ⟨ho, rfl⟩
            refine ⟨true, ?_⟩
            rw [show told true o = _ from ho]
            clear ho
            simp [D.ren, D.rens, D.okN, D.okNs, Cp.ren, Cp.okN, HO.ren, HO.okN, okA, renA, renO, hOf, handed, D.fgt, D.fgts, List.range_succ, List.idxOf_cons, Out.ren, told, Out.fgt, upO, updS, setS]
            ((try simp only [wpAft_ret, wpAft_pan, putS, updS, setS]); (repeat (rw [wpS_cons]; simp)); (try simp only [wpS_nil, thenD, blockD]))
            (refine hB2 ([1, 2, 3]) _ _ (by decide) (by simp) (by simp [movT, movH, movD, D.mov, HO.mov, okM, renM, getW, D.ren, D.rens, D.okN, D.okNs, Cp.ren, Cp.okN, HO.ren, HO.okN, okA, renA, renO, hOf, handed, D.fgt, D.fgts, List.range_succ, List.idxOf_cons, putAll]) ?_ rfl; simp [movT, movH, movD, D.mov, HO.mov, okM, renM, getW, D.ren, D.rens, D.okN, D.okNs, Cp.ren, Cp.okN, HO.ren, HO.okN, okA, renA, renO, hOf, handed, D.fgt, D.fgts, List.range_succ, List.idxOf_cons])
            refine ⟨by rw [hb2]; unfold anyBad; rw [List.any_cons, hbad, Bool.false_or, List.map_drop], _, ?_, ?_, rfl⟩
            · rw [← hf2, List.foldl_cons, List.foldl_append, List.map_drop]
            · exact putM_ok hml2 hbad
        · intro o hc h
          split at h
          · obtain ⟨-, m3, rfl⟩ := h; simp
          · obtain ⟨-, rfl⟩ := h; simp
      · rintro zs hl2 ⟨m2, x8, x28, x29, x30, x31, x32, x33, x34, x45, x46, x47, x48, x49, x50, x51, x52, x53, x54, x55, x56, x57, x58, x59, x60, x61, x62, rfl, hb2, hf2, hml2, rfl⟩
        simp only [putAll, List.set]
        rw [List.drop_length, List.map_nil, List.nil_append] at hb2 hf2
        (refine hA2 ([1]) _ _ (by decide) (by simp) (by simp [movT, movH, movD, D.mov, HO.mov, okM, renM, getW, D.ren, D.rens, D.okN, D.okNs, Cp.ren, Cp.okN, HO.ren, HO.okN, okA, renA, renO, hOf, handed, D.fgt, D.fgts, List.range_succ, List.idxOf_cons, putAll]) ?_ rfl; simp [movT, movH, movD, D.mov, HO.mov, okM, renM, getW, D.ren, D.rens, D.okN, D.okNs, Cp.ren, Cp.okN, HO.ren, HO.okN, okA, renA, renO, hOf, handed, D.fgt, D.fgts, List.range_succ, List.idxOf_cons])
        exact ⟨by rw [hb2, hrest], m2, by rw [← hf2, hrest], hml2, rfl⟩
end Go.Proofs.YtebmlojhdnldgaaGreatDoor

namespace Go.Proofs.YtebmlojhdnldgaaGreatDoor
set_option linter.unusedSimpArgs false
set_option linter.unusedVariables false
set_option maxHeartbeats 10000000
set_option maxRecDepth 20000
open Go.RowKit
attribute [local simp] wpAft_ret wpAft_pan wantD evOp opD tmOf putS updS setS hOf isFree isTok fillD TK.isAgg TK.known partD thenD blockD putAll D.ofV inB nilTest isNilS binX binD binE isCst bndD capB IntKind.min IntKind.max IntKind.signed IntKind.bits dstOf late
theorem putO_spec (l : LV) (bys : List LV) (hl : l.length ≤ LMax) (hbl : bys.length ≤ LMax) (hbys : ∀ x, x ∈ bys → x.length ≤ LMax) : Spec Tryz.prog glob 151 [encL l, Lvs bys] [] (OwnL (normOf (putL l bys))) := by
  have hsp1 := put1_spec l bys hl hbl hbys
  have hsp := made_spec 159 [.ref (encL l), .ref (Lvs bys)] _ rfl (by simp [D.pures, D.pure, Lvs_pure, encL, encP_pure, Cp.free, D.pures_map]) (fun m hm => puts_ok MOK.nil hm) hsp1
  rw [levR_puts] at hsp
  have hel : encL l = .agg [.slice (l.map encP) .any] := rfl
  unfold Lvs at hsp ⊢
  rw [hel] at hsp ⊢
  refine Spec.movd globPure (wpD_spec tyOK Tryz.func151 rfl (enters _ _ Tryz.func151 rfl (by decide)) rfl rfl ?_)
  (refine wpD_seqk fun K hK => ?_; refine wpD_region tyOK ?_; ((repeat (rw [wpS_cons]; simp)); (try simp only [wpS_nil, thenD, blockD])); refine hK _ _ _ ?_; clear hK K)
  (refine wpD_stay (T := tyOf) 0 (ty := 82) (ds := [.slice (l.map encP) .any]) rfl rfl (by first | exact ⟨rfl, .inr ⟨_, rfl, rfl⟩⟩ | exact ⟨rfl, .inl rfl⟩) ?_; simp [D.frzs, D.frz, HO.frz, dfFrz, refOf, TK.isAgg, FK.isB, FK.isM, FK.isO, D.isLen])
  (refine wpD_stay (T := tyOf) 1 (ty := 24) (ds := [.slice (bys.map encL) .any]) rfl rfl (by first | exact ⟨rfl, .inr ⟨_, rfl, rfl⟩⟩ | exact ⟨rfl, .inl rfl⟩) ?_; simp [D.frzs, D.frz, HO.frz, dfFrz, refOf, TK.isAgg, FK.isB, FK.isM, FK.isO, D.isLen])
  (refine wpD_seqk fun K hK => ?_; refine wpD_region tyOK ?_; ((repeat (rw [wpS_cons]; simp)); (try simp only [wpS_nil, thenD, blockD])))
  refine CallX.objs globPure [] true hsp ?_ ?_ (by decide) (by simp) (by simp [D.ren, D.rens, D.okN, D.okNs, Cp.ren, Cp.okN, HO.ren, HO.okN, okA, renA, renO, hOf, handed, D.fgt, D.fgts, List.range_succ, List.idxOf_cons]) (by simp [D.ren, D.rens, D.okN, D.okNs, Cp.ren, Cp.okN, HO.ren, HO.okN, okA, renA, renO, hOf, handed, D.fgt, D.fgts, List.range_succ, List.idxOf_cons]) (by simp [D.ren, D.rens, D.okN, D.okNs, Cp.ren, Cp.okN, HO.ren, HO.okN, okA, renA, renO, hOf, handed, D.fgt, D.fgts, List.range_succ, List.idxOf_cons]) (by simp [D.ren, D.rens, D.okN, D.okNs, Cp.ren, Cp.okN, HO.ren, HO.okN, okA, renA, renO, hOf, handed, D.fgt, D.fgts, List.range_succ, List.idxOf_cons])
  · rintro o hc (⟨hn, rfl, rfl⟩ | ⟨rfl, rfl⟩)
    · refine ⟨false, ?_⟩
      simp [D.ren, D.rens, D.okN, D.okNs, Cp.ren, Cp.okN, HO.ren, HO.okN, okA, renA, renO, hOf, handed, D.fgt, D.fgts, List.range_succ, List.idxOf_cons, Out.ren, told, Out.fgt, upO, updS, setS]
      ((try simp only [wpAft_ret, wpAft_pan, putS, updS, setS]); (repeat (rw [wpS_cons]; simp)); (try simp only [wpS_nil, thenD, blockD]))
      (refine hK _ _ _ ?_; clear hK K)
      (refine wpD_ret ?_; (try simp only [thenD, blockD]); refine EndQ.ret rfl (.inr ⟨[], by decide, by simp, ?_⟩); simp [Out.mov, movT, movH, movD, D.mov, HO.mov, okM, renM, getW, D.ren, D.rens, D.okN, D.okNs, Cp.ren, Cp.okN, HO.ren, HO.okN, okA, renA, renO, hOf, handed, D.fgt, D.fgts, List.range_succ, List.idxOf_cons, tmOf, Out.fgt, D.fgt, D.fgts])
      exact .inl ⟨hn, rfl, rfl⟩
    · refine ⟨false, ?_⟩
      simp [D.ren, D.rens, D.okN, D.okNs, Cp.ren, Cp.okN, HO.ren, HO.okN, okA, renA, renO, hOf, handed, D.fgt, D.fgts, List.range_succ, List.idxOf_cons, Out.ren, told, Out.fgt, upO, updS, setS]
      ((try simp only [wpAft_ret, wpAft_pan, putS, updS, setS]); (repeat (rw [wpS_cons]; simp)); (try simp only [wpS_nil, thenD, blockD]))
      (refine hK _ _ _ ?_; clear hK K)
      (refine wpD_ret ?_; (try simp only [thenD, blockD]); refine EndQ.ret rfl (.inr ⟨[3], by decide, by simp, ?_⟩); simp [Out.mov, movT, movH, movD, D.mov, HO.mov, okM, renM, getW, D.ren, D.rens, D.okN, D.okNs, Cp.ren, Cp.okN, HO.ren, HO.okN, okA, renA, renO, hOf, handed, D.fgt, D.fgts, List.range_succ, List.idxOf_cons, tmOf, Out.fgt, D.fgt, D.fgts])
      exact .inr ⟨rfl, rfl⟩
  · rintro o hc (⟨hn, rfl, rfl⟩ | ⟨rfl, rfl⟩) <;> simp
theorem put_spec (l : LV) (bys : List LV) (hl : l.length ≤ LMax) (hbl : bys.length ≤ LMax) (hbys : ∀ x, x ∈ bys → x.length ≤ LMax) : Spec Tryz.prog glob 151 [encL l, Lvs bys] [] (fun o _ => o.fgt = .ret (encL (normOf (putL l bys)))) := readL (putO_spec l bys hl hbl hbys)
end Go.Proofs.YtebmlojhdnldgaaGreatDoor

namespace Go.Proofs.YtebmlojhdnldgaaGreatDoor
set_option linter.unusedSimpArgs false
set_option linter.unusedVariables false
set_option maxHeartbeats 10000000
set_option maxRecDepth 20000
open Go.RowKit
attribute [local simp] wpAft_ret wpAft_pan wantD evOp opD tmOf putS updS setS hOf isFree isTok fillD TK.isAgg TK.known partD thenD blockD putAll D.ofV inB nilTest isNilS binX binD binE isCst bndD capB IntKind.min IntKind.max IntKind.signed IntKind.bits dstOf late
def levTurn (bys : List LV) : Turn := fun _ t => .inr (t.n, t.ls.map fun l => normOf (putL l bys))
def T.levels (t : T) (bys : List LV) (d : Int) : T := T.walk (levTurn bys) t d
/-- the levels that are put -/
def lvT (bys : List LV) (ls : List LV) (j : Nat) : List LV := (ls.take j).map fun l => normOf (putL l bys)
theorem lvT_succ {bys ls : List LV} {j : Nat} (h : j < ls.length) : lvT bys ls (j + 1) = lvT bys ls j ++ [normOf (putL ls[j] bys)] := by
  unfold lvT; rw [List.take_succ_eq_append_getElem h, List.map_append]; rfl
theorem lvT_end {bys ls : List LV} {j : Nat} (h : ls.length ≤ j) : lvT bys ls j = ls.map fun l => normOf (putL l bys) := by unfold lvT; rw [List.take_of_length_le h]
theorem lvT_len {bys ls : List LV} {j : Nat} (h : j ≤ ls.length) : (lvT bys ls j).length = j := by unfold lvT; rw [List.length_map, List.length_take]; omega
theorem levels1_spec (bys : List LV) (hb : bys.length ≤ LMax) (hbo : ∀ b, b ∈ bys → b.length ≤ LMax) (d : Int) (t : T) (ht : okT t) : Spec Tryz.prog glob 150 ([walkF d 150 [.ref (Lvs bys)], encT t] ++ [.ref (Lvs bys)]) [] (fun o _ => o.fgt = .ret (turnOut (levTurn bys) d t)) := by
  obtain ⟨kk, nn, aa, ls, ks⟩ := t
  have hll : ls.length ≤ LMax := ht.ll
  have hls := ht.ls
  simp only [T.ls_mk] at hls
  unfold turnOut levTurn
  simp only [T.k_mk, T.n_mk, T.a_mk, T.ls_mk, T.ks_mk]
  rw [← lvT_end (bys := bys) (Nat.le_refl _)]
  have hE : ∀ l, encT (.mk kk nn aa l ks) = .agg [.int .i64 kk, .int .i64 nn, .int .i64 aa, .slice (l.map encL) .any, .slice (ks.map encT) .any] := fun l => encT_eq _
  simp only [hE]
  unfold walkF Lvs
  refine Spec.movd globPure (wpD_spec tyOK Tryz.func150 rfl (enters _ _ Tryz.func150 rfl (by decide)) rfl rfl ?_)
  simp only [List.cons_append, List.nil_append]
  (refine wpD_seqk fun K hK => ?_; refine wpD_region tyOK ?_; ((repeat (rw [wpS_cons]; simp)); (try simp only [wpS_nil, thenD, blockD])); refine hK _ _ _ ?_; clear hK K)
  (refine wpD_seqk fun K hK => ?_; refine wpD_region tyOK ?_; ((repeat (rw [wpS_cons]; simp)); (try simp only [wpS_nil, thenD, blockD])); refine hK _ _ _ ?_; clear hK K)
  (refine wpD_seqk fun K hK => ?_; refine wpD_region tyOK ?_; ((repeat (rw [wpS_cons]; simp)); (try simp only [wpS_nil, thenD, blockD])); refine hK _ _ _ ?_; clear hK K)
  refine wpD_tokO 1 3 (ty := 27) (ds := [.int .i64 kk, .int .i64 nn, .int .i64 aa, .slice [] .full, .slice (ks.map encT) .any]) rfl ?_
  simp [D.tokd]
  refine wpD_seqk fun K1 hK1 => ?_
  (refine wpD_seqk fun K hK => ?_; refine wpD_region tyOK ?_; ((repeat (rw [wpS_cons]; simp)); (try simp only [wpS_nil, thenD, blockD])); refine hK _ _ _ ?_; clear hK K)
  refine wpD_rangeJ tyOK globPure (ti := 3) (tk := 15) (tn := 14) (td := 16) (ts := 27) [9, 15, 16, 17, 18, 19, 20, 21, 22, 23, 24, 25, 26, 27] [] (ls.length) (fun k ys hl => ys = [] ∧ hl = [.cells 117 [.int .i64 d, .fn (.func 150) [] [.ref (.slice (bys.map encL) .any)]], .cells 27 [.int .i64 kk, .int .i64 nn, .int .i64 aa, .slice ((lvT bys ls k).map encL) (.tok 3), .slice (ks.map encT) .any], .cells 27 [.int .i64 0, .int .i64 0, .int .i64 0, .slice [] .full, .slice [] .full], .tok]) rfl rfl rfl rfl rfl rfl rfl rfl rfl rfl rfl rfl (by simp) (by decide) rfl (by first | assumption | omega | (unfold LMax; omega)) rfl (by kernel_rfl) (by decide) ?_ ?_ ?_
  · exact ⟨rfl, rfl⟩
  · rintro i ys hl A hi ⟨rfl, rfl⟩ hA hA2
    simp only [putAll, List.set, List.map_cons, List.map_nil, List.cons_append, List.nil_append]
    have hi' : (i : Int) < ls.length := by omega
    have hsn := lvT_succ (bys := bys) hi
    have hln := lvT_len (bys := bys) (Nat.le_of_lt hi)
    have hp := put_spec ls[i] bys (hls _ (List.getElem_mem hi)).1 hb hbo
    unfold Lvs at hp
    obtain ⟨y, hy⟩ : ∃ y, ls[i] = y := ⟨_, rfl⟩
    rw [hy] at hp hsn
    have hel : (lvT bys ls i).length + 1 ≤ LMax := by omega
    generalize lvT bys ls i = es at hsn hln hel ⊢
    (refine wpD_seqk fun K hK => ?_; refine wpD_region tyOK ?_; ((repeat (rw [wpS_cons]; simp [hi, hi', hy])); (try simp only [wpS_nil, thenD, blockD])); refine hK _ _ _ ?_; clear hK K)
    (refine wpD_drawk tyOK (by kernel_rfl) (by kernel_rfl) fun KT hKT => ?_; ((repeat (rw [wpT_cons]; simp [hi, hi', hy])); (try simp only [wpT_nil])))
    refine CallY.pure globPure (hp) ?_ (by simp [D.fgts, D.fgt, encL]) (by simp [D.pures, D.pure, Cp.free, D.pures_map, encL]) (by simp [Out.pure, D.pure, D.pures, Cp.free, D.pures_map, encL])
    ((try simp only [wpAftT_ret, wpAftT_pan, putS, updS, setS]); (repeat (rw [wpT_cons]; simp [hel])); (try simp only [wpT_nil]))
    (refine hKT _ _ _ _ (by kernel_rfl) ?_; clear hKT KT; (try simp only [thenD, blockD]))
    (refine hA2 ([0, 1, 2, 5]) _ _ _ (LeT.refl _) (by decide) (by simp) (by simp [movT, movH, movD, D.mov, HO.mov, okM, renM, getW, D.ren, D.rens, D.okN, D.okNs, Cp.ren, Cp.okN, HO.ren, HO.okN, okA, renA, renO, hOf, handed, D.fgt, D.fgts, List.range_succ, List.idxOf_cons, putAll]) ?_ rfl; simp [movT, movH, movD, D.mov, HO.mov, okM, renM, getW, D.ren, D.rens, D.okN, D.okNs, Cp.ren, Cp.okN, HO.ren, HO.okN, okA, renA, renO, hOf, handed, D.fgt, D.fgts, List.range_succ, List.idxOf_cons])
    rw [hsn, show es.map encL ++ [encL (normOf (putL y bys))] = (es ++ [normOf (putL y bys)]).map encL by simp, mapL_ren]
  · rintro ys hl tl' ⟨rfl, rfl⟩ htl
    refine hK1 _ _ _ (wpD_weakL htl ?_)
    simp only [putAll, List.set, List.map_cons, List.map_nil, List.cons_append, List.nil_append]
    (refine wpD_seqk fun K hK => ?_; refine wpD_region tyOK ?_; ((repeat (rw [wpS_cons]; simp)); (try simp only [wpS_nil, thenD, blockD])); refine hK _ _ _ ?_; clear hK K)
    (refine wpD_ret ?_; (try simp only [thenD, blockD]); refine EndQ.ret rfl (.inl ?_); simp [tmOf, Out.fgt, D.fgt, D.fgts])
theorem levels_spec (t : T) (bys : List LV) (hb : bys.length ≤ LMax) (hbo : ∀ b, b ∈ bys → b.length ≤ LMax) (hd : t.deep ≤ DM) (ht : okT t) : Spec Tryz.prog glob 138 [encT t, Lvs bys] [] (fun o _ => o.fgt = .ret (encT (t.levels bys 0))) := by
  have hw := walkT_spec (levTurn bys) 150 [.ref (Lvs bys)] rfl (by simp [D.pures, D.pure, Lvs_pure]) (fun d t _ => levels1_spec bys hb hbo d t) t 0 ⟨by omega, by omega⟩ ht
  unfold walkF at hw
  rw [show T.walk (levTurn bys) t 0 = t.levels bys 0 from rfl] at hw
  generalize t.levels bys 0 = r at hw ⊢
  rw [encT_eq t] at hw
  unfold Lvs at hw ⊢
  refine Spec.movd globPure (wpD_spec tyOK Tryz.func138 rfl (enters _ _ Tryz.func138 rfl (by decide)) rfl rfl ?_)
  (refine wpD_seqk fun K hK => ?_; refine wpD_region tyOK ?_; ((repeat (rw [wpS_cons]; simp)); (try simp only [wpS_nil, thenD, blockD])); refine hK _ _ _ ?_; clear hK K)
  (refine wpD_stay (T := tyOf) 1 (ty := 24) (ds := [.slice (bys.map encL) .any]) rfl rfl (by first | exact ⟨rfl, .inr ⟨_, rfl, rfl⟩⟩ | exact ⟨rfl, .inl rfl⟩) ?_; simp [D.frzs, D.frz, HO.frz, dfFrz, refOf, TK.isAgg, FK.isB, FK.isM, FK.isO, D.isLen])
  (refine wpD_seqk fun K hK => ?_; refine wpD_region tyOK ?_; ((repeat (rw [wpS_cons]; simp)); (try simp only [wpS_nil, thenD, blockD])))
  refine cXp (hw) ?_
  ((try simp only [wpAft_ret, wpAft_pan, putS, updS, setS]); (repeat (rw [wpS_cons]; simp)); (try simp only [wpS_nil, thenD, blockD]))
  (refine hK _ _ _ ?_; clear hK K)
  (refine wpD_ret ?_; (try simp only [thenD, blockD]); refine EndQ.ret rfl (.inl ?_); simp [tmOf, Out.fgt, D.fgt, D.fgts])
  exact (encT_eq r).symm
end Go.Proofs.YtebmlojhdnldgaaGreatDoor

