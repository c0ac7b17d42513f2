/-
  MW4: the texts Lput Lpt2 Tlv, one behind the other.
-/
import Derived.Test.YtebmlojhdnldgaaGreatDoorMW3
namespace Go.Proofs.YtebmlojhdnldgaaGreatDoor
set_option linter.unusedSimpArgs false
set_option linter.unusedVariables false
set_option maxHeartbeats 10000000
set_option maxRecDepth 20000
open Go.RowKit
attribute [local simp] Qb Qc Xg Xw opD Qt Qn Qi Qj hOf Xd Xz Xu TK.isAgg TK.known Xf Xh Wv Qv D.ofV inB Wr Xj binX binD binE Xv bndD capB IntKind.min IntKind.max IntKind.signed IntKind.bits Xb late
set_option maxHeartbeats 20000000 in
theorem put1_spec (l : LV) (bys : List LV) (hl : l.length <= Wd) (hbl : bys.length <= Wd) (hbys : ∀ x, x ∈ bys -> x.length <= Wd) : Qu Tryz.prog glob 159 [.agg [.map 0], .ref (Wm l), .ref (Lvs bys)] [.mp []] (PutsM (putsOf (putL l bys) [])) := by
 have hsp0 := norm_spec l hl
 have hnf := normOf_nf l
 have hnl := normOf_len l
 unfold putL
 generalize Wq l = N at hsp0 hnf hnl
 have hNl : N.length <= Wd := by unfold Wd; omega
 obtain ⟨rs, hrs⟩ : ∃ rs, rs = N.map (rowP bys) := ⟨_, rfl⟩
 rw [<- hrs]
 have hrl : rs.length = N.length := by rw [hrs, List.length_map]
 obtain ⟨L, hL⟩ : ∃ L, L = rs.flatten := ⟨_, rfl⟩
 rw [<- hL]
 unfold Wd at hbl
 refine Qu.movd Qf (Qp Wc Tryz.func159 rfl (Qw _ _ Tryz.func159 rfl (by decide)) rfl rfl ?_)
 unfold Wm Lvs
 (refine sR fun K hK => ?_; ((repeat (rw [Qa]; simp)); (try simp only [zs])); refine hK _ _ _ ?_; clear hK K)
 unfold Wm at hsp0
 (refine sR fun K hK => ?_; ((repeat (rw [Qa]; simp)); (try simp only [zs])))
 refine Xk.pure Qf (hsp0) ?_ (by simp [D.fgts, D.fgt, Xs]) (by simp [D.pures, D.pure, Cp.free, D.pures_map, Xs]) (by simp [Out.pure, D.pure, D.pures, Cp.free, D.pures_map, Xs])
 ((try simp only [Qb, Qc, Qn, Qi, Qj]); (repeat (rw [Qa]; simp)); (try simp only [zs]))
 (refine hK _ _ _ ?_; clear hK K)
 refine wpD_range Wc Qf (ti := 3) (tk := 13) (tn := 12) (td := 14) (ts := 62) [5, 6, 8, 13, 14, 15, 16, 17, 18, 19, 20, 21, 22, 23, 24, 25, 26, 27, 28, 29, 30, 31, 32, 33, 34, 35, 36, 37, 38, 39, 40, 41, 42, 43, 44, 45, 46, 47, 48, 49, 50, 51, 52, 53, 54, 55, 56, 57, 58, 59, 60, 61, 62] (N.length) (fun k ys hl => ∃ (m' : MP) (x5 x6 x8 x13 x14 x15 x16 x17 x18 x19 x20 x21 x22 x23 x24 x25 x26 x27 x28 x29 x30 x31 x32 x33 x34 x35 x36 x37 x38 x39 x40 x41 x42 x43 x44 x45 x46 x47 x48 x49 x50 x51 x52 x53 x54 x55 x56 x57 x58 x59 x60 x61 x62 : D), ys = [x5, x6, x8, x13, x14, x15, x16, x17, x18, x19, x20, x21, x22, x23, x24, x25, x26, x27, x28, x29, x30, x31, x32, x33, x34, x35, x36, x37, x38, x39, x40, x41, x42, x43, x44, x45, x46, x47, x48, x49, x50, x51, x52, x53, x54, x55, x56, x57, x58, x59, x60, x61, x62] /\ Xn L = Xn (rs.drop k).flatten /\ (rs.drop k).flatten.foldl putM m' = L.foldl putM [] /\ MOK m' /\ hl = [.mp (encM m'), .cells 170 [.map 0]]) rfl rfl rfl rfl rfl rfl rfl rfl rfl rfl rfl rfl (by simp) (by decide) rfl (by first | assumption | omega | (unfold Wd; omega)) rfl (by kernel_rfl) (by decide) ?_ ?_ ?_
 ·exact ⟨[], _, _, _, _, _, _, _, _, _, _, _, _, _, _, _, _, _, _, _, _, _, _, _, _, _, _, _, _, _, _, _, _, _, _, _, _, _, _, _, _, _, _, _, _, _, _, _, _, _, _, _, _, _, rfl, by rw [hL]; rfl, by rw [hL]; rfl, MOK.nil, rfl⟩
 rotate_left
 ·rintro ys hl ⟨m', x5, x6, x8, x13, x14, x15, x16, x17, x18, x19, x20, x21, x22, x23, x24, x25, x26, x27, x28, x29, x30, x31, x32, x33, x34, x35, x36, x37, x38, x39, x40, x41, x42, x43, x44, x45, x46, x47, x48, x49, x50, x51, x52, x53, x54, x55, x56, x57, x58, x59, x60, x61, x62, rfl, hb, hf, hml, rfl⟩
  simp only [Qv, List.set]
  rw [show N.length = rs.length from hrl.symm, List.drop_length] at hb hf
  ((try simp only [zs]); refine Wa.nrm rfl (.inr ⟨[], by decide, by simp, ?_⟩); simp [Out.mov, Wg, Wh, Wj, D.mov, HO.mov, okM, Wi, We, zz, okA, Qr, Qq, hOf, Qe, Qt, Out.fgt, D.fgt, D.fgts])
  have hall : Xn L = false := hb
  simp [PutsM, putsOf, hall, Out.fgt, D.fgt, D.fgts]
  rw [<- hf]; rfl
 ·rintro k ys hl A hk ⟨m', x5, x6, x8, x13, x14, x15, x16, x17, x18, x19, x20, x21, x22, x23, x24, x25, x26, x27, x28, x29, x30, x31, x32, x33, x34, x35, x36, x37, x38, x39, x40, x41, x42, x43, x44, x45, x46, x47, x48, x49, x50, x51, x52, x53, x54, x55, x56, x57, x58, x59, x60, x61, x62, rfl, hb, hf, hml, rfl⟩ hA hA2
  simp only [Qv, List.set]
  have hkr : k < rs.length := by omega
  have hd : rs.drop k = rs[k] :: rs.drop (k + 1) := List.drop_eq_getElem_cons hkr
  obtain ⟨p, hp⟩ : ∃ p, p = N[k] := ⟨_, rfl⟩
  have hgp : N[k] = p := hp.symm
  have hrk : rs[k] = (xsP bys p).map (addP p.2) := by
   have : rs[k] = rowP bys N[k] := by simp [hrs]
   rw [this, hgp]; rfl
  rw [hd, List.flatten_cons, hrk] at hb hf
  have hpb := badP_nn (hnf.ok N[k] (List.getElem_mem hk))
  rw [hgp] at hpb
  have hXok := xsP_ok bys p
  have hXe : xsP bys p = orZero (levOf bys p.1) := rfl
  have hlv : levOf bys p.1 = (if 0 < p.1 /\ p.1 <= bys.length then Wq (bys.getD (p.1 - 1).toNat []) else []) := rfl
  generalize xsP bys p = X at hb hf hXok hXe
  have hXl : ∀ n, X.length <= n -> n <= Wd -> X.length <= Wd := fun n h1 h2 => Nat.le_trans h1 h2
  (refine sR fun K hK => ?_; ((repeat (rw [Qa]; simp [hk, hgp, Xp])); (try simp only [zs])); refine hK _ _ _ ?_; clear hK K)
  (refine sR fun K hK => ?_; ((repeat (rw [Qa]; simp)); (try simp only [zs])); refine hK _ _ _ ?_; clear hK K)
  refine Qg fun K2 hK2 => ?_
  by_cases h1 : 0 < p.1
  ·by_cases h2 : p.1 <= bys.length
   ·obtain ⟨j0, hj0⟩ : ∃ j0 : Nat, p.1 - 1 = j0 := ⟨(p.1 - 1).toNat, by omega⟩
    have hjl : j0 < bys.length := by omega
    have hw0 : IntKind.i64.wrap (p.1 - 1) = (j0 : Int) := by rw [i64w (by omega) (by omega)]; exact hj0
    have hgd : bys.getD (p.1 - 1).toNat [] = bys[j0] := by rw [hj0]; simp [List.getD_eq_getElem?_getD, hjl]
    rw [if_pos ⟨h1, h2⟩, hgd] at hlv
    rw [hlv] at hXe
    unfold orZero at hXe
    have hspj := norm_spec bys[j0] (hbys _ (List.getElem_mem hjl))
    have hYl := normOf_lmax bys[j0]
    unfold Wm at hspj
    generalize Wq bys[j0] = Y at hXe hspj hYl
    (refine sR fun K hK => ?_; ((repeat (rw [Qa]; simp [h1, h2])); (try simp only [zs])); refine hK _ _ _ ?_; clear hK K)
    refine pT rfl ?_
    (refine Qz Wc ?_; ((repeat (rw [Qa]; simp [hw0, hjl, Wm])); (try simp only [zs])))
    refine Xk.pure Qf (hspj) ?_ (by simp [D.fgts, D.fgt, Xs]) (by simp [D.pures, D.pure, Cp.free, D.pures_map, Xs]) (by simp [Out.pure, D.pure, D.pures, Cp.free, D.pures_map, Xs])
    ((try simp only [Qb, Qc, Qn, Qi, Qj]); (repeat (rw [Qa]; simp)); (try simp only [zs]))
    refine hK2 _ _ _ ?_
    clear hK2 K2
    refine Qg fun K2 hK2 => ?_
    by_cases hY : Y = []
    ·rw [if_pos hY] at hXe
     subst hY
     have hXL : X.length <= Wd := by rw [hXe]; simp [Wd]
     (refine sR fun K hK => ?_; ((repeat (rw [Qa]; simp)); (try simp only [zs])); refine hK _ _ _ ?_; clear hK K)
     refine pT rfl ?_
     (refine Qz Wc ?_; ((repeat (rw [Qa]; simp)); (try simp only [zs])))
     refine hK2 _ _ _ ?_
     clear hK2 K2
     have hXm : [D.agg [.int .i64 0, .int .i64 0]] = X.map Xp := by rw [hXe]; rfl
     rw [hXm]
     have hX1 : (1 : Int) = X.length := by rw [hXe]; rfl
     clear hXe hXm
     (refine sR fun K hK => ?_; ((repeat (rw [Qa]; simp)); (try simp only [zs])); refine hK _ _ _ ?_; clear hK K)
     obtain ⟨rest, hrest⟩ : ∃ rest, rest = (rs.drop (k + 1)).flatten := ⟨_, rfl⟩
     rw [<- hrest] at hb hf
     refine wpD_range Wc Qf (ti := 3) (tk := 45) (tn := 44) (td := 46) (ts := 61) [8, 45, 46, 47, 48, 49, 50, 51, 52, 53, 54, 55, 56, 57, 58, 59, 60, 61, 62] (X.length) (fun k ys hl => ∃ (m2 : MP) (x8 x45 x46 x47 x48 x49 x50 x51 x52 x53 x54 x55 x56 x57 x58 x59 x60 x61 x62 : D), ys = [x8, x45, x46, x47, x48, x49, x50, x51, x52, x53, x54, x55, x56, x57, x58, x59, x60, x61, x62] /\ Xn L = Xn ((X.drop k).map (addP p.2) ++ rest) /\ ((X.drop k).map (addP p.2) ++ rest).foldl putM m2 = L.foldl putM [] /\ MOK m2 /\ hl = [.mp (encM m2), .cells 170 [.map 0], .cells 99 [.int .i64 p.1, .int .i64 p.2], .cells 82 [.slice (X.map Xp) .full]]) rfl rfl rfl rfl rfl rfl rfl rfl rfl rfl rfl rfl (by simp) (by decide) rfl (by first | assumption | omega | (unfold Wd; omega)) rfl (by kernel_rfl) (by decide) ?_ ?_ ?_
     ·exact ⟨m', _, _, _, _, _, _, _, _, _, _, _, _, _, _, _, _, _, _, _, rfl, hb, hf, hml, rfl⟩
     ·rintro j zs hl2 B hj ⟨m2, x8, x45, x46, x47, x48, x49, x50, x51, x52, x53, x54, x55, x56, x57, x58, x59, x60, x61, x62, rfl, hb2, hf2, hml2, rfl⟩ hB hB2
      simp only [Qv, List.set]
      have hd2 : X.drop j = X[j] :: X.drop (j + 1) := List.drop_eq_getElem_cons hj
      have hqb := badP_nn (hXok X[j] (List.getElem_mem hj))
      rw [hd2, List.map_cons, List.cons_append] at hb2 hf2
      obtain ⟨q, hq⟩ : ∃ q, q = X[j] := ⟨_, rfl⟩
      have hge : X[j] = q := hq.symm
      rw [hge] at hb2 hf2 hqb
      have hw1 : IntKind.i64.wrap (q.2 + p.2) = q.2 + p.2 := i64w (by omega) (by omega)
      have hsp := rowPut_spec [(q.1, q.2 + p.2)] m2 (by simp [Wd]) hml2
      have hone : [(q.1, q.2 + p.2)].foldl putM m2 = putM m2 (addP p.2 q) := rfl
      rw [hone] at hsp
      have hbad1 : Xn [(q.1, q.2 + p.2)] = badP (addP p.2 q) := by simp [Xn, addP]
      rw [hbad1] at hsp
      (refine sR fun K hK => ?_; ((repeat (rw [Qa]; simp [hj, hge, Xp])); (try simp only [zs])); refine hK _ _ _ ?_; clear hK K)
      (refine Qz Wc ?_; ((repeat (rw [Qa]; simp [hw1])); (try simp only [zs])))
      refine Xk.objs Qf [0] true hsp ?_ ?_ (by decide) (by simp) (by simp [zz, okA, Qr, Qq, hOf, Qe]) (by simp [zz, okA, Qr, Qq, hOf, Qe]) (by simp [zz, okA, Qr, Qq, hOf, Qe, Ps, Xp]) (by simp [zz, okA, Qr, Qq, hOf, Qe])
      ·cases hbad : badP (addP p.2 q) with
       | true =>
        simp only [if_true]
        rintro o hc ⟨rfl, m3, rfl⟩
        refine ⟨false, ?_⟩
        unfold noneD
        simp [zz, okA, Qr, Qq, hOf, Qe, Out.ren, told, Out.fgt, upO, Qi, Qj]
        ((try simp only [Qb, Qc, Qn, Qi, Qj]); (repeat (rw [Qa]; simp)); (try simp only [zs]))
        ((try simp only [zs]); refine Wa.pan (.inr ⟨[], by decide, by simp, ?_⟩); simp [Out.mov, Wg, Wh, Wj, D.mov, HO.mov, okM, Wi, We, zz, okA, Qr, Qq, hOf, Qe, Qt, Out.fgt, D.fgt, D.fgts])
        have hall : Xn L = true := by rw [hb2]; unfold Xn; rw [List.any_cons, hbad]; rfl
        simp [PutsM, putsOf, hall, noneD]
        exact ⟨m3, rfl⟩
       | false =>
        simp only [if_false, Bool.false_eq_true]
        rintro o hc ⟨ho, rfl⟩
        refine ⟨true, ?_⟩
        rw [show told true o = _ from ho]
        clear ho
        simp [zz, okA, Qr, Qq, hOf, Qe, Out.ren, told, Out.fgt, upO, Qi, Qj]
        ((try simp only [Qb, Qc, Qn, Qi, Qj]); (repeat (rw [Qa]; simp)); (try simp only [zs]))
        (refine hB2 ([1, 2, 3]) _ _ (by decide) (by simp) (by simp [Wg, Wh, Wj, D.mov, HO.mov, okM, Wi, We, zz, okA, Qr, Qq, hOf, Qe, Qv]) ?_ rfl; simp [Wg, Wh, Wj, D.mov, HO.mov, okM, Wi, We, zz, okA, Qr, Qq, hOf, Qe])
        refine ⟨by rw [hb2]; unfold Xn; rw [List.any_cons, hbad, Bool.false_or, List.map_drop], _, ?_, ?_, rfl⟩
        ·rw [<- hf2, List.foldl_cons, List.foldl_append, List.map_drop]
        ·exact putM_ok hml2 hbad
      ·intro o hc h
       split at h
       ·obtain ⟨-, m3, rfl⟩ := h; simp
       ·obtain ⟨-, rfl⟩ := h; simp
     ·rintro zs hl2 ⟨m2, x8, x45, x46, x47, x48, x49, x50, x51, x52, x53, x54, x55, x56, x57, x58, x59, x60, x61, x62, rfl, hb2, hf2, hml2, rfl⟩
      simp only [Qv, List.set]
      rw [List.drop_length, List.map_nil, List.nil_append] at hb2 hf2
      (refine hA2 ([1]) _ _ (by decide) (by simp) (by simp [Wg, Wh, Wj, D.mov, HO.mov, okM, Wi, We, zz, okA, Qr, Qq, hOf, Qe, Qv]) ?_ rfl; simp [Wg, Wh, Wj, D.mov, HO.mov, okM, Wi, We, zz, okA, Qr, Qq, hOf, Qe])
      exact ⟨by rw [hb2, hrest], m2, by rw [<- hf2, hrest], hml2, rfl⟩
    ·rw [if_neg hY] at hXe
     subst hXe
     have hXL := hYl
     have hY0 : ¬ (X.length : Int) = 0 := by
      have : X.length ≠ 0 := fun h => hY (List.eq_nil_of_length_eq_zero h)
      omega
     (refine sR fun K hK => ?_; ((repeat (rw [Qa]; simp [hY, hY0])); (try simp only [zs])); refine hK _ _ _ ?_; clear hK K)
     refine pF rfl ?_
     refine Qs (hK2 _ _ _ ?_)
     clear hK2 K2
     (refine sR fun K hK => ?_; ((repeat (rw [Qa]; simp)); (try simp only [zs])); refine hK _ _ _ ?_; clear hK K)
     obtain ⟨rest, hrest⟩ : ∃ rest, rest = (rs.drop (k + 1)).flatten := ⟨_, rfl⟩
     rw [<- hrest] at hb hf
     refine wpD_range Wc Qf (ti := 3) (tk := 45) (tn := 44) (td := 46) (ts := 61) [8, 39, 40, 41, 45, 46, 47, 48, 49, 50, 51, 52, 53, 54, 55, 56, 57, 58, 59, 60, 61, 62] (X.length) (fun k ys hl => ∃ (m2 : MP) (x8 x39 x40 x41 x45 x46 x47 x48 x49 x50 x51 x52 x53 x54 x55 x56 x57 x58 x59 x60 x61 x62 : D), ys = [x8, x39, x40, x41, x45, x46, x47, x48, x49, x50, x51, x52, x53, x54, x55, x56, x57, x58, x59, x60, x61, x62] /\ Xn L = Xn ((X.drop k).map (addP p.2) ++ rest) /\ ((X.drop k).map (addP p.2) ++ rest).foldl putM m2 = L.foldl putM [] /\ MOK m2 /\ hl = [.mp (encM m2), .cells 170 [.map 0], .cells 99 [.int .i64 p.1, .int .i64 p.2], .cells 82 [.slice (X.map Xp) .any]]) rfl rfl rfl rfl rfl rfl rfl rfl rfl rfl rfl rfl (by simp) (by decide) rfl (by first | assumption | omega | (unfold Wd; omega)) rfl (by kernel_rfl) (by decide) ?_ ?_ ?_
     ·exact ⟨m', _, _, _, _, _, _, _, _, _, _, _, _, _, _, _, _, _, _, _, _, _, _, rfl, hb, hf, hml, rfl⟩
     ·rintro j zs hl2 B hj ⟨m2, x8, x39, x40, x41, x45, x46, x47, x48, x49, x50, x51, x52, x53, x54, x55, x56, x57, x58, x59, x60, x61, x62, rfl, hb2, hf2, hml2, rfl⟩ hB hB2
      simp only [Qv, List.set]
      have hd2 : X.drop j = X[j] :: X.drop (j + 1) := List.drop_eq_getElem_cons hj
      have hqb := badP_nn (hXok X[j] (List.getElem_mem hj))
      rw [hd2, List.map_cons, List.cons_append] at hb2 hf2
      obtain ⟨q, hq⟩ : ∃ q, q = X[j] := ⟨_, rfl⟩
      have hge : X[j] = q := hq.symm
      rw [hge] at hb2 hf2 hqb
      have hw1 : IntKind.i64.wrap (q.2 + p.2) = q.2 + p.2 := i64w (by omega) (by omega)
      have hsp := rowPut_spec [(q.1, q.2 + p.2)] m2 (by simp [Wd]) hml2
      have hone : [(q.1, q.2 + p.2)].foldl putM m2 = putM m2 (addP p.2 q) := rfl
      rw [hone] at hsp
      have hbad1 : Xn [(q.1, q.2 + p.2)] = badP (addP p.2 q) := by simp [Xn, addP]
      rw [hbad1] at hsp
      (refine sR fun K hK => ?_; ((repeat (rw [Qa]; simp [hj, hge, Xp])); (try simp only [zs])); refine hK _ _ _ ?_; clear hK K)
      (refine Qz Wc ?_; ((repeat (rw [Qa]; simp [hw1])); (try simp only [zs])))
      refine Xk.objs Qf [0] true hsp ?_ ?_ (by decide) (by simp) (by simp [zz, okA, Qr, Qq, hOf, Qe]) (by simp [zz, okA, Qr, Qq, hOf, Qe]) (by simp [zz, okA, Qr, Qq, hOf, Qe, Ps, Xp]) (by simp [zz, okA, Qr, Qq, hOf, Qe])
      ·cases hbad : badP (addP p.2 q) with
       | true =>
        simp only [if_true]
        rintro o hc ⟨rfl, m3, rfl⟩
        refine ⟨false, ?_⟩
        unfold noneD
        simp [zz, okA, Qr, Qq, hOf, Qe, Out.ren, told, Out.fgt, upO, Qi, Qj]
        ((try simp only [Qb, Qc, Qn, Qi, Qj]); (repeat (rw [Qa]; simp)); (try simp only [zs]))
        ((try simp only [zs]); refine Wa.pan (.inr ⟨[], by decide, by simp, ?_⟩); simp [Out.mov, Wg, Wh, Wj, D.mov, HO.mov, okM, Wi, We, zz, okA, Qr, Qq, hOf, Qe, Qt, Out.fgt, D.fgt, D.fgts])
        have hall : Xn L = true := by rw [hb2]; unfold Xn; rw [List.any_cons, hbad]; rfl
        simp [PutsM, putsOf, hall, noneD]
        exact ⟨m3, rfl⟩
       | false =>
        simp only [if_false, Bool.false_eq_true]
        rintro o hc ⟨ho, rfl⟩
        refine ⟨true, ?_⟩
        rw [show told true o = _ from ho]
        clear ho
        simp [zz, okA, Qr, Qq, hOf, Qe, Out.ren, told, Out.fgt, upO, Qi, Qj]
        ((try simp only [Qb, Qc, Qn, Qi, Qj]); (repeat (rw [Qa]; simp)); (try simp only [zs]))
        (refine hB2 ([1, 2, 3]) _ _ (by decide) (by simp) (by simp [Wg, Wh, Wj, D.mov, HO.mov, okM, Wi, We, zz, okA, Qr, Qq, hOf, Qe, Qv]) ?_ rfl; simp [Wg, Wh, Wj, D.mov, HO.mov, okM, Wi, We, zz, okA, Qr, Qq, hOf, Qe])
        refine ⟨by rw [hb2]; unfold Xn; rw [List.any_cons, hbad, Bool.false_or, List.map_drop], _, ?_, ?_, rfl⟩
        ·rw [<- hf2, List.foldl_cons, List.foldl_append, List.map_drop]
        ·exact putM_ok hml2 hbad
      ·intro o hc h
       split at h
       ·obtain ⟨-, m3, rfl⟩ := h; simp
       ·obtain ⟨-, rfl⟩ := h; simp
     ·rintro zs hl2 ⟨m2, x8, x39, x40, x41, x45, x46, x47, x48, x49, x50, x51, x52, x53, x54, x55, x56, x57, x58, x59, x60, x61, x62, rfl, hb2, hf2, hml2, rfl⟩
      simp only [Qv, List.set]
      rw [List.drop_length, List.map_nil, List.nil_append] at hb2 hf2
      (refine hA2 ([1]) _ _ (by decide) (by simp) (by simp [Wg, Wh, Wj, D.mov, HO.mov, okM, Wi, We, zz, okA, Qr, Qq, hOf, Qe, Qv]) ?_ rfl; simp [Wg, Wh, Wj, D.mov, HO.mov, okM, Wi, We, zz, okA, Qr, Qq, hOf, Qe])
      exact ⟨by rw [hb2, hrest], m2, by rw [<- hf2, hrest], hml2, rfl⟩
   ·have hXe : X = [(0, 0)] := by
     rw [if_neg (fun h => h2 h.2)] at hlv
     rw [hXe, hlv]; rfl
    have hXL : X.length <= Wd := by rw [hXe]; simp [Wd]
    (refine sR fun K hK => ?_; ((repeat (rw [Qa]; simp [h1, h2])); (try simp only [zs])); refine hK _ _ _ ?_; clear hK K)
    refine pF rfl ?_
    refine Qs (hK2 _ _ _ ?_)
    clear hK2 K2
    refine Qg fun K2 hK2 => ?_
    (refine sR fun K hK => ?_; ((repeat (rw [Qa]; simp)); (try simp only [zs])); refine hK _ _ _ ?_; clear hK K)
    refine pT rfl ?_
    (refine Qz Wc ?_; ((repeat (rw [Qa]; simp)); (try simp only [zs])))
    refine hK2 _ _ _ ?_
    clear hK2 K2
    have hXm : [D.agg [.int .i64 0, .int .i64 0]] = X.map Xp := by rw [hXe]; rfl
    rw [hXm]
    have hX1 : (1 : Int) = X.length := by rw [hXe]; rfl
    clear hXe hXm
    (refine sR fun K hK => ?_; ((repeat (rw [Qa]; simp)); (try simp only [zs])); refine hK _ _ _ ?_; clear hK K)
    obtain ⟨rest, hrest⟩ : ∃ rest, rest = (rs.drop (k + 1)).flatten := ⟨_, rfl⟩
    rw [<- hrest] at hb hf
    refine wpD_range Wc Qf (ti := 3) (tk := 45) (tn := 44) (td := 46) (ts := 61) [8, 28, 29, 30, 31, 32, 33, 34, 45, 46, 47, 48, 49, 50, 51, 52, 53, 54, 55, 56, 57, 58, 59, 60, 61, 62] (X.length) (fun k ys hl => ∃ (m2 : MP) (x8 x28 x29 x30 x31 x32 x33 x34 x45 x46 x47 x48 x49 x50 x51 x52 x53 x54 x55 x56 x57 x58 x59 x60 x61 x62 : D), ys = [x8, x28, x29, x30, x31, x32, x33, x34, x45, x46, x47, x48, x49, x50, x51, x52, x53, x54, x55, x56, x57, x58, x59, x60, x61, x62] /\ Xn L = Xn ((X.drop k).map (addP p.2) ++ rest) /\ ((X.drop k).map (addP p.2) ++ rest).foldl putM m2 = L.foldl putM [] /\ MOK m2 /\ hl = [.mp (encM m2), .cells 170 [.map 0], .cells 99 [.int .i64 p.1, .int .i64 p.2], .cells 82 [.slice (X.map Xp) .full]]) rfl rfl rfl rfl rfl rfl rfl rfl rfl rfl rfl rfl (by simp) (by decide) rfl (by first | assumption | omega | (unfold Wd; omega)) rfl (by kernel_rfl) (by decide) ?_ ?_ ?_
    ·exact ⟨m', _, _, _, _, _, _, _, _, _, _, _, _, _, _, _, _, _, _, _, _, _, _, _, _, _, _, rfl, hb, hf, hml, rfl⟩
    ·rintro j zs hl2 B hj ⟨m2, x8, x28, x29, x30, x31, x32, x33, x34, x45, x46, x47, x48, x49, x50, x51, x52, x53, x54, x55, x56, x57, x58, x59, x60, x61, x62, rfl, hb2, hf2, hml2, rfl⟩ hB hB2
     simp only [Qv, List.set]
     have hd2 : X.drop j = X[j] :: X.drop (j + 1) := List.drop_eq_getElem_cons hj
     have hqb := badP_nn (hXok X[j] (List.getElem_mem hj))
     rw [hd2, List.map_cons, List.cons_append] at hb2 hf2
     obtain ⟨q, hq⟩ : ∃ q, q = X[j] := ⟨_, rfl⟩
     have hge : X[j] = q := hq.symm
     rw [hge] at hb2 hf2 hqb
     have hw1 : IntKind.i64.wrap (q.2 + p.2) = q.2 + p.2 := i64w (by omega) (by omega)
     have hsp := rowPut_spec [(q.1, q.2 + p.2)] m2 (by simp [Wd]) hml2
     have hone : [(q.1, q.2 + p.2)].foldl putM m2 = putM m2 (addP p.2 q) := rfl
     rw [hone] at hsp
     have hbad1 : Xn [(q.1, q.2 + p.2)] = badP (addP p.2 q) := by simp [Xn, addP]
     rw [hbad1] at hsp
     (refine sR fun K hK => ?_; ((repeat (rw [Qa]; simp [hj, hge, Xp])); (try simp only [zs])); refine hK _ _ _ ?_; clear hK K)
     (refine Qz Wc ?_; ((repeat (rw [Qa]; simp [hw1])); (try simp only [zs])))
     refine Xk.objs Qf [0] true hsp ?_ ?_ (by decide) (by simp) (by simp [zz, okA, Qr, Qq, hOf, Qe]) (by simp [zz, okA, Qr, Qq, hOf, Qe]) (by simp [zz, okA, Qr, Qq, hOf, Qe, Ps, Xp]) (by simp [zz, okA, Qr, Qq, hOf, Qe])
     ·cases hbad : badP (addP p.2 q) with
      | true =>
       simp only [if_true]
       rintro o hc ⟨rfl, m3, rfl⟩
       refine ⟨false, ?_⟩
       unfold noneD
       simp [zz, okA, Qr, Qq, hOf, Qe, Out.ren, told, Out.fgt, upO, Qi, Qj]
       ((try simp only [Qb, Qc, Qn, Qi, Qj]); (repeat (rw [Qa]; simp)); (try simp only [zs]))
       ((try simp only [zs]); refine Wa.pan (.inr ⟨[], by decide, by simp, ?_⟩); simp [Out.mov, Wg, Wh, Wj, D.mov, HO.mov, okM, Wi, We, zz, okA, Qr, Qq, hOf, Qe, Qt, Out.fgt, D.fgt, D.fgts])
       have hall : Xn L = true := by rw [hb2]; unfold Xn; rw [List.any_cons, hbad]; rfl
       simp [PutsM, putsOf, hall, noneD]
       exact ⟨m3, rfl⟩
      | false =>
       simp only [if_false, Bool.false_eq_true]
       rintro o hc ⟨ho, rfl⟩
       refine ⟨true, ?_⟩
       rw [show told true o = _ from ho]
       clear ho
       simp [zz, okA, Qr, Qq, hOf, Qe, Out.ren, told, Out.fgt, upO, Qi, Qj]
       ((try simp only [Qb, Qc, Qn, Qi, Qj]); (repeat (rw [Qa]; simp)); (try simp only [zs]))
       (refine hB2 ([1, 2, 3]) _ _ (by decide) (by simp) (by simp [Wg, Wh, Wj, D.mov, HO.mov, okM, Wi, We, zz, okA, Qr, Qq, hOf, Qe, Qv]) ?_ rfl; simp [Wg, Wh, Wj, D.mov, HO.mov, okM, Wi, We, zz, okA, Qr, Qq, hOf, Qe])
       refine ⟨by rw [hb2]; unfold Xn; rw [List.any_cons, hbad, Bool.false_or, List.map_drop], _, ?_, ?_, rfl⟩
       ·rw [<- hf2, List.foldl_cons, List.foldl_append, List.map_drop]
       ·exact putM_ok hml2 hbad
     ·intro o hc h
      split at h
      ·obtain ⟨-, m3, rfl⟩ := h; simp
      ·obtain ⟨-, rfl⟩ := h; simp
    ·rintro zs hl2 ⟨m2, x8, x28, x29, x30, x31, x32, x33, x34, x45, x46, x47, x48, x49, x50, x51, x52, x53, x54, x55, x56, x57, x58, x59, x60, x61, x62, rfl, hb2, hf2, hml2, rfl⟩
     simp only [Qv, List.set]
     rw [List.drop_length, List.map_nil, List.nil_append] at hb2 hf2
     (refine hA2 ([1]) _ _ (by decide) (by simp) (by simp [Wg, Wh, Wj, D.mov, HO.mov, okM, Wi, We, zz, okA, Qr, Qq, hOf, Qe, Qv]) ?_ rfl; simp [Wg, Wh, Wj, D.mov, HO.mov, okM, Wi, We, zz, okA, Qr, Qq, hOf, Qe])
     exact ⟨by rw [hb2, hrest], m2, by rw [<- hf2, hrest], hml2, rfl⟩
  ·have hXe : X = [(0, 0)] := by
    rw [if_neg (fun h => h1 h.1)] at hlv
    rw [hXe, hlv]; rfl
   have hXL : X.length <= Wd := by rw [hXe]; simp [Wd]
   (refine sR fun K hK => ?_; ((repeat (rw [Qa]; simp [h1])); (try simp only [zs])); refine hK _ _ _ ?_; clear hK K)
   refine pF rfl ?_
   refine Qs (hK2 _ _ _ ?_)
   clear hK2 K2
   refine Qg fun K2 hK2 => ?_
   (refine sR fun K hK => ?_; ((repeat (rw [Qa]; simp)); (try simp only [zs])); refine hK _ _ _ ?_; clear hK K)
   refine pT rfl ?_
   (refine Qz Wc ?_; ((repeat (rw [Qa]; simp)); (try simp only [zs])))
   refine hK2 _ _ _ ?_
   clear hK2 K2
   have hXm : [D.agg [.int .i64 0, .int .i64 0]] = X.map Xp := by rw [hXe]; rfl
   rw [hXm]
   have hX1 : (1 : Int) = X.length := by rw [hXe]; rfl
   clear hXe hXm
   (refine sR fun K hK => ?_; ((repeat (rw [Qa]; simp)); (try simp only [zs])); refine hK _ _ _ ?_; clear hK K)
   obtain ⟨rest, hrest⟩ : ∃ rest, rest = (rs.drop (k + 1)).flatten := ⟨_, rfl⟩
   rw [<- hrest] at hb hf
   refine wpD_range Wc Qf (ti := 3) (tk := 45) (tn := 44) (td := 46) (ts := 61) [8, 28, 29, 30, 31, 32, 33, 34, 45, 46, 47, 48, 49, 50, 51, 52, 53, 54, 55, 56, 57, 58, 59, 60, 61, 62] (X.length) (fun k ys hl => ∃ (m2 : MP) (x8 x28 x29 x30 x31 x32 x33 x34 x45 x46 x47 x48 x49 x50 x51 x52 x53 x54 x55 x56 x57 x58 x59 x60 x61 x62 : D), ys = [x8, x28, x29, x30, x31, x32, x33, x34, x45, x46, x47, x48, x49, x50, x51, x52, x53, x54, x55, x56, x57, x58, x59, x60, x61, x62] /\ Xn L = Xn ((X.drop k).map (addP p.2) ++ rest) /\ ((X.drop k).map (addP p.2) ++ rest).foldl putM m2 = L.foldl putM [] /\ MOK m2 /\ hl = [.mp (encM m2), .cells 170 [.map 0], .cells 99 [.int .i64 p.1, .int .i64 p.2], .cells 82 [.slice (X.map Xp) .full]]) rfl rfl rfl rfl rfl rfl rfl rfl rfl rfl rfl rfl (by simp) (by decide) rfl (by first | assumption | omega | (unfold Wd; omega)) rfl (by kernel_rfl) (by decide) ?_ ?_ ?_
   ·exact ⟨m', _, _, _, _, _, _, _, _, _, _, _, _, _, _, _, _, _, _, _, _, _, _, _, _, _, _, rfl, hb, hf, hml, rfl⟩
   ·rintro j zs hl2 B hj ⟨m2, x8, x28, x29, x30, x31, x32, x33, x34, x45, x46, x47, x48, x49, x50, x51, x52, x53, x54, x55, x56, x57, x58, x59, x60, x61, x62, rfl, hb2, hf2, hml2, rfl⟩ hB hB2
    simp only [Qv, List.set]
    have hd2 : X.drop j = X[j] :: X.drop (j + 1) := List.drop_eq_getElem_cons hj
    have hqb := badP_nn (hXok X[j] (List.getElem_mem hj))
    rw [hd2, List.map_cons, List.cons_append] at hb2 hf2
    obtain ⟨q, hq⟩ : ∃ q, q = X[j] := ⟨_, rfl⟩
    have hge : X[j] = q := hq.symm
    rw [hge] at hb2 hf2 hqb
    have hw1 : IntKind.i64.wrap (q.2 + p.2) = q.2 + p.2 := i64w (by omega) (by omega)
    have hsp := rowPut_spec [(q.1, q.2 + p.2)] m2 (by simp [Wd]) hml2
    have hone : [(q.1, q.2 + p.2)].foldl putM m2 = putM m2 (addP p.2 q) := rfl
    rw [hone] at hsp
    have hbad1 : Xn [(q.1, q.2 + p.2)] = badP (addP p.2 q) := by simp [Xn, addP]
    rw [hbad1] at hsp
    (refine sR fun K hK => ?_; ((repeat (rw [Qa]; simp [hj, hge, Xp])); (try simp only [zs])); refine hK _ _ _ ?_; clear hK K)
    (refine Qz Wc ?_; ((repeat (rw [Qa]; simp [hw1])); (try simp only [zs])))
    refine Xk.objs Qf [0] true hsp ?_ ?_ (by decide) (by simp) (by simp [zz, okA, Qr, Qq, hOf, Qe]) (by simp [zz, okA, Qr, Qq, hOf, Qe]) (by simp [zz, okA, Qr, Qq, hOf, Qe, Ps, Xp]) (by simp [zz, okA, Qr, Qq, hOf, Qe])
    ·cases hbad : badP (addP p.2 q) with
     | true =>
      simp only [if_true]
      rintro o hc ⟨rfl, m3, rfl⟩
      refine ⟨false, ?_⟩
      unfold noneD
      simp [zz, okA, Qr, Qq, hOf, Qe, Out.ren, told, Out.fgt, upO, Qi, Qj]
      ((try simp only [Qb, Qc, Qn, Qi, Qj]); (repeat (rw [Qa]; simp)); (try simp only [zs]))
      ((try simp only [zs]); refine Wa.pan (.inr ⟨[], by decide, by simp, ?_⟩); simp [Out.mov, Wg, Wh, Wj, D.mov, HO.mov, okM, Wi, We, zz, okA, Qr, Qq, hOf, Qe, Qt, Out.fgt, D.fgt, D.fgts])
      have hall : Xn L = true := by rw [hb2]; unfold Xn; rw [List.any_cons, hbad]; rfl
      simp [PutsM, putsOf, hall, noneD]
      exact ⟨m3, rfl⟩
     | false =>
      simp only [if_false, Bool.false_eq_true]
      rintro o hc ⟨ho, rfl⟩
      refine ⟨true, ?_⟩
      rw [show told true o = _ from ho]
      clear ho
      simp [zz, okA, Qr, Qq, hOf, Qe, Out.ren, told, Out.fgt, upO, Qi, Qj]
      ((try simp only [Qb, Qc, Qn, Qi, Qj]); (repeat (rw [Qa]; simp)); (try simp only [zs]))
      (refine hB2 ([1, 2, 3]) _ _ (by decide) (by simp) (by simp [Wg, Wh, Wj, D.mov, HO.mov, okM, Wi, We, zz, okA, Qr, Qq, hOf, Qe, Qv]) ?_ rfl; simp [Wg, Wh, Wj, D.mov, HO.mov, okM, Wi, We, zz, okA, Qr, Qq, hOf, Qe])
      refine ⟨by rw [hb2]; unfold Xn; rw [List.any_cons, hbad, Bool.false_or, List.map_drop], _, ?_, ?_, rfl⟩
      ·rw [<- hf2, List.foldl_cons, List.foldl_append, List.map_drop]
      ·exact putM_ok hml2 hbad
    ·intro o hc h
     split at h
     ·obtain ⟨-, m3, rfl⟩ := h; simp
     ·obtain ⟨-, rfl⟩ := h; simp
   ·rintro zs hl2 ⟨m2, x8, x28, x29, x30, x31, x32, x33, x34, x45, x46, x47, x48, x49, x50, x51, x52, x53, x54, x55, x56, x57, x58, x59, x60, x61, x62, rfl, hb2, hf2, hml2, rfl⟩
    simp only [Qv, List.set]
    rw [List.drop_length, List.map_nil, List.nil_append] at hb2 hf2
    (refine hA2 ([1]) _ _ (by decide) (by simp) (by simp [Wg, Wh, Wj, D.mov, HO.mov, okM, Wi, We, zz, okA, Qr, Qq, hOf, Qe, Qv]) ?_ rfl; simp [Wg, Wh, Wj, D.mov, HO.mov, okM, Wi, We, zz, okA, Qr, Qq, hOf, Qe])
    exact ⟨by rw [hb2, hrest], m2, by rw [<- hf2, hrest], hml2, rfl⟩
theorem putO_spec (l : LV) (bys : List LV) (hl : l.length <= Wd) (hbl : bys.length <= Wd) (hbys : ∀ x, x ∈ bys -> x.length <= Wd) : Qu Tryz.prog glob 151 [Wm l, Lvs bys] [] (OwnL (Wq (putL l bys))) := by
 have hsp1 := put1_spec l bys hl hbl hbys
 have hsp := made_spec 159 [.ref (Wm l), .ref (Lvs bys)] _ rfl (by simp [D.pures, D.pure, Lvs_pure, Wm, Xs, Cp.free, D.pures_map]) (fun m hm => puts_ok MOK.nil hm) hsp1
 rw [levR_puts] at hsp
 have hel : Wm l = .agg [.slice (l.map Xp) .any] := rfl
 unfold Lvs at hsp ⊢
 rw [hel] at hsp ⊢
 refine Qu.movd Qf (Qp Wc Tryz.func151 rfl (Qw _ _ Tryz.func151 rfl (by decide)) rfl rfl ?_)
 (refine sR fun K hK => ?_; ((repeat (rw [Qa]; simp)); (try simp only [zs])); refine hK _ _ _ ?_; clear hK K)
 (refine Xq (T := Wb) 0 (ty := 82) (ds := [.slice (l.map Xp) .any]) rfl rfl (by first | exact ⟨rfl, .inr ⟨_, rfl, rfl⟩⟩ | exact ⟨rfl, .inl rfl⟩) ?_; simp [D.frzs, D.frz, HO.frz, dfFrz, refOf, TK.isAgg, FK.isB, FK.isM, FK.isO, D.isLen])
 (refine Xq (T := Wb) 1 (ty := 24) (ds := [.slice (bys.map Wm) .any]) rfl rfl (by first | exact ⟨rfl, .inr ⟨_, rfl, rfl⟩⟩ | exact ⟨rfl, .inl rfl⟩) ?_; simp [D.frzs, D.frz, HO.frz, dfFrz, refOf, TK.isAgg, FK.isB, FK.isM, FK.isO, D.isLen])
 (refine sR fun K hK => ?_; ((repeat (rw [Qa]; simp)); (try simp only [zs])))
 refine Xk.objs Qf [] true hsp ?_ ?_ (by decide) (by simp) (by simp [zz, okA, Qr, Qq, hOf, Qe]) (by simp [zz, okA, Qr, Qq, hOf, Qe]) (by simp [zz, okA, Qr, Qq, hOf, Qe]) (by simp [zz, okA, Qr, Qq, hOf, Qe])
 ·rintro o hc (⟨hn, rfl, rfl⟩ | ⟨rfl, rfl⟩)
  ·refine ⟨false, ?_⟩
   simp [zz, okA, Qr, Qq, hOf, Qe, Out.ren, told, Out.fgt, upO, Qi, Qj]
   ((try simp only [Qb, Qc, Qn, Qi, Qj]); (repeat (rw [Qa]; simp)); (try simp only [zs]))
   (refine hK _ _ _ ?_; clear hK K)
   (refine Qo ?_; (try simp only [zs]); refine Wa.ret rfl (.inr ⟨[], by decide, by simp, ?_⟩); simp [Out.mov, Wg, Wh, Wj, D.mov, HO.mov, okM, Wi, We, zz, okA, Qr, Qq, hOf, Qe, Qt, Out.fgt, D.fgt, D.fgts])
   exact .inl ⟨hn, rfl, rfl⟩
  ·refine ⟨false, ?_⟩
   simp [zz, okA, Qr, Qq, hOf, Qe, Out.ren, told, Out.fgt, upO, Qi, Qj]
   ((try simp only [Qb, Qc, Qn, Qi, Qj]); (repeat (rw [Qa]; simp)); (try simp only [zs]))
   (refine hK _ _ _ ?_; clear hK K)
   (refine Qo ?_; (try simp only [zs]); refine Wa.ret rfl (.inr ⟨[3], by decide, by simp, ?_⟩); simp [Out.mov, Wg, Wh, Wj, D.mov, HO.mov, okM, Wi, We, zz, okA, Qr, Qq, hOf, Qe, Qt, Out.fgt, D.fgt, D.fgts])
   exact .inr ⟨rfl, rfl⟩
 ·rintro o hc (⟨hn, rfl, rfl⟩ | ⟨rfl, rfl⟩) <;> simp
theorem put_spec (l : LV) (bys : List LV) (hl : l.length <= Wd) (hbl : bys.length <= Wd) (hbys : ∀ x, x ∈ bys -> x.length <= Wd) : Qu Tryz.prog glob 151 [Wm l, Lvs bys] [] (fun o _ => o.fgt = .ret (Wm (Wq (putL l bys)))) := readL (putO_spec l bys hl hbl hbys)
def levTurn (bys : List LV) : Turn := fun _ t => .inr (t.n, t.ls.map fun l => Wq (putL l bys))
def T.levels (t : T) (bys : List LV) (d : Int) : T := T.walk (levTurn bys) t d
def lvT (bys : List LV) (ls : List LV) (j : Nat) : List LV := (ls.take j).map fun l => Wq (putL l bys)
theorem lvT_succ {bys ls : List LV} {j : Nat} (h : j < ls.length) : lvT bys ls (j + 1) = lvT bys ls j ++ [Wq (putL ls[j] bys)] := by
 unfold lvT; rw [List.take_succ_eq_append_getElem h, List.map_append]; rfl
theorem lvT_end {bys ls : List LV} {j : Nat} (h : ls.length <= j) : lvT bys ls j = ls.map fun l => Wq (putL l bys) := by unfold lvT; rw [List.take_of_length_le h]
theorem lvT_len {bys ls : List LV} {j : Nat} (h : j <= ls.length) : (lvT bys ls j).length = j := by unfold lvT; rw [List.length_map, List.length_take]; omega
theorem levels1_spec (bys : List LV) (hb : bys.length <= Wd) (hbo : ∀ b, b ∈ bys -> b.length <= Wd) (d : Int) (t : T) (ht : okT t) : Qu Tryz.prog glob 150 ([walkF d 150 [.ref (Lvs bys)], Qx t] ++ [.ref (Lvs bys)]) [] (fun o _ => o.fgt = .ret (turnOut (levTurn bys) d t)) := by
 obtain ⟨kk, nn, aa, ls, ks⟩ := t
 have hll : ls.length <= Wd := ht.ll
 have hls := ht.ls
 simp only [T.ls_mk] at hls
 unfold turnOut levTurn
 simp only [T.k_mk, T.n_mk, T.a_mk, T.ls_mk, T.ks_mk]
 rw [<- lvT_end (bys := bys) (Nat.le_refl _)]
 have hE : ∀ l, Qx (.mk kk nn aa l ks) = .agg [.int .i64 kk, .int .i64 nn, .int .i64 aa, .slice (l.map Wm) .any, .slice (ks.map Qx) .any] := fun l => Qd _
 simp only [hE]
 unfold walkF Lvs
 refine Qu.movd Qf (Qp Wc Tryz.func150 rfl (Qw _ _ Tryz.func150 rfl (by decide)) rfl rfl ?_)
 simp only [List.cons_append, List.nil_append]
 (refine sR fun K hK => ?_; ((repeat (rw [Qa]; simp)); (try simp only [zs])); refine hK _ _ _ ?_; clear hK K)
 (refine sR fun K hK => ?_; ((repeat (rw [Qa]; simp)); (try simp only [zs])); refine hK _ _ _ ?_; clear hK K)
 (refine sR fun K hK => ?_; ((repeat (rw [Qa]; simp)); (try simp only [zs])); refine hK _ _ _ ?_; clear hK K)
 refine wpD_tokO 1 3 (ty := 27) (ds := [.int .i64 kk, .int .i64 nn, .int .i64 aa, .slice [] .full, .slice (ks.map Qx) .any]) rfl ?_
 simp [D.tokd]
 refine Qg fun K1 hK1 => ?_
 (refine sR fun K hK => ?_; ((repeat (rw [Qa]; simp)); (try simp only [zs])); refine hK _ _ _ ?_; clear hK K)
 refine Za Wc Qf (ti := 3) (tk := 15) (tn := 14) (td := 16) (ts := 27) [9, 15, 16, 17, 18, 19, 20, 21, 22, 23, 24, 25, 26, 27] [] (ls.length) (fun k ys hl => ys = [] /\ hl = [.cells 117 [.int .i64 d, .fn (.func 150) [] [.ref (.slice (bys.map Wm) .any)]], .cells 27 [.int .i64 kk, .int .i64 nn, .int .i64 aa, .slice ((lvT bys ls k).map Wm) (.tok 3), .slice (ks.map Qx) .any], .cells 27 [.int .i64 0, .int .i64 0, .int .i64 0, .slice [] .full, .slice [] .full], .tok]) rfl rfl rfl rfl rfl rfl rfl rfl rfl rfl rfl rfl (by simp) (by decide) rfl (by first | assumption | omega | (unfold Wd; omega)) rfl (by kernel_rfl) (by decide) ?_ ?_ ?_
 ·exact ⟨rfl, rfl⟩
 ·rintro i ys hl A hi ⟨rfl, rfl⟩ hA hA2
  simp only [Qv, List.set, List.map_cons, List.map_nil, List.cons_append, List.nil_append]
  have hi' : (i : Int) < ls.length := by omega
  have hsn := lvT_succ (bys := bys) hi
  have hln := lvT_len (bys := bys) (Nat.le_of_lt hi)
  have hp := put_spec ls[i] bys (hls _ (List.getElem_mem hi)).1 hb hbo
  unfold Lvs at hp
  obtain ⟨y, hy⟩ : ∃ y, ls[i] = y := ⟨_, rfl⟩
  rw [hy] at hp hsn
  have hel : (lvT bys ls i).length + 1 <= Wd := by omega
  generalize lvT bys ls i = es at hsn hln hel ⊢
  (refine sR fun K hK => ?_; ((repeat (rw [Qa]; simp [hi, hi', hy])); (try simp only [zs])); refine hK _ _ _ ?_; clear hK K)
  (refine dR fun KT hKT => ?_; ((repeat (rw [Qh]; simp [hi, hi', hy])); (try simp only [Qk])))
  refine CallY.pure Qf (hp) ?_ (by simp [D.fgts, D.fgt, Wm]) (by simp [D.pures, D.pure, Cp.free, D.pures_map, Wm]) (by simp [Out.pure, D.pure, D.pures, Cp.free, D.pures_map, Wm])
  ((try simp only [Ql, Qm, Qn, Qi, Qj]); (repeat (rw [Qh]; simp [hel])); (try simp only [Qk]))
  (refine hKT _ _ _ _ (by kernel_rfl) ?_; clear hKT KT; (try simp only [zs]))
  (refine hA2 ([0, 1, 2, 5]) _ _ _ (LeT.refl _) (by decide) (by simp) (by simp [Wg, Wh, Wj, D.mov, HO.mov, okM, Wi, We, zz, okA, Qr, Qq, hOf, Qe, Qv]) ?_ rfl; simp [Wg, Wh, Wj, D.mov, HO.mov, okM, Wi, We, zz, okA, Qr, Qq, hOf, Qe])
  rw [hsn, show es.map Wm ++ [Wm (Wq (putL y bys))] = (es ++ [Wq (putL y bys)]).map Wm by simp, mapL_ren]
 ·rintro ys hl tl' ⟨rfl, rfl⟩ htl
  refine hK1 _ _ _ (wpD_weakL htl ?_)
  simp only [Qv, List.set, List.map_cons, List.map_nil, List.cons_append, List.nil_append]
  (refine sR fun K hK => ?_; ((repeat (rw [Qa]; simp)); (try simp only [zs])); refine hK _ _ _ ?_; clear hK K)
  (refine Qo ?_; (try simp only [zs]); refine Wa.ret rfl (.inl ?_); simp [Qt, Out.fgt, D.fgt, D.fgts])
theorem levels_spec (t : T) (bys : List LV) (hb : bys.length <= Wd) (hbo : ∀ b, b ∈ bys -> b.length <= Wd) (hd : t.deep <= DM) (ht : okT t) : Qu Tryz.prog glob 138 [Qx t, Lvs bys] [] (fun o _ => o.fgt = .ret (Qx (t.levels bys 0))) := by
 have hw := walkT_spec (levTurn bys) 150 [.ref (Lvs bys)] rfl (by simp [D.pures, D.pure, Lvs_pure]) (fun d t _ => levels1_spec bys hb hbo d t) t 0 ⟨by omega, by omega⟩ ht
 unfold walkF at hw
 rw [show T.walk (levTurn bys) t 0 = t.levels bys 0 from rfl] at hw
 generalize t.levels bys 0 = r at hw ⊢
 rw [Qd t] at hw
 unfold Lvs at hw ⊢
 refine Qu.movd Qf (Qp Wc Tryz.func138 rfl (Qw _ _ Tryz.func138 rfl (by decide)) rfl rfl ?_)
 (refine sR fun K hK => ?_; ((repeat (rw [Qa]; simp)); (try simp only [zs])); refine hK _ _ _ ?_; clear hK K)
 (refine Xq (T := Wb) 1 (ty := 24) (ds := [.slice (bys.map Wm) .any]) rfl rfl (by first | exact ⟨rfl, .inr ⟨_, rfl, rfl⟩⟩ | exact ⟨rfl, .inl rfl⟩) ?_; simp [D.frzs, D.frz, HO.frz, dfFrz, refOf, TK.isAgg, FK.isB, FK.isM, FK.isO, D.isLen])
 (refine sR fun K hK => ?_; ((repeat (rw [Qa]; simp)); (try simp only [zs])))
 refine cXp (hw) ?_
 ((try simp only [Qb, Qc, Qn, Qi, Qj]); (repeat (rw [Qa]; simp)); (try simp only [zs]))
 (refine hK _ _ _ ?_; clear hK K)
 (refine Qo ?_; (try simp only [zs]); refine Wa.ret rfl (.inl ?_); simp [Qt, Out.fgt, D.fgt, D.fgts])
 exact (Qd r).symm
end Go.Proofs.YtebmlojhdnldgaaGreatDoor
