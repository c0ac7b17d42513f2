/-
  MW9: the texts Hri Cvi Nrc Cfg Dopen, one behind the other.
-/
import Derived.Test.YtebmlojhdnldgaaGreatDoorRows
import Derived.ProofKit
import Derived.OpenShut
import Derived.Test.YtebmlojhdnldgaaGreatDoorMW8
namespace Go.Proofs.YtebmlojhdnldgaaGreatDoor
set_option linter.unusedSimpArgs false
set_option linter.unusedVariables false
set_option maxHeartbeats 10000000
set_option maxRecDepth 20000
open Go.RowKit
attribute [local simp] Qb Qc Xg Xw opD Qt Qn Qi Qj hOf Xd Xz Xu TK.isAgg TK.known Xf Xh Wv Qv D.ofV inB Wr Xj binX binD binE Xv bndD capB IntKind.min IntKind.max IntKind.signed IntKind.bits Xb late
def lvC (l : List C) (k : Nat) : List Int := (l.take k).map C.lv
theorem lvC_succ {l : List C} {k : Nat} (h : k < l.length) : lvC l (k + 1) = lvC l k ++ [l[k].lv] := by unfold lvC; rw [List.take_succ_eq_append_getElem h, List.map_append]; rfl
theorem lvC_end (l : List C) : lvC l l.length = l.map C.lv := by unfold lvC; rw [List.take_length]
theorem lvC_len {l : List C} {k : Nat} (h : k <= l.length) : (lvC l k).length = k := by unfold lvC; rw [List.length_map, List.length_take]; omega
theorem ints_ren (σ : Nat -> Nat) (l : List Int) : D.rens σ (l.map (D.int .i64)) = l.map (D.int .i64) := D.rens_pure σ _ (by rw [D.pures_map]; simp [D.pure])
theorem consts_spec (l : List C) (hl : l.length <= Wd) : Qu Tryz.prog glob 21 [Cs l] [] (fun o _ => o.fgt = .ret (Ints (l.map C.lv))) := by
 have hE : ∀ c, encC c = .agg [.int .i64 c.lv, .int .i64 c.ty.k, .int .i64 c.ty.n, .int .i64 c.ty.a, .slice (c.ty.ls.map Wm) .any, .slice (c.ty.ks.map Qx) .any, .bool c.has, .int .i64 c.bo.k, .int .i64 c.bo.n, .int .i64 c.bo.a, .slice (c.bo.ls.map Wm) .any, .slice (c.bo.ks.map Qx) .any] := fun c => encC_eq c
 rw [<- lvC_end]
 unfold Cs Ints
 refine Qu.movd Qf (Qp Wc Tryz.func21 rfl (Qw _ _ Tryz.func21 rfl (by decide)) rfl rfl ?_)
 (refine sR fun K hK => ?_; ((repeat (rw [Qa]; simp)); (try simp only [zs])); refine hK _ _ _ ?_; clear hK K)
 (refine sR fun K hK => ?_; ((repeat (rw [Qa]; simp)); (try simp only [zs])); refine hK _ _ _ ?_; clear hK K)
 refine wpD_tokT 3 ?_
 simp [D.tokd]
 refine Qg fun K1 hK1 => ?_
 (refine sR fun K hK => ?_; ((repeat (rw [Qa]; simp)); (try simp only [zs])); refine hK _ _ _ ?_; clear hK K)
 refine Za Wc Qf (ti := 3) (tk := 8) (tn := 7) (td := 9) (ts := 17) [5, 8, 9, 10, 11, 12, 13, 14, 15, 16, 17] [3] (l.length) (fun k ys hl => ys = [.slice ((lvC l k).map (D.int .i64)) (.tok 0)] /\ hl = [.tok]) rfl rfl rfl rfl rfl rfl rfl rfl rfl rfl rfl rfl (by simp) (by decide) rfl (by first | assumption | omega | (unfold Wd; omega)) rfl (by kernel_rfl) (by decide) ?_ ?_ ?_
 ·exact ⟨rfl, rfl⟩
 ·rintro i ys hl A hi ⟨rfl, rfl⟩ hA hA2
  simp only [Qv, List.set, List.map_cons, List.map_nil, List.cons_append, List.nil_append]
  have hi' : (i : Int) < l.length := by omega
  have hsn := lvC_succ hi
  have hln := lvC_len (Nat.le_of_lt hi)
  obtain ⟨c, hc⟩ : ∃ c, l[i] = c := ⟨_, rfl⟩
  rw [hc] at hsn
  have hel : (lvC l i).length + 1 <= Wd := by omega
  have hEc := hE c
  generalize lvC l i = es at hsn hln hel ⊢
  (refine sR fun K hK => ?_; ((repeat (rw [Qa]; simp [hi, hi', hc, hEc])); (try simp only [zs])); refine hK _ _ _ ?_; clear hK K)
  (refine Qz Wc ?_; ((repeat (rw [Qa]; simp [hel])); (try simp only [zs])))
  (refine hA2 ([2]) _ _ _ (LeT.refl _) (by decide) (by simp) (by simp [Wg, Wh, Wj, D.mov, HO.mov, okM, Wi, We, zz, okA, Qr, Qq, hOf, Qe, Qv]) ?_ rfl; simp [Wg, Wh, Wj, D.mov, HO.mov, okM, Wi, We, zz, okA, Qr, Qq, hOf, Qe])
  rw [hsn, show es.map (D.int .i64) ++ [D.int .i64 c.lv] = (es ++ [c.lv]).map (D.int .i64) by simp, ints_ren]
 ·rintro ys hl tl' ⟨rfl, rfl⟩ htl
  refine hK1 _ _ _ (wpD_weakL htl ?_)
  simp only [Qv, List.set, List.map_cons, List.map_nil, List.cons_append, List.nil_append]
  (refine sR fun K hK => ?_; ((repeat (rw [Qa]; simp)); (try simp only [zs])); refine hK _ _ _ ?_; clear hK K)
  (refine Qo ?_; (try simp only [zs]); refine Wa.ret rfl (.inl ?_); simp [Qt, Out.fgt, D.fgt, D.fgts])
def gr8 (c : C) : Bool := decide (60 < c.bo.dp 60) || decide (60 < c.ty.dp 60)
def coSt4 (c : C) (s : Int) : Int := IntKind.i64.wrap (IntKind.i64.wrap (IntKind.i64.wrap (s + 1) + c.ty.tof 400) + c.bo.tof 400)
theorem great8_spec (l : List C) (ts : List T) (hl : l.length <= Wd) (hls : ∀ c, c ∈ l -> okC c) (hts : ts.length <= Wd) (htk : ∀ t, t ∈ ts -> okT t) : ∃ b, Qu Tryz.prog glob 25 [Cs l, Ts ts] [] (fun o _ => o.fgt = .ret (.bool b)) /\ (b = false -> ¬ IntKind.i64.wrap (cntF coSt4 400 l 0 + T.tofs ts 0 400) > 400) := by
 have h : Qu Tryz.prog glob 35 [Cs l, .int .i64 400] [] (fun o _ => o.fgt = .ret (.int .i64 (cntF coSt4 400 l 0))) := coresOf_gen l 400 coSt4 hl (fun _ _ => rfl) (fun c hc _ => hls c hc)
 have h2 := tofs_spec ts 400 hts htk
 generalize cntF coSt4 400 l 0 = v at h
 generalize T.tofs ts 0 400 = w at h2
 obtain ⟨g, hg⟩ : ∃ g, g = decide (400 < IntKind.i64.wrap (v + w)) := ⟨_, rfl⟩
 obtain ⟨R2, hR2⟩ : ∃ R, R = ((l.take 400).any gr8 || g) := ⟨_, rfl⟩
 obtain ⟨R, hR⟩ : ∃ R, R = ((ts.any fun t => decide (60 < t.dp 60)) || R2) := ⟨_, rfl⟩
 refine ⟨R, ?_, fun hb => by
  intro h4
  have h5 : g = true := by rw [hg]; exact decide_eq_true (show 400 < IntKind.i64.wrap (v + w) by omega)
  rw [hR, hR2, h5] at hb
  simp at hb⟩
 have hl0 := hl
 have hts0 := hts
 unfold Wd at hl0 hts0
 have hE : ∀ c, encC c = .agg [.int .i64 c.lv, .int .i64 c.ty.k, .int .i64 c.ty.n, .int .i64 c.ty.a, .slice (c.ty.ls.map Wm) .any, .slice (c.ty.ks.map Qx) .any, .bool c.has, .int .i64 c.bo.k, .int .i64 c.bo.n, .int .i64 c.bo.a, .slice (c.bo.ls.map Wm) .any, .slice (c.bo.ks.map Qx) .any] := fun c => encC_eq c
 unfold Cs at h
 unfold Cs Ts
 refine Qu.movd Qf (Qp Wc Tryz.func25 rfl (Qw _ _ Tryz.func25 rfl (by decide)) rfl rfl ?_)
 (refine sR fun K hK => ?_; ((repeat (rw [Qa]; simp)); (try simp only [zs])); refine hK _ _ _ ?_; clear hK K)
 refine Qg fun K1a hK1a => ?_
 (refine sR fun K hK => ?_; ((repeat (rw [Qa]; simp)); (try simp only [zs])); refine hK _ _ _ ?_; clear hK K)
 refine Wy ?_
 refine wpD_loopWJ [4, 7, 8, 9, 10, 11, 12, 13, 14, 15, 16, 17, 18] [5] (fun n ys hl => ∃ (k : Nat), ys = [.int .i64 k] /\ n + k = ts.length /\ R = (((ts.drop k).any fun t => decide (60 < t.dp 60)) || R2) /\ hl = []) (ts.length) (by kernel_rfl) ?_ ?_
 ·exact ⟨0, rfl, rfl, hR, rfl⟩
 ·rintro n1 ys hl A1 hA1 ⟨i1, rfl, hn, hF, rfl⟩
  have hA := hA1
  simp only [Qv, List.set, List.map_cons, List.map_nil, List.cons_append, List.nil_append]
  refine Qg fun K1b hK1b => ?_
  by_cases hi1 : i1 < ts.length
  ·have hi1' : (i1 : Int) < ts.length := by omega
   rw [List.drop_eq_getElem_cons hi1, List.any_cons] at hF
   have hrec := deep_spec ts[i1] 60 (htk _ (List.getElem_mem hi1))
   obtain ⟨x, hx⟩ : ∃ x, ts[i1] = x := ⟨_, rfl⟩
   rw [hx] at hrec hF
   have hEx := Qd x
   rw [hEx] at hrec
   generalize x.dp 60 = w at hrec hF
   (refine sR fun K hK => ?_; ((repeat (rw [Qa]; simp [hi1, hi1'])); (try simp only [zs])); refine hK _ _ _ ?_; clear hK K)
   refine pT rfl ?_
   refine Qs (hK1b _ _ _ ?_)
   clear hK1b K1b
   refine Qg fun K1c hK1c => ?_
   refine Wy ?_
   by_cases hw : 60 < w
   ·(refine sR fun K hK => ?_; ((repeat (rw [Qa]; simp [hi1, hi1', hx, hEx])); (try simp only [zs])))
    refine cXp (hrec) ?_
    ((try simp only [Qb, Qc, Qn, Qi, Qj]); (repeat (rw [Qa]; simp [hw])); (try simp only [zs]))
    (refine hK _ _ _ ?_; clear hK K)
    refine pT rfl ?_
    (refine sR fun K hK => ?_; ((repeat (rw [Qa]; simp)); (try simp only [zs])); refine hK _ _ _ ?_; clear hK K)
    (refine Qo ?_; (try simp only [zs]); refine Wa.ret rfl (.inl ?_); simp [Qt, Out.fgt, D.fgt, D.fgts])
    rw [hF]; simp [hw]
   ·(refine sR fun K hK => ?_; ((repeat (rw [Qa]; simp [hi1, hi1', hx, hEx])); (try simp only [zs])))
    refine cXp (hrec) ?_
    ((try simp only [Qb, Qc, Qn, Qi, Qj]); (repeat (rw [Qa]; simp [hw])); (try simp only [zs]))
    (refine hK _ _ _ ?_; clear hK K)
    refine pF rfl ?_
    refine Qs (hK1c _ _ _ ?_)
    (try clear hK1c K1c)
    have hA := hA1
    have hw1 : IntKind.i64.wrap ((i1 : Int) + 1) = (i1 : Int) + 1 := i64w (by omega) (by omega)
    (refine Qz Wc ?_; ((repeat (rw [Qa]; simp [hw1])); (try simp only [zs])))
    refine hA (n1 - 1) _ _ _ (LeT.refl _) (by omega) (by kernel_rfl) ?_
    exact ⟨i1 + 1, rfl, by omega, by rw [hF]; simp [hw], rfl⟩
  ·have hi1' : ¬ (i1 : Int) < ts.length := by omega
   (refine sR fun K hK => ?_; ((repeat (rw [Qa]; simp [hi1, hi1'])); (try simp only [zs])); refine hK _ _ _ ?_; clear hK K)
   refine pF rfl ?_
   refine wpD_exit ?_
   refine hK1a _ _ _ ?_
   (try clear hK1b K1b)
   rw [List.drop_of_length_le (by omega)] at hF
   have hF1 : R = ((l.take 400).any gr8 || g) := by rw [hF, <- hR2]; simp
   refine Qg fun K1a hK1a => ?_
   (refine sR fun K hK => ?_; ((repeat (rw [Qa]; simp)); (try simp only [zs])); refine hK _ _ _ ?_; clear hK K)
   refine Wy ?_
   refine wpD_loopWJ [4, 19, 20, 21, 22, 23, 24, 25, 26, 27, 28, 29, 30, 31, 32, 33, 34, 35, 36, 37, 38, 39, 40, 41, 42, 43, 44] [6] (fun n ys hl => ∃ (k : Nat), ys = [.int .i64 k] /\ n + k = l.length /\ R = (((l.take 400).drop k).any gr8 || g) /\ hl = []) (l.length) (by kernel_rfl) ?_ ?_
   ·exact ⟨0, rfl, rfl, hF1, rfl⟩
   ·rintro n1b ys hl A1b hA1b ⟨i, rfl, hnb, hF2, rfl⟩
    have hA := hA1b
    simp only [Qv, List.set, List.map_cons, List.map_nil, List.cons_append, List.nil_append]
    refine Qg fun K1b hK1b => ?_
    by_cases hi : i < l.length
    ·have hi' : (i : Int) < l.length := by omega
     by_cases h6 : i < 400
     ·have h6' : (i : Int) < 400 := by omega
      have hti : i < (l.take 400).length := by rw [List.length_take]; omega
      rw [List.drop_eq_getElem_cons hti, List.any_cons, List.getElem_take] at hF2
      obtain ⟨x, hx⟩ : ∃ x, l[i] = x := ⟨_, rfl⟩
      have hxo : okC x := by rw [<- hx]; exact hls _ (List.getElem_mem hi)
      rw [hx] at hF2
      have hg1 : gr8 x = (decide (60 < x.bo.dp 60) || decide (60 < x.ty.dp 60)) := rfl
      rw [hg1] at hF2
      have d1 := deep_spec x.bo 60 hxo.2.2
      have d2 := deep_spec x.ty 60 hxo.2.1
      rw [Qd x.bo] at d1
      rw [Qd x.ty] at d2
      have hEx := hE x
      generalize x.bo.dp 60 = w1 at d1 hF2
      generalize x.ty.dp 60 = w2 at d2 hF2
      (refine sR fun K hK => ?_; ((repeat (rw [Qa]; simp [hi, hi', h6, h6'])); (try simp only [zs])); refine hK _ _ _ ?_; clear hK K)
      refine pT rfl ?_
      refine Qs (hK1b _ _ _ ?_)
      clear hK1b K1b
      refine Qg fun K1c hK1c => ?_
      refine Wy ?_
      by_cases hw : 60 < w1
      ·(refine sR fun K hK => ?_; ((repeat (rw [Qa]; simp [hi, hi', hx, hEx])); (try simp only [zs])))
       refine cXp (d1) ?_
       ((try simp only [Qb, Qc, Qn, Qi, Qj]); (repeat (rw [Qa]; simp [hw])); (try simp only [zs]))
       (refine hK _ _ _ ?_; clear hK K)
       refine pT rfl ?_
       (refine sR fun K hK => ?_; ((repeat (rw [Qa]; simp)); (try simp only [zs])); refine hK _ _ _ ?_; clear hK K)
       (refine Qo ?_; (try simp only [zs]); refine Wa.ret rfl (.inl ?_); simp [Qt, Out.fgt, D.fgt, D.fgts])
       rw [hF2]; simp [hw]
      ·by_cases hw2 : 60 < w2
       ·(refine sR fun K hK => ?_; ((repeat (rw [Qa]; simp [hi, hi', hx, hEx])); (try simp only [zs])))
        refine cXp (d1) ?_
        ((try simp only [Qb, Qc, Qn, Qi, Qj]); (repeat (rw [Qa]; simp [hi, hi', hx, hEx, hw])); (try simp only [zs]))
        refine cXp (d2) ?_
        ((try simp only [Qb, Qc, Qn, Qi, Qj]); (repeat (rw [Qa]; simp [hw, hw2])); (try simp only [zs]))
        (refine hK _ _ _ ?_; clear hK K)
        refine pT rfl ?_
        (refine sR fun K hK => ?_; ((repeat (rw [Qa]; simp)); (try simp only [zs])); refine hK _ _ _ ?_; clear hK K)
        (refine Qo ?_; (try simp only [zs]); refine Wa.ret rfl (.inl ?_); simp [Qt, Out.fgt, D.fgt, D.fgts])
        rw [hF2]; simp [hw, hw2]
       ·(refine sR fun K hK => ?_; ((repeat (rw [Qa]; simp [hi, hi', hx, hEx])); (try simp only [zs])))
        refine cXp (d1) ?_
        ((try simp only [Qb, Qc, Qn, Qi, Qj]); (repeat (rw [Qa]; simp [hi, hi', hx, hEx, hw])); (try simp only [zs]))
        refine cXp (d2) ?_
        ((try simp only [Qb, Qc, Qn, Qi, Qj]); (repeat (rw [Qa]; simp [hw, hw2])); (try simp only [zs]))
        (refine hK _ _ _ ?_; clear hK K)
        refine pF rfl ?_
        refine Qs (hK1c _ _ _ ?_)
        clear hK1c K1c
        have hw1 : IntKind.i64.wrap ((i : Int) + 1) = (i : Int) + 1 := i64w (by omega) (by omega)
        (refine Qz Wc ?_; ((repeat (rw [Qa]; simp [hw1])); (try simp only [zs])))
        refine hA (n1b - 1) _ _ _ (LeT.refl _) (by omega) (by kernel_rfl) ?_
        exact ⟨i + 1, rfl, by omega, by rw [hF2]; simp [hw, hw2], rfl⟩
     ·have h6' : ¬ (i : Int) < 400 := by omega
      (refine sR fun K hK => ?_; ((repeat (rw [Qa]; simp [hi, hi', h6, h6'])); (try simp only [zs])); refine hK _ _ _ ?_; clear hK K)
      refine pF rfl ?_
      refine wpD_exit ?_
      refine hK1a _ _ _ ?_
      clear hK1b K1b
      rw [List.drop_of_length_le (by rw [List.length_take]; omega)] at hF2
      (refine sR fun K hK => ?_; ((repeat (rw [Qa]; simp)); (try simp only [zs])))
      refine cXp (h) ?_
      ((try simp only [Qb, Qc, Qn, Qi, Qj]); (repeat (rw [Qa]; simp)); (try simp only [zs]))
      refine cXp (h2) ?_
      ((try simp only [Qb, Qc, Qn, Qi, Qj]); (repeat (rw [Qa]; simp)); (try simp only [zs]))
      (refine hK _ _ _ ?_; clear hK K)
      (refine Qo ?_; (try simp only [zs]); refine Wa.ret rfl (.inl ?_); simp [Qt, Out.fgt, D.fgt, D.fgts])
      rw [hF2, hg]; simp
    ·have hi' : ¬ (i : Int) < l.length := by omega
     (refine sR fun K hK => ?_; ((repeat (rw [Qa]; simp [hi, hi'])); (try simp only [zs])); refine hK _ _ _ ?_; clear hK K)
     refine pF rfl ?_
     refine wpD_exit ?_
     refine hK1a _ _ _ ?_
     clear hK1b K1b
     rw [List.drop_of_length_le (by rw [List.length_take]; omega)] at hF2
     (refine sR fun K hK => ?_; ((repeat (rw [Qa]; simp)); (try simp only [zs])))
     refine cXp (h) ?_
     ((try simp only [Qb, Qc, Qn, Qi, Qj]); (repeat (rw [Qa]; simp)); (try simp only [zs]))
     refine cXp (h2) ?_
     ((try simp only [Qb, Qc, Qn, Qi, Qj]); (repeat (rw [Qa]; simp)); (try simp only [zs]))
     (refine hK _ _ _ ?_; clear hK K)
     (refine Qo ?_; (try simp only [zs]); refine Wa.ret rfl (.inl ?_); simp [Qt, Out.fgt, D.fgt, D.fgts])
     rw [hF2, hg]; simp
theorem v8_spec (n : Int) : Qu Tryz.prog glob 59 [.int .i64 n] [] (fun o _ => o.fgt = .ret (Qx (vT n))) := by
 unfold vT
 rw [encT_mk]
 refine Qu.movd Qf (Qp Wc Tryz.func59 rfl (Qw _ _ Tryz.func59 rfl (by decide)) rfl rfl ?_)
 (refine sR fun K hK => ?_; ((repeat (rw [Qa]; simp)); (try simp only [zs])); refine hK _ _ _ ?_; clear hK K)
 (refine sR fun K hK => ?_; ((repeat (rw [Qa]; simp)); (try simp only [zs])); refine hK _ _ _ ?_; clear hK K)
 (refine Qo ?_; (try simp only [zs]); refine Wa.ret rfl (.inl ?_); simp [Qt, Out.fgt, D.fgt, D.fgts])
theorem fin8_spec (n : Int) : Qu Tryz.prog glob 58 [.int .i64 n] [] (fun o _ => o.fgt = .ret (Qx (finN n))) := by
 unfold finN
 rw [encT_mk]
 refine Qu.movd Qf (Qp Wc Tryz.func58 rfl (Qw _ _ Tryz.func58 rfl (by decide)) rfl rfl ?_)
 (refine sR fun K hK => ?_; ((repeat (rw [Qa]; simp)); (try simp only [zs])); refine hK _ _ _ ?_; clear hK K)
 (refine sR fun K hK => ?_; ((repeat (rw [Qa]; simp)); (try simp only [zs])); refine hK _ _ _ ?_; clear hK K)
 (refine Qo ?_; (try simp only [zs]); refine Wa.ret rfl (.inl ?_); simp [Qt, Out.fgt, D.fgt, D.fgts])
theorem of8_spec (k : Int) (ks : List T) : Qu Tryz.prog glob 28 [.int .i64 k, .slice (ks.map Qx) .any] [] (fun o _ => o.fgt = .ret (Qx (.mk k 0 0 [] ks))) := by
 rw [encT_mk]
 refine Qu.movd Qf (Qp Wc Tryz.func28 rfl (Qw _ _ Tryz.func28 rfl (by decide)) rfl rfl ?_)
 (refine sR fun K hK => ?_; ((repeat (rw [Qa]; simp)); (try simp only [zs])); refine hK _ _ _ ?_; clear hK K)
 (refine sR fun K hK => ?_; ((repeat (rw [Qa]; simp)); (try simp only [zs])); refine hK _ _ _ ?_; clear hK K)
 (refine Qo ?_; (try simp only [zs]); refine Wa.ret rfl (.inl ?_); simp [Qt, Out.fgt, D.fgt, D.fgts])
def sortT (v p : Int) : T := .mk 2 0 0 [[(v, p)]] []
theorem sort8_spec (v p : Int) : Qu Tryz.prog glob 60 [.int .i64 v, .int .i64 p] [] (fun o _ => o.fgt = .ret (Qx (sortT v p))) := by
 unfold sortT
 refine Qu.deepR (e := .agg [.int .i64 2, .int .i64 0, .int .i64 0, .slice [.agg [.slice [.agg [.int .i64 v, .int .i64 p]] .full]] .any, .slice [] .any]) ?_ ?_
 rotate_left
 ·rw [encT_mk]
  simp only [List.map_cons, List.map_nil, D.deep, D.deeps, Wm, Xp]
 refine Qu.movd Qf (Qp Wc Tryz.func60 rfl (Qw _ _ Tryz.func60 rfl (by decide)) rfl rfl ?_)
 (refine sR fun K hK => ?_; ((repeat (rw [Qa]; simp)); (try simp only [zs])); refine hK _ _ _ ?_; clear hK K)
 (refine sR fun K hK => ?_; ((repeat (rw [Qa]; simp)); (try simp only [zs])); refine hK _ _ _ ?_; clear hK K)
 (refine Qo ?_; (try simp only [zs]); refine Wa.ret rfl (.inl ?_); simp [Qt, Out.fgt, D.fgt, D.fgts])
def lam8 : T := .mk 5 0 0 [] [finN 2, .mk 6 0 0 [] [vT 1, vT 0]]
theorem hd_stuck {l : List C} {t : T} (h1 : spot t = none) (h2 : ownS l t Wl = none) {f : Int} (h0 : 0 <= f) : HdO l t f (some (t, f)) := by
 have h3 : Xe l t = none := by rw [hstep_none h1]; exact h2
 have := Hd.stop h3
 rw [trunc_none h1] at this
 exact .of this (by omega) (by omega)
theorem aw1 : CR [] 2 [lam8] [vT 0] 5 (some (true, 3)) :=
 .yes (x := lam8) (y := vT 0) (f1 := 4) (f2 := 4) (g := 3) (ds := [.mk 6 0 0 [] [vT 1, vT 0]]) (bs := [appliedT (vT 0)]) (by omega) (by kernel_rfl) (hd_stuck rfl rfl (by omega)) (hd_stuck rfl rfl (by omega)) rfl (.same (by omega) (by kernel_rfl) .nil) .nil
theorem aw2 : LR [] 0 (sortT 1 0) (sortT 1 1) 5 (some (true, 4)) := by
 have h : LR [] 0 (sortT 1 0) (sortT 1 1) 5 (some (leqM [(1, 0)] [(1, 1)], 4)) := .sort (x := sortT 1 0) (y := sortT 1 1) (f1 := 4) (by omega) (by kernel_rfl) (hd_stuck rfl rfl (by omega)) (hd_stuck rfl rfl (by omega)) ⟨rfl, rfl⟩ ⟨rfl, rfl⟩
 rwa [show leqM [(1, 0)] [(1, 1)] = true from by kernel_rfl] at h
theorem aw3 : CR [] 1 [sortT 1 0] [sortT 1 1] 5 (some (false, 4)) :=
 .mis (x := sortT 1 0) (y := sortT 1 1) (f1 := 4) (by omega) (by kernel_rfl) (hd_stuck rfl rfl (by omega)) (hd_stuck rfl rfl (by omega)) (by
  unfold prs
  rw [if_neg (by decide), if_neg (by decide), if_neg (fun h => by
   have h2 : sameLs [[(1, 0)]] [[(1, 1)]] = true := h.2.2.2.2
   rw [show sameLs [[(1, 0)]] [[(1, 1)]] = false from by kernel_rfl] at h2
   cases h2)])
theorem okL_one {a b : Int} (ha : I64 a) (hb : I64 b) : okL [(a, b)] := ⟨by unfold Wd; simp, fun p hp => by rw [List.mem_singleton.1 hp]; exact ⟨ha, hb⟩⟩
theorem i64_small {n : Int} (h : 0 <= n /\ n <= 100) : I64 n := by unfold I64; omega
theorem v_okT {n : Int} (h : 0 <= n /\ n <= 100) : okT (vT n) := .mk (i64_small (by omega)) (i64_small h) (i64_small (by omega)) (by unfold Wd; simp) (fun _ h => nomatch h) (by unfold Wd; simp) (fun _ h => nomatch h)
theorem fin_okT {n : Int} (h : 0 <= n /\ n <= 100) : okT (finN n) := .mk (i64_small (by omega)) (i64_small h) (i64_small (by omega)) (by unfold Wd; simp) (fun _ h => nomatch h) (by unfold Wd; simp) (fun _ h => nomatch h)
theorem sort_okT {v p : Int} (h : 0 <= v /\ v <= 100) (h2 : 0 <= p /\ p <= 100) : okT (sortT v p) := .mk (i64_small (by omega)) (i64_small (by omega)) (i64_small (by omega)) (by unfold Wd; simp) (fun l hl => by rw [List.mem_singleton.1 hl]; exact okL_one (i64_small h) (i64_small h2)) (by unfold Wd; simp) (fun _ h => nomatch h)
theorem lam8_okT : okT lam8 := ok_of2 (i64_small (by omega)) (fin_okT (by omega)) (ok_of2 (i64_small (by omega)) (v_okT (by omega)) (v_okT (by omega)))
theorem awake8_spec : Qu Tryz.prog glob 24 [] [] (fun o _ => o.fgt = .ret (.bool true)) := by
 have f2 := fin8_spec 2
 have v0 := v8_spec 0
 have v1 := v8_spec 1
 have o1 := of8_spec 6 [vT 1, vT 0]
 have o2 := of8_spec 5 [finN 2, .mk 6 0 0 [] [vT 1, vT 0]]
 have s0 := sort8_spec 1 0
 have s1 := sort8_spec 1 1
 have pm : ∀ t : T, t.pot <= 100 -> okT t -> okP 5 t := fun t h1 h2 => ⟨h2, by have : (5 : Int).toNat = 5 := rfl; unfold PM; omega⟩
 have c1 := conv_spec okCs_nil (by omega) (by omega) (pm lam8 (by decide +kernel) lam8_okT) (pm (vT 0) (by decide +kernel) (v_okT (by omega))) aw1
 have c2 := convLeq_spec okCs_nil (by omega) (by omega) (pm (sortT 1 0) (by decide +kernel) (sort_okT (by omega) (by omega))) (pm (sortT 1 1) (by decide +kernel) (sort_okT (by omega) (by omega))) aw2
 have c3 := conv_spec okCs_nil (by omega) (by omega) (pm (sortT 1 0) (by decide +kernel) (sort_okT (by omega) (by omega))) (pm (sortT 1 1) (by decide +kernel) (sort_okT (by omega) (by omega))) aw3
 unfold Cs ansD at c1 c2 c3
 simp only [List.map_cons, List.map_nil] at c1 c2 c3 o1 o2
 rw [show (T.mk 5 0 0 [] [finN 2, .mk 6 0 0 [] [vT 1, vT 0]]) = lam8 from rfl] at o2
 generalize T.mk 6 0 0 [] [vT 1, vT 0] = a6 at o1 o2
 generalize lam8 = la at o2 c1
 generalize vT 0 = e0 at v0 o1 c1
 generalize vT 1 = e1 at v1 o1
 generalize finN 2 = ef at f2 o2
 generalize sortT 1 0 = es0 at s0 c2 c3
 generalize sortT 1 1 = es1 at s1 c2 c3
 have L2 : 2 <= Wd := by unfold Wd; omega
 refine Qu.movd Qf (Qp Wc Tryz.func24 rfl (Qw _ _ Tryz.func24 rfl (by decide)) rfl rfl ?_)
 (refine sR fun K hK => ?_; ((repeat (rw [Qa]; simp)); (try simp only [zs])); refine hK _ _ _ ?_; clear hK K)
 (refine sR fun K hK => ?_; ((repeat (rw [Qa]; simp)); (try simp only [zs])))
 refine cXp (f2) ?_
 ((try simp only [Qb, Qc, Qn, Qi, Qj]); (repeat (rw [Qa]; simp)); (try simp only [zs]))
 refine cXp (v1) ?_
 ((try simp only [Qb, Qc, Qn, Qi, Qj]); (repeat (rw [Qa]; simp)); (try simp only [zs]))
 refine cXp (v0) ?_
 ((try simp only [Qb, Qc, Qn, Qi, Qj]); (repeat (rw [Qa]; simp)); (try simp only [zs]))
 refine cXp (o1) ?_
 ((try simp only [Qb, Qc, Qn, Qi, Qj]); (repeat (rw [Qa]; simp)); (try simp only [zs]))
 refine cXp (o2) ?_
 ((try simp only [Qb, Qc, Qn, Qi, Qj]); (repeat (rw [Qa]; simp)); (try simp only [zs]))
 refine cXp (v0) ?_
 ((try simp only [Qb, Qc, Qn, Qi, Qj]); (repeat (rw [Qa]; simp)); (try simp only [zs]))
 refine cXp (c1) ?_
 ((try simp only [Qb, Qc, Qn, Qi, Qj]); (repeat (rw [Qa]; simp)); (try simp only [zs]))
 (refine hK _ _ _ ?_; clear hK K)
 (refine sR fun K hK => ?_; ((repeat (rw [Qa]; simp)); (try simp only [zs])))
 refine cXp (s0) ?_
 ((try simp only [Qb, Qc, Qn, Qi, Qj]); (repeat (rw [Qa]; simp)); (try simp only [zs]))
 refine cXp (s1) ?_
 ((try simp only [Qb, Qc, Qn, Qi, Qj]); (repeat (rw [Qa]; simp)); (try simp only [zs]))
 refine cXp (c2) ?_
 ((try simp only [Qb, Qc, Qn, Qi, Qj]); (repeat (rw [Qa]; simp)); (try simp only [zs]))
 (refine hK _ _ _ ?_; clear hK K)
 (refine sR fun K hK => ?_; ((repeat (rw [Qa]; simp)); (try simp only [zs])))
 refine cXp (s0) ?_
 ((try simp only [Qb, Qc, Qn, Qi, Qj]); (repeat (rw [Qa]; simp)); (try simp only [zs]))
 refine cXp (s1) ?_
 ((try simp only [Qb, Qc, Qn, Qi, Qj]); (repeat (rw [Qa]; simp)); (try simp only [zs]))
 refine cXp (c3) ?_
 ((try simp only [Qb, Qc, Qn, Qi, Qj]); (repeat (rw [Qa]; simp)); (try simp only [zs]))
 (refine hK _ _ _ ?_; clear hK K)
 (refine sR fun K hK => ?_; ((repeat (rw [Qa]; simp)); (try simp only [zs])); refine hK _ _ _ ?_; clear hK K)
 (refine Qo ?_; (try simp only [zs]); refine Wa.ret rfl (.inl ?_); simp [Qt, Out.fgt, D.fgt, D.fgts])
def pickN (k : Int) (n : Nat) : Nat := (if k.tmod n < 0 then k.tmod n + n else k.tmod n).toNat
theorem pickN_lt (k : Int) {n : Nat} (h : 1 <= n) : pickN k n < n /\ ((pickN k n : Nat) : Int) = if k.tmod n < 0 then k.tmod n + n else k.tmod n := by
 have h1 := Int.tmod_lt_of_pos k (show (0 : Int) < n by omega)
 have h2 := Int.lt_tmod_of_pos k (show (0 : Int) < n by omega)
 unfold pickN
 split <;> omega
theorem pick_spec (k : Int) (n : Nat) (h : 1 <= n) (hn : n <= 274877906944) : Qu Tryz.prog glob 10 [.int .i64 k, .int .i64 n] [] (fun o _ => o.fgt = .ret (.int .i64 (pickN k n))) := by
 have h1 := Int.tmod_lt_of_pos k (show (0 : Int) < n by omega)
 have h2 := Int.lt_tmod_of_pos k (show (0 : Int) < n by omega)
 rw [(pickN_lt k h).2]
 have hn1 : ¬ (n : Int) < 1 := by omega
 have hn0 : ¬ (n : Int) = 0 := by omega
 have hn00 : ¬ n = 0 := by omega
 have hw : IntKind.i64.wrap (k.tmod n) = k.tmod n := i64w (by omega) (by omega)
 generalize hr : k.tmod n = r at h1 h2 hw ⊢
 refine Qu.movd Qf (Qp Wc Tryz.func10 rfl (Qw _ _ Tryz.func10 rfl (by decide)) rfl rfl ?_)
 (refine sR fun K hK => ?_; ((repeat (rw [Qa]; simp)); (try simp only [zs])); refine hK _ _ _ ?_; clear hK K)
 refine Qg fun K1 hK1 => ?_
 (refine sR fun K hK => ?_; ((repeat (rw [Qa]; simp [hn1])); (try simp only [zs])); refine hK _ _ _ ?_; clear hK K)
 refine pF rfl ?_
 refine Qs (hK1 _ _ _ ?_)
 clear hK1 K1
 (refine sR fun K hK => ?_; ((repeat (rw [Qa]; simp [hn0, hn00, hr, hw])); (try simp only [zs])); refine hK _ _ _ ?_; clear hK K)
 refine Qg fun K1 hK1 => ?_
 by_cases h0 : r < 0
 ·have hw2 : IntKind.i64.wrap (r + n) = r + n := i64w (by omega) (by omega)
  (refine sR fun K hK => ?_; ((repeat (rw [Qa]; simp [h0])); (try simp only [zs])); refine hK _ _ _ ?_; clear hK K)
  refine pT rfl ?_
  (refine Qz Wc ?_; ((repeat (rw [Qa]; simp [hw2])); (try simp only [zs])))
  refine hK1 _ _ _ ?_
  (refine sR fun K hK => ?_; ((repeat (rw [Qa]; simp)); (try simp only [zs])); refine hK _ _ _ ?_; clear hK K)
  (refine Qo ?_; (try simp only [zs]); refine Wa.ret rfl (.inl ?_); simp [Qt, Out.fgt, D.fgt, D.fgts])
  intro h
  omega
 ·(refine sR fun K hK => ?_; ((repeat (rw [Qa]; simp [h0])); (try simp only [zs])); refine hK _ _ _ ?_; clear hK K)
  refine pF rfl ?_
  refine Qs (hK1 _ _ _ ?_)
  (refine sR fun K hK => ?_; ((repeat (rw [Qa]; simp)); (try simp only [zs])); refine hK _ _ _ ?_; clear hK K)
  (refine Qo ?_; (try simp only [zs]); refine Wa.ret rfl (.inl ?_); simp [Qt, Out.fgt, D.fgt, D.fgts])
  intro h
  omega
def conR (cs : List Int) (c : C) : Bool := !(decide (c.lv < 0) || decide (8 < c.lv) || (c.has && !(rightB c.lv 0 cs c.bo)))
def rightL (l : List C) (n sc : Int) (t : T) : Bool := (l.all (conR (l.map C.lv))) && rightB n sc (l.map C.lv) t
theorem right8_spec {l : List C} (hcs : okCs l) {n sc : Int} {t : T} (ht : okT t) : Qu Tryz.prog glob 29 [Cs l, .int .i64 n, .int .i64 sc, Qx t] [] (fun o _ => o.fgt = .ret (.bool (rightL l n sc t))) := by
 have co := consts_spec l hcs.len
 have hll := hcs.len
 unfold Wd at hll
 have hclen : (l.map C.lv).length <= Wd := by rw [List.length_map]; exact hcs.len
 have hE : ∀ c, encC c = .agg [.int .i64 c.lv, .int .i64 c.ty.k, .int .i64 c.ty.n, .int .i64 c.ty.a, .slice (c.ty.ls.map Wm) .any, .slice (c.ty.ks.map Qx) .any, .bool c.has, .int .i64 c.bo.k, .int .i64 c.bo.n, .int .i64 c.bo.a, .slice (c.bo.ls.map Wm) .any, .slice (c.bo.ks.map Qx) .any] := fun c => encC_eq c
 have hrb : ∀ c, c ∈ l -> Qu Tryz.prog glob 22 [.int .i64 c.lv, .int .i64 0, Ints (l.map C.lv), Qx c.bo] [] (fun o _ => o.fgt = .ret (.bool (rightB c.lv 0 (l.map C.lv) c.bo))) := fun c hc => coreRight_spec c.lv 0 _ c.bo hclen (hcs.ok c hc).2.2
 have hrt := coreRight_spec n sc _ t hclen ht
 obtain ⟨R, hR⟩ : ∃ R, R = rightL l n sc t := ⟨_, rfl⟩
 rw [<- hR]
 unfold rightL at hR
 generalize l.map C.lv = cs at co hclen hrb hrt hR
 have hEt := Qd t
 rw [hEt] at hrt
 generalize rightB n sc cs t = rr at hrt hR
 unfold Ints at co hrb hrt
 unfold Cs at co
 unfold Cs
 rw [hEt]
 refine Qu.movd Qf (Qp Wc Tryz.func29 rfl (Qw _ _ Tryz.func29 rfl (by decide)) rfl rfl ?_)
 (refine sR fun K hK => ?_; ((repeat (rw [Qa]; simp)); (try simp only [zs])); refine hK _ _ _ ?_; clear hK K)
 (refine sR fun K hK => ?_; ((repeat (rw [Qa]; simp)); (try simp only [zs])))
 refine cXp (co) ?_
 ((try simp only [Qb, Qc, Qn, Qi, Qj]); (repeat (rw [Qa]; simp)); (try simp only [zs]))
 (refine hK _ _ _ ?_; clear hK K)
 clear co
 refine Qg fun K1 hK1 => ?_
 (refine sR fun K hK => ?_; ((repeat (rw [Qa]; simp)); (try simp only [zs])); refine hK _ _ _ ?_; clear hK K)
 refine Wy ?_
 refine wpD_loopWJ [8, 13, 14, 15, 16, 17, 18, 19, 20, 21, 22, 23, 24, 25, 26, 27, 28, 29, 30, 31, 32, 33, 34, 35, 36, 37, 38, 39, 40, 41, 42, 43, 44, 45, 46, 47, 48, 49, 50, 51, 52, 53, 54] [10] (fun n ys hl => ∃ (k : Nat), ys = [.int .i64 k] /\ n + k = l.length /\ R = ((l.drop k).all (conR cs) && rr) /\ hl = [.cells 27 [.int .i64 t.k, .int .i64 t.n, .int .i64 t.a, .slice (t.ls.map Wm) .any, .slice (t.ks.map Qx) .any]]) (l.length) (by kernel_rfl) ?_ ?_
 ·exact ⟨0, rfl, rfl, hR, rfl⟩
 ·rintro n1 ys hl A1 hA1 ⟨i, rfl, hn1, hF, rfl⟩
  have hA := hA1
  simp only [Qv, List.set, List.map_cons, List.map_nil, List.cons_append, List.nil_append]
  refine Qg fun K2 hK2 => ?_
  by_cases hi : i < l.length
  ·have hi' : (i : Int) < l.length := by omega
   rw [List.drop_eq_getElem_cons hi, List.all_cons] at hF
   have hrx := hrb l[i] (List.getElem_mem hi)
   obtain ⟨x, hx⟩ : ∃ x, l[i] = x := ⟨_, rfl⟩
   rw [hx] at hrx hF
   have hEx := hE x
   have hEb := Qd x.bo
   rw [hEb] at hrx
   unfold conR at hF
   rw [show (fun c : C => !(decide (c.lv < 0) || decide (8 < c.lv) || (c.has && !(rightB c.lv 0 cs c.bo)))) = conR cs from rfl] at hF
   generalize rightB x.lv 0 cs x.bo = rx at hrx hF
   (refine sR fun K hK => ?_; ((repeat (rw [Qa]; simp [hi, hi'])); (try simp only [zs])); refine hK _ _ _ ?_; clear hK K)
   refine pT rfl ?_
   refine Qs (hK2 _ _ _ ?_)
   clear hK2 K2
   refine Qg fun K3 hK3 => ?_
   refine Wy ?_
   have hw1 : IntKind.i64.wrap ((i : Int) + 1) = (i : Int) + 1 := i64w (by omega) (by omega)
   by_cases g1 : x.lv < 0
   ·(refine Qg fun K hK => ?_; refine dR fun KT hKT => ?_; ((repeat (rw [Qh]; simp [hi, hi', hx, hEx, g1])); (try simp only [Qk])))
    (refine hKT _ _ _ _ (by kernel_rfl) ?_; clear hKT KT; (try simp only [zs]))
    (refine hK _ _ _ ?_; clear hK K)
    refine pT rfl ?_
    (refine sR fun K hK => ?_; ((repeat (rw [Qa]; simp)); (try simp only [zs])); refine hK _ _ _ ?_; clear hK K)
    (refine Qo ?_; (try simp only [zs]); refine Wa.ret rfl (.inl ?_); simp [Qt, Out.fgt, D.fgt, D.fgts])
    rw [hF]; simp [g1]
   by_cases g2 : 8 < x.lv
   ·(refine Qg fun K hK => ?_; refine dR fun KT hKT => ?_; ((repeat (rw [Qh]; simp [hi, hi', hx, hEx, g1, g2])); (try simp only [Qk])))
    (refine hKT _ _ _ _ (by kernel_rfl) ?_; clear hKT KT; (try simp only [zs]))
    (refine hK _ _ _ ?_; clear hK K)
    refine pT rfl ?_
    (refine sR fun K hK => ?_; ((repeat (rw [Qa]; simp)); (try simp only [zs])); refine hK _ _ _ ?_; clear hK K)
    (refine Qo ?_; (try simp only [zs]); refine Wa.ret rfl (.inl ?_); simp [Qt, Out.fgt, D.fgt, D.fgts])
    rw [hF]; simp [g1, g2]
   cases hh : x.has with
   | true =>
    rw [hh] at hEx hF
    cases rx with
    | false =>
     (refine Qg fun K hK => ?_; refine dR fun KT hKT => ?_; ((repeat (rw [Qh]; simp [hi, hi', hx, hEx, g1, g2])); (try simp only [Qk])))
     refine cYp (hrx) ?_
     ((try simp only [Ql, Qm, Qn, Qi, Qj]); (repeat (rw [Qh]; simp [hi, hi', hx, hEx, g1, g2])); (try simp only [Qk]))
     (refine hKT _ _ _ _ (by kernel_rfl) ?_; clear hKT KT; (try simp only [zs]))
     (refine hK _ _ _ ?_; clear hK K)
     refine pT rfl ?_
     (refine sR fun K hK => ?_; ((repeat (rw [Qa]; simp)); (try simp only [zs])); refine hK _ _ _ ?_; clear hK K)
     (refine Qo ?_; (try simp only [zs]); refine Wa.ret rfl (.inl ?_); simp [Qt, Out.fgt, D.fgt, D.fgts])
     rw [hF]; simp [g1, g2]
    | true =>
     (refine Qg fun K hK => ?_; refine dR fun KT hKT => ?_; ((repeat (rw [Qh]; simp [hi, hi', hx, hEx, g1, g2])); (try simp only [Qk])))
     refine cYp (hrx) ?_
     ((try simp only [Ql, Qm, Qn, Qi, Qj]); (repeat (rw [Qh]; simp [hi, hi', hx, hEx, g1, g2])); (try simp only [Qk]))
     (refine hKT _ _ _ _ (by kernel_rfl) ?_; clear hKT KT; (try simp only [zs]))
     (refine hK _ _ _ ?_; clear hK K)
     refine pF rfl ?_
     refine Qs (hK3 _ _ _ ?_)
     clear hK3 K3
     (refine Qz Wc ?_; ((repeat (rw [Qa]; simp [hw1])); (try simp only [zs])))
     refine hA (n1 - 1) _ _ _ (LeT.refl _) (by omega) (by kernel_rfl) ?_
     exact ⟨i + 1, rfl, by omega, by rw [hF]; simp [g1, g2], rfl⟩
   | false =>
    rw [hh] at hEx hF
    (refine Qg fun K hK => ?_; refine dR fun KT hKT => ?_; ((repeat (rw [Qh]; simp [hi, hi', hx, hEx, g1, g2])); (try simp only [Qk])))
    (refine hKT _ _ _ _ (by kernel_rfl) ?_; clear hKT KT; (try simp only [zs]))
    (refine hK _ _ _ ?_; clear hK K)
    refine pF rfl ?_
    refine Qs (hK3 _ _ _ ?_)
    clear hK3 K3
    (refine Qz Wc ?_; ((repeat (rw [Qa]; simp [hw1])); (try simp only [zs])))
    refine hA (n1 - 1) _ _ _ (LeT.refl _) (by omega) (by kernel_rfl) ?_
    exact ⟨i + 1, rfl, by omega, by rw [hF]; simp [g1, g2], rfl⟩
  ·have hi' : ¬ (i : Int) < l.length := by omega
   (refine sR fun K hK => ?_; ((repeat (rw [Qa]; simp [hi, hi'])); (try simp only [zs])); refine hK _ _ _ ?_; clear hK K)
   refine pF rfl ?_
   refine wpD_exit ?_
   refine hK1 _ _ _ ?_
   rw [List.drop_of_length_le (by omega)] at hF
   have hF : R = rr := by rw [hF]; simp
   subst hF
   (refine sR fun K hK => ?_; ((repeat (rw [Qa]; simp)); (try simp only [zs])))
   refine cXp (hrt) ?_
   ((try simp only [Qb, Qc, Qn, Qi, Qj]); (repeat (rw [Qa]; simp)); (try simp only [zs]))
   (refine hK _ _ _ ?_; clear hK K)
   (refine Qo ?_; (try simp only [zs]); refine Wa.ret rfl (.inl ?_); simp [Qt, Out.fgt, D.fgt, D.fgts])
def stepH (l : List C) (t : T) : T := match Xe l t with
 | some v => v.1
 | none => t
def T.setK (t : T) (i : Nat) (x : T) : T := .mk t.k t.n t.a t.ls (t.ks.set i x)
def stepW (l : List C) : T -> List Int -> T
 | t, [] => stepH l t
 | t, w :: r => if t.ks = [] then stepH l t else t.setK (pickN w t.ks.length) (stepW l (t.kid (pickN w t.ks.length)) r)
theorem hstepO_spec {l : List C} (hcs : okCs l) {t : T} (ht : okT t) (hn : t.nsz <= 600) : ∃ c b, Qu Tryz.prog glob 15 [Cs l, Qx t] [] (fun o _ => o.fgt = .ret (.tuple [Qx (stepH l t), .int .i64 c, .bool b])) := by
 have hp : t.pot <= 4200 := by have := pot_le t; omega
 have hS : okS t := ⟨ht, by unfold PM; omega⟩
 unfold stepH
 cases hst : Xe l t with
 | none => exact ⟨_, _, hstep_fin hcs hS hst⟩
 | some v =>
  obtain ⟨u, c⟩ := v
  exact ⟨_, _, hstep_more hcs hS hst (by
   have := hstep_bound (B := 1048576) hcs.bo t hp hst
   unfold DM
   omega)⟩
theorem stepW_ok {l : List C} (hcs : okCs l) : ∀ (way : List Int) {t : T}, okT t -> okT (stepW l t way)
 | [], t, ht => by
  unfold stepW stepH
  cases hst : Xe l t with
  | none => exact ht
  | some v => exact hstep_ok hcs.ok t ht hst
 | w :: r, t, ht => by
  rw [stepW]
  split
  ·unfold stepH
   cases hst : Xe l t with
   | none => exact ht
   | some v => exact hstep_ok hcs.ok t ht hst
  ·have hk := stepW_ok hcs r (kid_ok ht (pickN w t.ks.length))
   unfold T.setK
   refine .mk ht.k ht.n ht.a ht.ll ht.ls (by rw [List.length_set]; exact ht.kl) fun x hx => ?_
   rcases List.mem_or_eq_of_mem_set hx with hx | rfl
   ·exact ht.ks x hx
   ·exact hk
theorem reD_term (a b c d e a' b' c' d' e' : D) : reD (.agg [a, b, c, d, e]) [a', b', c', d', e'] = .agg [a', b', c', d', e'] := rfl
theorem step8_spec {l : List C} (hcs : okCs l) (way : List Int) (hwl : way.length <= Wd) : ∀ {t : T}, okT t -> t.nsz <= 600 -> Qu Tryz.prog glob 30 [Cs l, Qx t, Ints way] [] (fun o _ => o.fgt = .ret (Qx (stepW l t way))) := by
 induction way with
 | nil =>
  intro t ht hn
  obtain ⟨c, b, hs⟩ := hstepO_spec hcs ht hn
  rw [stepW]
  generalize stepH l t = u at hs ⊢
  have hEt := Qd t
  have hEu := Qd u
  rw [hEt, hEu] at hs
  rw [hEt, hEu]
  unfold Cs at hs
  unfold Cs Ints
  simp only [List.map_nil]
  refine Qu.movd Qf (Qp Wc Tryz.func30 rfl (Qw _ _ Tryz.func30 rfl (by decide)) rfl rfl ?_)
  (refine sR fun K hK => ?_; ((repeat (rw [Qa]; simp)); (try simp only [zs])); refine hK _ _ _ ?_; clear hK K)
  refine Qg fun K1 hK1 => ?_
  (refine sR fun K hK => ?_; ((repeat (rw [Qa]; simp)); (try simp only [zs])); refine hK _ _ _ ?_; clear hK K)
  refine pT rfl ?_
  (refine sR fun K hK => ?_; ((repeat (rw [Qa]; simp)); (try simp only [zs])))
  refine cXp (hs) ?_
  ((try simp only [Qb, Qc, Qn, Qi, Qj]); (repeat (rw [Qa]; simp)); (try simp only [zs]))
  (refine hK _ _ _ ?_; clear hK K)
  (refine sR fun K hK => ?_; ((repeat (rw [Qa]; simp)); (try simp only [zs])); refine hK _ _ _ ?_; clear hK K)
  (refine Qo ?_; (try simp only [zs]); refine Wa.ret rfl (.inl ?_); simp [Qt, Out.fgt, D.fgt, D.fgts])
 | cons w r ih =>
  intro t ht hn
  have hr : r.length + 1 <= Wd := by simpa using hwl
  have hw0 : ¬ ((r.length : Int) + 1 = 0) := by omega
  rw [stepW]
  cases hks : t.ks with
  | nil =>
   rw [if_pos rfl]
   obtain ⟨c, b, hs⟩ := hstepO_spec hcs ht hn
   generalize stepH l t = u at hs ⊢
   have hEt := Qd t
   have hEu := Qd u
   rw [hks] at hEt
   rw [hEt, hEu] at hs
   rw [hEt, hEu]
   unfold Cs at hs
   unfold Cs Ints
   simp only [List.map_nil, List.map_cons] at hs ⊢
   refine Qu.movd Qf (Qp Wc Tryz.func30 rfl (Qw _ _ Tryz.func30 rfl (by decide)) rfl rfl ?_)
   (refine sR fun K hK => ?_; ((repeat (rw [Qa]; simp)); (try simp only [zs])); refine hK _ _ _ ?_; clear hK K)
   refine Qg fun K1 hK1 => ?_
   (refine sR fun K hK => ?_; ((repeat (rw [Qa]; simp [hw0])); (try simp only [zs])); refine hK _ _ _ ?_; clear hK K)
   refine pT rfl ?_
   (refine sR fun K hK => ?_; ((repeat (rw [Qa]; simp)); (try simp only [zs])))
   refine cXp (hs) ?_
   ((try simp only [Qb, Qc, Qn, Qi, Qj]); (repeat (rw [Qa]; simp)); (try simp only [zs]))
   (refine hK _ _ _ ?_; clear hK K)
   (refine sR fun K hK => ?_; ((repeat (rw [Qa]; simp)); (try simp only [zs])); refine hK _ _ _ ?_; clear hK K)
   (refine Qo ?_; (try simp only [zs]); refine Wa.ret rfl (.inl ?_); simp [Qt, Out.fgt, D.fgt, D.fgts])
  | cons y ys =>
   rw [if_neg (by simp)]
   have hkl : (y :: ys).length <= Wd := by rw [<- hks]; exact ht.kl
   have hys : ys.length + 1 <= Wd := by simpa using hkl
   have hn1 : 1 <= (y :: ys).length := by simp
   have hpk := pick_spec w (y :: ys).length hn1 (by unfold Wd at hkl; exact hkl)
   have hlt := (pickN_lt w hn1).1
   generalize pickN w (y :: ys).length = i at hpk hlt ⊢
   have hlt' : (i : Int) < ((y :: ys).length : Nat) := by omega
   have hkid : t.kid i = (y :: ys)[i] := by unfold T.kid; rw [hks, List.getD_eq_getElem?_getD, List.getElem?_eq_getElem hlt]; rfl
   have hrec := ih (by omega) (kid_ok ht i) (by
    have hm : t.kid i ∈ t.ks := by rw [hkid, hks]; exact List.getElem_mem hlt
    cases t with
    | mk k n a ls ks => have := T.nszs_mem (show T.kid (.mk k n a ls ks) i ∈ ks from hm); rw [T.nsz] at hn; omega)
   obtain ⟨z, hz⟩ : ∃ z, (y :: ys)[i] = z := ⟨_, rfl⟩
   have hEset : Qx (t.setK i (stepW l (t.kid i) r)) = .agg [.int .i64 t.k, .int .i64 t.n, .int .i64 t.a, .slice (t.ls.map Wm) .any, .slice (((y :: ys).map Qx).set i (Qx (stepW l (t.kid i) r))) .any] := by
    unfold T.setK
    rw [encT_mk', List.map_set, hks]
   rw [hEset]
   rw [hkid, hz] at hrec ⊢
   generalize stepW l z r = u at hrec ⊢
   have hEt := Qd t
   have hEz := Qd z
   have hEu := Qd u
   rw [hks] at hEt
   rw [hEz, hEu] at hrec
   rw [hEt]
   unfold Cs Ints at hrec
   unfold Cs Ints
   generalize hkk : y :: ys = kk at hpk hlt hlt' hz hkl ⊢
   have hkk0 : ¬ (kk.length : Int) = 0 := by omega
   have hkk1 : ¬ kk = [] := by rw [<- hkk]; simp
   have hget : (Qx y :: ys.map Qx)[i]? = some (Qx z) := by
    subst hkk
    rw [<- List.map_cons, List.getElem?_map, List.getElem?_eq_getElem hlt, hz]
    rfl
   refine Qu.movd Qf (Qp Wc Tryz.func30 rfl (Qw _ _ Tryz.func30 rfl (by decide)) rfl rfl ?_)
   (refine sR fun K hK => ?_; ((repeat (rw [Qa]; simp)); (try simp only [zs])); refine hK _ _ _ ?_; clear hK K)
   refine Qg fun K1 hK1 => ?_
   (refine sR fun K hK => ?_; ((repeat (rw [Qa]; simp [hw0, hkk0, hkk1])); (try simp only [zs])); refine hK _ _ _ ?_; clear hK K)
   refine pF rfl ?_
   refine Qs (hK1 _ _ _ ?_)
   clear hK1 K1
   (refine Qg fun K hK => ?_; refine dR fun KT hKT => ?_; ((repeat (rw [Qh]; simp)); (try simp only [Qk])))
   refine cYp (hpk) ?_
   ((try simp only [Ql, Qm, Qn, Qi, Qj]); (repeat (rw [Qh]; simp)); (try simp only [Qk]))
   (refine hKT _ _ _ _ (by kernel_rfl) ?_; clear hKT KT; (try simp only [zs]))
   (refine hK _ _ _ ?_; clear hK K)
   (refine sR fun K hK => ?_; ((repeat (rw [Qa]; simp)); (try simp only [zs])); refine hK _ _ _ ?_; clear hK K)
   subst hkk
   refine Qg fun K hK => ?_
   refine wpD_regionO Wc 1 37 5 ?_
   simp only [List.take_succ_cons, List.take_zero, List.drop_succ_cons, List.drop_zero]
   ((try simp only [Qb, Qc, Qn, Qi, Qj]); (repeat (rw [Qa]; simp)); (try simp only [zs]))
   simp [D.ownd]
   ((try simp only [Qb, Qc, Qn, Qi, Qj]); (repeat (rw [Qa]; simp [hys])); (try simp only [zs]))
   (refine hK _ _ _ ?_; clear hK K)
   rw [hEz] at hget
   have hi2 : i < ys.length + 1 := by simpa using hlt
   have hi2' : (i : Int) < (ys.length : Int) + 1 := by omega
   have htk : List.take r.length (List.map (D.int .i64) r) = List.map (D.int .i64) r := List.take_of_length_le (by simp)
   have hgl : i < (Qx y :: ys.map Qx).length := by simpa using hi2
   have hget2 : (Qx y :: ys.map Qx)[i]'hgl = .agg [.int .i64 z.k, .int .i64 z.n, .int .i64 z.a, .slice (z.ls.map Wm) .any, .slice (z.ks.map Qx) .any] := by
    rw [List.getElem?_eq_getElem hgl] at hget
    exact Option.some.inj hget
   (refine Qg fun K hK => ?_; refine dR fun KT hKT => ?_; ((repeat (rw [Qh]; simp [hget2, hi2, hi2'])); (try simp only [Qk])))
   refine CallY.pure Qf (hrec) ?_ (by simp [D.fgts, D.fgt, htk]) (by simp [D.pures, D.pure, Cp.free, D.pures_map, htk]) (by simp [Out.pure, D.pure, D.pures, Cp.free, D.pures_map, htk])
   ((try simp only [Ql, Qm, Qn, Qi, Qj]); (repeat (rw [Qh]; simp [hget2, hi2, hi2'])); (try simp only [Qk]))
   (refine hKT _ _ _ _ (by kernel_rfl) ?_; clear hKT KT; (try simp only [zs]))
   (refine hK _ _ _ ?_; clear hK K)
   (refine wpD_stayO 4 rfl ?_; simp [D.frzs, D.frz, HO.frz, dfFrz, FK.isB, FK.isM, FK.isO, D.isLen])
   (refine sR fun K hK => ?_; ((repeat (rw [Qa]; simp)); (try simp only [zs])); refine hK _ _ _ ?_; clear hK K)
   (refine Qo ?_; (try simp only [zs]); refine Wa.ret rfl (.inl ?_); simp [Qt, Out.fgt, D.fgt, D.fgts])
   rw [reD_term, <- hEu]
end Go.Proofs.YtebmlojhdnldgaaGreatDoor
namespace Go.Proofs.YtebmlojhdnldgaaGreatDoor
set_option linter.unusedSimpArgs false
set_option linter.unusedVariables false
open Go.RowKit
theorem okW_nat {n : Nat} {t : T} (h : okW (n : Int) t) : ∃ sc : Nat, Ws t sc /\ sc + t.pot + 8 * n + 10 <= SB := by
 obtain ⟨sc, h1, h2⟩ := h
 exact ⟨sc, h1, by omega⟩
theorem nms_pars {l : List C} (hB : WsL l) {h n : Nat} {ts xs : List T} (H : Nms l h ts n xs) : (∀ t, t ∈ ts -> okW (n : Int) t) -> ∀ i, i < ts.length -> Pars l (ts.getD i Wl) (xs.getD i Wl) := by
 induction H with
 | nil => intro _ i hi; exact absurd hi (by simp)
 | @cons h t u r ks xs m n p hd hk hr ih1 ih2 =>
  intro ht i hi
  cases i with
  | zero =>
   obtain ⟨sc, w, hb⟩ := okW_nat (ht t (List.mem_cons_self ..))
   obtain ⟨p1, p2⟩ := hd_pars hB hd w (by omega)
   have hp := hd.pot
   have hu : okW (n : Int) u := ⟨sc, p2, by omega⟩
   have hks := ih1 fun x hx => by
    obtain ⟨j, hj, rfl⟩ := List.getElem_of_mem hx
    rw [<- kid_at hj]
    exact kid_okW hu hj
   have hl := hk.len
   show Pars l t (u.withKs ks)
   refine p1.trans ?_
   cases u with
   | mk k n' a ls uks => exact pars_node hl hks
  | succ i =>
   have := ih2 (fun x hx => (ht x (List.mem_cons_of_mem _ hx)).le (by omega)) i (by simpa using hi)
   simpa using this
theorem nms_ok {l : List C} (hl : ∀ c, c ∈ l -> okC c) {h n : Nat} {ts xs : List T} (H : Nms l h ts n xs) : (∀ t, t ∈ ts -> okT t) -> ∀ x, x ∈ xs -> okT x := by
 induction H with
 | nil => intro _ x hx; cases hx
 | @cons h t u r ks xs m n p hd hk hr ih1 ih2 =>
  intro ht x hx
  rcases List.mem_cons.1 hx with rfl | hx
  ·have hu := hd.ok hl (ht t (List.mem_cons_self ..))
   exact .mk hu.k hu.n hu.a hu.ll hu.ls (by rw [hk.len]; exact hu.kl) (ih1 hu.ks)
  ·exact ih2 (fun y hy => ht y (List.mem_cons_of_mem _ hy)) x hx
theorem norm_pars {l : List C} (hB : WsL l) {h : Nat} {t x : T} {f g : Int} (ht : okW f t) (H : NmR l h [t] f (some ([x], g))) : Pars l t x := by
 generalize ho : some ([x], g) = o at H
 cases H with
 | @fin n xs H hn =>
  cases ho
  exact nms_pars hB H (fun y hy => by rw [List.mem_singleton.1 hy]; exact ht.le hn) 0 (by simp)
 | gone H => cases ho
theorem nmT_ok {l : List C} (hl : ∀ c, c ∈ l -> okC c) {h : Nat} {t x : T} {f g : Int} (ht : okT t) (H : NmR l h [t] f (some ([x], g))) : okT x := by
 generalize ho : some ([x], g) = o at H
 cases H with
 | fin H hn => cases ho; exact nms_ok hl H (fun y hy => by rw [List.mem_singleton.1 hy]; exact ht) x (List.mem_singleton.2 rfl)
 | gone H => cases ho
theorem stepH_pars {l : List C} (hB : WsL l) {t : T} {sc : Nat} (hw : Ws t sc) (hb : sc + 1 + t.deep <= SB) : Pars l t (stepH l t) /\ Ws (stepH l t) sc := by
 unfold stepH
 cases hst : Xe l t with
 | none => exact ⟨.refl _, hw⟩
 | some v =>
  obtain ⟨h1, h2⟩ := hstep_par hB hw hb (u := v.1) (c := v.2) hst
  exact ⟨.step h1 (.refl _), h2⟩
theorem set_getD (ks : List T) (i j : Nat) (x : T) (hi : i < ks.length) : (ks.set i x).getD j Wl = if j = i then x else ks.getD j Wl := by
 rw [List.getD_eq_getElem?_getD, List.getElem?_set, List.getD_eq_getElem?_getD]
 by_cases h : j = i
 ·subst h; simp [hi]
 ·rw [if_neg (fun e => h e.symm), if_neg h]
theorem stepW_pars {l : List C} (hB : WsL l) : ∀ (way : List Int) {t : T} {sc : Nat}, Ws t sc -> sc + 1 + t.deep <= SB -> Pars l t (stepW l t way) /\ Ws (stepW l t way) sc
 | [], t, sc, hw, hb => by rw [stepW]; exact stepH_pars hB hw hb
 | w :: r, t, sc, hw, hb => by
  rw [stepW]
  split
  ·exact stepH_pars hB hw hb
  ·rename_i hne
   have hlen : 1 <= t.ks.length := by
    cases hk : t.ks with
    | nil => exact absurd hk hne
    | cons _ _ => simp
   have hi := (pickN_lt w hlen).1
   generalize pickN w t.ks.length = i at hi
   have hd := kid_deep hi
   have hu : up1 sc t.k i <= sc + 1 := by unfold up1; split <;> omega
   obtain ⟨h1, h2⟩ := stepW_pars hB r (hw.kid hi) (by omega)
   generalize stepW l (t.kid i) r = x at h1 h2
   cases t with
   | mk k n a ls ks =>
    unfold T.setK
    simp only [T.k_mk, T.n_mk, T.a_mk, T.ls_mk, T.ks_mk] at hi h2 ⊢
    refine ⟨pars_node (List.length_set) fun j hj => ?_, .mk (by rw [List.length_set]; exact hw.node) fun j hj => ?_⟩
    ·rw [set_getD _ _ _ _ hi]
     split
     ·rename_i e; subst e; exact h1
     ·exact .refl _
    ·rw [List.length_set] at hj
     rw [set_getD _ _ _ _ hi]
     split
     ·rename_i e; subst e; exact h2
     ·exact hw.kid (show j < (T.mk k n a ls ks).ks.length from hj)
theorem pots_set : ∀ (ks : List T) (i : Nat) (x : T) (hi : i < ks.length), T.pots (ks.set i x) + ks[i].pot = T.pots ks + x.pot
 | [], i, x, hi => absurd hi (by simp)
 | t :: r, 0, x, hi => by simp [T.pots]; omega
 | t :: r, i + 1, x, hi => by
  have := pots_set r i x (by simpa using hi)
  simp only [List.set_cons_succ, T.pots, List.getElem_cons_succ]
  omega
theorem stepW_pot {l : List C} {B A : Nat} (hl : ∀ c, c ∈ l -> c.bo.nsz <= B) : ∀ (way : List Int) {t : T}, t.pot <= A -> (stepW l t way).pot <= t.pot + 7 * (7 + 8 * A + A * A + B) := by
 have hH : ∀ {t : T}, t.pot <= A -> (stepH l t).pot <= t.pot + 7 * (7 + 8 * A + A * A + B) := fun {t} ht => by
  unfold stepH
  cases hst : Xe l t with
  | none => exact Nat.le_add_right _ _
  | some v =>
   have h1 := hstep_pot t (u := v.1) (c := v.2) hst
   have h2 := hstep_bound hl t (u := v.1) (c := v.2) ht hst
   show v.1.pot <= _
   omega
 intro way
 induction way with
 | nil => intro t ht; rw [stepW]; exact hH ht
 | cons w r ih =>
  intro t ht
  rw [stepW]
  split
  ·exact hH ht
  ·rename_i hne
   have hlen : 1 <= t.ks.length := by
    cases hk : t.ks with
    | nil => exact absurd hk hne
    | cons _ _ => simp
   have hi := (pickN_lt w hlen).1
   generalize pickN w t.ks.length = i at hi
   have hkp := ih (t := t.kid i) (Nat.le_trans (kid_pot t i) ht)
   generalize stepW l (t.kid i) r = x at hkp
   have hs := pots_set t.ks i x hi
   rw [<- kid_at hi] at hs
   cases t with
   | mk k n a ls ks =>
    unfold T.setK
    simp only [T.k_mk, T.n_mk, T.a_mk, T.ls_mk, T.ks_mk] at hi hs ⊢
    rw [T.pot, T.pot, List.length_set]
    omega
theorem rightL_ws {l : List C} {n sc : Int} {t : T} (hbo : ∀ c, c ∈ l -> c.bo.nsz <= 1048576) (hs : sc <= 1000) (hn : t.nsz <= 1000000) (h : rightL l n sc t = true) : WsL l /\ ∃ s : Nat, (s : Int) = sc /\ Ws t s := by
 unfold rightL at h
 rw [Bool.and_eq_true, List.all_eq_true] at h
 obtain ⟨h1, h2⟩ := h
 obtain ⟨-, r2, r3⟩ := rightB_iff.1 h2
 refine ⟨wsL_of (cs := l.map C.lv) (fun c hc hh => ?_) (fun c hc => ?_), sc.toNat, by omega, ?_⟩
 ·have := h1 c hc
  unfold conR at this
  rw [hh] at this
  simp at this
  exact (rightB_iff.1 this.2).2.2
 ·have := hbo c hc; have := T.deep_nsz c.bo; omega
 ·have hd := T.deep_nsz t
  refine core_ws (n := n) (cs := l.map C.lv) t sc.toNat (by omega) ?_
  rw [show ((sc.toNat : Nat) : Int) = sc by omega]
  exact r3
theorem meets_law {l : List C} {n sc : Int} {a b : T} (hbo : ∀ c, c ∈ l -> c.bo.nsz <= 1048576) (hs : sc <= 1000) (ha : a.nsz <= 400) (hb : b.nsz <= 400) (ra : rightL l n sc a = true) (rb : rightL l n sc b = true) (way : List Int)
  {h1 : Nat} {f g : Int} {one : Bool} (h0 : 0 <= f) (hf : f <= 2000) (H : CR l h1 [a] [b] f (some (one, g))) :
  (∀ h2 v g', CR l h2 [stepW l a way] [b] 2000 (some (v, g')) -> v = one) /\ ∀ h3 h4 x y gx gy, NmR l h3 [a] 2000 (some ([x], gx)) -> NmR l h4 [b] 2000 (some ([y], gy)) -> x.sameB y = true -> one = true := by
 obtain ⟨hB, s, e, wa⟩ := rightL_ws hbo hs (by omega) ra
 obtain ⟨-, s', e', wb⟩ := rightL_ws hbo hs (by omega) rb
 have hc := hB.closed
 have pa := pot_le a
 have pb := pot_le b
 have da := T.deep_nsz a
 have oa : okW 2000 a := ⟨s, wa, by have : (2000 : Int).toNat = 2000 := rfl; unfold SB; omega⟩
 have ob : okW 2000 b := ⟨s', wb, by have : (2000 : Int).toNat = 2000 := rfl; unfold SB; omega⟩
 refine ⟨fun h2 v g' H2 => ?_, fun h3 h4 x y gx gy N1 N2 hxy => ?_⟩
 ·obtain ⟨p1, w1⟩ := stepW_pars hB way wa (by unfold SB; omega)
  have pp := stepW_pot (A := 2800) hbo way (t := a) (by omega)
  have oc : okW 2000 (stepW l a way) := ⟨s, w1, by have : (2000 : Int).toNat = 2000 := rfl; unfold SB; omega⟩
  exact (conv_same hB h0 (by omega) (oa.le hf) (ob.le hf) oc ob (.of_pars p1) (.refl _ _) H H2).symm
 ·have q1 := norm_pars hB oa N1
  have q2 := norm_pars hB ob N2
  exact conv_yes hB h0 (oa.le hf) (ob.le hf) ((Eqv.of_pars q1).trans hc ((Eqv.of_same hxy).trans hc (Eqv.of_pars q2).symm)) H
theorem bulk_one {H : Type} (d : DataW H) : 1 <= Rows.uptoBulk d := by
 cases d with
 | lit l => cases l <;> simp [Rows.uptoBulk]
 | nil => simp [Rows.uptoBulk]
 | ptr d => simp [Rows.uptoBulk]
 | slice elems spare => simp [Rows.uptoBulk]
 | agg parts => simp [Rows.uptoBulk]
 | iface t d => simp [Rows.uptoBulk]
 | map entries => simp [Rows.uptoBulk]
 | held h => simp [Rows.uptoBulk]
theorem bulk_part {H : Type} {d : DataW H} {l : List (DataW H)} (h : d ∈ l) : Rows.uptoBulk d <= Rows.uptoBulkAll l := by
 induction l with
 | nil => cases h
 | cons x r ih =>
  simp only [Rows.uptoBulkAll]
  cases List.mem_cons.1 h with
  | inl e => subst e; omega
  | inr e => have := ih e; omega
theorem bulk_len {H : Type} (l : List (DataW H)) : l.length <= Rows.uptoBulkAll l := by
 induction l with
 | nil => simp [Rows.uptoBulkAll]
 | cons x r ih => have := bulk_one x; simp only [Rows.uptoBulkAll, List.length_cons]; omega
theorem mapM_some {α β : Type} {f : α -> Option β} : ∀ {l : List α} {xs : List β}, l.mapM f = some xs -> xs.length = l.length /\ ∀ i (h : i < l.length) (h' : i < xs.length), f l[i] = some xs[i] := by
 intro l
 induction l with
 | nil => intro xs h; simp at h; subst h; exact ⟨rfl, fun i h => absurd h (by simp)⟩
 | cons a r ih =>
  intro xs h
  rw [List.mapM_cons] at h
  cases ha : f a with
  | none => rw [ha] at h; simp at h
  | some b =>
   rw [ha] at h
   cases hr : r.mapM f with
   | none => rw [hr] at h; simp at h
   | some ys =>
    rw [hr] at h
    simp at h
    subst h
    obtain ⟨h1, h2⟩ := ih hr
    refine ⟨by simp [h1], fun i hi hi' => ?_⟩
    cases i with
    | zero => simpa using ha
    | succ i => simpa using h2 i (by simpa using hi) (by simpa using hi')
section
variable {H : Type} {enc : TypeId × Value -> H} {P : Program} {w : World} {base : Nat} {sp : Nat -> Bool} {held : Bool}
theorem trod_int {fuel : Nat} {t : TypeId} {cs : List Value} {d : DataW H} {ps : List MemPlace} (ht : P.underlying t = some (.int .i64)) (h : DataW.trod enc P w base sp held fuel t cs = some (d, ps)) : ∃ n, cs = [.int .i64 n] /\ IntKind.i64.min <= n /\ n <= IntKind.i64.max := by
 cases fuel with
 | zero => simp [DataW.trod] at h
 | succ fuel =>
  unfold DataW.trod at h
  rw [ht] at h
  rcases cs with _ | ⟨v, _ | ⟨v2, r⟩⟩
  ·simp at h
  ·cases v <;> simp at h
   rename_i k n
   obtain ⟨⟨rfl, hw⟩, -⟩ := h
   refine ⟨n, rfl, ?_⟩
   simp only [Lit.wf, Bool.and_eq_true, decide_eq_true_eq] at hw
   exact hw
  ·simp at h
theorem cells_at {n : Nat} {a : Addr} {cs : List Value} (h : w.cells? base a n = some cs) (hn : 0 < n) : ∃ b o, a = ⟨b, o, none⟩ /\ b < w.heap.size /\ cs.length = n /\ ∀ i u, cs[i]? = some u -> w.cell? ⟨b, o + i, none⟩ = some u := by
 unfold World.cells? at h
 split at h
 ·obtain ⟨h1, h2⟩ := mapM_some h
  simp only [List.length_range] at h1
  have hall : ∀ i, i < n -> w.cell? (a.add i) = some (cs.getD i undef) := fun i hi => by
   have := h2 i (by simpa using hi) (by omega)
   simp only [List.getElem_range] at this
   rw [this]; simp [show i < cs.length by omega]
  have h0 := hall 0 hn
  rw [show a.add 0 = a from by simp [Addr.add]] at h0
  have hs : a.spot = none := by
   cases hsp : a.spot with
   | none => rfl
   | some x =>
    unfold World.cell? at h0
    rw [hsp] at h0
    split at h0 <;> simp at h0
  obtain ⟨b, o, s⟩ := a
  simp only at hs
  subst hs
  refine ⟨b, o, rfl, World.block_lt_of_cell? w _ h0, h1, fun i u hu => ?_⟩
  have hi : i < cs.length := (List.getElem?_eq_some_iff.1 hu).1
  have := hall i (by omega)
  have hadd : (⟨b, o, none⟩ : Addr).add i = ⟨b, o + i, none⟩ := by unfold Addr.add; split <;> simp_all
  rw [hadd] at this
  rw [this]
  simp [List.getD_eq_getElem?_getD, hu]
 ·cases h
theorem trod_slice {fuel : Nat} {t e : TypeId} {cs : List Value} {d : DataW H} {ps : List MemPlace} (ht : P.underlying t = some (.slice e)) (h : DataW.trod enc P w base sp held fuel t cs = some (d, ps)) :
  cs = [.slice none 0 0] \/ ∃ fuel' a len cap elems rest, fuel = fuel' + 1 /\ cs = [.slice (some a) len cap] /\ len <= cap /\ cap <= maxLen /\ d = .slice elems rest /\ elems.length = len /\
   ∀ i (hi : i < elems.length), ∃ ecs p, w.cells? base (a.add (i * P.cellsOf e)) (P.cellsOf e) = some ecs /\ DataW.trod enc P w base sp held fuel' e ecs = some (elems[i], p) := by
 cases fuel with
 | zero => simp [DataW.trod] at h
 | succ fuel =>
  unfold DataW.trod at h
  rw [ht] at h
  rcases cs with _ | ⟨v, _ | ⟨v2, r⟩⟩
  ·simp at h
  rotate_left
  ·simp at h
  cases v <;> try (simp at h; done)
  rename_i ao len cap
  cases ao with
  | none =>
   left
   rcases len with _ | len
   ·rcases cap with _ | cap
    ·rfl
    ·simp at h
   ·simp at h
  | some a =>
  right
  dsimp only at h
  split at h
  ·rename_i hc
   cases hm : (List.range len).mapM fun i => (w.cells? base (a.add (i * P.cellsOf e)) (P.cellsOf e)).bind (DataW.trod enc P w base sp held fuel e) with
   | none => rw [hm] at h; simp at h
   | some xs =>
    rw [hm] at h
    simp only [Option.bind_some] at h
    obtain ⟨h2, h3⟩ := mapM_some hm
    simp only [List.length_range] at h2
    rw [Option.map_eq_some_iff] at h
    obtain ⟨rest, -, h4⟩ := h
    simp only [Prod.mk.injEq] at h4
    refine ⟨fuel, a, len, cap, xs.map (·.1), rest.map (·.1), rfl, rfl, hc.2.1, hc.2.2, h4.1.symm, by simpa using h2, fun i hi => ?_⟩
    have hi' : i < xs.length := by simpa using hi
    have := h3 i (by simp; omega) hi'
    simp only [List.getElem_range] at this
    rw [Option.bind_eq_some_iff] at this
    obtain ⟨ecs, e1, e2⟩ := this
    exact ⟨ecs, (xs[i]).2, e1, by simpa using e2⟩
  ·cases h
theorem trod_struct {fuel : Nat} {t : TypeId} {fs : Array Field} {cs : List Value} {d : DataW H} {ps : List MemPlace} (ht : P.underlying t = some (.struct fs)) (h : DataW.trod enc P w base sp held fuel t cs = some (d, ps)) :
  ∃ fuel' ds, fuel = fuel' + 1 /\ cs.length = P.cellsOf t /\ d = .agg ds /\ ds.length = fs.toList.length /\ ∀ i (hi : i < fs.toList.length) (hi' : i < ds.length), ∃ p, DataW.trod enc P w base sp held fuel' (fs.toList[i]).type ((cs.drop (fs.toList[i]).offset).take (P.cellsOf (fs.toList[i]).type)) = some (ds[i], p) := by
 cases fuel with
 | zero => simp [DataW.trod] at h
 | succ fuel =>
  unfold DataW.trod at h
  rw [ht] at h
  dsimp only at h
  split at h
  ·rename_i hl
   rw [Option.map_eq_some_iff] at h
   obtain ⟨xs, hm, h4⟩ := h
   simp only [Prod.mk.injEq] at h4
   obtain ⟨h2, h3⟩ := mapM_some hm
   refine ⟨fuel, xs.map (·.1), rfl, hl, h4.1.symm, by simpa using h2, fun i hi hi' => ?_⟩
   have hi2 : i < xs.length := by simpa using hi'
   exact ⟨(xs[i]).2, by simpa using h3 i hi hi2⟩
  ·cases h
end
theorem len1 {l : List Value} (h : l.length = 1) : ∃ a, l = [a] := by
 rcases l with _ | ⟨a, _ | ⟨b, r⟩⟩
 ·cases h
 ·exact ⟨a, rfl⟩
 ·simp at h
theorem len2 {l : List Value} (h : l.length = 2) : ∃ a b, l = [a, b] := by
 rcases l with _ | ⟨a, r⟩
 ·cases h
 ·obtain ⟨b, rfl⟩ := len1 (l := r) (by simpa using h)
  exact ⟨a, b, rfl⟩
theorem len5 {l : List Value} (h : l.length = 5) : ∃ a b c d e, l = [a, b, c, d, e] := by
 rcases l with _ | ⟨a, _ | ⟨b, _ | ⟨c, r⟩⟩⟩
 ·cases h
 ·simp at h
 ·simp at h
 ·obtain ⟨d, e, rfl⟩ := len2 (l := r) (by simpa using h)
  exact ⟨a, b, c, d, e, rfl⟩
theorem trod_fields {H : Type} {enc : TypeId × Value -> H} {P : Program} {w : World} {base : Nat} {sp : Nat -> Bool} {held : Bool} {fuel : Nat} {t : TypeId} {fs : Array Field} {cs : List Value} {d : DataW H} {ps : List MemPlace} {l : List (TypeId × Nat)} (ht : P.underlying t = some (.struct fs)) (hl : fs.toList.map (fun f => (f.type, f.offset)) = l)
  (h : DataW.trod enc P w base sp held fuel t cs = some (d, ps)) :
  cs.length = P.cellsOf t /\ ∀ (i : Nat) ti oi, l[i]? = some (ti, oi) -> ∃ f di p, f < fuel /\ Rows.uptoBulk di < Rows.uptoBulk d /\ DataW.trod enc P w base sp held f ti ((cs.drop oi).take (P.cellsOf ti)) = some (di, p) := by
 obtain ⟨fuel', ds, rfl, h1, rfl, h3, h4⟩ := trod_struct ht h
 refine ⟨h1, fun i ti oi hi => ?_⟩
 rw [<- hl, List.getElem?_map, Option.map_eq_some_iff] at hi
 obtain ⟨f, hf, he⟩ := hi
 obtain ⟨hlt, rfl⟩ := List.getElem?_eq_some_iff.1 hf
 simp only [Prod.mk.injEq] at he
 obtain ⟨rfl, rfl⟩ := he
 obtain ⟨p, hp⟩ := h4 i hlt (by omega)
 refine ⟨fuel', _, p, by omega, ?_, hp⟩
 have := bulk_part (List.getElem_mem (l := ds) (n := i) (by omega))
 simp only [Rows.uptoBulk]; omega
def rho0 : Rho := ⟨fun _ => none, fun _ => none⟩
theorem cellAt0 {w : World} {b o : Nat} {v : Value} (h : w.cell? ⟨b, o, none⟩ = some v) (h1 : v.oneCell' = true) : cellAt rho0 w b o v := ⟨(fun k hk => nomatch hk), h, h1⟩
theorem RpC_mk {w : World} : ∀ {ds : List D} {cs : List Value} {b o : Nat}, RpL rho0 w ds cs -> ds.all D.one = true -> (∀ i u, cs[i]? = some u -> w.cell? ⟨b, o + i, none⟩ = some u) -> RpC rho0 w ds b o
 | [], _, _, _, _, _, _ => by rw [RpC]; trivial
 | d :: r, cs, b, o, h, h1, h2 => by
  rw [RpL] at h
  obtain ⟨v, us, rfl, hv, hr⟩ := h
  rw [List.all_cons, Bool.and_eq_true] at h1
  rw [RpC]
  refine ⟨⟨v, cellAt0 (h2 0 v rfl) (D.one_cell h1.1 hv), hv⟩, RpC_mk hr h1.2 fun i u hu => ?_⟩
  have := h2 (i + 1) u (by simpa using hu)
  rwa [show o + 1 + i = o + (i + 1) by omega]
theorem RpE_mk {w : World} {sz : Nat} : ∀ {els : List D} {b o : Nat}, (∀ e, e ∈ els -> e.size = sz /\ e.cells.all D.one = true) -> (∀ i (hi : i < els.length), ∃ cs, RpL rho0 w els[i].cells cs /\ ∀ j u, cs[j]? = some u -> w.cell? ⟨b, o + i * sz + j, none⟩ = some u) -> RpE rho0 w els b o
 | [], _, _, _, _ => by rw [RpE]; trivial
 | e :: r, b, o, h, hi => by
  obtain ⟨he, ho⟩ := h e (List.mem_cons_self ..)
  obtain ⟨cs, hc, ha⟩ := hi 0 (by simp)
  have hr : RpE rho0 w r b (o + sz) := RpE_mk (fun x hx => h x (List.mem_cons_of_mem _ hx)) fun i hlt => by
   obtain ⟨cs, h1, h2⟩ := hi (i + 1) (by simpa using hlt)
   refine ⟨cs, by simpa using h1, fun j u hu => ?_⟩
   have := h2 j u hu
   rwa [show o + (i + 1) * sz + j = o + sz + i * sz + j by rw [Nat.add_mul]; omega] at this
  have ha' : ∀ j u, cs[j]? = some u -> w.cell? ⟨b, o + j, none⟩ = some u := fun j u hu => by
   have := ha j u hu
   rwa [Nat.zero_mul, Nat.add_zero] at this
  have key : RpC rho0 w e.cells b o := RpC_mk (by simpa using hc) ho ha'
  cases e with
  | agg ds =>
   rw [RpE]
   rw [show o + ds.length = o + sz by rw [<- he]; rfl]
   exact ⟨key, hr⟩
  | _ =>
   rw [RpE]
   ·have h1 : sz = 1 := he.symm
    rw [h1] at hr
    simp only [D.cells] at key
    rw [RpC] at key
    exact ⟨key.1, hr⟩
   ·intro ds hds; cases hds
section
variable {H : Type} {enc : TypeId × Value -> H} {w : World} {base : Nat} {sp : Nat -> Bool} {held : Bool}
theorem open_sl {α : Type} (en : α -> D) {t e : TypeId} {sz : Nat} (ht : Tryz.prog.underlying t = some (.slice e)) (he : Tryz.prog.cellsOf e = sz) (hsz : 0 < sz) (hes : ∀ x, (en x).size = sz /\ (en x).cells.all D.one = true) (M : Nat -> α -> Prop) {fuel : Nat} {cs : List Value} {d : DataW H} {ps : List MemPlace} (hb : Rows.uptoBulk d <= 1048576)
  (hE : ∀ f ecs de p, f < fuel -> Rows.uptoBulk de < Rows.uptoBulk d -> DataW.trod enc Tryz.prog w base sp held f e ecs = some (de, p) -> ∃ x, RpL rho0 w (en x).cells ecs /\ M (Rows.uptoBulk de) x) (hM : ∀ x m n, m <= n -> M m x -> M n x)
  (h : DataW.trod enc Tryz.prog w base sp held fuel t cs = some (d, ps)) : ∃ (v : Value) (xs : List α), cs = [v] /\ Rp rho0 w (.slice (xs.map en) .any) v /\ xs.length < Rows.uptoBulk d + 1 /\ ∀ x, x ∈ xs -> M (Rows.uptoBulk d - 1) x := by
 rcases trod_slice ht h with rfl | ⟨fuel', a, len, cap, elems, rest, rfl, rfl, h1, h2, rfl, h3, h4⟩
 ·refine ⟨_, [], rfl, ?_, by simp, (fun x hx => nomatch hx)⟩
  rw [Rp]
  exact ⟨none, 0, sz, rfl, by simp, by simp, by simp, (fun e he => nomatch he), trivial, fun h => absurd rfl h⟩
 ·have hlen : elems.length + 1 <= Rows.uptoBulk (.slice elems rest) := by
   have := bulk_len elems
   simp only [Rows.uptoBulk]; omega
  have key : ∀ i (hi : i < elems.length), ∃ x ecs, w.cells? base (a.add (i * sz)) sz = some ecs /\ RpL rho0 w (en x).cells ecs /\ M (Rows.uptoBulk (DataW.slice elems rest) - 1) x := fun i hi => by
   obtain ⟨ecs, p, h5, h6⟩ := h4 i hi
   have hlt : Rows.uptoBulk elems[i] < Rows.uptoBulk (.slice elems rest) := by
    have := bulk_part (List.getElem_mem (l := elems) hi)
    simp only [Rows.uptoBulk]; omega
   obtain ⟨x, h7, h8⟩ := hE fuel' ecs elems[i] p (by omega) hlt h6
   exact ⟨x, ecs, by rw [<- he]; exact h5, h7, hM _ _ _ (by omega) h8⟩
  let xs : List α := List.ofFn (n := elems.length) fun i => (key i.1 i.2).choose
  have hxl : xs.length = elems.length := by simp [xs]
  have hget : ∀ i (hi : i < elems.length), xs[i]? = some (key i hi).choose := fun i hi => by simp [xs, List.getElem?_ofFn, hi]
  refine ⟨_, xs, rfl, ?_, by omega, ?_⟩
  ·rw [Rp]
   refine ⟨some a, cap, sz, by rw [List.length_map, hxl, h3], by rw [List.length_map]; omega, h2, by rw [List.length_map]; unfold Wd; omega, fun e he => ?_, trivial, fun hne => ?_⟩
   ·obtain ⟨x, -, rfl⟩ := List.mem_map.1 he
    exact (hes x).1
   ·have h0 : 0 < elems.length := by
     rcases Nat.eq_zero_or_pos elems.length with h | h
     ·exact absurd (List.eq_nil_of_length_eq_zero (by rw [List.length_map]; omega)) hne
     ·exact h
    obtain ⟨ecs0, c0, -⟩ := (key 0 h0).choose_spec
    rw [show a.add (0 * sz) = a from by simp [Addr.add]] at c0
    obtain ⟨b, o, rfl, hlt, -, -⟩ := cells_at c0 hsz
    refine ⟨b, o, rfl, RpE_mk (sz := sz) (fun e he => ?_) fun i hi => ?_⟩
    ·obtain ⟨x, -, rfl⟩ := List.mem_map.1 he
     exact hes x
    ·have hi' : i < elems.length := by rw [List.length_map] at hi; omega
     have hx := hget i hi'
     have hx' : (xs.map en)[i] = en (key i hi').choose := by
      rw [List.getElem_map]
      have := List.getElem?_eq_some_iff.1 hx
      exact congrArg en this.2
     rw [hx']
     obtain ⟨ecs, c1, c2, -⟩ := (key i hi').choose_spec
     have hadd : (⟨b, o, none⟩ : Addr).add (i * sz) = ⟨b, o + i * sz, none⟩ := by unfold Addr.add; split <;> simp_all
     rw [hadd] at c1
     obtain ⟨b', o', e, -, c3, c4⟩ := cells_at c1 hsz
     simp only [Addr.mk.injEq, and_true] at e
     obtain ⟨rfl, rfl⟩ := e
     exact ⟨ecs, c2, c4⟩
  ·intro x hx
   obtain ⟨i, hi, rfl⟩ := List.getElem_of_mem hx
   have hi' : i < elems.length := by rw [<- hxl]; exact hi
   have := hget i hi'
   rw [List.getElem?_eq_getElem hi] at this
   simp only [Option.some.injEq] at this
   rw [this]
   obtain ⟨-, -, -, c⟩ := (key i hi').choose_spec
   exact c
theorem part_under : Tryz.prog.underlying 99 = some (.struct (Tryz.prog.fieldsOf 99)) := by kernel_rfl
theorem level_under : Tryz.prog.underlying 82 = some (.struct (Tryz.prog.fieldsOf 82)) := by kernel_rfl
theorem open_ints {fuel : Nat} {cs : List Value} {d : DataW H} {ps : List MemPlace} (hb : Rows.uptoBulk d <= 1048576) (h : DataW.trod enc Tryz.prog w base sp held fuel 38 cs = some (d, ps)) : ∃ v ns, cs = [v] /\ Rp rho0 w (Ints ns) v /\ ns.length <= 1048576 := by
 obtain ⟨v, xs, k0, hs, hl, hm⟩ := open_sl (D.int .i64) (sz := 1) Tryz.underlying38 (by kernel_rfl) (by omega) (fun x => ⟨rfl, rfl⟩) (fun _ _ => True) hb (fun f ecs de p _ hlt he => by
  obtain ⟨n, rfl, hn⟩ := trod_int Tryz.underlying3 he
  refine ⟨n, ?_, trivial⟩
  show RpL rho0 w [.int .i64 n] _
  simp only [RpL, Rp]
  exact ⟨_, _, rfl, ⟨rfl, hn⟩, rfl⟩) (fun _ _ _ _ h => h) h
 exact ⟨v, xs, k0, hs, by omega⟩
end
end Go.Proofs.YtebmlojhdnldgaaGreatDoor
