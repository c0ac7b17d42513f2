/-
  MR4: the texts Lrt Ccd Ccl Cfc Hrp Cfd Ddp Hen Hk Hs Hrn Cfe Cvd Cve Nrd Cff Nrp Dfo Ho Hw Hx Hy Hz Ha, one behind the other.
-/
import Derived.Test.YtgloldepdhgfaaaGreatDoorMR3
namespace Go.Proofs.YtgloldepdhgfaaaGreatDoor
set_option linter.unusedSimpArgs false
set_option linter.unusedVariables false
set_option maxHeartbeats 10000000
set_option maxRecDepth 20000
open Go.RowKit
attribute [local simp] Qb Qc Xd Xm opD Qp Ql Qi Qk hOf Wz Xn Xk TK.isAgg TK.known Xf Xe Wt Qr D.ofV inB Wm Xc binX binD binE Xl bndD capB IntKind.min IntKind.max IntKind.signed IntKind.bits Wx late
theorem isNaN_spec (x : Int) : Qt Tryz.prog glob 231 [.int .i64 x] [] (fun o _ => o.fgt = .ret (.bool false)) := by
 refine Qt.movd Qe (Qq Wb Tryz.func231 rfl (Qy _ _ Tryz.func231 rfl (by decide)) rfl rfl ?_)
 (refine sR fun K hK => ?_; ((repeat (rw [Qa]; simp)); (try simp only [zs])); refine hK _ _ _ ?_; clear hK K)
 (refine sR fun K hK => ?_; ((repeat (rw [Qa]; simp)); (try simp only [zs])); refine hK _ _ _ ?_; clear hK K)
 (refine Qj ?_; (try simp only [zs]); refine Wc.ret rfl (.inl ?_); simp [Qp, Out.fgt, D.fgt, D.fgts])
def cmpI (x y : Int) : Int := if x < y then -1 else if y < x then 1 else 0
theorem compare_spec (x y : Int) : Qt Tryz.prog glob 220 [.int .i64 x, .int .i64 y] [] (fun o _ => o.fgt = .ret (.int .i64 (cmpI x y))) := by
 refine Qt.movd Qe (Qq Wb Tryz.func220 rfl (Qy _ _ Tryz.func220 rfl (by decide)) rfl rfl ?_)
 (refine sR fun K hK => ?_; ((repeat (rw [Qa]; simp)); (try simp only [zs])); refine hK _ _ _ ?_; clear hK K)
 (refine sR fun K hK => ?_; ((repeat (rw [Qa]; simp)); (try simp only [zs])))
 refine cXp (isNaN_spec x) ?_
 ((try simp only [Qb, Qc, Ql, Qi, Qk]); (repeat (rw [Qa]; simp)); (try simp only [zs]))
 (refine hK _ _ _ ?_; clear hK K)
 (refine sR fun K hK => ?_; ((repeat (rw [Qa]; simp)); (try simp only [zs])))
 refine cXp (isNaN_spec y) ?_
 ((try simp only [Qb, Qc, Ql, Qi, Qk]); (repeat (rw [Qa]; simp)); (try simp only [zs]))
 (refine hK _ _ _ ?_; clear hK K)
 refine Qf fun K1 hK1 => ?_
 (refine sR fun K hK => ?_; ((repeat (rw [Qa]; simp)); (try simp only [zs])); refine hK _ _ _ ?_; clear hK K)
 refine wpD_part rfl (fun h => by simp at h) (fun _ => Qs (hK1 _ _ _ ?_))
 clear hK1 K1
 refine Qf fun K1 hK1 => ?_
 (refine sR fun K hK => ?_; ((repeat (rw [Qa]; simp)); (try simp only [zs])); refine hK _ _ _ ?_; clear hK K)
 refine wpD_part rfl (fun h => by simp at h) (fun _ => Qs (hK1 _ _ _ ?_))
 clear hK1 K1
 refine Qf fun K1 hK1 => ?_
 (refine sR fun K hK => ?_; ((repeat (rw [Qa]; simp)); (try simp only [zs])); refine hK _ _ _ ?_; clear hK K)
 refine wpD_part rfl (fun h => ?_) (fun h => Qs (hK1 _ _ _ ?_))
 ·(refine sR fun K hK => ?_; ((repeat (rw [Qa]; simp)); (try simp only [zs])); refine hK _ _ _ ?_; clear hK K)
  (refine Qj ?_; (try simp only [zs]); refine Wc.ret rfl (.inl ?_); simp [Qp, Out.fgt, D.fgt, D.fgts])
  simp [cmpI, show x < y by simpa using h]
 ·clear hK1 K1
  replace h : ¬ x < y := by simpa using h
  refine Qf fun K1 hK1 => ?_
  (refine sR fun K hK => ?_; ((repeat (rw [Qa]; simp)); (try simp only [zs])); refine hK _ _ _ ?_; clear hK K)
  refine wpD_part rfl (fun h2 => ?_) (fun h2 => Qs (hK1 _ _ _ ?_))
  ·(refine sR fun K hK => ?_; ((repeat (rw [Qa]; simp)); (try simp only [zs])); refine hK _ _ _ ?_; clear hK K)
   (refine Qj ?_; (try simp only [zs]); refine Wc.ret rfl (.inl ?_); simp [Qp, Out.fgt, D.fgt, D.fgts])
   simp [cmpI, h, show y < x by simpa using h2]
  ·clear hK1 K1
   (refine sR fun K hK => ?_; ((repeat (rw [Qa]; simp)); (try simp only [zs])); refine hK _ _ _ ?_; clear hK K)
   (refine Qj ?_; (try simp only [zs]); refine Wc.ret rfl (.inl ?_); simp [Qp, Out.fgt, D.fgt, D.fgts])
   simp [cmpI, h, show ¬ y < x by simpa using h2]
def orI : List Int -> Int
 | [] => 0
 | x :: r => if x = 0 then orI r else x
theorem or_spec (l : List Int) (hl : l.length <= Wd) : Qt Tryz.prog glob 219 [Ints l] [] (fun o _ => o.fgt = .ret (.int .i64 (orI l))) := by
 unfold Wd at hl
 refine Qt.movd Qe (Qq Wb Tryz.func219 rfl (Qy _ _ Tryz.func219 rfl (by decide)) rfl rfl ?_)
 unfold Ints
 (refine sR fun K hK => ?_; ((repeat (rw [Qa]; simp)); (try simp only [zs])); refine hK _ _ _ ?_; clear hK K)
 (refine sR fun K hK => ?_; ((repeat (rw [Qa]; simp)); (try simp only [zs])); refine hK _ _ _ ?_; clear hK K)
 refine Qf fun K1 hK1 => ?_
 (refine sR fun K hK => ?_; ((repeat (rw [Qa]; simp)); (try simp only [zs])); refine hK _ _ _ ?_; clear hK K)
 refine Xh ?_
 refine wpD_loopW [2, 5, 8, 9, 10, 11, 12, 13, 14, 15, 16] (fun n ys hl => ∃ (k : Nat) (x2 x5 x9 x10 x11 x12 x13 x14 x15 x16 : D), ys = [x2, x5, .int .i64 k, x9, x10, x11, x12, x13, x14, x15, x16] /\ n + k = l.length /\ orI l = orI (l.drop k) /\ hl = []) (l.length) (by kernel_rfl) ?_ ?_
 ·exact ⟨0, _, _, _, _, _, _, _, _, _, _, rfl, rfl, rfl, rfl⟩
 ·rintro n ys hl A hA ⟨k, x2, x5, x9, x10, x11, x12, x13, x14, x15, x16, rfl, hn, hi, rfl⟩
  simp only [Qr, List.set]
  (refine sR fun K hK => ?_; ((repeat (rw [Qa]; simp)); (try simp only [zs])); refine hK _ _ _ ?_; clear hK K)
  refine Qf fun K2 hK2 => ?_
  refine wpD_part rfl (fun hk => ?_) (fun hk => ?_)
  ·replace hk : k < l.length := by simpa using hk
   refine Qs (hK2 _ _ _ ?_)
   clear hK2 K2
   refine Qf fun K3 hK3 => ?_
   refine Xh ?_
   (refine sR fun K hK => ?_; ((repeat (rw [Qa]; simp [hk])); (try simp only [zs])); refine hK _ _ _ ?_; clear hK K)
   (refine sR fun K hK => ?_; ((repeat (rw [Qa]; simp)); (try simp only [zs])); refine hK _ _ _ ?_; clear hK K)
   refine wpD_part rfl (fun hb => ?_) (fun hb => ?_)
   ·(refine sR fun K hK => ?_; ((repeat (rw [Qa]; simp)); (try simp only [zs])); refine hK _ _ _ ?_; clear hK K)
    (refine Qj ?_; (try simp only [zs]); refine Wc.ret rfl (.inl ?_); simp [Qp, Out.fgt, D.fgt, D.fgts])
    rw [hi, List.drop_eq_getElem_cons hk, orI, if_neg (by simpa using hb)]
   ·refine Qs (hK3 _ _ _ ?_)
    clear hK3 K3
    have hw : IntKind.i64.wrap ((k : Int) + 1) = (k : Int) + 1 := i64w (by omega) (by omega)
    (refine Qz Wb ?_; ((repeat (rw [Qa]; simp [hw])); (try simp only [zs])))
    refine hA (n - 1) _ _ (by omega) (by kernel_rfl) ?_
    exact ⟨k + 1, _, _, _, _, _, _, _, _, _, _, rfl, by omega, by rw [hi, List.drop_eq_getElem_cons hk, orI, if_pos (by simpa using hb)], rfl⟩
  ·refine wpD_exit (hK1 _ _ _ ?_)
   (refine sR fun K hK => ?_; ((repeat (rw [Qa]; simp)); (try simp only [zs])); refine hK _ _ _ ?_; clear hK K)
   (refine Qj ?_; (try simp only [zs]); refine Wc.ret rfl (.inl ?_); simp [Qp, Out.fgt, D.fgt, D.fgts])
   rw [hi, List.drop_eq_nil_of_le (by simpa using hk), orI]
def sortedB : LV -> Bool
 | [] => true
 | [_] => true
 | a :: b :: r => decide (a.1 < b.1) && sortedB (b :: r)
theorem sortedB_iff : ∀ l : LV, sortedB l = true ↔ ∀ i (h : i + 1 < l.length), (l[i]'(by omega)).1 < l[i + 1].1
 | [] => by simp [sortedB]
 | [_] => by simp [sortedB]
 | a :: b :: r => by
  rw [sortedB, Bool.and_eq_true, decide_eq_true_eq, sortedB_iff (b :: r)]
  constructor
  ·rintro ⟨h1, h2⟩ i h
   cases i with
   | zero => exact h1
   | succ i => exact h2 i (by simpa using h)
  ·intro h
   exact ⟨h 0 (by simp), fun i hi => h (i + 1) (by simpa using hi)⟩
def partBad (n : Int) (p : Int × Int) : Bool := decide (p.1 < 0) || decide (n < p.1) || decide (p.2 < 0) || decide (1000 < p.2)
def levelRight (l : LV) (n : Int) : Bool := sortedB l && decide (l.length <= 9) && !(l.any (partBad n))
def risesI (p q : Int × Int) : Int := orI [cmpI p.1 q.1, -1]
theorem risesI_neg (p q : Int × Int) : risesI p q < 0 ↔ ¬ q.1 < p.1 := by
 unfold risesI cmpI
 by_cases h1 : p.1 < q.1
 ·simp [h1, orI]; omega
 ·by_cases h2 : q.1 < p.1 <;> simp [h1, h2, orI]
theorem right1_spec (p q : Int × Int) : Qt Tryz.prog glob 218 [Xq p, Xq q] [] (fun o _ => o.fgt = .ret (.int .i64 (risesI p q))) := by
 refine Qt.movd Qe (Qq Wb Tryz.func218 rfl (Qy _ _ Tryz.func218 rfl (by decide)) rfl rfl ?_)
 (refine sR fun K hK => ?_; ((repeat (rw [Qa]; simp)); (try simp only [zs])); refine hK _ _ _ ?_; clear hK K)
 (refine sR fun K hK => ?_; ((repeat (rw [Qa]; simp)); (try simp only [zs])))
 refine cXp (compare_spec p.1 q.1) ?_
 ((try simp only [Qb, Qc, Ql, Qi, Qk]); (repeat (rw [Qa]; simp)); (try simp only [zs]))
 refine Xi.pure Qe (or_spec [cmpI p.1 q.1, -1] (by simp [Wd])) ?_ (by simp [D.fgts, D.fgt, Ints]) (by simp [D.pures, D.pure, Cp.free, D.pures_map, Ints]) (by simp [Out.pure, D.pure, D.pures, Cp.free, D.pures_map, Ints])
 ((try simp only [Qb, Qc, Ql, Qi, Qk]); (repeat (rw [Qa]; simp)); (try simp only [zs]))
 (refine hK _ _ _ ?_; clear hK K)
 (refine Qj ?_; (try simp only [zs]); refine Wc.ret rfl (.inl ?_); simp [Qp, Out.fgt, D.fgt, D.fgts])
 rfl
theorem right2_spec (n : Int) (p : Int × Int) : Qt Tryz.prog glob 221 [Xq p, .ref (.int .i64 n)] [] (fun o _ => o.fgt = .ret (.bool (partBad n p))) := by
 refine Qt.movd Qe (Qq Wb Tryz.func221 rfl (Qy _ _ Tryz.func221 rfl (by decide)) rfl rfl ?_)
 (refine sR fun K hK => ?_; ((repeat (rw [Qa]; simp)); (try simp only [zs])); refine hK _ _ _ ?_; clear hK K)
 by_cases h1 : p.1 < 0
 ·(refine sR fun K hK => ?_; ((repeat (rw [Qa]; simp [h1])); (try simp only [zs])); refine hK _ _ _ ?_; clear hK K)
  (refine Qj ?_; (try simp only [zs]); refine Wc.ret rfl (.inl ?_); simp [Qp, Out.fgt, D.fgt, D.fgts])
  simp [partBad, h1]
 ·by_cases h2 : n < p.1
  ·(refine sR fun K hK => ?_; ((repeat (rw [Qa]; simp [h1, h2])); (try simp only [zs])); refine hK _ _ _ ?_; clear hK K)
   (refine Qj ?_; (try simp only [zs]); refine Wc.ret rfl (.inl ?_); simp [Qp, Out.fgt, D.fgt, D.fgts])
   simp [partBad, h2]
  ·by_cases h3 : p.2 < 0
   ·(refine sR fun K hK => ?_; ((repeat (rw [Qa]; simp [h1, h2, h3])); (try simp only [zs])); refine hK _ _ _ ?_; clear hK K)
    (refine Qj ?_; (try simp only [zs]); refine Wc.ret rfl (.inl ?_); simp [Qp, Out.fgt, D.fgt, D.fgts])
    simp [partBad, h3]
   ·(refine sR fun K hK => ?_; ((repeat (rw [Qa]; simp [h1, h2, h3])); (try simp only [zs])); refine hK _ _ _ ?_; clear hK K)
    (refine Qj ?_; (try simp only [zs]); refine Wc.ret rfl (.inl ?_); simp [Qp, Out.fgt, D.fgt, D.fgts])
    simp [partBad, h1, h2, h3]
theorem isSorted_spec (l : LV) (hl : l.length <= Wd) : Qt Tryz.prog glob 217 [Ps l, .fn (.func 218) [] []] [] (fun o _ => o.fgt = .ret (.bool (sortedB l))) := by
 unfold Wd at hl
 refine Qt.movd Qe (Qq Wb Tryz.func217 rfl (Qy _ _ Tryz.func217 rfl (by decide)) rfl rfl ?_)
 unfold Ps
 (refine sR fun K hK => ?_; ((repeat (rw [Qa]; simp)); (try simp only [zs])); refine hK _ _ _ ?_; clear hK K)
 have hw : IntKind.i64.wrap ((l.length : Int) - 1) = (l.length : Int) - 1 := i64w (by omega) (by omega)
 refine Qf fun K1 hK1 => ?_
 (refine sR fun K hK => ?_; ((repeat (rw [Qa]; simp [hw])); (try simp only [zs])); refine hK _ _ _ ?_; clear hK K)
 refine Xh ?_
 refine wpD_loopW [4, 5, 9, 10, 11, 12, 13, 14, 15, 16, 17, 18, 19, 20, 21, 22, 23, 24] (fun n ys hl => ∃ (k : Int) (x4 x9 x10 x11 x12 x13 x14 x15 x16 x17 x18 x19 x20 x21 x22 x23 x24 : D), ys = [x4, .int .i64 k, x9, x10, x11, x12, x13, x14, x15, x16, x17, x18, x19, x20, x21, x22, x23, x24] /\ (k < n /\ k < l.length /\ -1 <= k) /\ (∀ i (h : i + 1 < l.length), k <= i -> (l[i]'(by omega)).1 < l[i + 1].1) /\ hl = []) (l.length) (by kernel_rfl) ?_ ?_
 ·exact ⟨(l.length : Int) - 1, _, _, _, _, _, _, _, _, _, _, _, _, _, _, _, _, _, rfl, by omega, fun i h hi => by omega, rfl⟩
 ·rintro n ys hl A hA ⟨k, x4, x9, x10, x11, x12, x13, x14, x15, x16, x17, x18, x19, x20, x21, x22, x23, x24, rfl, hn, hi, rfl⟩
  simp only [Qr, List.set]
  refine Qf fun K2 hK2 => ?_
  refine Qf fun K3 hK3 => ?_
  (refine Qz Wb ?_; ((repeat (rw [Qa]; simp)); (try simp only [zs])))
  refine hK3 _ _ _ ?_
  clear hK3 K3
  refine wpD_part rfl (fun hk => ?_) (fun hk => ?_)
  ·replace hk : 0 < k := by simpa using hk
   refine Qs (hK2 _ _ _ ?_)
   clear hK2 K2
   refine Qf fun K3 hK3 => ?_
   refine Xh ?_
   obtain ⟨j, hjk⟩ : ∃ j : Nat, k = j + 1 := ⟨(k - 1).toNat, by omega⟩
   have hj : j + 1 < l.length := by omega
   have hj' : j < l.length := by omega
   have hw1 : IntKind.i64.wrap (k - 1) = j := by rw [i64w (by omega) (by omega)]; omega
   have e1 : k.toNat = j + 1 := by omega
   have e2 : 0 <= k := by omega
   (refine Qf fun K hK => ?_; refine dR fun KT hKT => ?_; ((repeat (rw [Qh]; simp [e1, e2, hj, hj', hw1, Xq])); (try simp only [Qm])))
   refine CallY.pure Qe (right1_spec (l[j + 1]) (l[j])) ?_ (by simp [D.fgts, D.fgt, Xq]) (by simp [D.pures, D.pure, Cp.free, D.pures_map, Xq]) (by simp [Out.pure, D.pure, D.pures, Cp.free, D.pures_map, Xq])
   ((try simp only [Qn, Qo, Ql, Qi, Qk]); (repeat (rw [Qh]; simp)); (try simp only [Qm]))
   (refine hKT _ _ _ _ (by kernel_rfl) ?_; clear hKT KT; (try simp only [zs]))
   (refine hK _ _ _ ?_; clear hK K)
   have hr := risesI_neg l[j + 1] l[j]
   refine wpD_part rfl (fun hb => ?_) (fun hb => ?_)
   ·replace hb : ¬ (l[j].1 < l[j + 1].1) := by rw [<- hr]; simpa using hb
    (refine sR fun K hK => ?_; ((repeat (rw [Qa]; simp)); (try simp only [zs])); refine hK _ _ _ ?_; clear hK K)
    (refine Qj ?_; (try simp only [zs]); refine Wc.ret rfl (.inl ?_); simp [Qp, Out.fgt, D.fgt, D.fgts])
    cases hs : sortedB l with
    | false => rfl
    | true => exact absurd (sortedB_iff l |>.1 hs j hj) hb
   ·replace hb : l[j].1 < l[j + 1].1 := by
     have : ¬ (risesI l[j + 1] l[j] < 0) := by simpa using hb
     rw [hr] at this
     omega
    refine Qs (hK3 _ _ _ ?_)
    clear hK3 K3
    have hw1 : IntKind.i64.wrap (k - 1) = k - 1 := i64w (by omega) (by omega)
    (refine Qz Wb ?_; ((repeat (rw [Qa]; simp [hw1])); (try simp only [zs])))
    refine hA (n - 1) _ _ (by omega) (by kernel_rfl) ?_
    refine ⟨k - 1, _, _, _, _, _, _, _, _, _, _, _, _, _, _, _, _, _, rfl, by omega, fun i h hi2 => ?_, rfl⟩
    by_cases hij : i = j
    ·subst hij; exact hb
    ·exact hi i h (by omega)
  ·replace hk : ¬ 0 < k := by simpa using hk
   refine wpD_exit ?_
   refine hK1 _ _ _ ?_
   (refine sR fun K hK => ?_; ((repeat (rw [Qa]; simp)); (try simp only [zs])); refine hK _ _ _ ?_; clear hK K)
   (refine Qj ?_; (try simp only [zs]); refine Wc.ret rfl (.inl ?_); simp [Qp, Out.fgt, D.fgt, D.fgts])
   exact (sortedB_iff l).2 fun i h => hi i h (by omega)
theorem levelRight_spec (l : LV) (n : Int) (hl : l.length <= Wd) : Qt Tryz.prog glob 200 [Wp l, .int .i64 n] [] (fun o _ => o.fgt = .ret (.bool (levelRight l n))) := by
 have hl' := hl
 unfold Wd at hl'
 refine Qt.movd Qe (Qq Wb Tryz.func200 rfl (Qy _ _ Tryz.func200 rfl (by decide)) rfl rfl ?_)
 (refine sR fun K hK => ?_; ((repeat (rw [Qa]; simp)); (try simp only [zs])); refine hK _ _ _ ?_; clear hK K)
 (refine sR fun K hK => ?_; ((repeat (rw [Qa]; simp)); (try simp only [zs])))
 refine Xi.pure Qe (isSorted_spec l hl) ?_ (by simp [D.fgts, D.fgt, Ps]) (by simp [D.pures, D.pure, Cp.free, D.pures_map, Ps]) (by simp [Out.pure, D.pure, D.pures, Cp.free, D.pures_map, Ps])
 ((try simp only [Qb, Qc, Ql, Qi, Qk]); (repeat (rw [Qa]; simp)); (try simp only [zs]))
 (refine hK _ _ _ ?_; clear hK K)
 (refine wpD_stay (T := Wa) 1 (ty := 3) (ds := [.int .i64 n]) rfl rfl (by first | exact ⟨rfl, .inr ⟨_, rfl, rfl⟩⟩ | exact ⟨rfl, .inl rfl⟩) ?_; simp [D.frzs, D.frz, HO.frz, dfFrz, refOf, TK.isAgg, FK.isB, FK.isM, FK.isO, D.isLen])
 cases hs : sortedB l with
 | false =>
  (refine sR fun K hK => ?_; ((repeat (rw [Qa]; simp)); (try simp only [zs])); refine hK _ _ _ ?_; clear hK K)
  (refine Qj ?_; (try simp only [zs]); refine Wc.ret rfl (.inl ?_); simp [Qp, Out.fgt, D.fgt, D.fgts])
  simp [levelRight, hs]
 | true =>
  by_cases h9 : l.length <= 9
  ·have h9' : (l.length : Int) <= 9 := by omega
   (refine sR fun K hK => ?_; ((repeat (rw [Qa]; simp [h9, h9'])); (try simp only [zs])))
   refine cXp (containsFuncP_spec l (partBad n) _ [.ref (.int .i64 n)] rfl rfl hl fun p _ => right2_spec n p) ?_
   ((try simp only [Qb, Qc, Ql, Qi, Qk]); (repeat (rw [Qa]; simp)); (try simp only [zs]))
   (refine hK _ _ _ ?_; clear hK K)
   (refine Qj ?_; (try simp only [zs]); refine Wc.ret rfl (.inl ?_); simp [Qp, Out.fgt, D.fgt, D.fgts])
   simp [levelRight, hs, h9]
  ·have h9' : ¬ (l.length : Int) <= 9 := by omega
   (refine sR fun K hK => ?_; ((repeat (rw [Qa]; simp [h9, h9'])); (try simp only [zs])); refine hK _ _ _ ?_; clear hK K)
   (refine Qj ?_; (try simp only [zs]); refine Wc.ret rfl (.inl ?_); simp [Qp, Out.fgt, D.fgt, D.fgts])
   simp [levelRight, hs, h9]
end Go.Proofs.YtgloldepdhgfaaaGreatDoor
namespace Go.Proofs.YtgloldepdhgfaaaGreatDoor
set_option linter.unusedSimpArgs false
set_option linter.unusedVariables false
open Go.RowKit
def bareB (t : T) : Bool := decide (t.n = 0) && decide (t.a = 0) && decide (t.ls = [])
def variableB (sc : Int) (t : T) : Bool := decide (0 <= t.n) && decide (t.n < sc) && decide (t.a = 0) && decide (t.ls = [])
def finB (t : T) : Bool := decide (0 <= t.n) && decide (t.a = 0) && decide (t.ls = [])
def elemB (t : T) : Bool := decide (0 <= t.n) && decide (t.n < t.a) && decide (t.ls = [])
def branchesB (t : T) : Bool := decide (t.n = 0) && decide (0 <= t.a) && decide (t.ls = [])
def sortB (n : Int) (t : T) : Bool := decide (t.n = 0) && decide (t.a = 0) && decide (t.ls.length = 1) && (t.ls.all fun l => levelRight l n)
def constB (n : Int) (cs : List Int) (t : T) : Bool := decide (0 <= t.n) && decide (t.n < cs.length) && decide (t.a = 0) && decide ((t.ls.length : Int) = cs.getD t.n.toNat 0) && (t.ls.all fun l => levelRight l n)
def askC (n sc : Int) (cs : List Int) (t : T) : Bool :=
 if t.k = 1 then variableB sc t else if t.k = 2 then sortB n t else if t.k = 3 then constB n cs t else if t.k = 22 then finB t else if t.k = 23 then elemB t else if t.k = 24 then branchesB t else bareB t
def askN (k a : Int) : Int :=
 if k = 7 \/ k = 19 then 3 else if k = 14 \/ k = 15 then 1 else if k = 18 then 5 else if k = 21 then 6 else if k = 24 then IntKind.i64.wrap (a + 2) else if k = 1 \/ k = 2 \/ k = 3 \/ k = 20 \/ k = 22 \/ k = 23 then 0 else 2
def inCore (k : Int) : Bool := (decide (1 <= k) && decide (k <= 7)) || (decide (12 <= k) && decide (k <= 24))
def nodeB (n sc : Int) (cs : List Int) (t : T) : Bool := inCore t.k && askC n sc cs t && decide ((t.ks.length : Int) = askN t.k t.a)
mutual
def coreB (n : Int) (cs : List Int) : T -> Int -> Bool
 | .mk k m a ls ks, sc => nodeB n sc cs (.mk k m a ls ks) && coreKs n cs ks k 0 sc
def coreKs (n : Int) (cs : List Int) : List T -> Int -> Nat -> Int -> Bool
 | [], _, _, _ => true
 | t :: r, k, i, sc => coreB n cs t (Xu sc k i) && coreKs n cs r k (i + 1) sc
end
def rightB (n sc : Int) (cs : List Int) (t : T) : Bool := decide (0 <= n) && decide (0 <= sc) && coreB n cs t sc
theorem coreKs_iff {n : Int} {cs : List Int} {k sc : Int} : ∀ {ks : List T} {i : Nat}, coreKs n cs ks k i sc = true ↔ ∀ j (h : j < ks.length), coreB n cs ks[j] (Xu sc k ((i + j : Nat) : Int)) = true
 | [], i => by rw [coreKs]; simp
 | t :: r, i => by
  rw [coreKs, Bool.and_eq_true, coreKs_iff (ks := r)]
  constructor
  ·rintro ⟨h1, h2⟩ j hj
   cases j with
   | zero => exact h1
   | succ j =>
    have := h2 j (by simpa using hj)
    rw [show i + 1 + j = i + (j + 1) by omega] at this
    exact this
  ·intro h
   refine ⟨h 0 (by simp), fun j hj => ?_⟩
   have := h (j + 1) (by simpa using hj)
   rw [show i + (j + 1) = i + 1 + j by omega] at this
   exact this
theorem core_mk {n : Int} {cs : List Int} {k m a : Int} {ls : List LV} {ks : List T} {sc : Int} : coreB n cs (.mk k m a ls ks) sc = true ↔ nodeB n sc cs (.mk k m a ls ks) = true /\ ∀ j (h : j < ks.length), coreB n cs ks[j] (Xu sc k (j : Int)) = true := by
 rw [coreB, Bool.and_eq_true, coreKs_iff]
 simp only [Nat.zero_add]
theorem belowD_in {d k i : Int} (h : -1000000000000000 <= d) (h2 : d <= 1000000000000000) : Xu d k i = if Ww k i then d + 1 else d := by
 unfold Xu
 split
 ·rw [i64w (by omega) (by omega)]
 ·rfl
theorem belowD_le {d k i : Int} (h : -1000000000000000 <= d) (h2 : d <= 1000000000000000) : d <= Xu d k i /\ Xu d k i <= d + 1 := by
 rw [belowD_in h h2]; split <;> omega
theorem node_iff {n sc : Int} {cs : List Int} {t : T} : nodeB n sc cs t = true ↔ inCore t.k = true /\ askC n sc cs t = true /\ (t.ks.length : Int) = askN t.k t.a := by
 unfold nodeB
 simp only [Bool.and_eq_true, decide_eq_true_eq, and_assoc]
theorem variableB_iff {sc : Int} {t : T} : variableB sc t = true ↔ 0 <= t.n /\ t.n < sc /\ t.a = 0 /\ t.ls = [] := by
 unfold variableB
 simp only [Bool.and_eq_true, decide_eq_true_eq, and_assoc]
def ConstsLe (cs cs' : List Int) : Prop := cs.length <= cs'.length /\ ∀ i, i < cs.length -> cs'.getD i 0 = cs.getD i 0
theorem ConstsLe.refl (cs : List Int) : ConstsLe cs cs := ⟨Nat.le_refl _, fun _ _ => rfl⟩
theorem ConstsLe.append (cs more : List Int) : ConstsLe cs (cs ++ more) := by
 refine ⟨by simp, fun i hi => ?_⟩
 rw [List.getD_eq_getElem?_getD, List.getD_eq_getElem?_getD, List.getElem?_append_left hi]
def ScOk (sc : Int) (t : T) : Prop := 0 <= sc /\ sc + t.deep <= 1000000000000000
theorem ScOk.kid {sc k m a : Int} {ls : List LV} {ks : List T} (h : ScOk sc (.mk k m a ls ks)) {t : T} (ht : t ∈ ks) (i : Int) : ScOk (Xu sc k i) t := by
 have h1 := T.deep_kid (k := k) (n := m) (a := a) (ls := ls) ht
 obtain ⟨h2, h3⟩ := h
 have := belowD_le (d := sc) (k := k) (i := i) (by omega) (by omega)
 unfold ScOk
 omega
theorem walks_get {f : Turn} {k d : Int} {ks : List T} {i : Nat} : ∀ {j : Nat} (h : j < (T.walks f k ks i d).length) (h' : j < ks.length), (T.walks f k ks i d)[j] = T.walk f ks[j] (Xu d k ((i + j : Nat) : Int)) := by
 induction ks generalizing i with
 | nil => intro j h h'; simp at h'
 | cons t r ih =>
  intro j h h'
  cases j with
  | zero => simp only [T.walks, List.getElem_cons_zero]; rfl
  | succ j =>
   have hr : j < r.length := by simpa using h'
   simp only [T.walks, List.getElem_cons_succ]
   rw [ih (by rw [T.walks_length]; exact hr) hr, show i + 1 + j = i + (j + 1) by omega]
theorem walks_get0 {f : Turn} {k d : Int} {ks : List T} {j : Nat} (h : j < (T.walks f k ks 0 d).length) : (T.walks f k ks 0 d)[j] = T.walk f (ks[j]'(by rw [T.walks_length] at h; exact h)) (Xu d k (j : Int)) := by
 rw [walks_get h (by rw [T.walks_length] at h; exact h), Nat.zero_add]
def lowL (most : Int) (l : LV) : Bool := l.all fun p => decide (p.2 <= most)
mutual
def T.lowB (most : Int) : T -> Bool
 | .mk _ _ _ ls ks => ls.all (lowL most) && T.lowsB most ks
def T.lowsB (most : Int) : List T -> Bool
 | [] => true
 | t :: r => T.lowB most t && T.lowsB most r
end
theorem rightB_iff {n sc : Int} {cs : List Int} {t : T} : rightB n sc cs t = true ↔ 0 <= n /\ 0 <= sc /\ coreB n cs t sc = true := by
 unfold rightB; simp [and_assoc]
def wsN (k n a : Int) (len sc : Nat) : Prop := inCore k = true /\ (k = 1 -> 0 <= n /\ n < sc) /\ (len : Int) = askN k a /\ (k = 24 -> 0 <= a)
inductive Ws : T -> Nat -> Prop where
 | mk {k n a : Int} {ls : List LV} {ks : List T} {sc : Nat} (h : wsN k n a ks.length sc) (hk : ∀ i, i < ks.length -> Ws (ks.getD i Wh) (up1 sc k i)) : Ws (.mk k n a ls ks) sc
theorem Ws.node {t : T} {sc : Nat} (h : Ws t sc) : wsN t.k t.n t.a t.ks.length sc := by cases h; assumption
theorem Ws.kid {t : T} {sc : Nat} (h : Ws t sc) {i : Nat} (hi : i < t.ks.length) : Ws (t.kid i) (up1 sc t.k i) := by cases h with | mk h hk => exact hk i hi
theorem ws_len {t : T} {sc : Nat} (h : Ws t sc) : (t.ks.length : Int) = askN t.k t.a := h.node.2.2.1
theorem ws_lift {t : T} {sc : Nat} (h : Ws t sc) (n : Nat) : ∀ c, c <= sc -> Ws (t.liftI n c) (sc + n) := by
 induction h with
 | @mk k m a ls ks sc h hk ih =>
  intro c hc
  rw [T.liftI]
  obtain ⟨h1, h2, h3, h4⟩ := h
  refine .mk ⟨h1, fun e => ?_, by rw [liftsI_len]; exact h3, h4⟩ fun i hi => ?_
  ·have := h2 e
   split <;> omega
  ·rw [liftsI_len] at hi
   rw [liftsI_getD, Nat.zero_add, up1_add]
   exact ih i hi _ (up1_le hc k i)
theorem ws_mono {t : T} {sc : Nat} (h : Ws t sc) : ∀ {sc' : Nat}, sc <= sc' -> Ws t sc' := by
 induction h with
 | @mk k m a ls ks sc h hk ih =>
  intro sc' hc
  exact .mk ⟨h.1, fun e => by have := h.2.1 e; omega, h.2.2.1, h.2.2.2⟩ fun i hi => ih i hi (up1_le hc k i)
theorem ws_put {x t : T} {sc' : Nat} (h : Ws t sc') : ∀ {sc d : Nat}, sc' = sc + 1 -> d <= sc -> Ws x (sc - d) -> Ws (T.putI x t d) sc := by
 induction h with
 | @mk k m a ls ks sc' h hk ih =>
  intro sc d e hd hx
  subst e
  obtain ⟨h1, h2, h3, h4⟩ := h
  by_cases hh : k = 1 /\ m = (d : Int)
  ·obtain ⟨rfl, rfl⟩ := hh
   rw [putI_hit]
   have := ws_lift hx d 0 (Nat.zero_le _)
   rwa [Nat.sub_add_cancel hd] at this
  ·rw [T.putI, if_neg hh]
   refine .mk ⟨h1, fun e => ?_, by rw [putsI_len]; exact h3, h4⟩ fun i hi => ?_
   ·have := h2 e
    have hm : ¬ m = (d : Int) := fun e2 => hh ⟨e, e2⟩
    split
    ·omega
    ·rename_i hn
     have : ¬ (d : Int) < m := fun e2 => hn ⟨e, e2⟩
     omega
   ·rw [putsI_len] at hi
    rw [putsI_getD, Nat.zero_add]
    refine ih i hi (by rw [up1_add]) (up1_le hd k i) ?_
    have : up1 sc k i - up1 d k i = sc - d := by unfold up1; split <;> omega
    rw [this]; exact hx
theorem ws_closed {t : T} {sc : Nat} (h : Ws t sc) : (∀ n c, sc <= c -> t.liftI n c = t) /\ ∀ x d, sc <= d -> T.putI x t d = t := by
 induction h with
 | @mk k m a ls ks sc h hk ih =>
  constructor
  ·intro n c hc
   rw [T.liftI, if_neg (by rintro ⟨e1, e2⟩; have := h.2.1 e1; omega)]
   rw [getD_ext (a := ks) (liftsI_len _ _ _ _ _) fun i hi => by
    rw [liftsI_getD, Nat.zero_add]; exact (ih i hi).1 n _ (up1_le hc k i)]
  ·intro x d hd
   rw [T.putI, if_neg (by rintro ⟨e1, e2⟩; have := h.2.1 e1; omega), if_neg (by rintro ⟨e1, e2⟩; have := h.2.1 e1; omega)]
   rw [getD_ext (a := ks) (putsI_len _ _ _ _ _) fun i hi => by
    rw [putsI_getD, Nat.zero_add]; exact (ih i hi).2 x _ (up1_le hd k i)]
def SB : Nat := 1099511627776
theorem deep_kid' {k n a : Int} {ls : List LV} {ks : List T} {i : Nat} (hi : i < ks.length) : (ks.getD i Wh).deep + 1 <= (T.mk k n a ls ks).deep := by
 rw [getD_in hi]; exact T.deep_kid (List.getElem_mem hi)
theorem belowD_up1 {d : Nat} (k : Int) (i : Nat) (h : d <= 1000000000000000) : Xu (d : Int) k (i : Int) = ((up1 d k i : Nat) : Int) := by
 unfold Xu up1
 split
 ·rw [i64w (by omega) (by omega)]; push_cast; rfl
 ·rfl
theorem lift_ideal {t : T} {sc : Nat} (h : Ws t sc) (n fr : Nat) (hn : n <= SB) (hf : fr <= SB) : ∀ d : Nat, sc + t.deep <= 2 * SB -> d + t.deep <= 2 * SB -> T.walk (liftTurn n fr) t d = t.liftI n (d + fr) := by
 induction h with
 | @mk k m a ls ks sc h hk ih =>
  intro d h1 h2
  unfold SB at hn hf h1 h2
  rw [walk_lift, T.liftI]
  have e1 : liftNum n fr d k m = if k = 1 /\ ((d + fr : Nat) : Int) <= m then m + n else m := by
   unfold liftNum
   by_cases e : k = 1
   ·have := h.2.1 e
    rw [i64w (n := m - d) (by omega) (by omega), i64w (n := m + n) (by omega) (by omega)]
    by_cases e3 : ((d + fr : Nat) : Int) <= m
    ·rw [if_pos ⟨e, by push_cast at e3; omega, by push_cast at e3; omega⟩, if_pos ⟨e, e3⟩]
    ·rw [if_neg (fun h => e3 (by push_cast; omega)), if_neg (fun h => e3 h.2)]
   ·rw [if_neg (fun h => e h.1), if_neg (fun h => e h.1)]
  rw [e1]
  congr 1
  apply getD_ext (by rw [T.walks_length, liftsI_len])
  intro i hi
  rw [liftsI_len] at hi
  have hd := deep_kid' (k := k) (n := m) (a := a) (ls := ls) hi
  have h3 : i < (T.walks (liftTurn n fr) k ks 0 d).length := by rw [T.walks_length]; exact hi
  rw [getD_in h3, walks_get0 h3, liftsI_getD, Nat.zero_add, belowD_up1 k i (by omega), show up1 (d + fr) k i = up1 d k i + fr from up1_add d fr k i]
  have h4 := up1_le (Nat.le_refl sc) k i
  have h5 : up1 sc k i <= sc + 1 := by unfold up1; split <;> omega
  have h6 : up1 d k i <= d + 1 := by unfold up1; split <;> omega
  have := ih i hi (up1 d k i) (by unfold SB; omega) (by unfold SB; omega)
  rw [getD_in hi] at this ⊢
  exact this
theorem put_ideal {x t : T} {sc sx : Nat} (hx : Ws x sx) (hxd : sx + x.deep <= SB) (h : Ws t sc) : ∀ d : Nat, sc + t.deep <= SB -> d + t.deep <= SB -> T.walk (putTurn [x]) t d = T.putI x t d := by
 induction h with
 | @mk k m a ls ks sc h hk ih =>
  intro d h1 h2
  unfold SB at h1 h2
  have hks : T.walks (putTurn [x]) k ks 0 d = T.putsI x k ks 0 d := by
   apply getD_ext (by rw [T.walks_length, putsI_len])
   intro i hi
   rw [putsI_len] at hi
   have hd := deep_kid' (k := k) (n := m) (a := a) (ls := ls) hi
   have h3 : i < (T.walks (putTurn [x]) k ks 0 d).length := by rw [T.walks_length]; exact hi
   rw [getD_in h3, walks_get0 h3, putsI_getD, Nat.zero_add, belowD_up1 k i (by omega)]
   have h5 : up1 sc k i <= sc + 1 := by unfold up1; split <;> omega
   have h6 : up1 d k i <= d + 1 := by unfold up1; split <;> omega
   have := ih i hi (up1 d k i) (by unfold SB; omega) (by unfold SB; omega)
   rw [getD_in hi] at this ⊢
   exact this
  by_cases e : k = 1
  ·subst e
   have hm := h.2.1 rfl
   by_cases hd : m = (d : Int)
   ·subst hd
    rw [walk_inl (putTurn_in (t := .mk 1 (d : Int) a ls ks) ⟨rfl, by simp only [T.n_mk]; omega⟩ (by simp)), putI_hit]
    have := lift_ideal hx d 0 (by unfold SB; omega) (by unfold SB; omega) 0 (by omega) (by omega)
    unfold T.lift
    simpa using this
   ·rw [putI_miss hd]
    by_cases hlt : (d : Int) < m
    ·rw [walk_inr (putTurn_over (t := .mk 1 m a ls ks) ⟨rfl, by simp only [T.n_mk]; omega⟩ (by simp only [T.n_mk, List.length_cons, List.length_nil]; omega)), if_pos hlt, hks]
     congr 1
     simp only [T.n_mk, List.length_cons, List.length_nil]
     rw [i64w (by push_cast; omega) (by push_cast; omega)]
     push_cast; omega
    ·rw [walk_inr (putTurn_low (t := .mk 1 m a ls ks) (by rintro ⟨-, e2⟩; simp only [T.n_mk] at e2; omega)), if_neg hlt, hks]; rfl
  ·rw [walk_inr (putTurn_low (t := .mk k m a ls ks) (fun e2 => e e2.1)), putI_node e, hks]; rfl
theorem kid_at {t : T} {i : Nat} (h : i < t.ks.length) : t.kid i = t.ks[i] := by unfold T.kid; rw [List.getD_eq_getElem?_getD, List.getElem?_eq_getElem h]; rfl
theorem kid_deep {t : T} {i : Nat} (hi : i < t.ks.length) : (t.kid i).deep + 1 <= t.deep := by
 rw [kid_at hi]
 cases t with
 | mk k m a ls ks => exact T.deep_kid (List.getElem_mem hi)
theorem withK_same {ks : List T} {i many : Nat} (h : ks.length = many) : withK ks (ks.getD i Wh) i many = ks := by
 apply List.ext_getElem (by rw [withK_len, h])
 intro j h1 h2
 rw [withK_len] at h1
 have := withK_get (ks := ks) (x := ks.getD i Wh) (i := i) h1
 rw [List.getD_eq_getElem?_getD, List.getElem?_eq_getElem (by rw [withK_len]; exact h1)] at this
 simp only [Option.getD_some] at this
 rw [this]
 split
 ·rename_i e; subst e; simp [h2]
 ·simp [h2]
theorem with_same {t : T} {i many : Nat} (h : t.ks.length = many) : t.withT (t.kid i) i many = t := by
 cases t with
 | mk k n a ls ks => unfold T.withT T.kid; simp only [T.k_mk, T.n_mk, T.a_mk, T.ls_mk, T.ks_mk] at h ⊢; rw [withK_same h]
structure BodyOk (cs : List Int) (l : List C) : Prop where
 eq : cs = l.map C.lv
 lv : ∀ c, c ∈ l -> 0 <= c.lv /\ c.lv <= 8
 bo : ∀ c, c ∈ l -> c.has = true -> coreB c.lv cs c.bo 0 = true
 low : ∀ c, c ∈ l -> c.bo.lowB 400 = true
 deep : ∀ c, c ∈ l -> c.bo.deep <= 1000000
theorem ws_levels {t : T} {sc : Nat} (h : Ws t sc) (bys : List LV) : ∀ d, Ws (T.walk (levTurn bys) t d) sc := by
 induction h with
 | @mk k m a ls ks sc h hk ih =>
  intro d
  rw [walk_inr (f := levTurn bys) (x := (m, ls.map fun l => Xo (putL l bys))) rfl]
  refine .mk (by rw [T.walks_length]; exact h) fun i hi => ?_
  have hi' : i < ks.length := by rw [T.walks_length] at hi; exact hi
  rw [getD_in hi, walks_get0 hi]
  have := ih i hi' (Xu d k (i : Int))
  rw [getD_in hi'] at this
  exact this
theorem core_ws {n : Int} {cs : List Int} (t : T) : ∀ sc : Nat, sc + t.deep <= 1000000000000000 -> coreB n cs t (sc : Int) = true -> Ws t sc := by
 induction t using T.ind with
 | h k m a ls ks ih =>
  intro sc hb h
  rw [core_mk, node_iff] at h
  obtain ⟨⟨h1, h2, h3⟩, h4⟩ := h
  simp only [T.k_mk, T.ks_mk, T.a_mk] at h1 h3
  refine .mk ⟨h1, fun e => ?_, h3, fun e => ?_⟩ fun i hi => ?_
  ·subst e
   unfold askC at h2
   rw [if_pos (show (T.mk 1 m a ls ks).k = 1 from rfl), variableB_iff] at h2
   exact ⟨h2.1, h2.2.1⟩
  ·subst e
   unfold askC at h2
   rw [if_neg (show ¬ (T.mk 24 m a ls ks).k = 1 from by simp), if_neg (show ¬ (T.mk 24 m a ls ks).k = 2 from by simp), if_neg (show ¬ (T.mk 24 m a ls ks).k = 3 from by simp), if_neg (show ¬ (T.mk 24 m a ls ks).k = 22 from by simp), if_neg (show ¬ (T.mk 24 m a ls ks).k = 23 from by simp), if_pos (show (T.mk 24 m a ls ks).k = 24 from rfl)] at h2
   simp only [branchesB, Bool.and_eq_true, decide_eq_true_eq] at h2
   exact h2.1.2
  ·have h5 := h4 i hi
   have hd := T.deep_kid (k := k) (n := m) (a := a) (ls := ls) (List.getElem_mem hi)
   rw [belowD_up1 k i (by omega)] at h5
   rw [getD_in hi]
   refine ih _ (List.getElem_mem hi) _ ?_ h5
   have : up1 sc k i <= sc + 1 := by unfold up1; split <;> omega
   omega
def WsL (l : List C) : Prop := ∀ n lv b, bodyC l n lv = some b -> Ws b 0
theorem WsL.closed {l : List C} (h : WsL l) : Closed l := fun n lv b hb => by
 have := ws_closed (h n lv b hb)
 exact ⟨fun m c => this.1 m c (Nat.zero_le _), fun x d => this.2 x d (Nat.zero_le _)⟩
theorem wsL_of {l : List C} {cs : List Int} (hb : ∀ c, c ∈ l -> c.has = true -> coreB c.lv cs c.bo 0 = true) (hd : ∀ c, c ∈ l -> c.bo.deep <= 100000000) : WsL l := fun n lv b h => by
 unfold bodyC at h
 split at h
 ·rename_i h1
  split at h
  ·rename_i h2
   cases h
   have hm := List.getElem_mem h1.2
   exact ws_levels (core_ws _ 0 (by have := hd _ hm; omega) (hb _ hm h2.2)) lv 0
  ·cases h
 ·cases h
theorem spot_ws {t : T} {sc : Nat} (h : Ws t sc) {i many : Nat} (hs : spot t = some (i, many)) : t.ks.length = many /\ i < many /\ up1 sc t.k i = sc := by
 have h3 := ws_len h
 have hlt := spot_lt hs
 unfold spot at hs
 unfold askN at h3
 by_cases k6 : t.k = 6
 ·rw [if_pos k6] at hs; cases hs; rw [k6] at h3 ⊢; simp at h3; exact ⟨by omega, by omega, Wu (by kernel_rfl) _⟩
 rw [if_neg k6] at hs
 by_cases k14 : t.k = 14 \/ t.k = 15
 ·rw [if_pos k14] at hs; cases hs; rcases k14 with k | k <;> rw [k] at h3 ⊢ <;> simp at h3 <;> exact ⟨by omega, by omega, Wu (by kernel_rfl) _⟩
 rw [if_neg k14] at hs
 by_cases k18 : t.k = 18
 ·rw [if_pos k18] at hs; cases hs; rw [k18] at h3 ⊢; simp at h3; exact ⟨by omega, by omega, Wu (by kernel_rfl) _⟩
 rw [if_neg k18] at hs
 by_cases k21 : t.k = 21
 ·rw [if_pos k21] at hs; cases hs; rw [k21] at h3 ⊢; simp at h3; exact ⟨by omega, by omega, Wu (by kernel_rfl) _⟩
 rw [if_neg k21] at hs
 split at hs
 ·rename_i hk; cases hs; refine ⟨by omega, by omega, ?_⟩; rw [hk.1]; exact Wu (binds_case _) _
 ·cases hs
theorem ws_trunc {t : T} {sc : Nat} (h : Ws t sc) : t.trunc = t := by
 induction h with
 | @mk k m a ls ks sc h hk ih =>
  rcases spot_of (.mk k m a ls ks) with hs | ⟨i, many, hs⟩
  ·exact trunc_none hs
  ·obtain ⟨h1, h2, h3⟩ := spot_ws (.mk h hk) hs
   have hi : i < (T.mk k m a ls ks).ks.length := by omega
   rw [trunc_in hs hi]
   have h5 : T.trunc ((T.mk k m a ls ks).kid i) = (T.mk k m a ls ks).kid i := ih i hi
   rw [kid_at hi] at h5
   rw [h5, <- kid_at hi]
   exact with_same h1
theorem ws_with {t x : T} {sc : Nat} {i many : Nat} (h : Ws t sc) (hl : t.ks.length = many) (hx : Ws x (up1 sc t.k i)) : Ws (t.withT x i many) sc := by
 cases t with
 | mk k m a ls ks =>
  unfold T.withT
  simp only [T.k_mk, T.n_mk, T.a_mk, T.ls_mk, T.ks_mk] at hl hx ⊢
  refine .mk (by rw [withK_len, <- hl]; exact h.node) fun j hj => ?_
  rw [withK_len] at hj
  rw [withK_get hj]
  split
  ·rename_i e; subst e; exact hx
  ·exact h.kid (show j < (T.mk k m a ls ks).ks.length by simp only [T.ks_mk]; omega)
theorem ws_of2 {k : Int} {x y : T} {sc sx sy : Nat} (hk : k = 5 \/ k = 6) (ex : up1 sc k 0 = sx) (ey : up1 sc k 1 = sy) (hx : Ws x sx) (hy : Ws y sy) : Ws (ofT k [x, y]) sc := by
 unfold ofT
 subst ex; subst ey
 refine .mk ⟨by rcases hk with rfl | rfl <;> rfl, fun e => by omega, by rcases hk with rfl | rfl <;> rfl, fun e => by omega⟩ fun i hi => ?_
 match i, hi with
 | 0, _ => exact hx
 | 1, _ => exact hy
theorem ws_var0 {sc : Nat} (h : 0 < sc) : Ws (ofT 1 []) sc := .mk ⟨rfl, fun _ => ⟨by omega, by omega⟩, rfl, fun e => by omega⟩ fun i hi => absurd hi (by simp)
theorem ws_tree {t x : T} {sc : Nat} (hk : t.k = 18) (h : Ws t sc) (hx : x = t.kid 4) (hxk : x.k = 17) : Ws (treeI t x) sc := by
 have hl := ws_len h
 rw [hk] at hl
 have hl5 : t.ks.length = 5 := by have : askN 18 t.a = 5 := rfl; omega
 have k0 := h.kid (i := 0) (by omega)
 have k1 := h.kid (i := 1) (by omega)
 have k2 := h.kid (i := 2) (by omega)
 have k3 := h.kid (i := 3) (by omega)
 have k4 := h.kid (i := 4) (by omega)
 rw [hk] at k0 k1 k2 k3 k4
 rw [Wu (by kernel_rfl)] at k0 k2 k3 k4
 rw [up1_yes (by kernel_rfl)] at k1
 rw [<- hx] at k4
 have hxl := ws_len k4
 rw [hxk] at hxl
 have hx2 : x.ks.length = 2 := by have : askN 17 x.a = 2 := rfl; omega
 have xa := k4.kid (i := 0) (by omega)
 have xf := k4.kid (i := 1) (by omega)
 rw [hxk, Wu (by kernel_rfl)] at xa xf
 unfold treeI
 refine ws_of2 (sx := sc) (sy := sc) (.inr rfl) (Wu (by kernel_rfl) _) (Wu (by kernel_rfl) _) ?_ ?_
 ·refine ws_of2 (sx := sc) (sy := sc) (.inr rfl) (Wu (by kernel_rfl) _) (Wu (by kernel_rfl) _) ?_ xf
  exact ws_of2 (sx := sc) (sy := sc) (.inr rfl) (Wu (by kernel_rfl) _) (Wu (by kernel_rfl) _) k3 xa
 ·refine ws_of2 (sx := sc) (sy := sc + 1) (.inl rfl) (Wu (by kernel_rfl) _) (up1_yes (by kernel_rfl) _) (ws_put k1 rfl (Nat.zero_le _) xa) ?_
  unfold ofT
  refine .mk ⟨rfl, fun e => by omega, rfl, fun e => by omega⟩ fun i hi => ?_
  match i, hi with
  | 0, _ => rw [Wu (by kernel_rfl)]; exact ws_lift k0 1 0 (Nat.zero_le _)
  | 1, _ => rw [up1_yes (by kernel_rfl)]; exact ws_lift k1 1 1 (by omega)
  | 2, _ => rw [Wu (by kernel_rfl)]; exact ws_lift k2 1 0 (Nat.zero_le _)
  | 3, _ => rw [Wu (by kernel_rfl)]; exact ws_lift k3 1 0 (Nat.zero_le _)
  | 4, _ =>
   rw [Wu (by kernel_rfl)]
   exact ws_of2 (sx := sc + 1) (sy := sc + 1) (.inr rfl) (Wu (by kernel_rfl) _) (Wu (by kernel_rfl) _) (ws_lift xf 1 0 (Nat.zero_le _)) (ws_var0 (by omega))
theorem put_eq {b y : T} {sc : Nat} (hb : Ws b (sc + 1)) (hy : Ws y sc) (h1 : sc + 1 + b.deep <= SB) (h2 : sc + y.deep <= SB) : b.put [y] 0 = T.putI y b 0 :=
 put_ideal hy h2 hb 0 h1 (by omega)
theorem lift_eq {b : T} {sc : Nat} (hb : Ws b sc) (h1 : sc + b.deep <= SB) (fr : Nat) (hf : fr <= 1) : b.lift 1 fr 0 = b.liftI 1 fr := by
 have := lift_ideal hb 1 fr (by unfold SB; omega) (by unfold SB; omega) 0 (by omega) (by omega)
 rw [Nat.zero_add] at this
 exact this
theorem tree_eq {t x : T} {sc : Nat} (hk : t.k = 18) (h : Ws t sc) (hb : sc + 1 + t.deep <= SB) (hx : x = t.kid 4) (hxk : x.k = 17) : treeT t x = treeI t x := by
 have hl := ws_len h
 rw [hk] at hl
 have hl5 : t.ks.length = 5 := by have : askN 18 t.a = 5 := rfl; omega
 have k0 := h.kid (i := 0) (by omega)
 have k1 := h.kid (i := 1) (by omega)
 have k2 := h.kid (i := 2) (by omega)
 have k3 := h.kid (i := 3) (by omega)
 have k4 := h.kid (i := 4) (by omega)
 have d0 := kid_deep (t := t) (i := 0) (by omega)
 have d1 := kid_deep (t := t) (i := 1) (by omega)
 have d2 := kid_deep (t := t) (i := 2) (by omega)
 have d3 := kid_deep (t := t) (i := 3) (by omega)
 have d4 := kid_deep (t := t) (i := 4) (by omega)
 rw [hk] at k0 k1 k2 k3 k4
 rw [Wu (by kernel_rfl)] at k0 k2 k3 k4
 rw [up1_yes (by kernel_rfl)] at k1
 rw [<- hx] at k4 d4
 have hxl := ws_len k4
 rw [hxk] at hxl
 have hx2 : x.ks.length = 2 := by have : askN 17 x.a = 2 := rfl; omega
 have xa := k4.kid (i := 0) (by omega)
 have xf := k4.kid (i := 1) (by omega)
 have da := kid_deep (t := x) (i := 0) (by omega)
 have df := kid_deep (t := x) (i := 1) (by omega)
 rw [hxk, Wu (by kernel_rfl)] at xa xf
 have e0 := lift_eq k0 (by omega) 0 (by omega)
 have e1 := lift_eq k1 (by omega) 1 (by omega)
 have e2 := lift_eq k2 (by omega) 0 (by omega)
 have e3 := lift_eq k3 (by omega) 0 (by omega)
 have ef := lift_eq xf (by omega) 0 (by omega)
 have ep := put_eq k1 xa (by omega) (by omega)
 unfold treeT treeI
 have e0 : (t.kid 0).lift 1 0 0 = (t.kid 0).liftI 1 0 := e0
 have e1 : (t.kid 1).lift 1 1 0 = (t.kid 1).liftI 1 1 := e1
 have e2 : (t.kid 2).lift 1 0 0 = (t.kid 2).liftI 1 0 := e2
 have e3 : (t.kid 3).lift 1 0 0 = (t.kid 3).liftI 1 0 := e3
 have ef : (x.kid 1).lift 1 0 0 = (x.kid 1).liftI 1 0 := ef
 simp only [e0, e1, e2, e3, ef, ep]
theorem own_root {l : List C} (hB : WsL l) {t x u : T} {c sc : Nat} (h : Ws t sc) (hb : sc + 1 + t.deep <= SB) (hx : ∀ i many, spot t = some (i, many) -> x = t.kid i) (ho : ownS l t x = some (u, c)) : rootI l t = some u /\ Ws u sc := by
 have hl := ws_len h
 unfold ownS at ho
 by_cases k6 : t.k = 6
 ·rw [if_pos k6] at ho
  rw [k6] at hl
  have h2 : t.ks.length = 2 := by have : askN 6 t.a = 2 := rfl; omega
  have e := hx 0 2 (by unfold spot; rw [if_pos k6])
  have r0 := h.kid (i := 0) (by omega)
  have r1 := h.kid (i := 1) (by omega)
  have d0 := kid_deep (t := t) (i := 0) (by omega)
  have d1 := kid_deep (t := t) (i := 1) (by omega)
  rw [k6, Wu (by kernel_rfl)] at r0 r1
  rw [<- e] at r0 d0
  split at ho
  ·rename_i k5
   cases ho
   have hxl := ws_len r0
   rw [k5] at hxl
   have hx2 : x.ks.length = 2 := by have : askN 5 x.a = 2 := rfl; omega
   have xb := r0.kid (i := 1) (by omega)
   have db := kid_deep (t := x) (i := 1) (by omega)
   rw [k5, up1_yes (by kernel_rfl)] at xb
   rw [put_eq xb r1 (by omega) (by omega)]
   exact ⟨Xt (.inl ⟨k6, by rw [<- e]; exact k5, by rw [<- e]⟩), ws_put xb rfl (Nat.zero_le _) r1⟩
  ·cases ho
 rw [if_neg k6] at ho
 by_cases k14 : t.k = 14 \/ t.k = 15
 ·rw [if_pos k14] at ho
  have h1 : t.ks.length = 1 := by
   rcases k14 with k | k
   ·rw [k] at hl; have : askN 14 t.a = 1 := rfl; omega
   ·rw [k] at hl; have : askN 15 t.a = 1 := rfl; omega
  have e := hx 0 1 (by unfold spot; rw [if_neg k6, if_pos k14])
  have r0 := h.kid (i := 0) (by omega)
  rw [<- e, Wu (by rcases k14 with k | k <;> rw [k] <;> kernel_rfl)] at r0
  split at ho
  ·rename_i k13
   cases ho
   have hxl := ws_len r0
   rw [k13] at hxl
   have hx2 : x.ks.length = 2 := by have : askN 13 x.a = 2 := rfl; omega
   have x0 := r0.kid (i := 0) (by omega)
   have x1 := r0.kid (i := 1) (by omega)
   rw [k13, Wu (by kernel_rfl)] at x0 x1
   rcases k14 with k | k
   ·rw [if_neg (by omega)]
    exact ⟨Xt (.inr (.inl ⟨k, by rw [<- e]; exact k13, by rw [<- e]⟩)), x0⟩
   ·rw [if_pos k]
    exact ⟨Xt (.inr (.inr (.inl ⟨k, by rw [<- e]; exact k13, by rw [<- e]⟩))), x1⟩
  ·cases ho
 rw [if_neg k14] at ho
 by_cases k7 : t.k = 7
 ·rw [if_pos k7] at ho
  rw [k7] at hl
  have h3 : t.ks.length = 3 := by have : askN 7 t.a = 3 := rfl; omega
  cases ho
  have r1 := h.kid (i := 1) (by omega)
  have r2 := h.kid (i := 2) (by omega)
  have d1 := kid_deep (t := t) (i := 1) (by omega)
  have d2 := kid_deep (t := t) (i := 2) (by omega)
  rw [k7] at r1 r2
  rw [Wu (by kernel_rfl)] at r1
  rw [up1_yes (by kernel_rfl)] at r2
  rw [put_eq r2 r1 (by omega) (by omega)]
  exact ⟨Xt (.inr (.inr (.inr (.inl ⟨k7, rfl⟩)))), ws_put r2 rfl (Nat.zero_le _) r1⟩
 rw [if_neg k7] at ho
 by_cases k3 : t.k = 3
 ·rw [if_pos k3] at ho
  rw [Option.map_eq_some_iff] at ho
  obtain ⟨b, hb, he⟩ := ho
  cases he
  exact ⟨Xt (.inr (.inr (.inr (.inr (.inl ⟨k3, hb⟩))))), ws_mono (hB _ _ _ hb) (Nat.zero_le _)⟩
 rw [if_neg k3] at ho
 by_cases k18 : t.k = 18
 ·rw [if_pos k18] at ho
  split at ho
  ·rename_i k17
   cases ho
   have e := hx 4 5 (by unfold spot; rw [if_neg k6, if_neg k14, if_pos k18])
   rw [tree_eq k18 h hb e k17]
   exact ⟨Xt (.inr (.inr (.inr (.inr (.inr (.inl ⟨k18, by rw [<- e]; exact k17, by rw [<- e]⟩)))))), ws_tree k18 h e k17⟩
  ·cases ho
 rw [if_neg k18] at ho
 by_cases k21 : t.k = 21
 ·rw [if_pos k21] at ho
  rw [k21] at hl
  have h6 : t.ks.length = 6 := by have : askN 21 t.a = 6 := rfl; omega
  split at ho
  ·rename_i k20
   cases ho
   have e := hx 5 6 (by unfold spot; rw [if_neg k6, if_neg k14, if_neg k18, if_pos k21])
   have r3 := h.kid (i := 3) (by omega)
   rw [k21, Wu (by kernel_rfl)] at r3
   exact ⟨Xt (.inr (.inr (.inr (.inr (.inr (.inr (.inl ⟨k21, by rw [<- e]; exact k20, rfl⟩))))))), r3⟩
  ·cases ho
 rw [if_neg k21] at ho
 split at ho
 ·rename_i k24
  split at ho
  ·rename_i hxn
   cases ho
   obtain ⟨ka, kb⟩ := k24
   unfold spot at kb
   rw [if_neg k6, if_neg k14, if_neg k18, if_neg k21] at kb
   split at kb
   ·rename_i hh
    have e := hx (t.a.toNat + 1) (t.a.toNat + 2) (by unfold spot; rw [if_neg k6, if_neg k14, if_neg k18, if_neg k21, if_pos hh])
    have r := h.kid (i := x.n.toNat + 1) (by omega)
    rw [ka, Wu (binds_case _)] at r
    exact ⟨Xt (.inr (.inr (.inr (.inr (.inr (.inr (.inr ⟨ka, hh.2.1, hh.2.2, by rw [<- e]; exact hxn.1, by rw [<- e]; exact hxn.2.1, by rw [<- e]; exact hxn.2.2, by rw [<- e]⟩))))))), r⟩
   ·cases kb
  ·cases ho
 ·cases ho
theorem hstep_par {l : List C} (hB : WsL l) {t : T} {sc : Nat} (h : Ws t sc) : ∀ {u : T} {c : Nat}, sc + 1 + t.deep <= SB -> Wo l t = some (u, c) -> Par l t u /\ Ws u sc := by
 induction h with
 | @mk k m a ls ks sc h hk ih =>
  intro u c hb hst
  have hw : Ws (.mk k m a ls ks) sc := .mk h hk
  rcases spot_of (.mk k m a ls ks) with hsp | ⟨i, many, hsp⟩
  ·rw [hstep_none hsp] at hst
   obtain ⟨h1, h2⟩ := own_root hB hw hb (fun i many e => by rw [hsp] at e; cases e) hst
   exact ⟨.red rfl (fun j _ => .refl l _) h1, h2⟩
  ·obtain ⟨h1, h2, h3⟩ := spot_ws hw hsp
   have hi : i < (T.mk k m a ls ks).ks.length := by omega
   have h4 := hw.kid hi
   have h5 := kid_deep hi
   have e := kid_at hi
   cases hu : Wo l (T.mk k m a ls ks).ks[i] with
   | some v =>
    rw [hstep_in hsp hi (u := v.1) (c := v.2) hu] at hst
    cases hst
    have h6 : up1 sc k i = sc := h3
    have hih := ih i hi (u := v.1) (c := v.2) (by
     rw [h6]
     have : (ks.getD i Wh).deep = ((T.mk k m a ls ks).kid i).deep := rfl
     omega) (by
     have e2 : ks.getD i Wh = (T.mk k m a ls ks).ks[i] := e
     rw [e2]; exact hu)
    refine ⟨?_, ws_with hw h1 hih.2⟩
    unfold T.withT
    simp only [T.k_mk, T.n_mk, T.a_mk, T.ls_mk, T.ks_mk] at h1 ⊢
    refine .node (by rw [withK_len, h1]) fun j hj => ?_
    rw [withK_get (by omega)]
    split
    ·rename_i ej; subst ej; exact hih.1
    ·exact .refl l _
   | none =>
    rw [hstep_at hsp hi hu, <- e, ws_trunc h4, with_same h1] at hst
    obtain ⟨h7, h8⟩ := own_root hB hw hb (fun i' many' e' => by rw [hsp] at e'; cases e'; rfl) hst
    exact ⟨.red rfl (fun j _ => .refl l _) h7, h8⟩
theorem CallOK.deepA {P : Program} {G : Nat -> Option D} {f : FuncId} {args' : List D} {hh : Nat -> HO} {out : Out} {rd : List Nat} {up : List (Nat × HO)} (h : CallOK P G f (D.deeps args') hh out rd up) : CallOK P G f args' hh out rd up :=
 fun ρ w H vs hR hx hvs => h ρ w H vs hR hx (RpL_deep _ _ hvs)
theorem Xi.pureD {P : Program} {G : Nat -> Option D} (hG : ∀ g d, G g = some d -> d.pure = true) {f : FuncId} {args args' : List D} {out : Out} (h : Qt P G f args [] (fun o _ => o.fgt = out)) {hl : List HO} {K : Out -> List HO -> Prop} (hK : K out hl) (ha : D.fgts (D.deeps args') = args) (hp : D.pures args = true) (ho : out.pure = true) : Xi P G f args' hl K :=
 ⟨fun o up => o = out /\ up = [], (CallOK.deepA (CallOK.pure hG h ha hp ho _)).toR, fun o up ⟨h1, h2⟩ => by subst h1; subst h2; exact hK⟩
theorem CallY.pureD {P : Program} {G : Nat -> Option D} (hG : ∀ g d, G g = some d -> d.pure = true) {f : FuncId} {args args' : List D} {out : Out} (h : Qt P G f args [] (fun o _ => o.fgt = out)) {hl : List HO} {K : Out -> List Nat -> List (Nat × HO) -> Prop} (hK : K out [] []) (ha : D.fgts (D.deeps args') = args) (hp : D.pures args = true) (ho : out.pure = true) : CallY P G f args' hl K :=
 ⟨out, [], [], CallOK.deepA (CallOK.pure hG h ha hp ho _), hK⟩
theorem wpD_seqE {P : Program} {G : Nat -> Option D} {M : Nat} {Q : DX -> List D -> List HO -> Df -> Prop} {tl : List D} {hl : List HO} {df : Df} {α : Type} {x y : Code} (W : List Nat) (ds : α -> List D) (hl1 : α -> List HO) (Pre : α -> Prop) (h1 : ∀ a, Pre a -> wpD P G M y Q (Qr tl W (ds a)) (hl1 a) df)
  (h2 : ∀ K : List D -> List HO -> Df -> Prop, (∀ a tl', Pre a -> leT (Qr tl W (ds a)) tl' -> K tl' (hl1 a) df) -> wpD P G M x (Xe K Q) tl hl df) : wpD P G M (.seq x y) Q tl hl df :=
 Qf fun K hK => h2 K fun a tl' hp h => hK _ _ _ (wpD_weak h (h1 a hp))
@[simp high] theorem encP_deep (p : Int × Int) : (Xq p).deep = Xq p := rfl
theorem mapP_deep (l : LV) : D.deeps (l.map Xq) = l.map Xq := by rw [D.deeps_map, List.map_map]; rfl
@[simp high] theorem mapP_deep' (l : LV) : D.deeps (l.map Xq) = l.map Xq := mapP_deep l
@[simp high] theorem encL_deep (l : LV) : (Wp l).deep = Wp l := by
 unfold Wp
 simp only [D.deep, D.deeps, mapP_deep]
@[simp high] theorem mapL_deep (l : List LV) : D.deeps (l.map Wp) = l.map Wp := by
 rw [D.deeps_map, List.map_map]
 exact List.map_congr_left fun x _ => encL_deep x
@[simp high] theorem encT_deep (t : T) : (Qv t).deep = Qv t := by
 induction t using T.ind with
 | h k n a ls ks ih =>
  rw [Qd]
  have : D.deeps (ks.map Qv) = ks.map Qv := by
   rw [D.deeps_map, List.map_map]
   exact List.map_congr_left fun x hx => ih x hx
  simp only [D.deep, D.deeps, mapL_deep, T.ks_mk, this]
@[simp high] theorem mapT_deep (l : List T) : D.deeps (l.map Qv) = l.map Qv := by
 rw [D.deeps_map, List.map_map]
 exact List.map_congr_left fun x _ => encT_deep x
@[simp high] theorem mapI_deep (l : List Int) : D.deeps (l.map (.int .i64)) = l.map (.int .i64) := by
 rw [D.deeps_map, List.map_map]; rfl
def encC (c : C) : D := .agg [.int .i64 c.lv, .int .i64 c.ty.k, .int .i64 c.ty.n, .int .i64 c.ty.a, .slice (c.ty.ls.map Wp) .any, .slice (c.ty.ks.map Qv) .any, .bool c.has, .int .i64 c.bo.k, .int .i64 c.bo.n, .int .i64 c.bo.a, .slice (c.bo.ls.map Wp) .any, .slice (c.bo.ks.map Qv) .any]
def Cs (l : List C) : D := .slice (l.map encC) .any
def zeroC : C := ⟨0, Wh, false, Wh⟩
@[simp high] theorem encC_pure (c : C) : (encC c).pure = true := by simp [encC, D.pure, D.pures, Cp.free]
@[simp high] theorem encC_fgt (c : C) : (encC c).fgt = encC c := by simp [encC, D.fgt, D.fgts]
@[simp high] theorem encC_size (c : C) : (encC c).size = 12 := rfl
@[simp high] theorem encC_cells (c : C) : (encC c).cells = [.int .i64 c.lv, .int .i64 c.ty.k, .int .i64 c.ty.n, .int .i64 c.ty.a, .slice (c.ty.ls.map Wp) .any, .slice (c.ty.ks.map Qv) .any, .bool c.has, .int .i64 c.bo.k, .int .i64 c.bo.n, .int .i64 c.bo.a, .slice (c.bo.ls.map Wp) .any, .slice (c.bo.ks.map Qv) .any] := rfl
@[simp high] theorem encC_frz (bx : FK) (i : Nat) (x : D) (c : C) : D.frz bx i x (encC c) = encC c := D.frz_pure bx i x _ (encC_pure c)
@[simp high] theorem mapC_frz (bx : FK) (i : Nat) (x : D) (l : List C) : D.frzs bx i x (l.map encC) = l.map encC := D.frzs_pure bx i x _ (by simp [D.pures_map])
@[simp high] theorem encC_low (m : Nat) (c : C) : (encC c).low m = true := D.low_pure m _ (encC_pure c)
@[simp high] theorem mapC_low (m : Nat) (l : List C) : D.lows m (l.map encC) = true := D.lows_pure m _ (by simp [D.pures_map])
@[simp high] theorem encC_okN (p : Nat -> Bool) (c : C) : (encC c).okN p = true := D.okN_pure p _ (encC_pure c)
@[simp high] theorem encC_ren (σ : Nat -> Nat) (c : C) : D.ren σ (encC c) = encC c := D.ren_pure σ _ (encC_pure c)
@[simp high] theorem mapC_okN (p : Nat -> Bool) (l : List C) : D.okNs p (l.map encC) = true := D.okNs_pure p _ (by simp [D.pures_map])
@[simp high] theorem mapC_ren (σ : Nat -> Nat) (l : List C) : D.rens σ (l.map encC) = l.map encC := D.rens_pure σ _ (by simp [D.pures_map])
@[simp high] theorem mapC_pures (l : List C) : D.pures (l.map encC) = true := by simp [D.pures_map]
@[simp high] theorem encC_deep (c : C) : (encC c).deep = encC c := by simp only [encC, D.deep, D.deeps, mapL_deep, mapT_deep]
@[simp high] theorem mapC_deep (l : List C) : D.deeps (l.map encC) = l.map encC := by
 rw [D.deeps_map, List.map_map]
 exact List.map_congr_left fun x _ => encC_deep x
theorem encZ : Qv Wh = .agg [.int .i64 0, .int .i64 0, .int .i64 0, .slice [] .any, .slice [] .any] := Qd _
def kidI (t : T) (n : Int) : T := if n < 0 then Wh else t.kid n.toNat
theorem kidI_nat (t : T) (n : Nat) : kidI t (n : Int) = t.kid n := by unfold kidI; rw [if_neg (by omega)]; rfl
theorem encT_mk' (k n a : Int) (ls : List LV) (ks : List T) : Qv (.mk k n a ls ks) = .agg [.int .i64 k, .int .i64 n, .int .i64 a, .slice (ls.map Wp) .any, .slice (ks.map Qv) .any] := Qd _
def headD (left : Int) (l : List C) (once done : Bool) : HO := .cells 93 [.int .i64 left, Cs l, .bool once, .bool done, .map 1]
def goneD : D := .iface 129 (.agg [])
mutual
def T.sdw (many : Int) : T -> Int -> Int
 | .mk k n _ _ ks, b => if k = 1 /\ n = b then many else T.sdws many k ks 0 b 1
def T.sdws (many k : Int) : List T -> Nat -> Int -> Int -> Int
 | [], _, _, s => s
 | t :: r, i, b, s => T.sdws many k r (i + 1) b (IntKind.i64.wrap (s + T.sdw many t (Xu b k i)))
end
theorem wrap_both (a b : Int) : IntKind.i64.wrap (IntKind.i64.wrap a + IntKind.i64.wrap b) = IntKind.i64.wrap (a + b) := by
 simp only [IntKind.wrap_i64]; omega
mutual
theorem sz_true : ∀ t : T, t.sz = IntKind.i64.wrap (t.nsz : Int)
 | .mk k n a ls ks => by
  rw [T.sz, T.nsz, szs_true ks 1 1 (by rfl)]
theorem szs_true : ∀ (ks : List T) (s : Int) (m : Nat), s = IntKind.i64.wrap (m : Int) -> T.szs ks s = IntKind.i64.wrap ((m + T.nszs ks : Nat) : Int)
 | [], s, m, h => by rw [T.szs, T.nszs, h]; rfl
 | t :: r, s, m, h => by
  rw [T.szs, T.nszs, szs_true r _ (m + t.nsz) (by
   rw [h, sz_true t, wrap_both, Int.natCast_add])]
  congr 2
  omega
end
mutual
theorem sdw_true (many : Nat) : ∀ (t : T) (b : Int), T.sdw (IntKind.i64.wrap (many : Int)) t b = IntKind.i64.wrap ((t.sd many b : Nat) : Int)
 | .mk k n a ls ks, b => by
  rw [T.sdw, T.sd]
  split
  ·rfl
  ·rw [sdws_true many k ks 0 b 1 1 (by rfl)]
theorem sdws_true (many : Nat) (k : Int) : ∀ (ks : List T) (i : Nat) (b s : Int) (m : Nat), s = IntKind.i64.wrap (m : Int) -> T.sdws (IntKind.i64.wrap (many : Int)) k ks i b s = IntKind.i64.wrap ((m + T.sds many k ks i b : Nat) : Int)
 | [], i, b, s, m, h => by rw [T.sdws, T.sds, h]; rfl
 | t :: r, i, b, s, m, h => by
  rw [T.sdws, T.sds, sdws_true many k r (i + 1) b _ (m + t.sd many (Xu b k i)) (by
   rw [h, sdw_true many t, wrap_both, Int.natCast_add])]
  congr 2
  omega
end
end Go.Proofs.YtgloldepdhgfaaaGreatDoor
namespace Go.Proofs.YtgloldepdhgfaaaGreatDoor
set_option linter.unusedSimpArgs false
set_option linter.unusedVariables false
set_option maxHeartbeats 10000000
set_option maxRecDepth 20000
open Go.RowKit
attribute [local simp] Qb Qc Xd Xm opD Qp Ql Qi Qk hOf Wz Xn Xk TK.isAgg TK.known Xf Xe Wt Qr D.ofV inB Wm Xc binX binD binE Xl bndD capB IntKind.min IntKind.max IntKind.signed IntKind.bits Wx late
theorem kid_spec (t : T) (n : Int) : Qt Tryz.prog glob 97 [Qv t, .int .i64 n] [] (fun o _ => o.fgt = .ret (Qv (kidI t n))) := by
 obtain ⟨r, hr⟩ : ∃ r, r = kidI t n := ⟨_, rfl⟩
 rw [<- hr]
 rw [Qd t]
 refine Qt.movd Qe (Qq Wb Tryz.func97 rfl (Qy _ _ Tryz.func97 rfl (by decide)) rfl rfl ?_)
 (refine sR fun K hK => ?_; ((repeat (rw [Qa]; simp)); (try simp only [zs])); refine hK _ _ _ ?_; clear hK K)
 refine Qf fun K1 hK1 => ?_
 by_cases h1 : n < 0
 ·rw [show kidI t n = Wh from by unfold kidI; rw [if_pos h1]] at hr
  subst hr
  (refine sR fun K hK => ?_; ((repeat (rw [Qa]; simp [h1])); (try simp only [zs])); refine hK _ _ _ ?_; clear hK K)
  refine pT rfl ?_
  (refine sR fun K hK => ?_; ((repeat (rw [Qa]; simp)); (try simp only [zs])); refine hK _ _ _ ?_; clear hK K)
  (refine Qj ?_; (try simp only [zs]); refine Wc.ret rfl (.inl ?_); simp [Qp, Out.fgt, D.fgt, D.fgts])
  exact encZ.symm
 ·obtain ⟨j, rfl⟩ : ∃ j : Nat, n = j := ⟨n.toNat, by omega⟩
  rw [kidI_nat] at hr
  unfold T.kid at hr
  rw [List.getD_eq_getElem?_getD] at hr
  by_cases h2 : j < t.ks.length
  ·have h2' : (j : Int) < t.ks.length := by omega
   have h2n : ¬ t.ks.length <= j := by omega
   rw [List.getElem?_eq_getElem h2, Option.getD_some] at hr
   have hEr := Qd r
   have hx : t.ks[j] = r := hr.symm
   (refine sR fun K hK => ?_; ((repeat (rw [Qa]; simp [h1, h2, h2', h2n])); (try simp only [zs])); refine hK _ _ _ ?_; clear hK K)
   refine pF rfl ?_
   refine Qs (hK1 _ _ _ ?_)
   (refine sR fun K hK => ?_; ((repeat (rw [Qa]; simp [h1, h2, h2', hx, hEr])); (try simp only [zs])); refine hK _ _ _ ?_; clear hK K)
   (refine Qj ?_; (try simp only [zs]); refine Wc.ret rfl (.inl ?_); simp [Qp, Out.fgt, D.fgt, D.fgts])
   exact hEr.symm
  ·have h2' : ¬ (j : Int) < t.ks.length := by omega
   have h2n : t.ks.length <= j := by omega
   rw [List.getElem?_eq_none h2n, Option.getD_none] at hr
   subst hr
   (refine sR fun K hK => ?_; ((repeat (rw [Qa]; simp [h1, h2, h2', h2n])); (try simp only [zs])); refine hK _ _ _ ?_; clear hK K)
   refine pT rfl ?_
   (refine sR fun K hK => ?_; ((repeat (rw [Qa]; simp)); (try simp only [zs])); refine hK _ _ _ ?_; clear hK K)
   (refine Qj ?_; (try simp only [zs]); refine Wc.ret rfl (.inl ?_); simp [Qp, Out.fgt, D.fgt, D.fgts])
   exact encZ.symm
theorem hof_spec (k : Int) (ks : List T) : Qt Tryz.prog glob 145 [.int .i64 k, .slice (ks.map Qv) .any] [] (fun o _ => o.fgt = .ret (Qv (ofT k ks))) := by
 unfold ofT
 rw [encT_mk']
 refine Qt.movd Qe (Qq Wb Tryz.func145 rfl (Qy _ _ Tryz.func145 rfl (by decide)) rfl rfl ?_)
 (refine sR fun K hK => ?_; ((repeat (rw [Qa]; simp)); (try simp only [zs])); refine hK _ _ _ ?_; clear hK K)
 (refine sR fun K hK => ?_; ((repeat (rw [Qa]; simp)); (try simp only [zs])); refine hK _ _ _ ?_; clear hK K)
 (refine Qj ?_; (try simp only [zs]); refine Wc.ret rfl (.inl ?_); simp [Qp, Out.fgt, D.fgt, D.fgts])
def wkT (ks : List T) (x : T) (i j : Nat) : List T := withK ks x i j
theorem wkT_succ (ks : List T) (x : T) (i j : Nat) : wkT ks x i (j + 1) = wkT ks x i j ++ [if j = i then x else ks.getD j Wh] := by
 unfold wkT withK; rw [List.range_succ, List.map_append]; rfl
theorem wkT_len (ks : List T) (x : T) (i j : Nat) : (wkT ks x i j).length = j := withK_len ks x i j
theorem with_spec (t x : T) (i many : Nat) (hm : many <= Wd) : Qt Tryz.prog glob 96 [Qv t, Qv x, .int .i64 i, .int .i64 many] [] (fun o _ => o.fgt = .ret (Qv (t.withT x i many))) := by
 obtain ⟨kk, nn, aa, ls, ks⟩ := t
 have hT : (T.mk kk nn aa ls ks).withT x i many = .mk kk nn aa ls (wkT ks x i many) := rfl
 rw [hT]
 have hEx := Qd x
 have hk := fun j : Nat => kid_spec (.mk kk nn aa ls ks) j
 simp only [kidI_nat] at hk
 unfold T.kid at hk
 simp only [T.ks_mk] at hk
 simp only [encT_mk'] at hk ⊢
 rw [hEx]
 refine Qt.movd Qe (Qq Wb Tryz.func96 rfl (Qy _ _ Tryz.func96 rfl (by decide)) rfl rfl ?_)
 (refine sR fun K hK => ?_; ((repeat (rw [Qa]; simp)); (try simp only [zs])); refine hK _ _ _ ?_; clear hK K)
 (refine sR fun K hK => ?_; ((repeat (rw [Qa]; simp)); (try simp only [zs])); refine hK _ _ _ ?_; clear hK K)
 refine wpD_tokO 3 4 (ty := 27) (ds := [.int .i64 kk, .int .i64 nn, .int .i64 aa, .slice (ls.map Wp) .any, .slice [] .full]) rfl ?_
 simp [D.tokd]
 refine Qf fun K1 hK1 => ?_
 (refine sR fun K hK => ?_; ((repeat (rw [Qa]; simp)); (try simp only [zs])); refine hK _ _ _ ?_; clear hK K)
 refine wpD_rangeJ Wb Qe (ti := 3) (tk := 21) (tn := 20) (td := 22) (ts := 41) [10, 21, 22, 23, 24, 25, 26, 27, 28, 29, 30, 31, 32, 33, 34, 35, 36, 37, 38, 39, 40, 41] [] (many) (fun k ys hl => ys = [] /\ hl = [.cells 27 [.int .i64 kk, .int .i64 nn, .int .i64 aa, .slice (ls.map Wp) .any, .slice (ks.map Qv) .any], .cells 27 [.int .i64 x.k, .int .i64 x.n, .int .i64 x.a, .slice (x.ls.map Wp) .any, .slice (x.ks.map Qv) .any], .cells 27 [.int .i64 0, .int .i64 0, .int .i64 0, .slice [] .full, .slice [] .full], .cells 27 [.int .i64 kk, .int .i64 nn, .int .i64 aa, .slice (ls.map Wp) .any, .slice ((wkT ks x i k).map Qv) (.tok 4)], .tok]) rfl rfl rfl rfl rfl rfl rfl rfl rfl rfl rfl rfl (by simp) (by decide) rfl (by first | assumption | omega | (unfold Wd; omega)) rfl (by kernel_rfl) (by decide) ?_ ?_ ?_
 ·exact ⟨rfl, rfl⟩
 ·rintro j ys hl A hj ⟨rfl, rfl⟩ hA hA2
  simp only [Qr, List.set, List.map_cons, List.map_nil, List.cons_append, List.nil_append]
  have hsn := wkT_succ ks x i j
  have hln := wkT_len ks x i j
  have hel : (wkT ks x i j).length + 1 <= Wd := by omega
  have hkj := hk j
  generalize ks.getD j Wh = y at hsn hkj
  generalize wkT ks x i j = es at hsn hln hel ⊢
  (refine sR fun K hK => ?_; ((repeat (rw [Qa]; simp)); (try simp only [zs])); refine hK _ _ _ ?_; clear hK K)
  refine Qf fun K2 hK2 => ?_
  by_cases hji : j = i
  ·subst hji
   rw [if_pos rfl] at hsn
   (refine sR fun K hK => ?_; ((repeat (rw [Qa]; simp)); (try simp only [zs])); refine hK _ _ _ ?_; clear hK K)
   refine pT rfl ?_
   (refine sR fun K hK => ?_; ((repeat (rw [Qa]; simp [hel])); (try simp only [zs])); refine hK _ _ _ ?_; clear hK K)
   refine wpD_exit ?_
   (refine hA2 ([0, 1, 2, 3, 5]) _ _ _ (LeT.refl _) (by decide) (by simp) (by simp [Wk, Wl, Wr, D.mov, HO.mov, okM, Wn, Wg, zz, okA, Qx, Qu, hOf, Qg, Qr]) ?_ rfl; simp [Wk, Wl, Wr, D.mov, HO.mov, okM, Wn, Wg, zz, okA, Qx, Qu, hOf, Qg])
   rw [hsn, <- hEx, show es.map Qv ++ [Qv x] = (es ++ [x]).map Qv by simp, mapT_ren]
  ·have hji' : ¬ (j : Int) = i := by omega
   rw [if_neg hji] at hsn
   (refine sR fun K hK => ?_; ((repeat (rw [Qa]; simp [hji, hji'])); (try simp only [zs])); refine hK _ _ _ ?_; clear hK K)
   refine pF rfl ?_
   refine Qs (hK2 _ _ _ ?_)
   (refine dR fun KT hKT => ?_; ((repeat (rw [Qh]; simp [hel])); (try simp only [Qm])))
   refine cYp (hkj) ?_
   ((try simp only [Qn, Qo, Ql, Qi, Qk]); (repeat (rw [Qh]; simp [hel])); (try simp only [Qm]))
   (refine hKT _ _ _ _ (by kernel_rfl) ?_; clear hKT KT; (try simp only [zs]))
   (refine hA2 ([0, 1, 2, 3, 5]) _ _ _ (LeT.refl _) (by decide) (by simp) (by simp [Wk, Wl, Wr, D.mov, HO.mov, okM, Wn, Wg, zz, okA, Qx, Qu, hOf, Qg, Qr]) ?_ rfl; simp [Wk, Wl, Wr, D.mov, HO.mov, okM, Wn, Wg, zz, okA, Qx, Qu, hOf, Qg])
   rw [hsn, show es.map Qv ++ [Qv y] = (es ++ [y]).map Qv by simp, mapT_ren]
 ·rintro ys hl tl' ⟨rfl, rfl⟩ htl
  refine hK1 _ _ _ (wpD_weakL htl ?_)
  simp only [Qr, List.set, List.map_cons, List.map_nil, List.cons_append, List.nil_append]
  (refine sR fun K hK => ?_; ((repeat (rw [Qa]; simp)); (try simp only [zs])); refine hK _ _ _ ?_; clear hK K)
  (refine Qj ?_; (try simp only [zs]); refine Wc.ret rfl (.inl ?_); simp [Qp, Out.fgt, D.fgt, D.fgts])
def spotO (t : T) : D :=
 if t.k = 6 then .tuple [.int .i64 0, .int .i64 2, .bool true] else if t.k = 14 \/ t.k = 15 then .tuple [.int .i64 0, .int .i64 1, .bool true]
 else if t.k = 18 then .tuple [.int .i64 4, .int .i64 5, .bool true] else if t.k = 21 then .tuple [.int .i64 5, .int .i64 6, .bool true]
 else if t.k = 24 then .tuple [.int .i64 (IntKind.i64.wrap (t.a + 1)), .int .i64 (IntKind.i64.wrap (t.a + 2)), .bool (decide (0 <= t.a) && decide ((t.ks.length : Int) - 2 = t.a))] else .tuple [.int .i64 0, .int .i64 0, .bool false]
theorem spotO_some {t : T} {i many : Nat} (h : spot t = some (i, many)) (hl : t.ks.length <= Wd) : spotO t = .tuple [.int .i64 i, .int .i64 many, .bool true] := by
 unfold Wd at hl
 unfold spot at h
 unfold spotO
 by_cases h1 : t.k = 6
 ·rw [if_pos h1] at h ⊢; cases h; rfl
 rw [if_neg h1] at h ⊢
 by_cases h1 : t.k = 14 \/ t.k = 15
 ·rw [if_pos h1] at h ⊢; cases h; rfl
 rw [if_neg h1] at h ⊢
 by_cases h1 : t.k = 18
 ·rw [if_pos h1] at h ⊢; cases h; rfl
 rw [if_neg h1] at h ⊢
 by_cases h1 : t.k = 21
 ·rw [if_pos h1] at h ⊢; cases h; rfl
 rw [if_neg h1] at h ⊢
 by_cases h1 : t.k = 24 /\ 0 <= t.a /\ (t.ks.length : Int) - 2 = t.a
 ·rw [if_pos h1] at h
  rw [if_pos h1.1]
  cases h
  rw [i64w (by omega) (by omega), i64w (by omega) (by omega)]
  have e1 : t.a + 1 = ((t.a.toNat + 1 : Nat) : Int) := by omega
  have e2 : t.a + 2 = ((t.a.toNat + 2 : Nat) : Int) := by omega
  rw [e1, e2]
  simp [h1.2.1, h1.2.2]
 ·rw [if_neg h1] at h; cases h
theorem spotO_none {t : T} (h : spot t = none) : ∃ p q, spotO t = .tuple [.int .i64 p, .int .i64 q, .bool false] := by
 unfold spot at h
 unfold spotO
 by_cases h1 : t.k = 6
 ·rw [if_pos h1] at h; cases h
 rw [if_neg h1] at h ⊢
 by_cases h1 : t.k = 14 \/ t.k = 15
 ·rw [if_pos h1] at h; cases h
 rw [if_neg h1] at h ⊢
 by_cases h1 : t.k = 18
 ·rw [if_pos h1] at h; cases h
 rw [if_neg h1] at h ⊢
 by_cases h1 : t.k = 21
 ·rw [if_pos h1] at h; cases h
 rw [if_neg h1] at h ⊢
 by_cases h1 : t.k = 24
 ·rw [if_pos h1]
  refine ⟨IntKind.i64.wrap (t.a + 1), IntKind.i64.wrap (t.a + 2), ?_⟩
  have : (decide (0 <= t.a) && decide ((t.ks.length : Int) - 2 = t.a)) = false := by
   rw [Bool.eq_false_iff]
   intro h2
   simp only [Bool.and_eq_true, decide_eq_true_eq] at h2
   rw [if_pos ⟨h1, h2⟩] at h
   cases h
  rw [this]
 ·rw [if_neg h1]; exact ⟨_, _, rfl⟩
theorem spot_spec (t : T) (hl : t.ks.length <= Wd) : Qt Tryz.prog glob 95 [Qv t] [] (fun o _ => o.fgt = .ret (spotO t)) := by
 obtain ⟨kk, nn, aa, ls, ks⟩ := t
 simp only [T.ks_mk] at hl
 unfold Wd at hl
 unfold spotO
 simp only [T.k_mk, T.a_mk, T.ks_mk]
 rw [encT_mk']
 refine Qt.movd Qe (Qq Wb Tryz.func95 rfl (Qy _ _ Tryz.func95 rfl (by decide)) rfl rfl ?_)
 (refine sR fun K hK => ?_; ((repeat (rw [Qa]; simp)); (try simp only [zs])); refine hK _ _ _ ?_; clear hK K)
 refine Qf fun K1 hK1 => ?_
 (refine sR fun K hK => ?_; ((repeat (rw [Qa]; simp)); (try simp only [zs])); refine hK _ _ _ ?_; clear hK K)
 refine Xh ?_
 by_cases h6 : kk = 6
 ·subst h6
  (refine sR fun K hK => ?_; ((repeat (rw [Qa]; simp)); (try simp only [zs])); refine hK _ _ _ ?_; clear hK K)
  refine pT rfl ?_
  (refine sR fun K hK => ?_; ((repeat (rw [Qa]; simp)); (try simp only [zs])); refine hK _ _ _ ?_; clear hK K)
  (refine Qj ?_; (try simp only [zs]); refine Wc.ret rfl (.inl ?_); simp [Qp, Out.fgt, D.fgt, D.fgts])
 (refine sR fun K hK => ?_; ((repeat (rw [Qa]; simp [h6])); (try simp only [zs])); refine hK _ _ _ ?_; clear hK K)
 refine pF rfl ?_
 refine Qf fun K2 hK2 => ?_
 by_cases h14 : kk = 14
 ·subst h14
  (refine sR fun K hK => ?_; ((repeat (rw [Qa]; simp)); (try simp only [zs])); refine hK _ _ _ ?_; clear hK K)
  refine pT rfl ?_
  refine Qs (hK2 _ _ _ ?_)
  refine pT rfl ?_
  (refine sR fun K hK => ?_; ((repeat (rw [Qa]; simp)); (try simp only [zs])); refine hK _ _ _ ?_; clear hK K)
  (refine Qj ?_; (try simp only [zs]); refine Wc.ret rfl (.inl ?_); simp [Qp, Out.fgt, D.fgt, D.fgts])
 by_cases h15 : kk = 15
 ·subst h15
  (refine sR fun K hK => ?_; ((repeat (rw [Qa]; simp)); (try simp only [zs])); refine hK _ _ _ ?_; clear hK K)
  refine pF rfl ?_
  (refine Qz Wb ?_; ((repeat (rw [Qa]; simp)); (try simp only [zs])))
  refine hK2 _ _ _ ?_
  refine pT rfl ?_
  (refine sR fun K hK => ?_; ((repeat (rw [Qa]; simp)); (try simp only [zs])); refine hK _ _ _ ?_; clear hK K)
  (refine Qj ?_; (try simp only [zs]); refine Wc.ret rfl (.inl ?_); simp [Qp, Out.fgt, D.fgt, D.fgts])
 (refine sR fun K hK => ?_; ((repeat (rw [Qa]; simp [h14])); (try simp only [zs])); refine hK _ _ _ ?_; clear hK K)
 refine pF rfl ?_
 (refine Qz Wb ?_; ((repeat (rw [Qa]; simp [h15])); (try simp only [zs])))
 refine hK2 _ _ _ ?_
 refine pF rfl ?_
 by_cases h18 : kk = 18
 ·subst h18
  (refine sR fun K hK => ?_; ((repeat (rw [Qa]; simp)); (try simp only [zs])); refine hK _ _ _ ?_; clear hK K)
  refine pT rfl ?_
  (refine sR fun K hK => ?_; ((repeat (rw [Qa]; simp)); (try simp only [zs])); refine hK _ _ _ ?_; clear hK K)
  (refine Qj ?_; (try simp only [zs]); refine Wc.ret rfl (.inl ?_); simp [Qp, Out.fgt, D.fgt, D.fgts])
 (refine sR fun K hK => ?_; ((repeat (rw [Qa]; simp [h18])); (try simp only [zs])); refine hK _ _ _ ?_; clear hK K)
 refine pF rfl ?_
 by_cases h21 : kk = 21
 ·subst h21
  (refine sR fun K hK => ?_; ((repeat (rw [Qa]; simp)); (try simp only [zs])); refine hK _ _ _ ?_; clear hK K)
  refine pT rfl ?_
  (refine sR fun K hK => ?_; ((repeat (rw [Qa]; simp)); (try simp only [zs])); refine hK _ _ _ ?_; clear hK K)
  (refine Qj ?_; (try simp only [zs]); refine Wc.ret rfl (.inl ?_); simp [Qp, Out.fgt, D.fgt, D.fgts])
 (refine sR fun K hK => ?_; ((repeat (rw [Qa]; simp [h21])); (try simp only [zs])); refine hK _ _ _ ?_; clear hK K)
 refine pF rfl ?_
 by_cases h24 : kk = 24
 ·subst h24
  have hw : IntKind.i64.wrap ((ks.length : Int) - 2) = (ks.length : Int) - 2 := i64w (by omega) (by omega)
  (refine sR fun K hK => ?_; ((repeat (rw [Qa]; simp)); (try simp only [zs])); refine hK _ _ _ ?_; clear hK K)
  refine pT rfl ?_
  by_cases h0 : 0 <= aa
  ·(refine Qf fun K hK => ?_; refine dR fun KT hKT => ?_; ((repeat (rw [Qh]; simp [h0, hw])); (try simp only [Qm])))
   (refine hKT _ _ _ _ (by kernel_rfl) ?_; clear hKT KT; (try simp only [zs]))
   (refine hK _ _ _ ?_; clear hK K)
   (refine Qj ?_; (try simp only [zs]); refine Wc.ret rfl (.inl ?_); simp [Qp, Out.fgt, D.fgt, D.fgts])
   simp only [h0, decide_true, Bool.true_and]
   exact decide_eq_decide.2 Iff.rfl
  ·(refine Qf fun K hK => ?_; refine dR fun KT hKT => ?_; ((repeat (rw [Qh]; simp [h0, hw])); (try simp only [Qm])))
   (refine hKT _ _ _ _ (by kernel_rfl) ?_; clear hKT KT; (try simp only [zs]))
   (refine hK _ _ _ ?_; clear hK K)
   (refine Qj ?_; (try simp only [zs]); refine Wc.ret rfl (.inl ?_); simp [Qp, Out.fgt, D.fgt, D.fgts])
   simp [h0]
 ·(refine sR fun K hK => ?_; ((repeat (rw [Qa]; simp [h24])); (try simp only [zs])); refine hK _ _ _ ?_; clear hK K)
  refine pF rfl ?_
  refine Qs (hK1 _ _ _ ?_)
  (refine sR fun K hK => ?_; ((repeat (rw [Qa]; simp)); (try simp only [zs])); refine hK _ _ _ ?_; clear hK K)
  (refine Qj ?_; (try simp only [zs]); refine Wc.ret rfl (.inl ?_); simp [Qp, Out.fgt, D.fgt, D.fgts])
  simp [h6, h14, h15, h18, h21, h24]
theorem sizes_spec (l : List T) (hl : l.length <= Wd) (hls : ∀ x, x ∈ l -> okT x) : Qt Tryz.prog glob 142 [.slice (l.map Qv) .any] [] (fun o _ => o.fgt = .ret (.int .i64 (T.szs l 0))) := by
 obtain ⟨R, hR⟩ : ∃ R, R = T.szs l 0 := ⟨_, rfl⟩
 rw [<- hR]
 refine Qt.movd Qe (Qq Wb Tryz.func142 rfl (Qy _ _ Tryz.func142 rfl (by decide)) rfl rfl ?_)
 (refine sR fun K hK => ?_; ((repeat (rw [Qa]; simp)); (try simp only [zs])); refine hK _ _ _ ?_; clear hK K)
 (refine sR fun K hK => ?_; ((repeat (rw [Qa]; simp)); (try simp only [zs])); refine hK _ _ _ ?_; clear hK K)
 refine Qf fun K1 hK1 => ?_
 (refine sR fun K hK => ?_; ((repeat (rw [Qa]; simp)); (try simp only [zs])); refine hK _ _ _ ?_; clear hK K)
 refine wpD_rangeJ Wb Qe (ti := 3) (tk := 8) (tn := 7) (td := 9) (ts := 16) [5, 8, 9, 10, 11, 12, 13, 14, 15, 16] [3] (l.length) (fun k ys hl => ∃ (s : Int), ys = [.int .i64 s] /\ R = T.szs (l.drop k) s /\ hl = []) rfl rfl rfl rfl rfl rfl rfl rfl rfl rfl rfl rfl (by simp) (by decide) rfl (by first | assumption | omega | (unfold Wd; omega)) rfl (by kernel_rfl) (by decide) ?_ ?_ ?_
 ·exact ⟨0, rfl, hR, rfl⟩
 ·rintro i ys hl A hi ⟨s, rfl, hF, rfl⟩ hA hA2
  simp only [Qr, List.set, List.map_cons, List.map_nil, List.cons_append, List.nil_append]
  have hi' : (i : Int) < l.length := by omega
  rw [List.drop_eq_getElem_cons hi, T.szs] at hF
  have hrec := size_spec l[i] (hls _ (List.getElem_mem hi))
  obtain ⟨x, hx⟩ : ∃ x, l[i] = x := ⟨_, rfl⟩
  rw [hx] at hF hrec
  have hEx := Qd x
  rw [hEx] at hrec
  generalize x.sz = v at hF hrec
  (refine sR fun K hK => ?_; ((repeat (rw [Qa]; simp [hi, hi', hx, hEx])); (try simp only [zs])); refine hK _ _ _ ?_; clear hK K)
  (refine Qz Wb ?_; ((repeat (rw [Qa]; simp)); (try simp only [zs])))
  refine cXp (hrec) ?_
  ((try simp only [Qb, Qc, Ql, Qi, Qk]); (repeat (rw [Qa]; simp)); (try simp only [zs]))
  (refine hA2 ([]) _ _ _ (LeT.refl _) (by decide) (by simp) (by simp [Wk, Wl, Wr, D.mov, HO.mov, okM, Wn, Wg, zz, okA, Qx, Qu, hOf, Qg, Qr]) ?_ rfl; simp [Wk, Wl, Wr, D.mov, HO.mov, okM, Wn, Wg, zz, okA, Qx, Qu, hOf, Qg])
  exact hF
 ·rintro ys hl tl' ⟨s, rfl, hF, rfl⟩ htl
  refine hK1 _ _ _ (wpD_weakL htl ?_)
  simp only [Qr, List.set, List.map_cons, List.map_nil, List.cons_append, List.nil_append]
  rw [List.drop_length, T.szs] at hF
  subst hF
  (refine sR fun K hK => ?_; ((repeat (rw [Qa]; simp)); (try simp only [zs])); refine hK _ _ _ ?_; clear hK K)
  (refine Qj ?_; (try simp only [zs]); refine Wc.ret rfl (.inl ?_); simp [Qp, Out.fgt, D.fgt, D.fgts])
theorem sized_spec (many : Int) (t : T) : ∀ b, okT t -> Qt Tryz.prog glob 194 [Qv t, .int .i64 many, .int .i64 b] [] (fun o _ => o.fgt = .ret (.int .i64 (T.sdw many t b))) := by
 induction t using T.ind with
 | h kk nn aa ls ks ih =>
 intro b ht
 have hkl : ks.length <= Wd := ht.kl
 have hks := ht.ks
 simp only [T.ks_mk] at hks
 obtain ⟨R, hR⟩ : ∃ R, R = T.sdw many (.mk kk nn aa ls ks) b := ⟨_, rfl⟩
 rw [<- hR]
 rw [T.sdw] at hR
 rw [encT_mk']
 refine Qt.movd Qe (Qq Wb Tryz.func194 rfl (Qy _ _ Tryz.func194 rfl (by decide)) rfl rfl ?_)
 (refine sR fun K hK => ?_; ((repeat (rw [Qa]; simp)); (try simp only [zs])); refine hK _ _ _ ?_; clear hK K)
 by_cases h1 : kk = 1 /\ nn = b
 ·obtain ⟨rfl, rfl⟩ := h1
  rw [if_pos ⟨rfl, rfl⟩] at hR
  subst hR
  refine Qf fun K1 hK1 => ?_
  (refine sR fun K hK => ?_; ((repeat (rw [Qa]; simp)); (try simp only [zs])); refine hK _ _ _ ?_; clear hK K)
  refine pT rfl ?_
  (refine sR fun K hK => ?_; ((repeat (rw [Qa]; simp)); (try simp only [zs])); refine hK _ _ _ ?_; clear hK K)
  (refine Qj ?_; (try simp only [zs]); refine Wc.ret rfl (.inl ?_); simp [Qp, Out.fgt, D.fgt, D.fgts])
 rw [if_neg h1] at hR
 refine wpD_seqf [10, 11, 12, 13, 14, 15, 16, 17, 18] ([10, 11, 12, 13, 14, 15, 16, 17, 18].map fun _ => .junk) [.cells 27 [.int .i64 kk, .int .i64 nn, .int .i64 aa, .slice (ls.map Wp) .any, .slice (ks.map Qv) .any]] ?_ ?_
 rotate_left
 ·intro K hK0
  by_cases h2 : kk = 1
  ·subst h2
   have h3 : ¬ nn = b := fun h => h1 ⟨rfl, h⟩
   (refine sR fun K hK => ?_; ((repeat (rw [Qa]; simp [h3])); (try simp only [zs])); refine hK _ _ _ ?_; clear hK K)
   refine pF rfl ?_
   refine Qs (hK0 _ ?_)
   simp [leT, Qr]
  ·(refine sR fun K hK => ?_; ((repeat (rw [Qa]; simp [h2])); (try simp only [zs])); refine hK _ _ _ ?_; clear hK K)
   refine pF rfl ?_
   refine Qs (hK0 _ ?_)
   simp [leT, Qr]
 simp only [Qr, List.set, List.map_cons, List.map_nil, List.cons_append, List.nil_append]
 (refine sR fun K hK => ?_; ((repeat (rw [Qa]; simp)); (try simp only [zs])); refine hK _ _ _ ?_; clear hK K)
 refine Qf fun K1 hK1 => ?_
 (refine sR fun K hK => ?_; ((repeat (rw [Qa]; simp)); (try simp only [zs])); refine hK _ _ _ ?_; clear hK K)
 refine wpD_rangeJ Wb Qe (ti := 3) (tk := 23) (tn := 22) (td := 24) (ts := 45) [8, 9, 23, 24, 25, 26, 27, 28, 29, 30, 31, 32, 33, 34, 35, 36, 37, 38, 39, 40, 41, 42, 43, 44, 45] [7] (ks.length) (fun k ys hl => ∃ (s : Int), ys = [.int .i64 s] /\ R = T.sdws many kk (ks.drop k) k b s /\ hl = [.cells 27 [.int .i64 kk, .int .i64 nn, .int .i64 aa, .slice (ls.map Wp) .any, .slice (ks.map Qv) .any]]) rfl rfl rfl rfl rfl rfl rfl rfl rfl rfl rfl rfl (by simp) (by decide) rfl (by first | assumption | omega | (unfold Wd; omega)) rfl (by kernel_rfl) (by decide) ?_ ?_ ?_
 ·exact ⟨1, rfl, hR, rfl⟩
 ·rintro i ys hl A hi ⟨s, rfl, hF, rfl⟩ hA hA2
  simp only [Qr, List.set, List.map_cons, List.map_nil, List.cons_append, List.nil_append]
  have hi' : (i : Int) < ks.length := by omega
  rw [List.drop_eq_getElem_cons hi, T.sdws] at hF
  have hrec := ih ks[i] (List.getElem_mem hi) (Xu b kk i) (hks _ (List.getElem_mem hi))
  have hbi := binds_spec kk i
  have hbd : Xu b kk i = if Ww kk i then IntKind.i64.wrap (b + 1) else b := rfl
  obtain ⟨x, hx⟩ : ∃ x, ks[i] = x := ⟨_, rfl⟩
  rw [hx] at hF hrec
  have hEx := Qd x
  rw [hEx] at hrec
  generalize T.sdw many x (Xu b kk i) = v at hF hrec
  generalize Xu b kk i = b' at hrec hbd
  generalize Ww kk i = bb at hbi hbd
  (refine sR fun K hK => ?_; ((repeat (rw [Qa]; simp [hi, hi', hx, hEx])); (try simp only [zs])); refine hK _ _ _ ?_; clear hK K)
  (refine sR fun K hK => ?_; ((repeat (rw [Qa]; simp)); (try simp only [zs])))
  refine cXp (hbi) ?_
  ((try simp only [Qb, Qc, Ql, Qi, Qk]); (repeat (rw [Qa]; simp)); (try simp only [zs]))
  (refine hK _ _ _ ?_; clear hK K)
  cases bb with
  | true =>
   rw [if_pos rfl] at hbd
   subst hbd
   refine pT rfl ?_
   (refine Qz Wb ?_; ((repeat (rw [Qa]; simp)); (try simp only [zs])))
   refine cXp (hrec) ?_
   ((try simp only [Qb, Qc, Ql, Qi, Qk]); (repeat (rw [Qa]; simp)); (try simp only [zs]))
   (refine hA2 ([0]) _ _ _ (LeT.refl _) (by decide) (by simp) (by simp [Wk, Wl, Wr, D.mov, HO.mov, okM, Wn, Wg, zz, okA, Qx, Qu, hOf, Qg, Qr]) ?_ rfl; simp [Wk, Wl, Wr, D.mov, HO.mov, okM, Wn, Wg, zz, okA, Qx, Qu, hOf, Qg])
   exact hF
  | false =>
   rw [if_neg Bool.false_ne_true] at hbd
   subst hbd
   refine pF rfl ?_
   (refine Qz Wb ?_; ((repeat (rw [Qa]; simp)); (try simp only [zs])))
   refine cXp (hrec) ?_
   ((try simp only [Qb, Qc, Ql, Qi, Qk]); (repeat (rw [Qa]; simp)); (try simp only [zs]))
   (refine hA2 ([0]) _ _ _ (LeT.refl _) (by decide) (by simp) (by simp [Wk, Wl, Wr, D.mov, HO.mov, okM, Wn, Wg, zz, okA, Qx, Qu, hOf, Qg, Qr]) ?_ rfl; simp [Wk, Wl, Wr, D.mov, HO.mov, okM, Wn, Wg, zz, okA, Qx, Qu, hOf, Qg])
   exact hF
 ·rintro ys hl tl' ⟨s, rfl, hF, rfl⟩ htl
  refine hK1 _ _ _ (wpD_weakL htl ?_)
  simp only [Qr, List.set, List.map_cons, List.map_nil, List.cons_append, List.nil_append]
  rw [List.drop_length, T.sdws] at hF
  subst hF
  (refine sR fun K hK => ?_; ((repeat (rw [Qa]; simp)); (try simp only [zs])); refine hK _ _ _ ?_; clear hK K)
  (refine Qj ?_; (try simp only [zs]); refine Wc.ret rfl (.inl ?_); simp [Qp, Out.fgt, D.fgt, D.fgts])
theorem size2_spec (t a : T) (ht : okT t) (ha : okT a) (hb : ((t.sd a.nsz 0 : Nat) : Int) <= 9223372036854775807) : Qt Tryz.prog glob 143 [Qv t, Qv a] [] (fun o _ => o.fgt = .ret (.int .i64 ((t.sd a.nsz 0 : Nat) : Int))) := by
 have h1 := size_spec a ha
 have h2 := sized_spec a.sz t 0 ht
 rw [sz_true a] at h1 h2
 rw [sdw_true, i64w (n := ((t.sd a.nsz 0 : Nat) : Int)) (by omega) hb] at h2
 generalize ((t.sd a.nsz 0 : Nat) : Int) = v at h2 ⊢
 have hEt := Qd t
 have hEa := Qd a
 rw [hEt, hEa]
 rw [hEa] at h1
 rw [hEt] at h2
 refine Qt.movd Qe (Qq Wb Tryz.func143 rfl (Qy _ _ Tryz.func143 rfl (by decide)) rfl rfl ?_)
 (refine sR fun K hK => ?_; ((repeat (rw [Qa]; simp)); (try simp only [zs])); refine hK _ _ _ ?_; clear hK K)
 (refine Qf fun K hK => ?_; refine dR fun KT hKT => ?_; ((repeat (rw [Qh]; simp)); (try simp only [Qm])))
 refine cYp (h1) ?_
 ((try simp only [Qn, Qo, Ql, Qi, Qk]); (repeat (rw [Qh]; simp)); (try simp only [Qm]))
 refine cYp (h2) ?_
 ((try simp only [Qn, Qo, Ql, Qi, Qk]); (repeat (rw [Qh]; simp)); (try simp only [Qm]))
 (refine hKT _ _ _ _ (by kernel_rfl) ?_; clear hKT KT; (try simp only [zs]))
 (refine hK _ _ _ ?_; clear hK K)
 (refine Qj ?_; (try simp only [zs]); refine Wc.ret rfl (.inl ?_); simp [Qp, Out.fgt, D.fgt, D.fgts])
def Wj : HO := .mp [(.int .i64 6, .fn (.func 88) [.box 0 0] []), (.int .i64 14, .fn (.func 89) [.box 0 0] []), (.int .i64 15, .fn (.func 89) [.box 0 0] []), (.int .i64 7, .fn (.func 90) [.box 0 0] []),
 (.int .i64 3, .fn (.func 91) [.box 0 0] []), (.int .i64 18, .fn (.func 92) [.box 0 0] []), (.int .i64 21, .fn (.func 93) [.box 0 0] []), (.int .i64 24, .fn (.func 94) [.box 0 0] [])]
def Wf (left : Int) (l : List C) (once done : Bool) : List HO := [headD left l once done, Wj]
theorem burn_ok (left : Int) (l : List C) (once done : Bool) (n : Int) (h0 : 0 <= n) (h : n <= left) (hl : left <= 9223372036854775807) : Qt Tryz.prog glob 141 [.box 0 0, .int .i64 n] (Wf left l once done) (fun o hc => o = .ret (.tuple []) /\ hc = Wf (left - n) l once done) := by
 have hw : IntKind.i64.wrap (left - n) = left - n := i64w (by omega) (by omega)
 have h' : ¬ left < n := by omega
 unfold Wf headD Cs Wj
 refine Qt.movd Qe (Qq Wb Tryz.func141 rfl (Qy _ _ Tryz.func141 rfl (by decide)) rfl rfl ?_)
 refine Qf fun K1 hK1 => ?_
 (refine sR fun K hK => ?_; ((repeat (rw [Qa]; simp [h'])); (try simp only [zs])); refine hK _ _ _ ?_; clear hK K)
 refine pF rfl ?_
 refine Qs (hK1 _ _ _ ?_)
 (refine Qz Wb ?_; ((repeat (rw [Qa]; simp [hw])); (try simp only [zs])))
 ((try simp only [zs]); refine Wc.nrm rfl (.inr ⟨[], by decide, by simp, ?_⟩); simp [Out.mov, Wk, Wl, Wr, D.mov, HO.mov, okM, Wn, Wg, zz, okA, Qx, Qu, hOf, Qg, Qp, Out.fgt, D.fgt, D.fgts])
theorem burn_no (left : Int) (l : List C) (once done : Bool) (n : Int) (h : left < n) : Qt Tryz.prog glob 141 [.box 0 0, .int .i64 n] (Wf left l once done) (fun o hc => o = .pan goneD /\ hc = Wf left l once done) := by
 unfold Wf headD Cs Wj goneD
 refine Qt.movd Qe (Qq Wb Tryz.func141 rfl (Qy _ _ Tryz.func141 rfl (by decide)) rfl rfl ?_)
 refine Qf fun K1 hK1 => ?_
 (refine sR fun K hK => ?_; ((repeat (rw [Qa]; simp [h])); (try simp only [zs])); refine hK _ _ _ ?_; clear hK K)
 refine pT rfl ?_
 (refine Qz Wb ?_; ((repeat (rw [Qa]; simp)); (try simp only [zs])))
 ((try simp only [zs]); refine Wc.pan (.inr ⟨[], by decide, by simp, ?_⟩); simp [Out.mov, Wk, Wl, Wr, D.mov, HO.mov, okM, Wn, Wg, zz, okA, Qx, Qu, hOf, Qg, Qp, Out.fgt, D.fgt, D.fgts])
theorem Qt.dead {P : Program} {G : Nat -> Option D} {f : FuncId} {args : List D} {objs : List HO} {Post Post' : Out -> List HO -> Prop} (h : Qt P G f args objs Post) (hP : ∀ o hc, Post o hc -> ∃ hc', (∀ r, hOf hc' r = hOf hc r \/ hOf hc' r = .dead) /\ Post' o hc') : Qt P G f args objs Post' := fun ρ w vs hR hv => by
 obtain ⟨h1, h2⟩ := h ρ w vs hR hv
 refine ⟨h1, h2.mono ?_⟩
 rintro e w' ⟨ρ', out, hc, hp, hm, hr, hx⟩
 obtain ⟨hc', hk, hp'⟩ := hP out hc hp
 exact ⟨ρ', out, hc', hp', hm, hr.kill hk, hx.kill hk⟩
theorem burn_dead (left : Int) (l : List C) (once done : Bool) (n : Int) (h : left < n) : Qt Tryz.prog glob 141 [.box 0 0, .int .i64 n] (Wf left l once done) (fun o hc => o = .pan goneD /\ hc = [.dead, .dead]) :=
 (burn_no left l once done n h).dead fun o hc hp => ⟨[.dead, .dead], fun r => by
  rw [hp.2]
  match r with
  | 0 => exact .inr rfl
  | 1 => exact .inr rfl
  | r + 2 => exact .inl rfl, hp.1, rfl⟩
def Cost (left : Int) (l : List C) (once done : Bool) (c : Nat) (d : D) (o : Out) (hc : List HO) : Prop :=
 if (c : Int) <= left then o.fgt = .ret d /\ hc = Wf (left - c) l once done else o = .pan goneD /\ hc = [.dead, .dead]
theorem Cost_ok {left : Int} {l : List C} {once done : Bool} {c : Nat} {d : D} (h : (c : Int) <= left) : Cost left l once done c d = (fun o hc => o.fgt = .ret d /\ hc = Wf (left - c) l once done) := by
 funext o hc; unfold Cost; rw [if_pos h]
theorem Cost_no {left : Int} {l : List C} {once done : Bool} {c : Nat} {d : D} (h : ¬ (c : Int) <= left) : Cost left l once done c d = (fun o hc => o = .pan goneD /\ hc = [.dead, .dead]) := by
 funext o hc; unfold Cost; rw [if_neg h]
def OwnP (left : Int) (l : List C) (once done : Bool) (t : T) (r : Option (T × Nat)) : Out -> List HO -> Prop := match r with
 | none => fun o hc => o.fgt = .ret (.tuple [Qv t, .bool false]) /\ hc = Wf left l once done
 | some p => Cost left l once done p.2 (.tuple [Qv p.1, .bool true])
def PM : Nat := 536870912
def okS (t : T) : Prop := okT t /\ t.pot <= PM
theorem okS.deep {t : T} (h : okS t) : t.deep <= DM := by have := t.deep_nsz; have := nsz_pot t; have := h.2; unfold PM at this; unfold DM; omega
theorem okS.kid {t : T} (h : okS t) (i : Nat) : okS (t.kid i) := ⟨kid_ok h.1 i, Nat.le_trans (kid_pot t i) h.2⟩
theorem okS.sd {t a : T} (h : okS t) (ha : okS a) : ((t.sd a.nsz 0 : Nat) : Int) <= 288230376151711744 := by
 have := sd_bound h.2 ha.2
 unfold PM at this
 omega
theorem okS.nsz {t : T} (h : okS t) : t.nsz <= 536870912 := by have := nsz_pot t; have := h.2; unfold PM at this; omega
structure okCs (l : List C) : Prop where
 len : l.length <= Wd
 ok : ∀ c, c ∈ l -> okC c
 bo : ∀ c, c ∈ l -> c.bo.nsz <= 1048576
 ty : ∀ c, c ∈ l -> c.ty.nsz <= 1048576
theorem hput_spec (left : Int) (l : List C) (once done : Bool) (hl : left <= 9223372036854775807) (t a : T) (ht : okS t) (ha : okS a) :
  Qt Tryz.prog glob 138 [.box 0 0, Qv t, Qv a] (Wf left l once done) (Cost left l once done (t.sd a.nsz 0) (Qv (t.put [a] 0))) := by
 have hz := size2_spec t a ht.1 ha.1 (Int.le_trans (ht.sd ha) (by omega))
 have hp := putT_spec t [a] (by unfold Wd; simp) (fun b hb => by rw [one_mem hb]; exact ⟨ha.1, ha.deep⟩) ht.deep ht.1
 have hEt := Qd t
 have hEa := Qd a
 generalize t.sd a.nsz 0 = c at hz ⊢
 generalize t.put [a] 0 = r at hp ⊢
 have hEr := Qd r
 unfold Ts at hp
 simp only [List.map_cons, List.map_nil] at hp
 rw [hEt, hEa] at hp hz ⊢
 by_cases hc : (c : Int) <= left
 ·rw [Cost_ok hc]
  have hbu := burn_ok left l once done c (by omega) hc hl
  unfold Wf headD Cs Wj at hbu ⊢
  refine Qt.movd Qe (Qq Wb Tryz.func138 rfl (Qy _ _ Tryz.func138 rfl (by decide)) rfl rfl ?_)
  (refine sR fun K hK => ?_; ((repeat (rw [Qa]; simp)); (try simp only [zs])); refine hK _ _ _ ?_; clear hK K)
  (refine Qf fun K hK => ?_; refine dR fun KT hKT => ?_; ((repeat (rw [Qh]; simp)); (try simp only [Qm])))
  refine cYp (hz) ?_
  ((try simp only [Qn, Qo, Ql, Qi, Qk]); (repeat (rw [Qh]; simp)); (try simp only [Qm]))
  refine cYo [0, 1] true false (hbu) (fun o h e => e) ?_; simp [zz, okA, Qx, Qu, hOf, Qg, Out.ren, upO, Qu, rdO]
  ((try simp only [Qn, Qo, Ql, Qi, Qk]); (repeat (rw [Qh]; simp)); (try simp only [Qm]))
  (refine hKT _ _ _ _ (by kernel_rfl) ?_; clear hKT KT; (try simp only [zs]))
  (refine hK _ _ _ ?_; clear hK K)
  (refine sR fun K hK => ?_; ((repeat (rw [Qa]; simp)); (try simp only [zs])))
  refine cXp (hp) ?_
  ((try simp only [Qb, Qc, Ql, Qi, Qk]); (repeat (rw [Qa]; simp)); (try simp only [zs]))
  (refine hK _ _ _ ?_; clear hK K)
  (refine Qj ?_; (try simp only [zs]); refine Wc.ret rfl (.inr ⟨[], by decide, by simp, ?_⟩); simp [Out.mov, Wk, Wl, Wr, D.mov, HO.mov, okM, Wn, Wg, zz, okA, Qx, Qu, hOf, Qg, Qp, Out.fgt, D.fgt, D.fgts])
  exact hEr.symm
 ·rw [Cost_no hc]
  have hbu := burn_dead left l once done c (by omega)
  unfold Wf headD Cs Wj goneD at hbu ⊢
  refine Qt.movd Qe (Qq Wb Tryz.func138 rfl (Qy _ _ Tryz.func138 rfl (by decide)) rfl rfl ?_)
  (refine sR fun K hK => ?_; ((repeat (rw [Qa]; simp)); (try simp only [zs])); refine hK _ _ _ ?_; clear hK K)
  (refine Qf fun K hK => ?_; refine dR fun KT hKT => ?_; ((repeat (rw [Qh]; simp)); (try simp only [Qm])))
  refine cYp (hz) ?_
  ((try simp only [Qn, Qo, Ql, Qi, Qk]); (repeat (rw [Qh]; simp)); (try simp only [Qm]))
  refine cYo [0, 1] true false (hbu) (fun o h e => e) ?_; simp [zz, okA, Qx, Qu, hOf, Qg, Out.ren, upO, Qu, rdO]
  ((try simp only [Qn, Qo, Ql, Qi, Qk]); (repeat (refine wpT_late _ _ _ _ (by kernel_rfl) ?_; simp only [Ql, List.set, List.nil_append, List.cons_append, Nat.reduceAdd])); (try simp only [Qm]))
  (refine hKT _ _ _ _ (by kernel_rfl) ?_; clear hKT KT; (try simp only [zs]))
  simp [killHl]
  ((try simp only [zs]); refine Wc.pan (.inr ⟨[], by decide, by simp, ?_⟩); simp [Out.mov, Wk, Wl, Wr, D.mov, HO.mov, okM, Wn, Wg, zz, okA, Qx, Qu, hOf, Qg, Qp, Out.fgt, D.fgt, D.fgts])
theorem htake_spec (left : Int) (l : List C) (once done : Bool) (hl : left <= 9223372036854775807) (t : T) (ht : okS t) :
  Qt Tryz.prog glob 139 [.box 0 0, Qv t] (Wf left l once done) (Cost left l once done t.nsz (Qv t)) := by
 have hz := size_spec t ht.1
 rw [sz_true, i64w (by omega) (by have := ht.nsz; omega)] at hz
 have hEt := Qd t
 generalize t.nsz = c at hz ⊢
 rw [hEt] at hz ⊢
 by_cases hc : (c : Int) <= left
 ·rw [Cost_ok hc]
  have hbu := burn_ok left l once done c (by omega) hc hl
  unfold Wf headD Cs Wj at hbu ⊢
  refine Qt.movd Qe (Qq Wb Tryz.func139 rfl (Qy _ _ Tryz.func139 rfl (by decide)) rfl rfl ?_)
  (refine sR fun K hK => ?_; ((repeat (rw [Qa]; simp)); (try simp only [zs])); refine hK _ _ _ ?_; clear hK K)
  (refine Qf fun K hK => ?_; refine dR fun KT hKT => ?_; ((repeat (rw [Qh]; simp)); (try simp only [Qm])))
  refine cYp (hz) ?_
  ((try simp only [Qn, Qo, Ql, Qi, Qk]); (repeat (rw [Qh]; simp)); (try simp only [Qm]))
  refine cYo [0, 1] true false (hbu) (fun o h e => e) ?_; simp [zz, okA, Qx, Qu, hOf, Qg, Out.ren, upO, Qu, rdO]
  ((try simp only [Qn, Qo, Ql, Qi, Qk]); (repeat (rw [Qh]; simp)); (try simp only [Qm]))
  (refine hKT _ _ _ _ (by kernel_rfl) ?_; clear hKT KT; (try simp only [zs]))
  (refine hK _ _ _ ?_; clear hK K)
  (refine sR fun K hK => ?_; ((repeat (rw [Qa]; simp)); (try simp only [zs])); refine hK _ _ _ ?_; clear hK K)
  (refine Qj ?_; (try simp only [zs]); refine Wc.ret rfl (.inr ⟨[], by decide, by simp, ?_⟩); simp [Out.mov, Wk, Wl, Wr, D.mov, HO.mov, okM, Wn, Wg, zz, okA, Qx, Qu, hOf, Qg, Qp, Out.fgt, D.fgt, D.fgts])
 ·rw [Cost_no hc]
  have hbu := burn_dead left l once done c (by omega)
  unfold Wf headD Cs Wj goneD at hbu ⊢
  refine Qt.movd Qe (Qq Wb Tryz.func139 rfl (Qy _ _ Tryz.func139 rfl (by decide)) rfl rfl ?_)
  (refine sR fun K hK => ?_; ((repeat (rw [Qa]; simp)); (try simp only [zs])); refine hK _ _ _ ?_; clear hK K)
  (refine Qf fun K hK => ?_; refine dR fun KT hKT => ?_; ((repeat (rw [Qh]; simp)); (try simp only [Qm])))
  refine cYp (hz) ?_
  ((try simp only [Qn, Qo, Ql, Qi, Qk]); (repeat (rw [Qh]; simp)); (try simp only [Qm]))
  refine cYo [0, 1] true false (hbu) (fun o h e => e) ?_; simp [zz, okA, Qx, Qu, hOf, Qg, Out.ren, upO, Qu, rdO]
  ((try simp only [Qn, Qo, Ql, Qi, Qk]); (repeat (refine wpT_late _ _ _ _ (by kernel_rfl) ?_; simp only [Ql, List.set, List.nil_append, List.cons_append, Nat.reduceAdd])); (try simp only [Qm]))
  (refine hKT _ _ _ _ (by kernel_rfl) ?_; clear hKT KT; (try simp only [zs]))
  simp [killHl]
  ((try simp only [zs]); refine Wc.pan (.inr ⟨[], by decide, by simp, ?_⟩); simp [Out.mov, Wk, Wl, Wr, D.mov, HO.mov, okM, Wn, Wg, zz, okA, Qx, Qu, hOf, Qg, Qp, Out.fgt, D.fgt, D.fgts])
end Go.Proofs.YtgloldepdhgfaaaGreatDoor
namespace Go.Proofs.YtgloldepdhgfaaaGreatDoor
set_option linter.unusedSimpArgs false
set_option linter.unusedVariables false
open Go.RowKit
def RetP (l : List C) (u : T) (lf : Int) (d : Bool) : Out -> List HO -> Prop := fun o hc => o.fgt = .ret (Qv u) /\ hc = Wf lf l false d
def GoneP : Out -> List HO -> Prop := fun o hc => o = .pan goneD /\ hc = [.dead, .dead]
inductive RunH (l : List C) : T -> Int -> Bool -> (Out -> List HO -> Prop) -> Prop where
 | fin {t u : T} {n : Nat} {lf : Int} {d : Bool} (h : Hd l t n u) (hn : (n : Int) <= lf) : RunH l t lf d (RetP l u (lf - n) (d || decide (0 < n)))
 | gone {t : T} {lf q : Int} {d : Bool} (h : GoneAt l t lf q) : RunH l t lf d GoneP
def Ready (l : List C) (t : T) : Prop := Wo l t = ownS l t (Wv t) /\ t.trunc = t
theorem Ready.none {l : List C} {t : T} (h : spot t = none) : Ready l t := ⟨by rw [hstep_none h]; unfold Wv; rw [h], trunc_none h⟩
theorem Ready.some {l : List C} {t v : T} {i many : Nat} (hs : spot t = some (i, many)) {m : Nat} {x : T} (h : Hd l x m v) : Ready l (t.withT v i many) := by
 obtain ⟨h1, h2⟩ := h.done
 obtain ⟨h3, h4⟩ := ready hs h1 h2
 exact ⟨by rw [h3, place_with hs], h4⟩
theorem RunH.place {l : List C} {t : T} {lf : Int} {d : Bool} {P : Out -> List HO -> Prop} (h : RunH l t lf d P) (h0 : 0 <= lf) {i many : Nat} (hs : spot t = some (i, many)) :
  (∃ q, GoneAt l (t.kid i) lf q /\ P = GoneP) \/ ∃ m v, Hd l (t.kid i) m v /\ (m : Int) <= lf /\ Ready l (t.withT v i many) /\ RunH l (t.withT v i many) (lf - m) (d || decide (0 < m)) P := by
 cases h with
 | fin h hn =>
  rename_i u n
  obtain ⟨m, v, h1, h2, h3⟩ := h.place hs
  refine .inr ⟨m, v, h1, by omega, .some hs h1, ?_⟩
  have := RunH.fin (lf := lf - m) (d := d || decide (0 < m)) h3 (by omega)
  rw [show lf - (m : Int) - ((n - m : Nat) : Int) = lf - n by omega, Bool.or_assoc, show (decide (0 < m) || decide (0 < n - m)) = decide (0 < n) by rw [<- Bool.decide_or]; apply decide_eq_decide.2; omega] at this
  exact this
 | gone h =>
  rcases h.place h0 hs with h1 | ⟨m, v, h1, h2, h3⟩
  ·exact .inl ⟨_, h1, rfl⟩
  ·exact .inr ⟨m, v, h1, h2, .some hs h1, .gone h3⟩
theorem RunH.own {l : List C} {t : T} {lf : Int} {d : Bool} {P : Out -> List HO -> Prop} (h : RunH l t lf d P) (hr : Ready l t) :
  match ownS l t (Wv t) with
  | none => P = RetP l t lf d
  | some p => if (p.2 : Int) <= lf then RunH l p.1 (lf - p.2) true P else P = GoneP := by
 rw [<- hr.1]
 cases h with
 | fin h hn =>
  rename_i u n
  cases h with
  | stop h => rw [h]; simp only; rw [hr.2]; simp
  | @step _ w _ c n h r =>
   have := hstep_pos t h
   rw [h]
   simp only
   rw [if_pos (by omega)]
   have := RunH.fin (lf := lf - c) (d := true) r (by omega)
   rw [show lf - (c : Int) - (n : Int) = lf - ((c + n : Nat) : Int) by omega, Bool.true_or] at this
   rw [show (d || decide (0 < c + n)) = true by rw [decide_eq_true (by omega), Bool.or_true]]
   exact this
 | gone h =>
  cases h with
  | now h hf => rw [h]; simp only; rw [if_neg (by omega)]; trivial
  | later h hf r => rw [h]; simp only; rw [if_pos hf]; exact .gone r
theorem Hd.pot {l : List C} {t u : T} {n : Nat} (h : Hd l t n u) : u.pot <= t.pot + 7 * n := by
 induction h with
 | stop h => have := trunc_pot ‹T›; omega
 | step h r ih => have := hstep_pot _ h; omega
theorem Hd.ok {l : List C} (hl : ∀ c, c ∈ l -> okC c) {t u : T} {n : Nat} (h : Hd l t n u) : okT t -> okT u := by
 induction h with
 | stop h => exact trunc_ok _
 | step h r ih => intro ht; exact ih (hstep_ok hl _ ht h)
def mu (t : T) : Nat := if spot t = none then 0 else t.deep + 1
theorem mu_kid {t : T} {i many : Nat} (hs : spot t = some (i, many)) : mu (t.kid i) < mu t := by
 have h0 : mu t = t.deep + 1 := by unfold mu; rw [if_neg (by rw [hs]; simp)]
 rw [h0]
 by_cases hi : i < t.ks.length
 ·rw [kid_in hi]
  have hd : (t.ks[i]).deep + 1 <= t.deep := by
   cases t with
   | mk k n a ls ks => exact T.deep_kid (List.getElem_mem hi)
  unfold mu
  split <;> omega
 ·rw [kid_out hi]
  unfold mu
  rw [if_pos zero_spot]
  omega
mutual
def T.nl : T -> T
 | .mk k n a ls ks => .mk k n a (ls.map Xo) (T.nls ks)
def T.nls : List T -> List T
 | [] => []
 | t :: r => T.nl t :: T.nls r
end
theorem sameLs_nl : ∀ l m : List LV, sameLs l m = true ↔ l.map Xo = m.map Xo
 | [], [] => by simp [sameLs]
 | [], _ :: _ => by simp [sameLs]
 | _ :: _, [] => by simp [sameLs]
 | a :: r, b :: s => by rw [sameLs, Bool.and_eq_true, sameLs_nl r s]; simp
mutual
theorem same_nl : ∀ t u : T, t.sameB u = true ↔ t.nl = u.nl
 | .mk k n a ls ks, .mk k' n' a' ls' ks' => by
  rw [T.sameB, T.nl, T.nl]
  simp only [Bool.and_eq_true, decide_eq_true_eq, T.mk.injEq]
  rw [sameLs_nl, sames_nl ks ks']
  simp [and_assoc]
theorem sames_nl : ∀ l m : List T, T.samesB l m = true ↔ T.nls l = T.nls m
 | [], [] => by rw [T.samesB]; simp
 | [], _ :: _ => by rw [T.samesB, T.nls, T.nls] <;> simp
 | _ :: _, [] => by rw [T.samesB, T.nls, T.nls] <;> simp
 | t :: r, u :: s => by rw [T.samesB, T.nls, T.nls, Bool.and_eq_true, same_nl t u, sames_nl r s]; simp
end
inductive Stk (l : List C) : T -> Prop where
 | mk {v : T} (h : rootI l v = none) (hp : ∀ i many, spot v = some (i, many) -> i < v.ks.length -> Stk l (v.kid i)) : Stk l v
theorem own_none {l : List C} {t x : T} : ownS l t x = none ↔ ownI l t x = none := by
 unfold ownS ownI
 repeat' split
 all_goals simp_all
theorem stk_of {l : List C} {v : T} {sc : Nat} (h : Ws v sc) : Wo l v = none -> Stk l v := by
 induction h with
 | @mk k m a ls ks sc h hk ih =>
  intro hst
  have hw : Ws (.mk k m a ls ks) sc := .mk h hk
  rcases spot_of (.mk k m a ls ks) with hsp | ⟨i, many, hsp⟩
  ·rw [hstep_none hsp] at hst
   refine .mk ?_ fun i many e => by rw [hsp] at e; cases e
   unfold rootI Wv
   rw [hsp]
   exact own_none.1 hst
  ·obtain ⟨h1, h2, h3⟩ := spot_ws hw hsp
   have hi : i < (T.mk k m a ls ks).ks.length := by omega
   have e := kid_at hi
   cases hu : Wo l (T.mk k m a ls ks).ks[i] with
   | some v => rw [hstep_in hsp hi (u := v.1) (c := v.2) hu] at hst; cases hst
   | none =>
    rw [hstep_at hsp hi hu, <- e, ws_trunc (hw.kid hi), with_same h1] at hst
    refine .mk ?_ fun i' many' e' _ => ?_
    ·unfold rootI Wv
     rw [hsp]
     exact own_none.1 hst
    ·rw [hsp] at e'
     cases e'
     exact ih i hi (by rw [<- e] at hu; exact hu)
theorem root_none_of {l : List C} {v w : T} (h1 : w.k = v.k) (h2 : w.n = v.n) (h3 : w.a = v.a) (h4 : w.ls = v.ls) (h5 : w.ks.length = v.ks.length) (hp : ∀ i many, spot v = some (i, many) -> (w.kid i).k = (v.kid i).k /\ (w.kid i).n = (v.kid i).n) (h : rootI l v = none) : rootI l w = none := by
 cases hw : rootI l w with
 | none => rfl
 | some u =>
  exfalso
  have key : ∀ x, rootI l v = some x -> False := fun x hx => by rw [h] at hx; cases hx
  rcases rootI_cases hw with ⟨e1, e2, -⟩ | ⟨e1, e2, -⟩ | ⟨e1, e2, -⟩ | ⟨e1, -⟩ | ⟨e1, e2⟩ | ⟨e1, e2, -⟩ | ⟨e1, e2, -⟩ | ⟨e1, e2, e3, e4, e5, e6, -⟩
  ·have := hp 0 2 (by unfold spot; rw [if_pos (h1 ▸ e1)])
   exact key _ (Xt (.inl ⟨h1 ▸ e1, by rw [<- this.1]; exact e2, rfl⟩))
  ·have := hp 0 1 (by unfold spot; rw [if_neg (by omega), if_pos (by omega)])
   exact key _ (Xt (.inr (.inl ⟨h1 ▸ e1, by rw [<- this.1]; exact e2, rfl⟩)))
  ·have := hp 0 1 (by unfold spot; rw [if_neg (by omega), if_pos (by omega)])
   exact key _ (Xt (.inr (.inr (.inl ⟨h1 ▸ e1, by rw [<- this.1]; exact e2, rfl⟩))))
  ·exact key _ (Xt (.inr (.inr (.inr (.inl ⟨h1 ▸ e1, rfl⟩)))))
  ·rw [h2, h4] at e2
   exact key _ (Xt (.inr (.inr (.inr (.inr (.inl ⟨h1 ▸ e1, e2⟩))))))
  ·have := hp 4 5 (by unfold spot; rw [if_neg (by omega), if_neg (by omega), if_pos (by omega)])
   exact key _ (Xt (.inr (.inr (.inr (.inr (.inr (.inl ⟨h1 ▸ e1, by rw [<- this.1]; exact e2, rfl⟩)))))))
  ·have := hp 5 6 (by unfold spot; rw [if_neg (by omega), if_neg (by omega), if_neg (by omega), if_pos (by omega)])
   exact key _ (Xt (.inr (.inr (.inr (.inr (.inr (.inr (.inl ⟨h1 ▸ e1, by rw [<- this.1]; exact e2, rfl⟩))))))))
  ·rw [h3] at e2 e3 e4 e5 e6
   rw [h5] at e3
   have := hp (v.a.toNat + 1) (v.a.toNat + 2) (by unfold spot; rw [if_neg (by omega), if_neg (by omega), if_neg (by omega), if_neg (by omega), if_pos ⟨h1 ▸ e1, e2, e3⟩])
   exact key _ (Xt (.inr (.inr (.inr (.inr (.inr (.inr (.inr ⟨h1 ▸ e1, e2, e3, by rw [<- this.1]; exact e4, by rw [<- this.2]; exact e5, by rw [<- this.2]; exact e6, rfl⟩))))))))
def Eqv (l : List C) (p q : T) : Prop := ∃ a, Pars l p.nl a /\ Pars l q.nl a
theorem Eqv.refl (l : List C) (p : T) : Eqv l p p := ⟨_, .refl _, .refl _⟩
theorem Eqv.symm {l : List C} {p q : T} (h : Eqv l p q) : Eqv l q p := by obtain ⟨a, h1, h2⟩ := h; exact ⟨a, h2, h1⟩
theorem Eqv.trans {l : List C} (hc : Closed l) {p q r : T} (h : Eqv l p q) (g : Eqv l q r) : Eqv l p r := by
 obtain ⟨a, h1, h2⟩ := h
 obtain ⟨b, g1, g2⟩ := g
 obtain ⟨w, w1, w2⟩ := pars_meet hc h2 g1
 exact ⟨w, h1.trans w1, g2.trans w2⟩
def appliedT (t : T) : T := ofT 6 [t.lift 1 0 0, ofT 1 []]
def partsT (k : Int) (t : T) : List T :=
 if t.k = k then (if k = 13 then [t.kid 0, t.kid 1] else [t.kid 1]) else (if k = 13 then [ofT 14 [t], ofT 15 [t]] else [appliedT t])
def mattersT (t : T) : List T := if t.k = 18 then [t.kid 2, t.kid 3, t.kid 4] else if t.k = 21 then [t.kid 2, t.kid 3, t.kid 5] else t.ks
def alikeT (x y : T) : Prop := x.k = y.k /\ x.n = y.n /\ x.a = y.a /\ x.ks.length = y.ks.length /\ sameLs x.ls y.ls = true
instance (x y : T) : Decidable (alikeT x y) := by unfold alikeT; infer_instance
def prs (x y : T) : Option (List T × List T) :=
 if x.k = 5 \/ y.k = 5 then some (partsT 5 x, partsT 5 y) else if x.k = 13 \/ y.k = 13 then some (partsT 13 x, partsT 13 y) else if alikeT x y then some (mattersT x, mattersT y) else none
inductive HdO (l : List C) (t : T) (f : Int) : Option (T × Int) -> Prop where
 | fin {m : Nat} {u : T} (h : Hd l t m u) (hm : (m : Int) <= f) : HdO l t f (some (u, f - m))
 | gone {q : Int} (h : GoneAt l t f q) : HdO l t f none
inductive CR (l : List C) : Nat -> List T -> List T -> Int -> Option (Bool × Int) -> Prop where
 | nil {h : Nat} {f : Int} : CR l h [] [] f (some (true, f))
 | out {h : Nat} {p q : T} {ps qs : List T} : CR l (h + 1) (p :: ps) (q :: qs) 0 none
 | same {h : Nat} {p q : T} {ps qs : List T} {f : Int} {o : Option (Bool × Int)} (hf : 1 <= f) (hs : p.sameB q = true) (hr : CR l (h + 1) ps qs (f - 1) o) : CR l (h + 1) (p :: ps) (q :: qs) f o
 | gone1 {h : Nat} {p q : T} {ps qs : List T} {f : Int} (hf : 1 <= f) (hs : p.sameB q = false) (h1 : HdO l p (f - 1) none) : CR l (h + 1) (p :: ps) (q :: qs) f none
 | gone2 {h : Nat} {p q x : T} {ps qs : List T} {f f1 : Int} (hf : 1 <= f) (hs : p.sameB q = false) (h1 : HdO l p (f - 1) (some (x, f1))) (h2 : HdO l q f1 none) : CR l (h + 1) (p :: ps) (q :: qs) f none
 | mis {h : Nat} {p q x y : T} {ps qs : List T} {f f1 f2 : Int} (hf : 1 <= f) (hs : p.sameB q = false) (h1 : HdO l p (f - 1) (some (x, f1))) (h2 : HdO l q f1 (some (y, f2))) (hp : prs x y = none) : CR l (h + 1) (p :: ps) (q :: qs) f (some (false, f2))
 | kids {h : Nat} {p q x y : T} {ps qs ds bs : List T} {f f1 f2 : Int} {o : Option (Bool × Int)} (hf : 1 <= f) (hs : p.sameB q = false) (h1 : HdO l p (f - 1) (some (x, f1))) (h2 : HdO l q f1 (some (y, f2))) (hp : prs x y = some (ds, bs))
   (hk : CR l h ds bs f2 o) (hn : ∀ g, o ≠ some (true, g)) : CR l (h + 1) (p :: ps) (q :: qs) f o
 | yes {h : Nat} {p q x y : T} {ps qs ds bs : List T} {f f1 f2 g : Int} {o : Option (Bool × Int)} (hf : 1 <= f) (hs : p.sameB q = false) (h1 : HdO l p (f - 1) (some (x, f1))) (h2 : HdO l q f1 (some (y, f2))) (hp : prs x y = some (ds, bs))
   (hk : CR l h ds bs f2 (some (true, g))) (hr : CR l (h + 1) ps qs g o) : CR l (h + 1) (p :: ps) (q :: qs) f o
inductive LR (l : List C) : Nat -> T -> T -> Int -> Option (Bool × Int) -> Prop where
 | out {h : Nat} {p q : T} : LR l h p q 0 none
 | same {h : Nat} {p q : T} {f : Int} (hf : 1 <= f) (hs : p.sameB q = true) : LR l h p q f (some (true, f - 1))
 | gone1 {h : Nat} {p q : T} {f : Int} (hf : 1 <= f) (hs : p.sameB q = false) (h1 : HdO l p (f - 1) none) : LR l h p q f none
 | gone2 {h : Nat} {p q x : T} {f f1 : Int} (hf : 1 <= f) (hs : p.sameB q = false) (h1 : HdO l p (f - 1) (some (x, f1))) (h2 : HdO l q f1 none) : LR l h p q f none
 | sort {h : Nat} {p q x y : T} {a b : LV} {f f1 f2 : Int} (hf : 1 <= f) (hs : p.sameB q = false) (h1 : HdO l p (f - 1) (some (x, f1))) (h2 : HdO l q f1 (some (y, f2))) (hx : x.k = 2 /\ x.ls = [a]) (hy : y.k = 2 /\ y.ls = [b]) : LR l h p q f (some (leqM a b, f2))
 | pino {h : Nat} {p q x y : T} {f f1 f2 : Int} {o : Option (Bool × Int)} (hf : 1 <= f) (hs : p.sameB q = false) (h1 : HdO l p (f - 1) (some (x, f1))) (h2 : HdO l q f1 (some (y, f2))) (hx : x.k = 4) (hy : y.k = 4)
   (hk : CR l h [x.kid 0] [y.kid 0] f2 o) (hn : ∀ g, o ≠ some (true, g)) : LR l h p q f o
 | pi {h : Nat} {p q x y : T} {f f1 f2 g : Int} {o : Option (Bool × Int)} (hf : 1 <= f) (hs : p.sameB q = false) (h1 : HdO l p (f - 1) (some (x, f1))) (h2 : HdO l q f1 (some (y, f2))) (hx : x.k = 4) (hy : y.k = 4)
   (hk : CR l h [x.kid 0] [y.kid 0] f2 (some (true, g))) (hr : LR l h (x.kid 1) (y.kid 1) g o) : LR l h p q f o
 | one {h : Nat} {p q x y : T} {f f1 f2 : Int} {o : Option (Bool × Int)} (hf : 1 <= f) (hs : p.sameB q = false) (h1 : HdO l p (f - 1) (some (x, f1))) (h2 : HdO l q f1 (some (y, f2)))
   (hn : ¬ (x.k = 2 /\ y.k = 2 /\ x.ls.length = 1 /\ y.ls.length = 1)) (hn2 : ¬ (x.k = 4 /\ y.k = 4)) (hr : CR l h [x] [y] f2 o) : LR l h p q f o
theorem hdO_total (l : List C) (t : T) (f : Int) (h0 : 0 <= f) : ∃ o, HdO l t f o := by
 rcases hd_or_gone l f.toNat t f h0 (by omega) with ⟨n, u, h, hn⟩ | ⟨q, g⟩
 ·exact ⟨_, .fin h hn⟩
 ·exact ⟨_, .gone g⟩
theorem goneAt_lt {l : List C} {t : T} {f q : Int} (g : GoneAt l t f q) : ∀ {m : Nat} {u : T}, Hd l t m u -> f < m := by
 induction g with
 | now h hf =>
  intro m u hd
  cases hd with
  | stop h3 => rw [h] at h3; cases h3
  | step h3 r => rw [h] at h3; cases h3; omega
 | later h hf r ih =>
  intro m u hd
  cases hd with
  | stop h3 => rw [h] at h3; cases h3
  | step h3 r3 => rw [h] at h3; cases h3; have := ih r3; omega
theorem HdO.le {l : List C} {t u : T} {f g : Int} (h : HdO l t f (some (u, g))) : 0 <= g /\ g <= f := by
 cases h with
 | fin h hm => omega
theorem HdO.det {l : List C} {t : T} {f : Int} {o o' : Option (T × Int)} (h : HdO l t f o) (h' : HdO l t f o') : o = o' := by
 cases h with
 | fin h hm =>
  cases h' with
  | fin h' hm' => obtain ⟨rfl, rfl⟩ := h.det h'; rfl
  | gone g => have := goneAt_lt g h; omega
 | gone g =>
  cases h' with
  | fin h' hm' => have := goneAt_lt g h'; omega
  | gone g' => rfl
theorem CR.mono {l : List C} {h : Nat} {ps qs : List T} {f : Int} {o : Option (Bool × Int)} (H : CR l h ps qs f o) : ∀ {h' : Nat}, h <= h' -> CR l h' ps qs f o := by
 induction H with
 | nil => intro h' _; exact .nil
 | out => intro h' hh; obtain ⟨k, rfl⟩ : ∃ k, h' = k + 1 := ⟨h' - 1, by omega⟩; exact .out
 | same hf hs hr ih => intro h' hh; obtain ⟨k, rfl⟩ : ∃ k, h' = k + 1 := ⟨h' - 1, by omega⟩; exact .same hf hs (ih hh)
 | gone1 hf hs h1 => intro h' hh; obtain ⟨k, rfl⟩ : ∃ k, h' = k + 1 := ⟨h' - 1, by omega⟩; exact .gone1 hf hs h1
 | gone2 hf hs h1 h2 => intro h' hh; obtain ⟨k, rfl⟩ : ∃ k, h' = k + 1 := ⟨h' - 1, by omega⟩; exact .gone2 hf hs h1 h2
 | mis hf hs h1 h2 hp => intro h' hh; obtain ⟨k, rfl⟩ : ∃ k, h' = k + 1 := ⟨h' - 1, by omega⟩; exact .mis hf hs h1 h2 hp
 | kids hf hs h1 h2 hp hk hn ih => intro h' hh; obtain ⟨k, rfl⟩ : ∃ k, h' = k + 1 := ⟨h' - 1, by omega⟩; exact .kids hf hs h1 h2 hp (ih (by omega)) hn
 | yes hf hs h1 h2 hp hk hr ih1 ih2 => intro h' hh; obtain ⟨k, rfl⟩ : ∃ k, h' = k + 1 := ⟨h' - 1, by omega⟩; exact .yes hf hs h1 h2 hp (ih1 (by omega)) (ih2 hh)
theorem CR.det {l : List C} {h : Nat} {ps qs : List T} {f : Int} {o : Option (Bool × Int)} (H : CR l h ps qs f o) : ∀ {h' : Nat} {o' : Option (Bool × Int)}, CR l h' ps qs f o' -> o = o' := by
 induction H with
 | nil => intro h' o' K; cases K; rfl
 | out => intro h' o' K; cases K <;> first | rfl | omega
 | same hf hs hr ih =>
  intro h' o' K
  cases K with
  | out => omega
  | same _ _ hr' => exact ih hr'
  | gone1 _ hs' _ | gone2 _ hs' _ _ | mis _ hs' _ _ _ | kids _ hs' _ _ _ _ _ | yes _ hs' _ _ _ _ _ => rw [hs] at hs'; cases hs'
 | gone1 hf hs h1 =>
  intro h' o' K
  cases K with
  | out => rfl
  | same _ hs' _ => rw [hs] at hs'; cases hs'
  | gone1 _ _ _ => rfl
  | gone2 _ _ h1' _ | mis _ _ h1' _ _ | kids _ _ h1' _ _ _ _ | yes _ _ h1' _ _ _ _ => cases h1.det h1'
 | gone2 hf hs h1 h2 =>
  intro h' o' K
  cases K with
  | out => rfl
  | same _ hs' _ => rw [hs] at hs'; cases hs'
  | gone1 _ _ _ => rfl
  | gone2 _ _ _ _ => rfl
  | mis _ _ h1' h2' _ | kids _ _ h1' h2' _ _ _ | yes _ _ h1' h2' _ _ _ => cases h1.det h1'; cases h2.det h2'
 | mis hf hs h1 h2 hp =>
  intro h' o' K
  cases K with
  | out => omega
  | same _ hs' _ => rw [hs] at hs'; cases hs'
  | gone1 _ _ h1' => cases h1.det h1'
  | gone2 _ _ h1' h2' => cases h1.det h1'; cases h2.det h2'
  | mis _ _ h1' h2' _ => cases h1.det h1'; cases h2.det h2'; rfl
  | kids _ _ h1' h2' hp' _ _ | yes _ _ h1' h2' hp' _ _ => cases h1.det h1'; cases h2.det h2'; rw [hp] at hp'; cases hp'
 | kids hf hs h1 h2 hp hk hn ih =>
  intro h' o' K
  cases K with
  | out => omega
  | same _ hs' _ => rw [hs] at hs'; cases hs'
  | gone1 _ _ h1' => cases h1.det h1'
  | gone2 _ _ h1' h2' => cases h1.det h1'; cases h2.det h2'
  | mis _ _ h1' h2' hp' => cases h1.det h1'; cases h2.det h2'; rw [hp] at hp'; cases hp'
  | kids _ _ h1' h2' hp' hk' _ => cases h1.det h1'; cases h2.det h2'; rw [hp] at hp'; cases hp'; exact ih hk'
  | yes _ _ h1' h2' hp' hk' _ => cases h1.det h1'; cases h2.det h2'; rw [hp] at hp'; cases hp'; exact absurd (ih hk') (hn _)
 | yes hf hs h1 h2 hp hk hr ih1 ih2 =>
  intro h' o' K
  cases K with
  | out => omega
  | same _ hs' _ => rw [hs] at hs'; cases hs'
  | gone1 _ _ h1' => cases h1.det h1'
  | gone2 _ _ h1' h2' => cases h1.det h1'; cases h2.det h2'
  | mis _ _ h1' h2' hp' => cases h1.det h1'; cases h2.det h2'; rw [hp] at hp'; cases hp'
  | kids _ _ h1' h2' hp' hk' hn' => cases h1.det h1'; cases h2.det h2'; rw [hp] at hp'; cases hp'; exact absurd (ih1 hk').symm (hn' _)
  | yes _ _ h1' h2' hp' hk' hr' => cases h1.det h1'; cases h2.det h2'; rw [hp] at hp'; cases hp'; cases ih1 hk'; exact ih2 hr'
theorem CR.le {l : List C} {h : Nat} {ps qs : List T} {f : Int} {o : Option (Bool × Int)} (H : CR l h ps qs f o) : 0 <= f -> ∀ b g, o = some (b, g) -> 0 <= g /\ g <= f := by
 induction H with
 | nil => intro h0 b g e; cases e; omega
 | out | gone1 _ _ _ | gone2 _ _ _ _ => intro h0 b g e; cases e
 | same hf hs hr ih => intro h0 b g e; have := ih (by omega) b g e; omega
 | mis hf hs h1 h2 hp => intro h0 b g e; cases e; have := h1.le; have := h2.le; omega
 | kids hf hs h1 h2 hp hk hn ih => intro h0 b g e; have := h1.le; have := h2.le; have := ih (by omega) b g e; omega
 | yes hf hs h1 h2 hp hk hr ih1 ih2 => intro h0 b g e; have := h1.le; have := h2.le; have := ih1 (by omega) _ _ rfl; have := ih2 (by omega) b g e; omega
theorem CR.split {l : List C} {h : Nat} {p q : T} {ps qs : List T} {f : Int} {o : Option (Bool × Int)} (H : CR l (h + 1) (p :: ps) (q :: qs) f o) :
  (CR l (h + 1) [p] [q] f none /\ o = none) \/ (∃ g, CR l (h + 1) [p] [q] f (some (false, g)) /\ o = some (false, g)) \/ ∃ g, CR l (h + 1) [p] [q] f (some (true, g)) /\ CR l (h + 1) ps qs g o := by
 cases H with
 | out => exact .inl ⟨.out, rfl⟩
 | same hf hs hr => exact .inr (.inr ⟨_, .same hf hs .nil, hr⟩)
 | gone1 hf hs h1 => exact .inl ⟨.gone1 hf hs h1, rfl⟩
 | gone2 hf hs h1 h2 => exact .inl ⟨.gone2 hf hs h1 h2, rfl⟩
 | mis hf hs h1 h2 hp => exact .inr (.inl ⟨_, .mis hf hs h1 h2 hp, rfl⟩)
 | kids hf hs h1 h2 hp hk hn =>
  cases o with
  | none => exact .inl ⟨.kids hf hs h1 h2 hp hk hn, rfl⟩
  | some v =>
   obtain ⟨b, g⟩ := v
   cases b with
   | true => exact absurd rfl (hn g)
   | false => exact .inr (.inl ⟨g, .kids hf hs h1 h2 hp hk hn, rfl⟩)
 | yes hf hs h1 h2 hp hk hr => exact .inr (.inr ⟨_, .yes hf hs h1 h2 hp hk .nil, hr⟩)
theorem eqAll_symm {α : Type} {p : α -> α -> Bool} (hp : ∀ a b, p a b = p b a) (l m : List α) : eqAll p l m = eqAll p m l := by
 induction l generalizing m with
 | nil => cases m <;> rfl
 | cons a r ih => cases m with
  | nil => rfl
  | cons b s => simp only [eqAll]; rw [hp a b, ih s]
theorem sameLs_symm (l m : List LV) : sameLs l m = sameLs m l := by
 rw [sameLs_all, sameLs_all]
 exact eqAll_symm (fun a b => by simp [eq_comm]) l m
mutual
theorem sameB_symm : ∀ t u : T, t.sameB u = u.sameB t
 | .mk k n a ls ks, .mk k' n' a' ls' ks' => by
  rw [T.sameB, T.sameB, sameLs_symm ls ls', samesB_symm ks ks']
  simp [eq_comm]
theorem samesB_symm : ∀ l m : List T, T.samesB l m = T.samesB m l
 | [], [] => rfl
 | [], _ :: _ => by rw [T.samesB, T.samesB] <;> simp
 | _ :: _, [] => by rw [T.samesB, T.samesB] <;> simp
 | t :: r, u :: s => by rw [T.samesB, T.samesB, sameB_symm t u, samesB_symm r s]
end
mutual
theorem sameB_refl : ∀ t : T, t.sameB t = true
 | .mk k n a ls ks => by rw [T.sameB, sameLs_refl, samesB_refl ks]; simp
theorem samesB_refl : ∀ l : List T, T.samesB l l = true
 | [] => rfl
 | t :: r => by rw [T.samesB, sameB_refl t, samesB_refl r]; rfl
end
theorem alike_symm {x y : T} : alikeT x y ↔ alikeT y x := by
 unfold alikeT
 rw [sameLs_symm x.ls y.ls]
 constructor
 ·rintro ⟨a, b, c, d, e⟩; exact ⟨a.symm, b.symm, c.symm, d.symm, e⟩
 ·rintro ⟨a, b, c, d, e⟩; exact ⟨a.symm, b.symm, c.symm, d.symm, e⟩
theorem prs_symm (x y : T) : prs y x = (prs x y).map fun v => (v.2, v.1) := by
 unfold prs
 by_cases h5 : x.k = 5 \/ y.k = 5
 ·rw [if_pos h5, if_pos h5.symm]; rfl
 ·rw [if_neg h5, if_neg fun h => h5 h.symm]
  by_cases h13 : x.k = 13 \/ y.k = 13
  ·rw [if_pos h13, if_pos h13.symm]; rfl
  ·rw [if_neg h13, if_neg fun h => h13 h.symm]
   by_cases ha : alikeT x y
   ·rw [if_pos ha, if_pos (alike_symm.1 ha)]; rfl
   ·rw [if_neg ha, if_neg fun h => ha (alike_symm.1 h)]; rfl
theorem HdO.cost {l : List C} {t u : T} {f g : Int} (h : HdO l t f (some (u, g))) : ∃ m : Nat, Hd l t m u /\ g = f - m /\ (m : Int) <= f := by
 generalize ho : some (u, g) = o at h
 cases h with
 | fin h hm => cases ho; exact ⟨_, h, rfl, hm⟩
 | gone g => cases ho
theorem HdO.of {l : List C} {t u : T} {f g : Int} {m : Nat} (h : Hd l t m u) (hg : g = f - m) (hm : (m : Int) <= f) : HdO l t f (some (u, g)) := by subst hg; exact .fin h hm
theorem HdO.lt {l : List C} {t u : T} {f : Int} {m : Nat} (h : HdO l t f none) (h2 : Hd l t m u) : f < m := by
 cases h with
 | gone g => exact goneAt_lt g h2
theorem HdO.none_of {l : List C} {t : T} {f : Int} (h0 : 0 <= f) (h : ∀ m u, Hd l t m u -> f < (m : Nat)) : HdO l t f none := by
 obtain ⟨o, H⟩ := hdO_total l t f h0
 cases o with
 | none => exact H
 | some v => obtain ⟨u, g⟩ := v; obtain ⟨m, h1, -, h2⟩ := H.cost; have := h m u h1; omega
theorem swap2 {l : List C} {p q x y : T} {f f1 f2 : Int} (h1 : HdO l p f (some (x, f1))) (h2 : HdO l q f1 (some (y, f2))) : ∃ f1', HdO l q f (some (y, f1')) /\ HdO l p f1' (some (x, f2)) := by
 obtain ⟨m, a1, a2, a3⟩ := h1.cost
 obtain ⟨n, b1, b2, b3⟩ := h2.cost
 exact ⟨f - n, .of b1 rfl (by omega), .of a1 (by omega) (by omega)⟩
theorem CR.symm {l : List C} {h : Nat} {ps qs : List T} {f : Int} {o : Option (Bool × Int)} (H : CR l h ps qs f o) : CR l h qs ps f o := by
 induction H with
 | nil => exact .nil
 | out => exact .out
 | same hf hs hr ih => exact .same hf (by rw [sameB_symm]; exact hs) ih
 | @gone1 h p q ps qs f hf hs h1 =>
  have hs' : q.sameB p = false := by rw [sameB_symm]; exact hs
  obtain ⟨o, H⟩ := hdO_total l q (f - 1) (by omega)
  cases o with
  | none => exact .gone1 hf hs' H
  | some v =>
   obtain ⟨y, f2⟩ := v
   have := H.le
   exact .gone2 hf hs' H (.none_of this.1 fun m u hd => by have := h1.lt hd; omega)
 | @gone2 h p q x ps qs f f1 hf hs h1 h2 =>
  have hs' : q.sameB p = false := by rw [sameB_symm]; exact hs
  obtain ⟨m, a1, a2, a3⟩ := h1.cost
  obtain ⟨o, H⟩ := hdO_total l q (f - 1) (by omega)
  cases o with
  | none => exact .gone1 hf hs' H
  | some v =>
   obtain ⟨y, f2⟩ := v
   obtain ⟨n, b1, b2, b3⟩ := H.cost
   have := h2.lt b1
   exact .gone2 hf hs' H (.none_of (by omega) fun m' u hd => by
    obtain ⟨rfl, -⟩ := a1.det hd
    omega)
 | mis hf hs h1 h2 hp =>
  obtain ⟨f1', c1, c2⟩ := swap2 h1 h2
  exact .mis hf (by rw [sameB_symm]; exact hs) c1 c2 (by rw [prs_symm, hp]; rfl)
 | kids hf hs h1 h2 hp hk hn ih =>
  obtain ⟨f1', c1, c2⟩ := swap2 h1 h2
  exact .kids hf (by rw [sameB_symm]; exact hs) c1 c2 (by rw [prs_symm, hp]; rfl) ih hn
 | yes hf hs h1 h2 hp hk hr ih1 ih2 =>
  obtain ⟨f1', c1, c2⟩ := swap2 h1 h2
  exact .yes hf (by rw [sameB_symm]; exact hs) c1 c2 (by rw [prs_symm, hp]; rfl) ih1 ih2
theorem LR.mono {l : List C} {h : Nat} {p q : T} {f : Int} {o : Option (Bool × Int)} (H : LR l h p q f o) : ∀ {h' : Nat}, h <= h' -> LR l h' p q f o := by
 induction H with
 | out => intro h' _; exact .out
 | same hf hs => intro h' _; exact .same hf hs
 | gone1 hf hs h1 => intro h' _; exact .gone1 hf hs h1
 | gone2 hf hs h1 h2 => intro h' _; exact .gone2 hf hs h1 h2
 | sort hf hs h1 h2 hx hy => intro h' _; exact .sort hf hs h1 h2 hx hy
 | pino hf hs h1 h2 hx hy hk hn => intro h' hh; exact .pino hf hs h1 h2 hx hy (hk.mono hh) hn
 | pi hf hs h1 h2 hx hy hk hr ih => intro h' hh; exact .pi hf hs h1 h2 hx hy (hk.mono hh) (ih hh)
 | one hf hs h1 h2 hn hn2 hr => intro h' hh; exact .one hf hs h1 h2 hn hn2 (hr.mono hh)
theorem LR.le {l : List C} {h : Nat} {p q : T} {f : Int} {o : Option (Bool × Int)} (H : LR l h p q f o) : ∀ b g, o = some (b, g) -> 0 <= g /\ g <= f := by
 induction H with
 | out | gone1 _ _ _ | gone2 _ _ _ _ => intro b g e; cases e
 | same hf hs => intro b g e; cases e; omega
 | sort hf hs h1 h2 hx hy => intro b' g e; cases e; have := h1.le; have := h2.le; omega
 | pino hf hs h1 h2 hx hy hk hn => intro b g e; have := h1.le; have := h2.le; have := hk.le (by omega) b g e; omega
 | pi hf hs h1 h2 hx hy hk hr ih => intro b g e; have := h1.le; have := h2.le; have := hk.le (by omega) _ _ rfl; have := ih b g e; omega
 | one hf hs h1 h2 hn hn2 hr => intro b g e; have := h1.le; have := h2.le; have := hr.le (by omega) b g e; omega
def T.withKs (t : T) (ks : List T) : T := .mk t.k t.n t.a t.ls ks
inductive Nms (l : List C) : Nat -> List T -> Nat -> List T -> Prop where
 | nil {h : Nat} : Nms l h [] 0 []
 | cons {h : Nat} {t u : T} {r ks xs : List T} {m n p : Nat} (hd : Hd l t m u) (hk : Nms l h u.ks n ks) (hr : Nms l (h + 1) r p xs) : Nms l (h + 1) (t :: r) (m + n + p) (u.withKs ks :: xs)
inductive NsGone (l : List C) : Nat -> List T -> Int -> Prop where
 | head {h : Nat} {t : T} {r : List T} {f q : Int} (g : GoneAt l t f q) : NsGone l (h + 1) (t :: r) f
 | kids {h : Nat} {t u : T} {r : List T} {m : Nat} {f : Int} (hd : Hd l t m u) (hm : (m : Int) <= f) (g : NsGone l h u.ks (f - m)) : NsGone l (h + 1) (t :: r) f
 | rest {h : Nat} {t u : T} {r ks : List T} {m n : Nat} {f : Int} (hd : Hd l t m u) (hk : Nms l h u.ks n ks) (hm : (m : Int) + n <= f) (g : NsGone l (h + 1) r (f - (m + n))) : NsGone l (h + 1) (t :: r) f
theorem Nms.mono {l : List C} {h : Nat} {ts xs : List T} {n : Nat} (H : Nms l h ts n xs) : ∀ {h' : Nat}, h <= h' -> Nms l h' ts n xs := by
 induction H with
 | nil => intro h' _; exact .nil
 | cons hd hk hr ih1 ih2 =>
  intro h' hh
  obtain ⟨k, rfl⟩ : ∃ k, h' = k + 1 := ⟨h' - 1, by omega⟩
  exact .cons hd (ih1 (by omega)) (ih2 hh)
theorem NsGone.mono {l : List C} {h : Nat} {ts : List T} {f : Int} (H : NsGone l h ts f) : ∀ {h' : Nat}, h <= h' -> NsGone l h' ts f := by
 induction H with
 | head g => intro h' hh; obtain ⟨k, rfl⟩ : ∃ k, h' = k + 1 := ⟨h' - 1, by omega⟩; exact .head g
 | kids hd hm g ih => intro h' hh; obtain ⟨k, rfl⟩ : ∃ k, h' = k + 1 := ⟨h' - 1, by omega⟩; exact .kids hd hm (ih (by omega))
 | rest hd hk hm g ih => intro h' hh; obtain ⟨k, rfl⟩ : ∃ k, h' = k + 1 := ⟨h' - 1, by omega⟩; exact .rest hd (hk.mono (by omega)) hm (ih hh)
theorem Nms.det {l : List C} {h : Nat} {ts xs : List T} {n : Nat} (H : Nms l h ts n xs) : ∀ {h' m : Nat} {ys : List T}, Nms l h' ts m ys -> n = m /\ xs = ys := by
 induction H with
 | nil => intro h' m ys K; cases K; exact ⟨rfl, rfl⟩
 | cons hd hk hr ih1 ih2 =>
  intro h' m ys K
  cases K with
  | cons hd' hk' hr' =>
   obtain ⟨rfl, rfl⟩ := hd.det hd'
   obtain ⟨rfl, rfl⟩ := ih1 hk'
   obtain ⟨rfl, rfl⟩ := ih2 hr'
   exact ⟨rfl, rfl⟩
theorem Nms.len {l : List C} {h : Nat} {ts xs : List T} {n : Nat} (H : Nms l h ts n xs) : xs.length = ts.length := by
 induction H with
 | nil => rfl
 | cons _ _ _ _ ih => simp [ih]
theorem Hd.zero {l : List C} {t u : T} (h : Hd l t 0 u) : u = t.trunc := by
 generalize hm : (0 : Nat) = m at h
 cases h with
 | stop _ => rfl
 | step h r => have := hstep_pos t h; omega
theorem nms_or {l : List C} : ∀ (ts : List T) (f : Int), 0 <= f -> (∀ t, t ∈ ts -> ∀ f' : Int, 0 <= f' -> f' <= f -> (∃ h n x, Nms l h [t] n [x] /\ (n : Int) <= f') \/ ∃ h, NsGone l h [t] f') ->
  (∃ h n xs, Nms l h ts n xs /\ (n : Int) <= f) \/ ∃ h, NsGone l h ts f
 | [], f, h0, _ => .inl ⟨0, 0, [], .nil, h0⟩
 | t :: r, f, h0, H => by
  rcases H t (List.mem_cons_self ..) f h0 (Int.le_refl _) with ⟨h, n, x, hx, hn⟩ | ⟨h, g⟩
  ·cases hx with
   | @cons h' _ u _ ks xs m n' p hd hk hr =>
    cases hr
    rcases nms_or r (f - (m + n' : Nat)) (by omega) (fun t' ht' f' a b => H t' (List.mem_cons_of_mem _ ht') f' a (by omega)) with ⟨h2, n2, xs2, hx2, hn2⟩ | ⟨h2, g2⟩
    ·exact .inl ⟨max h' h2 + 1, _, _, .cons hd (hk.mono (Nat.le_max_left ..)) (hx2.mono (by have := Nat.le_max_right h' h2; omega)), by omega⟩
    ·exact .inr ⟨max h' h2 + 1, .rest hd (hk.mono (Nat.le_max_left ..)) (by omega) (by have x := g2.mono (h' := max h' h2 + 1) (by have := Nat.le_max_right h' h2; omega); rw [Int.natCast_add] at x; exact x)⟩
  ·cases g with
   | head g => exact .inr ⟨_, .head (h := 0) g⟩
   | kids hd hm g => exact .inr ⟨_, .kids hd hm g⟩
   | rest hd hk hm g => cases g
theorem ks_pot {t x : T} (h : x ∈ t.ks) : x.pot + 1 <= t.pot := by
 cases t with
 | mk k n a ls ks =>
  rw [T.pot]
  have := pots_mem (show x ∈ ks from h)
  omega
theorem nm_or (l : List C) (k : Nat) : ∀ (d : Nat) (t : T) (f : Int), 0 <= f -> f <= k -> t.pot <= d -> (∃ h n x, Nms l h [t] n [x] /\ (n : Int) <= f) \/ ∃ h, NsGone l h [t] f := by
 induction k using Nat.strongRecOn with
 | ind k ihk =>
  intro d
  induction d with
  | zero => intro t f h0 h1 h2; have := pot_pos t; omega
  | succ d ihd =>
   intro t f h0 h1 h2
   rcases hd_or_gone l f.toNat t f h0 (by omega) with ⟨m, u, hd, hm⟩ | ⟨q, g⟩
   ·have key : (∃ h n xs, Nms l h u.ks n xs /\ (n : Int) <= f - m) \/ ∃ h, NsGone l h u.ks (f - m) := by
     refine nms_or u.ks (f - m) (by omega) fun t' ht' f' a b => ?_
     rcases Nat.eq_zero_or_pos m with rfl | hp
     ·have e := hd.zero
      subst e
      have := trunc_pot t
      have := ks_pot ht'
      exact ihd t' f' a (by omega) (by omega)
     ·exact ihk (k - 1) (by omega) t'.pot t' f' a (by omega) (Nat.le_refl _)
    rcases key with ⟨h, n, xs, hx, hn⟩ | ⟨h, g⟩
    ·exact .inl ⟨h + 1, m + n + 0, _, .cons hd hx .nil, by omega⟩
    ·exact .inr ⟨h + 1, .kids hd hm g⟩
   ·exact .inr ⟨1, .head (h := 0) g⟩
theorem deep_pot (t : T) : t.deep <= t.pot := Nat.le_trans t.deep_nsz (nsz_pot t)
theorem hd_pars {l : List C} (hB : WsL l) {t v : T} {m : Nat} (h : Hd l t m v) : ∀ {sc : Nat}, Ws t sc -> sc + 1 + t.pot + 7 * m <= SB -> Pars l t v /\ Ws v sc := by
 induction h with
 | @stop t h => intro sc hw hb; rw [ws_trunc hw]; exact ⟨.refl _, hw⟩
 | @step t u v c n h r ih =>
  intro sc hw hb
  have hd := deep_pot t
  obtain ⟨h1, h2⟩ := hstep_par hB hw (by omega) h
  have hp := hstep_pot t h
  obtain ⟨h3, h4⟩ := ih h2 (by omega)
  exact ⟨.step h1 h3, h4⟩
def okW (f : Int) (t : T) : Prop := ∃ sc : Nat, Ws t sc /\ sc + t.pot + 8 * f.toNat + 10 <= SB
theorem okW.le {f g : Int} {t : T} (h : okW f t) (hg : g <= f) : okW g t := by obtain ⟨sc, h1, h2⟩ := h; exact ⟨sc, h1, by omega⟩
theorem par_at {l : List C} {k n a : Int} {ls : List LV} {pre r : List T} {x y : T} (h : Par l x y) : Par l (.mk k n a ls (pre ++ x :: r)) (.mk k n a ls (pre ++ y :: r)) := by
 refine .node (by simp) fun i hi => ?_
 by_cases h1 : i < pre.length
 ·rw [List.getD_eq_getElem?_getD, List.getD_eq_getElem?_getD, List.getElem?_append_left h1, List.getElem?_append_left h1]
  exact .refl _ _
 ·obtain ⟨j, rfl⟩ : ∃ j, i = pre.length + j := ⟨i - pre.length, by omega⟩
  rw [List.getD_eq_getElem?_getD, List.getD_eq_getElem?_getD, List.getElem?_append_right (by omega), List.getElem?_append_right (by omega), show pre.length + j - pre.length = j by omega]
  cases j with
  | zero => exact h
  | succ j => exact .refl _ _
theorem pars_at {l : List C} {k n a : Int} {ls : List LV} {pre r : List T} {x y : T} (h : Pars l x y) : Pars l (.mk k n a ls (pre ++ x :: r)) (.mk k n a ls (pre ++ y :: r)) := by
 induction h with
 | refl t => exact .refl _
 | step h r ih => exact .step (par_at h) ih
theorem pars_kids {l : List C} {k n a : Int} {ls : List LV} : ∀ {ks ks' pre : List T}, ks'.length = ks.length -> (∀ i, i < ks.length -> Pars l (ks.getD i Wh) (ks'.getD i Wh)) -> Pars l (.mk k n a ls (pre ++ ks)) (.mk k n a ls (pre ++ ks'))
 | [], ks', pre, hl, _ => by
  have : ks' = [] := List.length_eq_zero_iff.1 hl
  subst this
  exact .refl _
 | x :: r, [], pre, hl, _ => by simp at hl
 | x :: r, y :: s, pre, hl, h => by
  have h0 : Pars l x y := h 0 (by simp)
  have h1 := pars_kids (l := l) (k := k) (n := n) (a := a) (ls := ls) (ks := r) (ks' := s) (pre := pre ++ [y]) (by simpa using hl) fun i hi => by
   have := h (i + 1) (by simpa using hi)
   simpa using this
  rw [List.append_assoc, List.append_assoc] at h1
  exact (pars_at h0).trans h1
theorem pars_node {l : List C} {k n a : Int} {ls : List LV} {ks ks' : List T} (hl : ks'.length = ks.length) (h : ∀ i, i < ks.length -> Pars l (ks.getD i Wh) (ks'.getD i Wh)) : Pars l (.mk k n a ls ks) (.mk k n a ls ks') :=
 pars_kids (pre := []) hl h
def EqvL (l : List C) (ps qs : List T) : Prop := ps.length = qs.length /\ ∀ i, Eqv l (ps.getD i Wh) (qs.getD i Wh)
theorem EqvL.refl (l : List C) (ps : List T) : EqvL l ps ps := ⟨rfl, fun _ => .refl _ _⟩
theorem EqvL.cons {l : List C} {p : T} {ps r : List T} (h : EqvL l ps (p :: r)) : ∃ p0 r0, ps = p0 :: r0 /\ Eqv l p0 p /\ EqvL l r0 r := by
 obtain ⟨h1, h2⟩ := h
 cases ps with
 | nil => simp at h1
 | cons p0 r0 => exact ⟨p0, r0, rfl, by simpa using h2 0, by simpa using h1, fun i => by simpa using h2 (i + 1)⟩
mutual
theorem pot_liftW (n fr : Int) : ∀ (t : T) (d : Int), (T.walk (liftTurn n fr) t d).pot = t.pot
 | .mk k m a ls ks, d => by rw [walk_lift, T.pot, T.pot, pots_liftW n fr k ks 0 d, T.walks_length]
theorem pots_liftW (n fr k : Int) : ∀ (ks : List T) (i : Nat) (d : Int), T.pots (T.walks (liftTurn n fr) k ks i d) = T.pots ks
 | [], _, _ => by rw [T.walks]
 | t :: r, i, d => by rw [T.walks, T.pots, T.pots, pot_liftW n fr t, pots_liftW n fr k r]
end
theorem kid_okW {f : Int} {x : T} (hx : okW f x) {i : Nat} (hi : i < x.ks.length) : okW f (x.kid i) := by
 obtain ⟨sc, w, hb⟩ := hx
 have k := w.kid hi
 have hp := ks_pot (t := x) (x := x.kid i) (by rw [kid_at hi]; exact List.getElem_mem _)
 have : up1 sc x.k i <= sc + 1 := by unfold up1; split <;> omega
 exact ⟨_, k, by omega⟩
inductive NrmT (l : List C) : T -> Prop where
 | mk {t : T} (h : Wo l t = none) (hk : ∀ x, x ∈ t.ks -> NrmT l x) : NrmT l t
inductive WholeT : T -> Prop where
 | mk {t : T} (h : t.trunc = t) (hk : ∀ x, x ∈ t.ks -> WholeT x) : WholeT t
theorem zero_nrm (l : List C) : NrmT l Wh := .mk (zero_step l) fun x hx => by cases hx
theorem nms_get {l : List C} {h n : Nat} {ts xs : List T} (H : Nms l h ts n xs) : ∀ i, i < ts.length -> ∃ h' m, Nms l h' [ts.getD i Wh] m [xs.getD i Wh] := by
 induction H with
 | nil => intro i hi; exact absurd hi (by simp)
 | @cons h t u r ks xs m n p hd hk hr ih1 ih2 =>
  intro i hi
  cases i with
  | zero => exact ⟨h + 1, _, .cons hd hk .nil⟩
  | succ i => obtain ⟨h', m', H⟩ := ih2 i (by simpa using hi); exact ⟨h', m', by simpa using H⟩
theorem own_root_none {l : List C} {t : T} : ownS l t (Wv t) = none ↔ rootI l t = none := own_none
theorem Hd.of_none {l : List C} {p v : T} {m : Nat} (h : Wo l p = none) (hd : Hd l p m v) : m = 0 /\ v = p.trunc := by
 cases hd with
 | stop _ => exact ⟨rfl, rfl⟩
 | step h' _ => rw [h] at h'; cases h'
theorem withKs_stuck {l : List C} (u : T) : Wo l u = none -> u.trunc = u -> ∀ {h n : Nat} {ks : List T}, Nms l h u.ks n ks -> Wo l (u.withKs ks) = none /\ (u.withKs ks).trunc = u.withKs ks := by
 induction u using T.ind with
 | h k m a ls uks ih =>
  intro hst htr h n ks H
  have hlen : ks.length = uks.length := H.len
  have hsp : spot ((T.mk k m a ls uks).withKs ks) = spot (T.mk k m a ls uks) := spot_congr rfl rfl hlen
  rcases spot_of (.mk k m a ls uks) with hs | ⟨i, many, hs⟩
  ·have hs' := hsp.trans hs
   have hn : rootI l (T.mk k m a ls uks) = none := by
    rw [<- own_root_none]
    unfold Wv
    rw [hs]
    rw [hstep_none hs] at hst
    exact hst
   refine ⟨?_, trunc_none hs'⟩
   rw [hstep_none hs']
   have := own_root_none.2 (root_none_of (v := T.mk k m a ls uks) (w := (T.mk k m a ls uks).withKs ks) rfl rfl rfl rfl hlen (fun i many e => by rw [hs] at e; cases e) hn)
   unfold Wv at this
   rw [hs'] at this
   exact this
  ·have hs' := hsp.trans hs
   have hlt := spot_lt hs
   by_cases hi : i < uks.length
   ·have hi0 : i < (T.mk k m a ls uks).ks.length := hi
    rw [trunc_in hs hi0] at htr
    have hmany : uks.length = many := by
     have h1 : ((T.mk k m a ls uks).withT (T.trunc (T.mk k m a ls uks).ks[i]) i many).ks.length = uks.length := by rw [htr]; rfl
     unfold T.withT at h1
     rw [T.ks_mk, withK_len] at h1
     exact h1.symm
    have htk : T.trunc (T.mk k m a ls uks).ks[i] = (T.mk k m a ls uks).ks[i] := by
     have h1 : ((T.mk k m a ls uks).withT (T.trunc (T.mk k m a ls uks).ks[i]) i many).kid i = (T.mk k m a ls uks).kid i := by rw [htr]
     have h2 : ((T.mk k m a ls uks).withT (T.trunc (T.mk k m a ls uks).ks[i]) i many).kid i = T.trunc (T.mk k m a ls uks).ks[i] := by
      unfold T.withT T.kid
      simp only [T.ks_mk]
      rw [withK_get hlt, if_pos rfl]
     rw [<- h2, h1, kid_at hi0]
    have huk : Wo l (T.mk k m a ls uks).ks[i] = none := by
     cases hu : Wo l (T.mk k m a ls uks).ks[i] with
     | none => rfl
     | some v => rw [hstep_in hs hi0 (u := v.1) (c := v.2) hu] at hst; cases hst
    obtain ⟨h', m', Hk⟩ := nms_get H i hi
    have Hk : Nms l h' [uks.getD i Wh] m' [ks.getD i Wh] := Hk
    rw [getD_in hi] at Hk
    have hi2 : i < ks.length := by omega
    rw [getD_in hi2] at Hk
    generalize hkk : ks[i] = kk at Hk
    cases Hk with
    | @cons h'' _ v _ kks _ m1 n1 _ hd hk hr =>
     cases hr
     obtain ⟨-, hv⟩ := hd.of_none huk
     have hv : v = (T.mk k m a ls uks).ks[i] := hv.trans htk
     subst hv
     obtain ⟨e1, e2⟩ := ih _ (List.getElem_mem hi) huk htk hk
     have e1 : Wo l ((T.mk k m a ls uks).ks[i].withKs kks) = none := e1
     have e2 : T.trunc ((T.mk k m a ls uks).ks[i].withKs kks) = (T.mk k m a ls uks).ks[i].withKs kks := e2
     have hkid : ((T.mk k m a ls uks).withKs ks).kid i = (T.mk k m a ls uks).ks[i].withKs kks := by
      have : ((T.mk k m a ls uks).withKs ks).kid i = ks[i] := kid_at (t := (T.mk k m a ls uks).withKs ks) hi2
      rw [this, hkk]
     have hi3 : i < ((T.mk k m a ls uks).withKs ks).ks.length := hi2
     have hki : ((T.mk k m a ls uks).withKs ks).ks[i] = (T.mk k m a ls uks).ks[i].withKs kks := by rw [<- kid_at hi3]; exact hkid
     have hsame : ((T.mk k m a ls uks).withKs ks).withT ((T.mk k m a ls uks).ks[i].withKs kks) i many = (T.mk k m a ls uks).withKs ks := by
      rw [<- hkid]
      exact with_same (t := (T.mk k m a ls uks).withKs ks) (by show ks.length = many; omega)
     have hn : rootI l (T.mk k m a ls uks) = none := by
      rw [<- own_root_none]
      unfold Wv
      rw [hs]
      rw [hstep_at hs hi0 huk, htk, <- kid_at hi0, with_same (t := T.mk k m a ls uks) hmany] at hst
      exact hst
     have hn2 := own_root_none.2 (root_none_of (v := T.mk k m a ls uks) (w := (T.mk k m a ls uks).withKs ks) rfl rfl rfl rfl hlen (fun j many' e => by
      rw [hs] at e
      cases e
      rw [hkid, kid_at hi0]
      exact ⟨rfl, rfl⟩) hn)
     unfold Wv at hn2
     rw [hs'] at hn2
     simp only at hn2
     rw [hkid] at hn2
     constructor
     ·rw [hstep_at hs' hi3 (by rw [hki]; exact e1), hki, e2, hsame]
      exact hn2
     ·rw [trunc_in hs' hi3, hki, e2, hsame]
   ·have hi0 : ¬ i < (T.mk k m a ls uks).ks.length := hi
    rw [trunc_out hs hi0] at htr
    have h1 : ((T.mk k m a ls uks).withT Wh i many).ks.length = uks.length := by rw [htr]; rfl
    unfold T.withT at h1
    rw [T.ks_mk, withK_len] at h1
    omega
theorem nms_norm {l : List C} {h n : Nat} {ts xs : List T} (H : Nms l h ts n xs) : ∀ x, x ∈ xs -> NrmT l x /\ WholeT x := by
 induction H with
 | nil => intro x hx; cases hx
 | @cons h t u r ks xs m n p hd hk hr ih1 ih2 =>
  intro x hx
  rcases List.mem_cons.1 hx with rfl | hx
  ·obtain ⟨e1, e2⟩ := hd.done
   obtain ⟨f1, f2⟩ := withKs_stuck u e1 e2 hk
   exact ⟨.mk f1 fun y hy => (ih1 y hy).1, .mk f2 fun y hy => (ih1 y hy).2⟩
  ·exact ih2 x hx
theorem nms_one {l : List C} {h n : Nat} {t x : T} (H : Nms l h [t] n [x]) : ∃ h' u m n' ks, Hd l t m u /\ Nms l h' u.ks n' ks /\ n = m + n' /\ x = u.withKs ks := by
 cases H with
 | cons hd hk hr => cases hr; exact ⟨_, _, _, _, _, hd, hk, by omega, rfl⟩
theorem nms_row {l : List C} : ∀ (ts : List T), (∀ t, t ∈ ts -> ∃ h, Nms l h [t] 0 [t]) -> ∃ h, Nms l h ts 0 ts
 | [], _ => ⟨0, .nil⟩
 | t :: r, H => by
  obtain ⟨h1, a⟩ := H t (List.mem_cons_self ..)
  obtain ⟨h2, b⟩ := nms_row r fun x hx => H x (List.mem_cons_of_mem _ hx)
  obtain ⟨h', u, m, n, ks, hd, hk, e0, e3⟩ := nms_one a
  have e1 : m = 0 := by omega
  have e2 : n = 0 := by omega
  subst e1
  subst e2
  have := Nms.cons (h := max h' h2) (r := r) (xs := r) (p := 0) hd (hk.mono (Nat.le_max_left ..)) (b.mono (by have := Nat.le_max_right h' h2; omega))
  rw [<- e3] at this
  exact ⟨_, this⟩
theorem norm_zero {l : List C} {x : T} (h : NrmT l x) : WholeT x -> ∃ d, Nms l d [x] 0 [x] := by
 induction h with
 | @mk t h hk ih =>
  intro hw
  cases hw with
  | mk h2 hk2 =>
   obtain ⟨d, H⟩ := nms_row t.ks fun y hy => ih y hy (hk2 y hy)
   have h3 := Hd.stop h
   rw [h2] at h3
   have := Nms.cons h3 H (.nil (h := d + 1))
   rw [show t.withKs t.ks = t from by cases t; rfl] at this
   exact ⟨_, this⟩
theorem nrm_trunc {l : List C} {t : T} (h : NrmT l t) : NrmT l t.trunc := by
 induction h with
 | @mk t h hk ih =>
  refine .mk (trunc_stuck t h).1 fun x hx => ?_
  rcases spot_of t with hs | ⟨i, many, hs⟩
  ·rw [trunc_none hs] at hx; exact hk x hx
  ·have hlt := spot_lt hs
   have hcase : ∀ j, NrmT l (t.ks.getD j Wh) := fun j => by
    by_cases hj : j < t.ks.length
    ·rw [getD_in hj]; exact hk _ (List.getElem_mem hj)
    ·rw [getD_out hj]; exact zero_nrm l
   by_cases hi : i < t.ks.length
   ·rw [trunc_in hs hi] at hx
    unfold T.withT at hx
    simp only [T.ks_mk] at hx
    unfold withK at hx
    obtain ⟨j, -, rfl⟩ := List.mem_map.1 hx
    split
    ·exact ih _ (List.getElem_mem hi)
    ·exact hcase j
   ·rw [trunc_out hs hi] at hx
    unfold T.withT at hx
    simp only [T.ks_mk] at hx
    unfold withK at hx
    obtain ⟨j, -, rfl⟩ := List.mem_map.1 hx
    split
    ·exact zero_nrm l
    ·exact hcase j
theorem nrm_cost {l : List C} {h n : Nat} {ts xs : List T} (H : Nms l h ts n xs) : (∀ t, t ∈ ts -> NrmT l t) -> n = 0 := by
 induction H with
 | nil => intro _; rfl
 | @cons h t u r ks xs m n p hd hk hr ih1 ih2 =>
  intro ht
  have h1 := ht t (List.mem_cons_self ..)
  have hst : Wo l t = none := by cases h1; assumption
  obtain ⟨rfl, rfl⟩ := hd.of_none hst
  have h2 := ih1 fun x hx => by
   cases nrm_trunc h1 with
   | mk _ hk => exact hk x hx
  have h3 := ih2 fun x hx => ht x (List.mem_cons_of_mem _ hx)
  omega
theorem cost_nrm {l : List C} {h n : Nat} {ts xs : List T} (H : Nms l h ts n xs) : n = 0 -> (∀ t, t ∈ ts -> ∃ sc, Ws t sc) -> ∀ t, t ∈ ts -> NrmT l t := by
 induction H with
 | nil => intro _ _ t ht; cases ht
 | @cons h t u r ks xs m n p hd hk hr ih1 ih2 =>
  intro h0 hw x hx
  rcases List.mem_cons.1 hx with rfl | hx
  ·obtain ⟨sc, w⟩ := hw x (List.mem_cons_self ..)
   have e1 : m = 0 := by omega
   subst e1
   have hst : Wo l x = none := by
    generalize hz : (0 : Nat) = z at hd
    cases hd with
    | stop h => exact h
    | step h' r' => have := hstep_pos x h'; omega
   obtain ⟨-, rfl⟩ := hd.of_none hst
   rw [ws_trunc w] at ih1
   refine .mk hst fun y hy => ih1 (by omega) (fun z hz => ?_) y hy
   obtain ⟨i, hi, rfl⟩ := List.getElem_of_mem hz
   rw [<- kid_at hi]
   exact ⟨_, w.kid hi⟩
  ·exact ih2 (by omega) (fun z hz => hw z (List.mem_cons_of_mem _ hz)) x hx
theorem nms_step {l : List C} {h n c : Nat} {t u x : T} (H : Nms l h [t] n [x]) (hs : Wo l t = some (u, c)) : ∃ m, n = c + m /\ Nms l h [u] m [x] := by
 cases H with
 | @cons h' _ v _ ks _ m n' p hd hk hr =>
  cases hr
  cases hd with
  | stop h => rw [hs] at h; cases h
  | @step _ u' _ c' n2 h r =>
   rw [hs] at h
   cases h
   exact ⟨n2 + n' + 0, by omega, .cons r hk .nil⟩
theorem nms_ws {l : List C} (hB : WsL l) {h n : Nat} {ts xs : List T} (H : Nms l h ts n xs) : ∀ i, i < ts.length -> ∀ {sc : Nat}, Ws (ts.getD i Wh) sc -> sc + (ts.getD i Wh).pot + 8 * n + 10 <= SB -> Ws (xs.getD i Wh) sc := by
 induction H with
 | nil => intro i hi; exact absurd hi (by simp)
 | @cons h t u r ks xs m n p hd hk hr ih1 ih2 =>
  intro i hi sc w hb
  cases i with
  | zero =>
   have w : Ws t sc := w
   have hb : sc + t.pot + 8 * (m + n + p) + 10 <= SB := hb
   obtain ⟨-, p2⟩ := hd_pars hB hd w (by omega)
   have hp := hd.pot
   have hl := hk.len
   show Ws (u.withKs ks) sc
   cases u with
   | mk k n' a ls uks =>
    refine .mk (by rw [hl]; exact p2.node) fun j hj => ?_
    have hj' : j < uks.length := by have e : ks.length = uks.length := hl; omega
    have hp2 := ks_pot (t := .mk k n' a ls uks) (x := uks.getD j Wh) (by rw [getD_in hj']; exact List.getElem_mem hj')
    have hu : up1 sc k j <= sc + 1 := by unfold up1; split <;> omega
    exact ih1 j hj' (p2.kid (i := j) hj') (by show up1 sc k j + (uks.getD j Wh).pot + 8 * n + 10 <= SB; omega)
  | succ i =>
   have w : Ws (r.getD i Wh) sc := by simpa using w
   have hb : sc + (r.getD i Wh).pot + 8 * (m + n + p) + 10 <= SB := by simpa using hb
   have := ih2 i (by simpa using hi) w (by omega)
   simpa using this
theorem noRed_of {l : List C} {x : T} (h : NrmT l x) : ∀ {sc : Nat}, Ws x sc -> NoRed l x := by
 induction h with
 | @mk t h hk ih =>
  intro sc w
  have h1 : rootI l t = none := by cases stk_of w h; assumption
  cases t with
  | mk k n a ls ks =>
   rw [NoRed]
   refine ⟨h1, ?_⟩
   have key : ∀ zs : List T, (∀ z, z ∈ zs -> NoRed l z) -> NoReds l zs := fun zs => by
    induction zs with
    | nil => intro _; rw [NoReds]; trivial
    | cons z r ih => intro H; rw [NoReds]; exact ⟨H z (List.mem_cons_self ..), ih fun y hy => H y (List.mem_cons_of_mem _ hy)⟩
   refine key ks fun z hz => ?_
   obtain ⟨i, hi, rfl⟩ := List.getElem_of_mem hz
   have := w.kid (i := i) hi
   rw [kid_at (t := .mk k n a ls ks) hi] at this
   exact ih _ (List.getElem_mem hi) this
theorem norm_meet {l : List C} (hB : WsL l) {t w x z : T} {h h' n m sc sc' : Nat} (wt : Ws t sc) (hb : sc + t.pot + 8 * n + 10 <= SB) (ww : Ws w sc') (hb' : sc' + w.pot + 8 * m + 10 <= SB) (p : Pars l t w) (H : Nms l h [t] n [x]) (H' : Nms l h' [w] m [z]) (px : Pars l t x) (pz : Pars l w z) : x = z := by
 have wx := nms_ws hB H 0 (by simp) (sc := sc) wt hb
 have wz := nms_ws hB H' 0 (by simp) (sc := sc') ww hb'
 obtain ⟨nx, -⟩ := nms_norm H x (List.mem_singleton.2 rfl)
 obtain ⟨nz, -⟩ := nms_norm H' z (List.mem_singleton.2 rfl)
 exact normal_one hB.closed px (p.trans pz) (noRed_of nx wx) (noRed_of nz wz)
mutual
theorem D.fgt_of_deep : ∀ d : D, d.deep.fgt = d.deep
 | .agg ds => by rw [D.deep, D.fgt, D.fgts_of_deeps ds]
 | .tuple ds => by rw [D.deep, D.fgt, D.fgts_of_deeps ds]
 | .iface t d => by rw [D.deep, D.fgt, D.fgt_of_deep d]
 | .slice els _ => by rw [D.deep, D.fgt]
 | .fn f a b => by simp [D.deep, D.fgt]
 | .ref d => by simp [D.deep, D.fgt]
 | .mapc ks vs => by simp [D.deep, D.fgt]
 | .junk | .int k n | .bool b | .str s | .nilp | .nilf | .nili | .nilm | .box i o | .map i | .own i n | .ebox i sz k o => by simp [D.deep, D.fgt]
theorem D.fgts_of_deeps : ∀ ds : List D, D.fgts (D.deeps ds) = D.deeps ds
 | [] => by rw [D.deeps, D.fgts]
 | d :: r => by rw [D.deeps, D.fgts, D.fgt_of_deep d, D.fgts_of_deeps r]
end
mutual
theorem D.deep_of_fgt : ∀ d : D, d.fgt.deep = d.deep
 | .agg ds => by rw [D.fgt, D.deep, D.deep, D.deeps_of_fgts ds]
 | .tuple ds => by rw [D.fgt, D.deep, D.deep, D.deeps_of_fgts ds]
 | .iface t d => by rw [D.fgt, D.deep, D.deep, D.deep_of_fgt d]
 | .slice els _ => by rw [D.fgt, D.deep, D.deep]
 | .fn f a b => by simp [D.deep, D.fgt]
 | .ref d => by simp [D.deep, D.fgt]
 | .mapc ks vs => by simp [D.deep, D.fgt]
 | .junk | .int k n | .bool b | .str s | .nilp | .nilf | .nili | .nilm | .box i o | .map i | .own i n | .ebox i sz k o => by simp [D.deep, D.fgt]
theorem D.deeps_of_fgts : ∀ ds : List D, D.deeps (D.fgts ds) = D.deeps ds
 | [] => by rw [D.fgts]
 | d :: r => by rw [D.fgts, D.deeps, D.deeps, D.deep_of_fgt d, D.deeps_of_fgts r]
end
def Out.deep : Out -> Out
 | .ret d => .ret d.deep
 | .pan d => .pan d.deep
theorem OutM.deep {ρ : Rho} {w : World} {o : Out} {e : Ending} (h : OutM ρ w o e) : OutM ρ w o.deep e := by
 cases o with
 | ret d => obtain ⟨u, h1, h2⟩ := h; exact ⟨u, h1, Rp_deep _ _ h2⟩
 | pan d => obtain ⟨u, h1, h2⟩ := h; exact ⟨u, h1, Rp_deep _ _ h2⟩
end Go.Proofs.YtgloldepdhgfaaaGreatDoor
namespace Go.Proofs.YtgloldepdhgfaaaGreatDoor
set_option linter.unusedSimpArgs false
set_option linter.unusedVariables false
set_option maxHeartbeats 10000000
set_option maxRecDepth 20000
open Go.RowKit
attribute [local simp] Qb Qc Xd Xm opD Qp Ql Qi Qk hOf Wz Xn Xk TK.isAgg TK.known Xf Xe Wt Qr D.ofV inB Wm Xc binX binD binE Xl bndD capB IntKind.min IntKind.max IntKind.signed IntKind.bits Wx late
theorem Xs (t : T) (n : Int) (m : Nat) (h : n = m) : Qt Tryz.prog glob 97 [Qv t, .int .i64 n] [] (fun o _ => o.fgt = .ret (Qv (t.kid m))) := by
 subst h
 have := kid_spec t m
 rwa [kidI_nat] at this
def atC (l : List C) (n : Int) (lv : List LV) : Option C := if h : 0 <= n /\ n.toNat < l.length then if (l[n.toNat]'h.2).lv = lv.length then some (l[n.toNat]'h.2) else none else none
theorem atC_low {l : List C} {n : Int} {lv : List LV} (h : ¬ 0 <= n) : atC l n lv = none := by unfold atC; rw [dif_neg (fun h2 => h h2.1)]
theorem atC_in {l : List C} {j : Nat} {lv : List LV} (h : j < l.length) : atC l (j : Int) lv = if l[j].lv = lv.length then some l[j] else none := by unfold atC; rw [dif_pos ⟨by omega, by omega⟩]; rfl
theorem atC_out {l : List C} {j : Nat} {lv : List LV} (h : ¬ j < l.length) : atC l (j : Int) lv = none := by unfold atC; rw [dif_neg (fun h2 => h h2.2)]
theorem body_at (l : List C) (n : Int) (lv : List LV) : bodyC l n lv = match atC l n lv with
  | some c => if c.has = true then some (c.bo.levels lv 0) else none
  | none => none := by
 unfold bodyC atC
 split
 ·rename_i h
  by_cases h1 : (l[n.toNat]'h.2).lv = lv.length
  ·rw [if_pos h1]
   by_cases h2 : (l[n.toNat]'h.2).has = true
   ·rw [if_pos ⟨h1, h2⟩]; simp only; rw [if_pos h2]
   ·rw [if_neg (fun h3 => h2 h3.2)]; simp only; rw [if_neg h2]
  ·rw [if_neg (fun h3 => h1 h3.1), if_neg h1]
 ·rfl
theorem atC_mem {l : List C} {n : Int} {lv : List LV} {c : C} (h : atC l n lv = some c) : c ∈ l := by
 unfold atC at h
 split at h
 ·split at h
  ·cases h; exact List.getElem_mem _
  ·cases h
 ·cases h
theorem encC_eq (c : C) : encC c = .agg [.int .i64 c.lv, .int .i64 c.ty.k, .int .i64 c.ty.n, .int .i64 c.ty.a, .slice (c.ty.ls.map Wp) .any, .slice (c.ty.ks.map Qv) .any, .bool c.has, .int .i64 c.bo.k, .int .i64 c.bo.n, .int .i64 c.bo.a, .slice (c.bo.ls.map Wp) .any, .slice (c.bo.ks.map Qv) .any] := rfl
theorem at_spec (l : List C) (hl : l.length <= Wd) (n : Int) (lv : List LV) : Qt Tryz.prog glob 192 [Cs l, .int .i64 n, .slice (lv.map Wp) .any] [] (fun o _ => o.fgt = .ret (.tuple [encC ((atC l n lv).getD zeroC), .bool (atC l n lv).isSome])) := by
 unfold Wd at hl
 by_cases h0 : 0 <= n
 ·obtain ⟨j, rfl⟩ : ∃ j : Nat, n = j := ⟨n.toNat, by omega⟩
  by_cases hj : j < l.length
  ·have hj' : (j : Int) < l.length := by omega
   rw [atC_in hj]
   obtain ⟨c, hc⟩ : ∃ c, l[j] = c := ⟨_, rfl⟩
   rw [hc]
   have hE := encC_eq c
   by_cases hlv : c.lv = lv.length
   ·rw [if_pos hlv]
    unfold Cs
    refine Qt.movd Qe (Qq Wb Tryz.func192 rfl (Qy _ _ Tryz.func192 rfl (by decide)) rfl rfl ?_)
    (refine sR fun K hK => ?_; ((repeat (rw [Qa]; simp)); (try simp only [zs])); refine hK _ _ _ ?_; clear hK K)
    refine Qf fun K1 hK1 => ?_
    (refine sR fun K hK => ?_; ((repeat (rw [Qa]; simp [h0, hj, hj', hc, hE, hlv])); (try simp only [zs])); refine hK _ _ _ ?_; clear hK K)
    refine pT rfl ?_
    (refine sR fun K hK => ?_; ((repeat (rw [Qa]; simp [h0, hj, hj', hc, hE, hlv])); (try simp only [zs])); refine hK _ _ _ ?_; clear hK K)
    (refine Qj ?_; (try simp only [zs]); refine Wc.ret rfl (.inl ?_); simp [Qp, Out.fgt, D.fgt, D.fgts])
    rw [hE, hlv]
   ·rw [if_neg hlv]
    unfold Cs
    refine Qt.movd Qe (Qq Wb Tryz.func192 rfl (Qy _ _ Tryz.func192 rfl (by decide)) rfl rfl ?_)
    (refine sR fun K hK => ?_; ((repeat (rw [Qa]; simp)); (try simp only [zs])); refine hK _ _ _ ?_; clear hK K)
    refine Qf fun K1 hK1 => ?_
    (refine sR fun K hK => ?_; ((repeat (rw [Qa]; simp [h0, hj, hj', hc, hE, hlv])); (try simp only [zs])); refine hK _ _ _ ?_; clear hK K)
    refine pF rfl ?_
    refine Qs (hK1 _ _ _ ?_)
    (refine sR fun K hK => ?_; ((repeat (rw [Qa]; simp)); (try simp only [zs])); refine hK _ _ _ ?_; clear hK K)
    (refine Qj ?_; (try simp only [zs]); refine Wc.ret rfl (.inl ?_); simp [Qp, Out.fgt, D.fgt, D.fgts])
    rfl
  ·have hj' : ¬ (j : Int) < l.length := by omega
   rw [atC_out hj]
   unfold Cs
   refine Qt.movd Qe (Qq Wb Tryz.func192 rfl (Qy _ _ Tryz.func192 rfl (by decide)) rfl rfl ?_)
   (refine sR fun K hK => ?_; ((repeat (rw [Qa]; simp)); (try simp only [zs])); refine hK _ _ _ ?_; clear hK K)
   refine Qf fun K1 hK1 => ?_
   (refine sR fun K hK => ?_; ((repeat (rw [Qa]; simp [h0, hj, hj'])); (try simp only [zs])); refine hK _ _ _ ?_; clear hK K)
   refine pF rfl ?_
   refine Qs (hK1 _ _ _ ?_)
   (refine sR fun K hK => ?_; ((repeat (rw [Qa]; simp)); (try simp only [zs])); refine hK _ _ _ ?_; clear hK K)
   (refine Qj ?_; (try simp only [zs]); refine Wc.ret rfl (.inl ?_); simp [Qp, Out.fgt, D.fgt, D.fgts])
   rfl
 ·rw [atC_low h0]
  unfold Cs
  refine Qt.movd Qe (Qq Wb Tryz.func192 rfl (Qy _ _ Tryz.func192 rfl (by decide)) rfl rfl ?_)
  (refine sR fun K hK => ?_; ((repeat (rw [Qa]; simp)); (try simp only [zs])); refine hK _ _ _ ?_; clear hK K)
  refine Qf fun K1 hK1 => ?_
  (refine sR fun K hK => ?_; ((repeat (rw [Qa]; simp [h0])); (try simp only [zs])); refine hK _ _ _ ?_; clear hK K)
  refine pF rfl ?_
  refine Qs (hK1 _ _ _ ?_)
  (refine sR fun K hK => ?_; ((repeat (rw [Qa]; simp)); (try simp only [zs])); refine hK _ _ _ ?_; clear hK K)
  (refine Qj ?_; (try simp only [zs]); refine Wc.ret rfl (.inl ?_); simp [Qp, Out.fgt, D.fgt, D.fgts])
  rfl
theorem body_spec (l : List C) (hl : okCs l) (n : Int) (lv : List LV) (hv : lv.length <= Wd) (hvl : ∀ b, b ∈ lv -> b.length <= Wd) : Qt Tryz.prog glob 140 [Cs l, .int .i64 n, .slice (lv.map Wp) .any] [] (fun o _ => o.fgt = .ret (.tuple [Qv ((bodyC l n lv).getD Wh), .bool (bodyC l n lv).isSome])) := by
 have ha := at_spec l hl.len n lv
 rw [body_at]
 cases hc : atC l n lv with
 | none =>
  rw [hc] at ha
  simp only [Option.getD_none, Option.isSome_none] at ha ⊢
  rw [encZ]
  unfold Cs zeroC at ha
  unfold Cs
  refine Qt.movd Qe (Qq Wb Tryz.func140 rfl (Qy _ _ Tryz.func140 rfl (by decide)) rfl rfl ?_)
  (refine sR fun K hK => ?_; ((repeat (rw [Qa]; simp)); (try simp only [zs])); refine hK _ _ _ ?_; clear hK K)
  (refine sR fun K hK => ?_; ((repeat (rw [Qa]; simp)); (try simp only [zs])))
  refine cXp (ha) ?_
  ((try simp only [Qb, Qc, Ql, Qi, Qk]); (repeat (rw [Qa]; simp)); (try simp only [zs]))
  (refine hK _ _ _ ?_; clear hK K)
  refine Qf fun K1 hK1 => ?_
  (refine sR fun K hK => ?_; ((repeat (rw [Qa]; simp)); (try simp only [zs])); refine hK _ _ _ ?_; clear hK K)
  refine pT rfl ?_
  (refine sR fun K hK => ?_; ((repeat (rw [Qa]; simp)); (try simp only [zs])); refine hK _ _ _ ?_; clear hK K)
  (refine Qj ?_; (try simp only [zs]); refine Wc.ret rfl (.inl ?_); simp [Qp, Out.fgt, D.fgt, D.fgts])
 | some c =>
  rw [hc] at ha
  simp only [Option.getD_some, Option.isSome_some] at ha ⊢
  have hm := atC_mem hc
  have hbo := (hl.ok c hm).2.2
  have hd : c.bo.deep <= DM := by have := c.bo.deep_nsz; have := hl.bo c hm; unfold DM; omega
  cases hh : c.has with
  | false =>
   rw [if_neg Bool.false_ne_true]
   simp only [Option.getD_none, Option.isSome_none]
   rw [encZ]
   rw [encC_eq c, hh] at ha
   unfold Cs at ha ⊢
   refine Qt.movd Qe (Qq Wb Tryz.func140 rfl (Qy _ _ Tryz.func140 rfl (by decide)) rfl rfl ?_)
   (refine sR fun K hK => ?_; ((repeat (rw [Qa]; simp)); (try simp only [zs])); refine hK _ _ _ ?_; clear hK K)
   (refine sR fun K hK => ?_; ((repeat (rw [Qa]; simp)); (try simp only [zs])))
   refine cXp (ha) ?_
   ((try simp only [Qb, Qc, Ql, Qi, Qk]); (repeat (rw [Qa]; simp)); (try simp only [zs]))
   (refine hK _ _ _ ?_; clear hK K)
   refine Qf fun K1 hK1 => ?_
   (refine sR fun K hK => ?_; ((repeat (rw [Qa]; simp)); (try simp only [zs])); refine hK _ _ _ ?_; clear hK K)
   refine pT rfl ?_
   (refine sR fun K hK => ?_; ((repeat (rw [Qa]; simp)); (try simp only [zs])); refine hK _ _ _ ?_; clear hK K)
   (refine Qj ?_; (try simp only [zs]); refine Wc.ret rfl (.inl ?_); simp [Qp, Out.fgt, D.fgt, D.fgts])
  | true =>
   rw [if_pos rfl]
   simp only [Option.getD_some, Option.isSome_some]
   have hs := levels_spec c.bo lv hv hvl hd hbo
   rw [encC_eq c, hh] at ha
   rw [Qd c.bo] at hs
   generalize c.bo.levels lv 0 = r at hs ⊢
   have hEr := Qd r
   unfold Lvs at hs
   unfold Cs at ha ⊢
   refine Qt.movd Qe (Qq Wb Tryz.func140 rfl (Qy _ _ Tryz.func140 rfl (by decide)) rfl rfl ?_)
   (refine sR fun K hK => ?_; ((repeat (rw [Qa]; simp)); (try simp only [zs])); refine hK _ _ _ ?_; clear hK K)
   (refine sR fun K hK => ?_; ((repeat (rw [Qa]; simp)); (try simp only [zs])))
   refine cXp (ha) ?_
   ((try simp only [Qb, Qc, Ql, Qi, Qk]); (repeat (rw [Qa]; simp)); (try simp only [zs]))
   (refine hK _ _ _ ?_; clear hK K)
   refine Qf fun K1 hK1 => ?_
   (refine sR fun K hK => ?_; ((repeat (rw [Qa]; simp)); (try simp only [zs])); refine hK _ _ _ ?_; clear hK K)
   refine pF rfl ?_
   refine Qs (hK1 _ _ _ ?_)
   (refine sR fun K hK => ?_; ((repeat (rw [Qa]; simp)); (try simp only [zs])))
   refine cXp (hs) ?_
   ((try simp only [Qb, Qc, Ql, Qi, Qk]); (repeat (rw [Qa]; simp)); (try simp only [zs]))
   (refine hK _ _ _ ?_; clear hK K)
   (refine Qj ?_; (try simp only [zs]); refine Wc.ret rfl (.inl ?_); simp [Qp, Out.fgt, D.fgt, D.fgts])
   exact hEr.symm
theorem happ_spec (left : Int) (l : List C) (once done : Bool) (hl : left <= 9223372036854775807) (t x : T) (ht : okS t) (hx : okS x) (h6 : t.k = 6) : Qt Tryz.prog glob 88 [.box 0 0, Qv t, Qv x] (Wf left l once done) (OwnP left l once done t (ownS l t x)) := by
 have hEt := Qd t
 have hEx := Qd x
 unfold ownS
 rw [if_pos h6]
 by_cases hk : x.k = 5
 ·rw [if_pos hk]
  have k1 := Xs x 1 1 rfl
  have k2 := Xs t 1 1 rfl
  have hp := hput_spec left l once done hl (x.kid 1) (t.kid 1) (hx.kid 1) (ht.kid 1)
  generalize (x.kid 1).sd (t.kid 1).nsz 0 = c at hp ⊢
  generalize (x.kid 1).put [t.kid 1] 0 = r at hp ⊢
  generalize x.kid 1 = a at k1 hp
  generalize t.kid 1 = b at k2 hp
  have hEr := Qd r
  have hEa := Qd a
  have hEb := Qd b
  rw [hEx, hEa, hk] at k1
  rw [hEt, hEb] at k2
  rw [hEa, hEb, hEr] at hp
  rw [hEt, hEx]
  by_cases hc : (c : Int) <= left
  ·rw [Cost_ok hc] at hp
   show Qt _ _ _ _ _ (Cost left l once done c _)
   rw [Cost_ok hc]
   unfold Wf headD Cs Wj at hp ⊢
   refine Qt.movd Qe (Qq Wb Tryz.func88 rfl (Qy _ _ Tryz.func88 rfl (by decide)) rfl rfl ?_)
   (refine sR fun K hK => ?_; ((repeat (rw [Qa]; simp)); (try simp only [zs])); refine hK _ _ _ ?_; clear hK K)
   refine Qf fun K1 hK1 => ?_
   (refine sR fun K hK => ?_; ((repeat (rw [Qa]; simp [hk])); (try simp only [zs])); refine hK _ _ _ ?_; clear hK K)
   refine pF rfl ?_
   refine Qs (hK1 _ _ _ ?_)
   (refine Qf fun K hK => ?_; refine dR fun KT hKT => ?_; ((repeat (rw [Qh]; simp)); (try simp only [Qm])))
   refine cYp (k1) ?_
   ((try simp only [Qn, Qo, Ql, Qi, Qk]); (repeat (rw [Qh]; simp)); (try simp only [Qm]))
   refine cYp (k2) ?_
   ((try simp only [Qn, Qo, Ql, Qi, Qk]); (repeat (rw [Qh]; simp)); (try simp only [Qm]))
   refine cYo [0, 1] true true (hp) (fun o h e => e) ?_; simp [zz, okA, Qx, Qu, hOf, Qg, Out.ren, upO, Qu, rdO]
   ((try simp only [Qn, Qo, Ql, Qi, Qk]); (repeat (rw [Qh]; simp)); (try simp only [Qm]))
   (refine hKT _ _ _ _ (by kernel_rfl) ?_; clear hKT KT; (try simp only [zs]))
   (refine hK _ _ _ ?_; clear hK K)
   (refine Qj ?_; (try simp only [zs]); refine Wc.ret rfl (.inr ⟨[], by decide, by simp, ?_⟩); simp [Out.mov, Wk, Wl, Wr, D.mov, HO.mov, okM, Wn, Wg, zz, okA, Qx, Qu, hOf, Qg, Qp, Out.fgt, D.fgt, D.fgts])
   first | done | simp [hEr]
  ·rw [Cost_no hc] at hp
   show Qt _ _ _ _ _ (Cost left l once done c _)
   rw [Cost_no hc]
   unfold Wf headD Cs Wj goneD at hp
   unfold Wf headD Cs Wj goneD
   refine Qt.movd Qe (Qq Wb Tryz.func88 rfl (Qy _ _ Tryz.func88 rfl (by decide)) rfl rfl ?_)
   (refine sR fun K hK => ?_; ((repeat (rw [Qa]; simp)); (try simp only [zs])); refine hK _ _ _ ?_; clear hK K)
   refine Qf fun K1 hK1 => ?_
   (refine sR fun K hK => ?_; ((repeat (rw [Qa]; simp [hk])); (try simp only [zs])); refine hK _ _ _ ?_; clear hK K)
   refine pF rfl ?_
   refine Qs (hK1 _ _ _ ?_)
   (refine Qf fun K hK => ?_; refine dR fun KT hKT => ?_; ((repeat (rw [Qh]; simp)); (try simp only [Qm])))
   refine cYp (k1) ?_
   ((try simp only [Qn, Qo, Ql, Qi, Qk]); (repeat (rw [Qh]; simp)); (try simp only [Qm]))
   refine cYp (k2) ?_
   ((try simp only [Qn, Qo, Ql, Qi, Qk]); (repeat (rw [Qh]; simp)); (try simp only [Qm]))
   refine cYo [0, 1] true false (hp) (fun o h e => e) ?_; simp [zz, okA, Qx, Qu, hOf, Qg, Out.ren, upO, Qu, rdO]
   ((try simp only [Qn, Qo, Ql, Qi, Qk]); (repeat (refine wpT_late _ _ _ _ (by kernel_rfl) ?_; simp only [Ql, List.set, List.nil_append, List.cons_append, Nat.reduceAdd])); (try simp only [Qm]))
   (refine hKT _ _ _ _ (by kernel_rfl) ?_; clear hKT KT; (try simp only [zs]))
   simp [killHl]
   ((try simp only [zs]); refine Wc.pan (.inr ⟨[], by decide, by simp, ?_⟩); simp [Out.mov, Wk, Wl, Wr, D.mov, HO.mov, okM, Wn, Wg, zz, okA, Qx, Qu, hOf, Qg, Qp, Out.fgt, D.fgt, D.fgts])
 ·rw [if_neg hk]
  rw [hEt, hEx]
  unfold OwnP Wf headD Cs Wj
  refine Qt.movd Qe (Qq Wb Tryz.func88 rfl (Qy _ _ Tryz.func88 rfl (by decide)) rfl rfl ?_)
  (refine sR fun K hK => ?_; ((repeat (rw [Qa]; simp)); (try simp only [zs])); refine hK _ _ _ ?_; clear hK K)
  refine Qf fun K1 hK1 => ?_
  (refine sR fun K hK => ?_; ((repeat (rw [Qa]; simp [hk])); (try simp only [zs])); refine hK _ _ _ ?_; clear hK K)
  refine pT rfl ?_
  (refine sR fun K hK => ?_; ((repeat (rw [Qa]; simp)); (try simp only [zs])); refine hK _ _ _ ?_; clear hK K)
  (refine Qj ?_; (try simp only [zs]); refine Wc.ret rfl (.inr ⟨[], by decide, by simp, ?_⟩); simp [Out.mov, Wk, Wl, Wr, D.mov, HO.mov, okM, Wn, Wg, zz, okA, Qx, Qu, hOf, Qg, Qp, Out.fgt, D.fgt, D.fgts])
  first | done | simp [hEt]
theorem hlet_spec (left : Int) (l : List C) (once done : Bool) (hl : left <= 9223372036854775807) (t x : T) (ht : okS t) (h7 : t.k = 7) : Qt Tryz.prog glob 90 [.box 0 0, Qv t, Qv x] (Wf left l once done) (OwnP left l once done t (ownS l t x)) := by
 have hEt := Qd t
 have hEx := Qd x
 unfold ownS
 rw [if_neg (by omega), if_neg (by omega), if_pos h7]
 have k1 := Xs t 2 2 rfl
 have k2 := Xs t 1 1 rfl
 have hp := hput_spec left l once done hl (t.kid 2) (t.kid 1) (ht.kid 2) (ht.kid 1)
 generalize (t.kid 2).sd (t.kid 1).nsz 0 = c at hp ⊢
 generalize (t.kid 2).put [t.kid 1] 0 = r at hp ⊢
 generalize t.kid 2 = a at k1 hp
 generalize t.kid 1 = b at k2 hp
 have hEr := Qd r
 have hEa := Qd a
 have hEb := Qd b
 rw [hEt, hEa] at k1
 rw [hEt, hEb] at k2
 rw [hEa, hEb, hEr] at hp
 rw [hEt, hEx]
 by_cases hc : (c : Int) <= left
 ·rw [Cost_ok hc] at hp
  show Qt _ _ _ _ _ (Cost left l once done c _)
  rw [Cost_ok hc]
  unfold Wf headD Cs Wj at hp ⊢
  refine Qt.movd Qe (Qq Wb Tryz.func90 rfl (Qy _ _ Tryz.func90 rfl (by decide)) rfl rfl ?_)
  (refine sR fun K hK => ?_; ((repeat (rw [Qa]; simp)); (try simp only [zs])); refine hK _ _ _ ?_; clear hK K)
  (refine Qf fun K hK => ?_; refine dR fun KT hKT => ?_; ((repeat (rw [Qh]; simp)); (try simp only [Qm])))
  refine cYp (k1) ?_
  ((try simp only [Qn, Qo, Ql, Qi, Qk]); (repeat (rw [Qh]; simp)); (try simp only [Qm]))
  refine cYp (k2) ?_
  ((try simp only [Qn, Qo, Ql, Qi, Qk]); (repeat (rw [Qh]; simp)); (try simp only [Qm]))
  refine cYo [0, 1] true true (hp) (fun o h e => e) ?_; simp [zz, okA, Qx, Qu, hOf, Qg, Out.ren, upO, Qu, rdO]
  ((try simp only [Qn, Qo, Ql, Qi, Qk]); (repeat (rw [Qh]; simp)); (try simp only [Qm]))
  (refine hKT _ _ _ _ (by kernel_rfl) ?_; clear hKT KT; (try simp only [zs]))
  (refine hK _ _ _ ?_; clear hK K)
  (refine Qj ?_; (try simp only [zs]); refine Wc.ret rfl (.inr ⟨[], by decide, by simp, ?_⟩); simp [Out.mov, Wk, Wl, Wr, D.mov, HO.mov, okM, Wn, Wg, zz, okA, Qx, Qu, hOf, Qg, Qp, Out.fgt, D.fgt, D.fgts])
  first | done | simp [hEr]
 ·rw [Cost_no hc] at hp
  show Qt _ _ _ _ _ (Cost left l once done c _)
  rw [Cost_no hc]
  unfold Wf headD Cs Wj goneD at hp
  unfold Wf headD Cs Wj goneD
  refine Qt.movd Qe (Qq Wb Tryz.func90 rfl (Qy _ _ Tryz.func90 rfl (by decide)) rfl rfl ?_)
  (refine sR fun K hK => ?_; ((repeat (rw [Qa]; simp)); (try simp only [zs])); refine hK _ _ _ ?_; clear hK K)
  (refine Qf fun K hK => ?_; refine dR fun KT hKT => ?_; ((repeat (rw [Qh]; simp)); (try simp only [Qm])))
  refine cYp (k1) ?_
  ((try simp only [Qn, Qo, Ql, Qi, Qk]); (repeat (rw [Qh]; simp)); (try simp only [Qm]))
  refine cYp (k2) ?_
  ((try simp only [Qn, Qo, Ql, Qi, Qk]); (repeat (rw [Qh]; simp)); (try simp only [Qm]))
  refine cYo [0, 1] true false (hp) (fun o h e => e) ?_; simp [zz, okA, Qx, Qu, hOf, Qg, Out.ren, upO, Qu, rdO]
  ((try simp only [Qn, Qo, Ql, Qi, Qk]); (repeat (refine wpT_late _ _ _ _ (by kernel_rfl) ?_; simp only [Ql, List.set, List.nil_append, List.cons_append, Nat.reduceAdd])); (try simp only [Qm]))
  (refine hKT _ _ _ _ (by kernel_rfl) ?_; clear hKT KT; (try simp only [zs]))
  simp [killHl]
  ((try simp only [zs]); refine Wc.pan (.inr ⟨[], by decide, by simp, ?_⟩); simp [Out.mov, Wk, Wl, Wr, D.mov, HO.mov, okM, Wn, Wg, zz, okA, Qx, Qu, hOf, Qg, Qp, Out.fgt, D.fgt, D.fgts])
theorem hhalf_spec (left : Int) (l : List C) (once done : Bool) (hl : left <= 9223372036854775807) (t x : T) (hx : okS x) (h14 : t.k = 14 \/ t.k = 15) : Qt Tryz.prog glob 89 [.box 0 0, Qv t, Qv x] (Wf left l once done) (OwnP left l once done t (ownS l t x)) := by
 have hEt := Qd t
 have hEx := Qd x
 unfold ownS
 rw [if_neg (by omega), if_pos h14]
 by_cases hk : x.k = 13
 ·rw [if_pos hk]
  by_cases h15 : t.k = 15
  ·rw [if_pos h15]
   have k1 := Xs x 1 1 rfl
   have hp := htake_spec left l once done hl (x.kid 1) (hx.kid 1)
   generalize (x.kid 1).nsz = c at hp ⊢
   generalize x.kid 1 = r at k1 hp ⊢
   have hEr := Qd r
   rw [hEx, hEr, hk] at k1
   rw [hEr] at hp
   rw [hEt, hEx]
   by_cases hc : (c : Int) <= left
   ·rw [Cost_ok hc] at hp
    show Qt _ _ _ _ _ (Cost left l once done c _)
    rw [Cost_ok hc]
    unfold Wf headD Cs Wj at hp ⊢
    refine Qt.movd Qe (Qq Wb Tryz.func89 rfl (Qy _ _ Tryz.func89 rfl (by decide)) rfl rfl ?_)
    (refine sR fun K hK => ?_; ((repeat (rw [Qa]; simp)); (try simp only [zs])); refine hK _ _ _ ?_; clear hK K)
    refine Qf fun K1 hK1 => ?_
    (refine sR fun K hK => ?_; ((repeat (rw [Qa]; simp [hk])); (try simp only [zs])); refine hK _ _ _ ?_; clear hK K)
    refine pF rfl ?_
    refine Qs (hK1 _ _ _ ?_)
    (refine sR fun K hK => ?_; ((repeat (rw [Qa]; simp)); (try simp only [zs])); refine hK _ _ _ ?_; clear hK K)
    refine Qf fun K2 hK2 => ?_
    (refine sR fun K hK => ?_; ((repeat (rw [Qa]; simp [h15])); (try simp only [zs])); refine hK _ _ _ ?_; clear hK K)
    refine pT rfl ?_
    (refine Qz Wb ?_; ((repeat (rw [Qa]; simp)); (try simp only [zs])))
    refine hK2 _ _ _ ?_
    (refine sR fun K hK => ?_; ((repeat (rw [Qa]; simp)); (try simp only [zs])))
    refine cXp (k1) ?_
    ((try simp only [Qb, Qc, Ql, Qi, Qk]); (repeat (rw [Qa]; simp)); (try simp only [zs]))
    refine cXo [0, 1] true (hp) ?_
    (rintro o hc ⟨ho, rfl⟩; refine ⟨true, ?_⟩; rw [show told true o = _ from ho]; clear ho; simp [zz, okA, Qx, Qu, hOf, Qg, Out.ren, told, Out.fgt, upO, Qi, Qk])
    ((try simp only [Qb, Qc, Ql, Qi, Qk]); (repeat (rw [Qa]; simp)); (try simp only [zs]))
    (refine hK _ _ _ ?_; clear hK K)
    (refine Qj ?_; (try simp only [zs]); refine Wc.ret rfl (.inr ⟨[], by decide, by simp, ?_⟩); simp [Out.mov, Wk, Wl, Wr, D.mov, HO.mov, okM, Wn, Wg, zz, okA, Qx, Qu, hOf, Qg, Qp, Out.fgt, D.fgt, D.fgts])
    first | done | simp [hEr]
   ·rw [Cost_no hc] at hp
    show Qt _ _ _ _ _ (Cost left l once done c _)
    rw [Cost_no hc]
    unfold Wf headD Cs Wj goneD at hp
    unfold Wf headD Cs Wj goneD
    refine Qt.movd Qe (Qq Wb Tryz.func89 rfl (Qy _ _ Tryz.func89 rfl (by decide)) rfl rfl ?_)
    (refine sR fun K hK => ?_; ((repeat (rw [Qa]; simp)); (try simp only [zs])); refine hK _ _ _ ?_; clear hK K)
    refine Qf fun K1 hK1 => ?_
    (refine sR fun K hK => ?_; ((repeat (rw [Qa]; simp [hk])); (try simp only [zs])); refine hK _ _ _ ?_; clear hK K)
    refine pF rfl ?_
    refine Qs (hK1 _ _ _ ?_)
    (refine sR fun K hK => ?_; ((repeat (rw [Qa]; simp)); (try simp only [zs])); refine hK _ _ _ ?_; clear hK K)
    refine Qf fun K2 hK2 => ?_
    (refine sR fun K hK => ?_; ((repeat (rw [Qa]; simp [h15])); (try simp only [zs])); refine hK _ _ _ ?_; clear hK K)
    refine pT rfl ?_
    (refine Qz Wb ?_; ((repeat (rw [Qa]; simp)); (try simp only [zs])))
    refine hK2 _ _ _ ?_
    (refine sR fun K hK => ?_; ((repeat (rw [Qa]; simp)); (try simp only [zs])))
    refine cXp (k1) ?_
    ((try simp only [Qb, Qc, Ql, Qi, Qk]); (repeat (rw [Qa]; simp)); (try simp only [zs]))
    refine cXo [0, 1] true (hp) ?_
    (rintro o hc ⟨rfl, rfl⟩; refine ⟨false, ?_⟩; simp [zz, okA, Qx, Qu, hOf, Qg, Out.ren, told, Out.fgt, upO, Qi, Qk])
    ((try simp only [zs]); refine Wc.pan (.inr ⟨[], by decide, by simp, ?_⟩); simp [Out.mov, Wk, Wl, Wr, D.mov, HO.mov, okM, Wn, Wg, zz, okA, Qx, Qu, hOf, Qg, Qp, Out.fgt, D.fgt, D.fgts])
  ·rw [if_neg h15]
   have k1 := Xs x 0 0 rfl
   have hp := htake_spec left l once done hl (x.kid 0) (hx.kid 0)
   generalize (x.kid 0).nsz = c at hp ⊢
   generalize x.kid 0 = r at k1 hp ⊢
   have hEr := Qd r
   rw [hEx, hEr, hk] at k1
   rw [hEr] at hp
   rw [hEt, hEx]
   by_cases hc : (c : Int) <= left
   ·rw [Cost_ok hc] at hp
    show Qt _ _ _ _ _ (Cost left l once done c _)
    rw [Cost_ok hc]
    unfold Wf headD Cs Wj at hp ⊢
    refine Qt.movd Qe (Qq Wb Tryz.func89 rfl (Qy _ _ Tryz.func89 rfl (by decide)) rfl rfl ?_)
    (refine sR fun K hK => ?_; ((repeat (rw [Qa]; simp)); (try simp only [zs])); refine hK _ _ _ ?_; clear hK K)
    refine Qf fun K1 hK1 => ?_
    (refine sR fun K hK => ?_; ((repeat (rw [Qa]; simp [hk])); (try simp only [zs])); refine hK _ _ _ ?_; clear hK K)
    refine pF rfl ?_
    refine Qs (hK1 _ _ _ ?_)
    (refine sR fun K hK => ?_; ((repeat (rw [Qa]; simp)); (try simp only [zs])); refine hK _ _ _ ?_; clear hK K)
    refine Qf fun K2 hK2 => ?_
    (refine sR fun K hK => ?_; ((repeat (rw [Qa]; simp [h15])); (try simp only [zs])); refine hK _ _ _ ?_; clear hK K)
    refine pF rfl ?_
    refine Qs (hK2 _ _ _ ?_)
    (refine sR fun K hK => ?_; ((repeat (rw [Qa]; simp)); (try simp only [zs])))
    refine cXp (k1) ?_
    ((try simp only [Qb, Qc, Ql, Qi, Qk]); (repeat (rw [Qa]; simp)); (try simp only [zs]))
    refine cXo [0, 1] true (hp) ?_
    (rintro o hc ⟨ho, rfl⟩; refine ⟨true, ?_⟩; rw [show told true o = _ from ho]; clear ho; simp [zz, okA, Qx, Qu, hOf, Qg, Out.ren, told, Out.fgt, upO, Qi, Qk])
    ((try simp only [Qb, Qc, Ql, Qi, Qk]); (repeat (rw [Qa]; simp)); (try simp only [zs]))
    (refine hK _ _ _ ?_; clear hK K)
    (refine Qj ?_; (try simp only [zs]); refine Wc.ret rfl (.inr ⟨[], by decide, by simp, ?_⟩); simp [Out.mov, Wk, Wl, Wr, D.mov, HO.mov, okM, Wn, Wg, zz, okA, Qx, Qu, hOf, Qg, Qp, Out.fgt, D.fgt, D.fgts])
    first | done | simp [hEr]
   ·rw [Cost_no hc] at hp
    show Qt _ _ _ _ _ (Cost left l once done c _)
    rw [Cost_no hc]
    unfold Wf headD Cs Wj goneD at hp
    unfold Wf headD Cs Wj goneD
    refine Qt.movd Qe (Qq Wb Tryz.func89 rfl (Qy _ _ Tryz.func89 rfl (by decide)) rfl rfl ?_)
    (refine sR fun K hK => ?_; ((repeat (rw [Qa]; simp)); (try simp only [zs])); refine hK _ _ _ ?_; clear hK K)
    refine Qf fun K1 hK1 => ?_
    (refine sR fun K hK => ?_; ((repeat (rw [Qa]; simp [hk])); (try simp only [zs])); refine hK _ _ _ ?_; clear hK K)
    refine pF rfl ?_
    refine Qs (hK1 _ _ _ ?_)
    (refine sR fun K hK => ?_; ((repeat (rw [Qa]; simp)); (try simp only [zs])); refine hK _ _ _ ?_; clear hK K)
    refine Qf fun K2 hK2 => ?_
    (refine sR fun K hK => ?_; ((repeat (rw [Qa]; simp [h15])); (try simp only [zs])); refine hK _ _ _ ?_; clear hK K)
    refine pF rfl ?_
    refine Qs (hK2 _ _ _ ?_)
    (refine sR fun K hK => ?_; ((repeat (rw [Qa]; simp)); (try simp only [zs])))
    refine cXp (k1) ?_
    ((try simp only [Qb, Qc, Ql, Qi, Qk]); (repeat (rw [Qa]; simp)); (try simp only [zs]))
    refine cXo [0, 1] true (hp) ?_
    (rintro o hc ⟨rfl, rfl⟩; refine ⟨false, ?_⟩; simp [zz, okA, Qx, Qu, hOf, Qg, Out.ren, told, Out.fgt, upO, Qi, Qk])
    ((try simp only [zs]); refine Wc.pan (.inr ⟨[], by decide, by simp, ?_⟩); simp [Out.mov, Wk, Wl, Wr, D.mov, HO.mov, okM, Wn, Wg, zz, okA, Qx, Qu, hOf, Qg, Qp, Out.fgt, D.fgt, D.fgts])
 ·rw [if_neg hk]
  rw [hEt, hEx]
  unfold OwnP Wf headD Cs Wj
  refine Qt.movd Qe (Qq Wb Tryz.func89 rfl (Qy _ _ Tryz.func89 rfl (by decide)) rfl rfl ?_)
  (refine sR fun K hK => ?_; ((repeat (rw [Qa]; simp)); (try simp only [zs])); refine hK _ _ _ ?_; clear hK K)
  refine Qf fun K1 hK1 => ?_
  (refine sR fun K hK => ?_; ((repeat (rw [Qa]; simp [hk])); (try simp only [zs])); refine hK _ _ _ ?_; clear hK K)
  refine pT rfl ?_
  (refine sR fun K hK => ?_; ((repeat (rw [Qa]; simp)); (try simp only [zs])); refine hK _ _ _ ?_; clear hK K)
  (refine Qj ?_; (try simp only [zs]); refine Wc.ret rfl (.inr ⟨[], by decide, by simp, ?_⟩); simp [Out.mov, Wk, Wl, Wr, D.mov, HO.mov, okM, Wn, Wg, zz, okA, Qx, Qu, hOf, Qg, Qp, Out.fgt, D.fgt, D.fgts])
  first | done | simp [hEt]
theorem hpath_spec (left : Int) (l : List C) (once done : Bool) (hl : left <= 9223372036854775807) (t x : T) (ht : okS t) (h21 : t.k = 21) : Qt Tryz.prog glob 93 [.box 0 0, Qv t, Qv x] (Wf left l once done) (OwnP left l once done t (ownS l t x)) := by
 have hEt := Qd t
 have hEx := Qd x
 unfold ownS
 rw [if_neg (by omega), if_neg (by omega), if_neg (by omega), if_neg (by omega), if_neg (by omega), if_pos h21]
 by_cases hk : x.k = 20
 ·rw [if_pos hk]
  have k1 := Xs t 3 3 rfl
  have hp := htake_spec left l once done hl (t.kid 3) (ht.kid 3)
  generalize (t.kid 3).nsz = c at hp ⊢
  generalize t.kid 3 = r at k1 hp ⊢
  have hEr := Qd r
  rw [hEt, hEr] at k1
  rw [hEr] at hp
  rw [hEt, hEx]
  by_cases hc : (c : Int) <= left
  ·rw [Cost_ok hc] at hp
   show Qt _ _ _ _ _ (Cost left l once done c _)
   rw [Cost_ok hc]
   unfold Wf headD Cs Wj at hp ⊢
   refine Qt.movd Qe (Qq Wb Tryz.func93 rfl (Qy _ _ Tryz.func93 rfl (by decide)) rfl rfl ?_)
   (refine sR fun K hK => ?_; ((repeat (rw [Qa]; simp)); (try simp only [zs])); refine hK _ _ _ ?_; clear hK K)
   refine Qf fun K1 hK1 => ?_
   (refine sR fun K hK => ?_; ((repeat (rw [Qa]; simp [hk])); (try simp only [zs])); refine hK _ _ _ ?_; clear hK K)
   refine pF rfl ?_
   refine Qs (hK1 _ _ _ ?_)
   (refine sR fun K hK => ?_; ((repeat (rw [Qa]; simp)); (try simp only [zs])))
   refine cXp (k1) ?_
   ((try simp only [Qb, Qc, Ql, Qi, Qk]); (repeat (rw [Qa]; simp)); (try simp only [zs]))
   refine cXo [0, 1] true (hp) ?_
   (rintro o hc ⟨ho, rfl⟩; refine ⟨true, ?_⟩; rw [show told true o = _ from ho]; clear ho; simp [zz, okA, Qx, Qu, hOf, Qg, Out.ren, told, Out.fgt, upO, Qi, Qk])
   ((try simp only [Qb, Qc, Ql, Qi, Qk]); (repeat (rw [Qa]; simp)); (try simp only [zs]))
   (refine hK _ _ _ ?_; clear hK K)
   (refine Qj ?_; (try simp only [zs]); refine Wc.ret rfl (.inr ⟨[], by decide, by simp, ?_⟩); simp [Out.mov, Wk, Wl, Wr, D.mov, HO.mov, okM, Wn, Wg, zz, okA, Qx, Qu, hOf, Qg, Qp, Out.fgt, D.fgt, D.fgts])
   first | done | simp [hEr]
  ·rw [Cost_no hc] at hp
   show Qt _ _ _ _ _ (Cost left l once done c _)
   rw [Cost_no hc]
   unfold Wf headD Cs Wj goneD at hp
   unfold Wf headD Cs Wj goneD
   refine Qt.movd Qe (Qq Wb Tryz.func93 rfl (Qy _ _ Tryz.func93 rfl (by decide)) rfl rfl ?_)
   (refine sR fun K hK => ?_; ((repeat (rw [Qa]; simp)); (try simp only [zs])); refine hK _ _ _ ?_; clear hK K)
   refine Qf fun K1 hK1 => ?_
   (refine sR fun K hK => ?_; ((repeat (rw [Qa]; simp [hk])); (try simp only [zs])); refine hK _ _ _ ?_; clear hK K)
   refine pF rfl ?_
   refine Qs (hK1 _ _ _ ?_)
   (refine sR fun K hK => ?_; ((repeat (rw [Qa]; simp)); (try simp only [zs])))
   refine cXp (k1) ?_
   ((try simp only [Qb, Qc, Ql, Qi, Qk]); (repeat (rw [Qa]; simp)); (try simp only [zs]))
   refine cXo [0, 1] true (hp) ?_
   (rintro o hc ⟨rfl, rfl⟩; refine ⟨false, ?_⟩; simp [zz, okA, Qx, Qu, hOf, Qg, Out.ren, told, Out.fgt, upO, Qi, Qk])
   ((try simp only [zs]); refine Wc.pan (.inr ⟨[], by decide, by simp, ?_⟩); simp [Out.mov, Wk, Wl, Wr, D.mov, HO.mov, okM, Wn, Wg, zz, okA, Qx, Qu, hOf, Qg, Qp, Out.fgt, D.fgt, D.fgts])
 ·rw [if_neg hk]
  rw [hEt, hEx]
  unfold OwnP Wf headD Cs Wj
  refine Qt.movd Qe (Qq Wb Tryz.func93 rfl (Qy _ _ Tryz.func93 rfl (by decide)) rfl rfl ?_)
  (refine sR fun K hK => ?_; ((repeat (rw [Qa]; simp)); (try simp only [zs])); refine hK _ _ _ ?_; clear hK K)
  refine Qf fun K1 hK1 => ?_
  (refine sR fun K hK => ?_; ((repeat (rw [Qa]; simp [hk])); (try simp only [zs])); refine hK _ _ _ ?_; clear hK K)
  refine pT rfl ?_
  (refine sR fun K hK => ?_; ((repeat (rw [Qa]; simp)); (try simp only [zs])); refine hK _ _ _ ?_; clear hK K)
  (refine Qj ?_; (try simp only [zs]); refine Wc.ret rfl (.inr ⟨[], by decide, by simp, ?_⟩); simp [Out.mov, Wk, Wl, Wr, D.mov, HO.mov, okM, Wn, Wg, zz, okA, Qx, Qu, hOf, Qg, Qp, Out.fgt, D.fgt, D.fgts])
  first | done | simp [hEt]
theorem hbranch_spec (left : Int) (l : List C) (once done : Bool) (hl : left <= 9223372036854775807) (t x : T) (ht : okS t) (hxn : okS x) (h24 : t.k = 24) (hs : (spot t).isSome = true) : Qt Tryz.prog glob 94 [.box 0 0, Qv t, Qv x] (Wf left l once done) (OwnP left l once done t (ownS l t x)) := by
 have hEt := Qd t
 have hEx := Qd x
 unfold ownS
 rw [if_neg (by omega), if_neg (by omega), if_neg (by omega), if_neg (by omega), if_neg (by omega), if_neg (by omega), if_pos ⟨h24, hs⟩]
 have hta := ht.1.a
 unfold I64 at hta
 by_cases hk : x.k = 23
 ·by_cases h0 : 0 <= x.n
  ·by_cases h1 : x.n < t.a
   ·rw [if_pos ⟨hk, h0, h1⟩]
    have hw : IntKind.i64.wrap (x.n + 1) = x.n + 1 := i64w (by omega) (by omega)
    have k1 := Xs t (x.n + 1) (x.n.toNat + 1) (by omega)
    have hp := htake_spec left l once done hl (t.kid (x.n.toNat + 1)) (ht.kid _)
    generalize (t.kid (x.n.toNat + 1)).nsz = c at hp ⊢
    generalize t.kid (x.n.toNat + 1) = r at k1 hp ⊢
    have hEr := Qd r
    rw [hEt, hEr] at k1
    rw [hEr] at hp
    rw [hEt, hEx]
    have h0' : ¬ x.n < 0 := by omega
    have h1' : ¬ t.a <= x.n := by omega
    by_cases hc : (c : Int) <= left
    ·rw [Cost_ok hc] at hp
     show Qt _ _ _ _ _ (Cost left l once done c _)
     rw [Cost_ok hc]
     unfold Wf headD Cs Wj at hp ⊢
     refine Qt.movd Qe (Qq Wb Tryz.func94 rfl (Qy _ _ Tryz.func94 rfl (by decide)) rfl rfl ?_)
     (refine sR fun K hK => ?_; ((repeat (rw [Qa]; simp)); (try simp only [zs])); refine hK _ _ _ ?_; clear hK K)
     refine Qf fun K1 hK1 => ?_
     (refine sR fun K hK => ?_; ((repeat (rw [Qa]; simp [hk, h0, h0', h1, h1'])); (try simp only [zs])); refine hK _ _ _ ?_; clear hK K)
     refine pF rfl ?_
     refine Qs (hK1 _ _ _ ?_)
     (refine sR fun K hK => ?_; ((repeat (rw [Qa]; simp [hw])); (try simp only [zs])))
     refine cXp (k1) ?_
     ((try simp only [Qb, Qc, Ql, Qi, Qk]); (repeat (rw [Qa]; simp)); (try simp only [zs]))
     refine cXo [0, 1] true (hp) ?_
     (rintro o hc ⟨ho, rfl⟩; refine ⟨true, ?_⟩; rw [show told true o = _ from ho]; clear ho; simp [zz, okA, Qx, Qu, hOf, Qg, Out.ren, told, Out.fgt, upO, Qi, Qk])
     ((try simp only [Qb, Qc, Ql, Qi, Qk]); (repeat (rw [Qa]; simp)); (try simp only [zs]))
     (refine hK _ _ _ ?_; clear hK K)
     (refine Qj ?_; (try simp only [zs]); refine Wc.ret rfl (.inr ⟨[], by decide, by simp, ?_⟩); simp [Out.mov, Wk, Wl, Wr, D.mov, HO.mov, okM, Wn, Wg, zz, okA, Qx, Qu, hOf, Qg, Qp, Out.fgt, D.fgt, D.fgts])
     first | done | simp [hEr]
    ·rw [Cost_no hc] at hp
     show Qt _ _ _ _ _ (Cost left l once done c _)
     rw [Cost_no hc]
     unfold Wf headD Cs Wj goneD at hp
     unfold Wf headD Cs Wj goneD
     refine Qt.movd Qe (Qq Wb Tryz.func94 rfl (Qy _ _ Tryz.func94 rfl (by decide)) rfl rfl ?_)
     (refine sR fun K hK => ?_; ((repeat (rw [Qa]; simp)); (try simp only [zs])); refine hK _ _ _ ?_; clear hK K)
     refine Qf fun K1 hK1 => ?_
     (refine sR fun K hK => ?_; ((repeat (rw [Qa]; simp [hk, h0, h0', h1, h1'])); (try simp only [zs])); refine hK _ _ _ ?_; clear hK K)
     refine pF rfl ?_
     refine Qs (hK1 _ _ _ ?_)
     (refine sR fun K hK => ?_; ((repeat (rw [Qa]; simp [hw])); (try simp only [zs])))
     refine cXp (k1) ?_
     ((try simp only [Qb, Qc, Ql, Qi, Qk]); (repeat (rw [Qa]; simp)); (try simp only [zs]))
     refine cXo [0, 1] true (hp) ?_
     (rintro o hc ⟨rfl, rfl⟩; refine ⟨false, ?_⟩; simp [zz, okA, Qx, Qu, hOf, Qg, Out.ren, told, Out.fgt, upO, Qi, Qk])
     ((try simp only [zs]); refine Wc.pan (.inr ⟨[], by decide, by simp, ?_⟩); simp [Out.mov, Wk, Wl, Wr, D.mov, HO.mov, okM, Wn, Wg, zz, okA, Qx, Qu, hOf, Qg, Qp, Out.fgt, D.fgt, D.fgts])
   ·rw [if_neg (fun h => h1 h.2.2)]
    have h0' : ¬ x.n < 0 := by omega
    have h1' : t.a <= x.n := by omega
    rw [hEt, hEx]
    unfold OwnP Wf headD Cs Wj
    refine Qt.movd Qe (Qq Wb Tryz.func94 rfl (Qy _ _ Tryz.func94 rfl (by decide)) rfl rfl ?_)
    (refine sR fun K hK => ?_; ((repeat (rw [Qa]; simp)); (try simp only [zs])); refine hK _ _ _ ?_; clear hK K)
    refine Qf fun K1 hK1 => ?_
    (refine sR fun K hK => ?_; ((repeat (rw [Qa]; simp [hk, h0, h0', h1, h1'])); (try simp only [zs])); refine hK _ _ _ ?_; clear hK K)
    refine pT rfl ?_
    (refine sR fun K hK => ?_; ((repeat (rw [Qa]; simp)); (try simp only [zs])); refine hK _ _ _ ?_; clear hK K)
    (refine Qj ?_; (try simp only [zs]); refine Wc.ret rfl (.inr ⟨[], by decide, by simp, ?_⟩); simp [Out.mov, Wk, Wl, Wr, D.mov, HO.mov, okM, Wn, Wg, zz, okA, Qx, Qu, hOf, Qg, Qp, Out.fgt, D.fgt, D.fgts])
    first | done | simp [hEt]
  ·rw [if_neg (fun h => h0 h.2.1)]
   have h0' : x.n < 0 := by omega
   rw [hEt, hEx]
   unfold OwnP Wf headD Cs Wj
   refine Qt.movd Qe (Qq Wb Tryz.func94 rfl (Qy _ _ Tryz.func94 rfl (by decide)) rfl rfl ?_)
   (refine sR fun K hK => ?_; ((repeat (rw [Qa]; simp)); (try simp only [zs])); refine hK _ _ _ ?_; clear hK K)
   refine Qf fun K1 hK1 => ?_
   (refine sR fun K hK => ?_; ((repeat (rw [Qa]; simp [hk, h0, h0'])); (try simp only [zs])); refine hK _ _ _ ?_; clear hK K)
   refine pT rfl ?_
   (refine sR fun K hK => ?_; ((repeat (rw [Qa]; simp)); (try simp only [zs])); refine hK _ _ _ ?_; clear hK K)
   (refine Qj ?_; (try simp only [zs]); refine Wc.ret rfl (.inr ⟨[], by decide, by simp, ?_⟩); simp [Out.mov, Wk, Wl, Wr, D.mov, HO.mov, okM, Wn, Wg, zz, okA, Qx, Qu, hOf, Qg, Qp, Out.fgt, D.fgt, D.fgts])
   first | done | simp [hEt]
 ·rw [if_neg (fun h => hk h.1)]
  rw [hEt, hEx]
  unfold OwnP Wf headD Cs Wj
  refine Qt.movd Qe (Qq Wb Tryz.func94 rfl (Qy _ _ Tryz.func94 rfl (by decide)) rfl rfl ?_)
  (refine sR fun K hK => ?_; ((repeat (rw [Qa]; simp)); (try simp only [zs])); refine hK _ _ _ ?_; clear hK K)
  refine Qf fun K1 hK1 => ?_
  (refine sR fun K hK => ?_; ((repeat (rw [Qa]; simp [hk])); (try simp only [zs])); refine hK _ _ _ ?_; clear hK K)
  refine pT rfl ?_
  (refine sR fun K hK => ?_; ((repeat (rw [Qa]; simp)); (try simp only [zs])); refine hK _ _ _ ?_; clear hK K)
  (refine Qj ?_; (try simp only [zs]); refine Wc.ret rfl (.inr ⟨[], by decide, by simp, ?_⟩); simp [Out.mov, Wk, Wl, Wr, D.mov, HO.mov, okM, Wn, Wg, zz, okA, Qx, Qu, hOf, Qg, Qp, Out.fgt, D.fgt, D.fgts])
  first | done | simp [hEt]
theorem hconst_spec (left : Int) (l : List C) (once done : Bool) (hl : left <= 9223372036854775807) (hcs : okCs l) (t x : T) (ht : okS t) (h3 : t.k = 3) : Qt Tryz.prog glob 91 [.box 0 0, Qv t, Qv x] (Wf left l once done) (OwnP left l once done t (ownS l t x)) := by
 have hEt := Qd t
 have hEx := Qd x
 unfold ownS
 rw [if_neg (by omega), if_neg (by omega), if_neg (by omega), if_pos h3]
 have hb := body_spec l hcs t.n t.ls ht.1.ll (fun b hb => (ht.1.ls b hb).1)
 cases hbo : bodyC l t.n t.ls with
 | none =>
  rw [hbo] at hb
  simp only [Option.getD_none, Option.isSome_none] at hb
  rw [encZ] at hb
  rw [hEt, hEx]
  simp only [Option.map_none]
  unfold Cs at hb
  unfold OwnP Wf headD Cs Wj
  refine Qt.movd Qe (Qq Wb Tryz.func91 rfl (Qy _ _ Tryz.func91 rfl (by decide)) rfl rfl ?_)
  (refine sR fun K hK => ?_; ((repeat (rw [Qa]; simp)); (try simp only [zs])); refine hK _ _ _ ?_; clear hK K)
  (refine Qf fun K hK => ?_; refine dR fun KT hKT => ?_; ((repeat (rw [Qh]; simp)); (try simp only [Qm])))
  refine cYp (hb) ?_
  ((try simp only [Qn, Qo, Ql, Qi, Qk]); (repeat (rw [Qh]; simp)); (try simp only [Qm]))
  (refine hKT _ _ _ _ (by kernel_rfl) ?_; clear hKT KT; (try simp only [zs]))
  (refine hK _ _ _ ?_; clear hK K)
  refine Qf fun K1 hK1 => ?_
  (refine sR fun K hK => ?_; ((repeat (rw [Qa]; simp)); (try simp only [zs])); refine hK _ _ _ ?_; clear hK K)
  refine pT rfl ?_
  (refine sR fun K hK => ?_; ((repeat (rw [Qa]; simp)); (try simp only [zs])); refine hK _ _ _ ?_; clear hK K)
  (refine Qj ?_; (try simp only [zs]); refine Wc.ret rfl (.inr ⟨[], by decide, by simp, ?_⟩); simp [Out.mov, Wk, Wl, Wr, D.mov, HO.mov, okM, Wn, Wg, zz, okA, Qx, Qu, hOf, Qg, Qp, Out.fgt, D.fgt, D.fgts])
  first | done | simp [hEt]
 | some r =>
  rw [hbo] at hb
  simp only [Option.getD_some, Option.isSome_some] at hb
  have hr : okS r := ⟨body_ok hcs.ok hbo, by have := body_nsz hcs.bo hbo; have := pot_le r; unfold PM; omega⟩
  have hp := htake_spec left l once done hl r hr
  simp only [Option.map_some]
  generalize r.nsz = c at hp ⊢
  have hEr := Qd r
  rw [hEr] at hp hb
  rw [hEt, hEx]
  unfold Cs at hb
  by_cases hc : (c : Int) <= left
  ·rw [Cost_ok hc] at hp
   show Qt _ _ _ _ _ (Cost left l once done c _)
   rw [Cost_ok hc]
   unfold Wf headD Cs Wj at hp ⊢
   refine Qt.movd Qe (Qq Wb Tryz.func91 rfl (Qy _ _ Tryz.func91 rfl (by decide)) rfl rfl ?_)
   (refine sR fun K hK => ?_; ((repeat (rw [Qa]; simp)); (try simp only [zs])); refine hK _ _ _ ?_; clear hK K)
   (refine Qf fun K hK => ?_; refine dR fun KT hKT => ?_; ((repeat (rw [Qh]; simp)); (try simp only [Qm])))
   refine cYp (hb) ?_
   ((try simp only [Qn, Qo, Ql, Qi, Qk]); (repeat (rw [Qh]; simp)); (try simp only [Qm]))
   (refine hKT _ _ _ _ (by kernel_rfl) ?_; clear hKT KT; (try simp only [zs]))
   (refine hK _ _ _ ?_; clear hK K)
   refine Qf fun K1 hK1 => ?_
   (refine sR fun K hK => ?_; ((repeat (rw [Qa]; simp)); (try simp only [zs])); refine hK _ _ _ ?_; clear hK K)
   refine pF rfl ?_
   refine Qs (hK1 _ _ _ ?_)
   (refine sR fun K hK => ?_; ((repeat (rw [Qa]; simp)); (try simp only [zs])))
   refine cXo [0, 1] true (hp) ?_
   (rintro o hc ⟨ho, rfl⟩; refine ⟨true, ?_⟩; rw [show told true o = _ from ho]; clear ho; simp [zz, okA, Qx, Qu, hOf, Qg, Out.ren, told, Out.fgt, upO, Qi, Qk])
   ((try simp only [Qb, Qc, Ql, Qi, Qk]); (repeat (rw [Qa]; simp)); (try simp only [zs]))
   (refine hK _ _ _ ?_; clear hK K)
   (refine Qj ?_; (try simp only [zs]); refine Wc.ret rfl (.inr ⟨[], by decide, by simp, ?_⟩); simp [Out.mov, Wk, Wl, Wr, D.mov, HO.mov, okM, Wn, Wg, zz, okA, Qx, Qu, hOf, Qg, Qp, Out.fgt, D.fgt, D.fgts])
   first | done | simp [hEr]
  ·rw [Cost_no hc] at hp
   show Qt _ _ _ _ _ (Cost left l once done c _)
   rw [Cost_no hc]
   unfold Wf headD Cs Wj goneD at hp
   unfold Wf headD Cs Wj goneD
   refine Qt.movd Qe (Qq Wb Tryz.func91 rfl (Qy _ _ Tryz.func91 rfl (by decide)) rfl rfl ?_)
   (refine sR fun K hK => ?_; ((repeat (rw [Qa]; simp)); (try simp only [zs])); refine hK _ _ _ ?_; clear hK K)
   (refine Qf fun K hK => ?_; refine dR fun KT hKT => ?_; ((repeat (rw [Qh]; simp)); (try simp only [Qm])))
   refine cYp (hb) ?_
   ((try simp only [Qn, Qo, Ql, Qi, Qk]); (repeat (rw [Qh]; simp)); (try simp only [Qm]))
   (refine hKT _ _ _ _ (by kernel_rfl) ?_; clear hKT KT; (try simp only [zs]))
   (refine hK _ _ _ ?_; clear hK K)
   refine Qf fun K1 hK1 => ?_
   (refine sR fun K hK => ?_; ((repeat (rw [Qa]; simp)); (try simp only [zs])); refine hK _ _ _ ?_; clear hK K)
   refine pF rfl ?_
   refine Qs (hK1 _ _ _ ?_)
   (refine sR fun K hK => ?_; ((repeat (rw [Qa]; simp)); (try simp only [zs])))
   refine cXo [0, 1] true (hp) ?_
   (rintro o hc ⟨rfl, rfl⟩; refine ⟨false, ?_⟩; simp [zz, okA, Qx, Qu, hOf, Qg, Out.ren, told, Out.fgt, upO, Qi, Qk])
   ((try simp only [zs]); refine Wc.pan (.inr ⟨[], by decide, by simp, ?_⟩); simp [Out.mov, Wk, Wl, Wr, D.mov, HO.mov, okM, Wn, Wg, zz, okA, Qx, Qu, hOf, Qg, Qp, Out.fgt, D.fgt, D.fgts])
theorem tree1_spec (t : T) (ht : okS t) (i : Int) (m : Nat) (c : Int) (hi : i = m) : Qt Tryz.prog glob 144 ([.int .i64 i, .int .i64 c] ++ [.ref (Qv t)]) [] (fun o _ => o.fgt = .ret (Qv ((t.kid m).lift 1 c 0))) := by
 have k1 := Xs t i m hi
 have k2 := lift_spec (t.kid m) 1 c (ht.kid m).deep (ht.kid m).1
 generalize (t.kid m).lift 1 c 0 = r at k2 ⊢
 generalize t.kid m = a at k1 k2
 have hEr := Qd r
 rw [Qd t, Qd a] at k1
 rw [Qd a, hEr] at k2
 rw [Qd t]
 refine Qt.movd Qe (Qq Wb Tryz.func144 rfl (Qy _ _ Tryz.func144 rfl (by decide)) rfl rfl ?_)
 simp only [List.cons_append, List.nil_append]
 (refine sR fun K hK => ?_; ((repeat (rw [Qa]; simp)); (try simp only [zs])); refine hK _ _ _ ?_; clear hK K)
 (refine sR fun K hK => ?_; ((repeat (rw [Qa]; simp)); (try simp only [zs])))
 refine cXp (k1) ?_
 ((try simp only [Qb, Qc, Ql, Qi, Qk]); (repeat (rw [Qa]; simp)); (try simp only [zs]))
 refine cXp (k2) ?_
 ((try simp only [Qb, Qc, Ql, Qi, Qk]); (repeat (rw [Qa]; simp)); (try simp only [zs]))
 (refine hK _ _ _ ?_; clear hK K)
 (refine Qj ?_; (try simp only [zs]); refine Wc.ret rfl (.inl ?_); simp [Qp, Out.fgt, D.fgt, D.fgts])
 exact hEr.symm
theorem enc_map0 : List.map Qv ([] : List T) = [] := rfl
theorem htree_spec (left : Int) (l : List C) (once done : Bool) (hl : left <= 9223372036854775807) (t x : T) (ht : okS t) (hx : okS x) (h18 : t.k = 18) : Qt Tryz.prog glob 92 [.box 0 0, Qv t, Qv x] (Wf left l once done) (OwnP left l once done t (ownS l t x)) := by
 have hEt := Qd t
 have hEx := Qd x
 unfold ownS
 rw [if_neg (by omega), if_neg (by omega), if_neg (by omega), if_neg (by omega), if_pos h18]
 by_cases hk : x.k = 17
 ·rw [if_pos hk]
  have e8 : T.nszs [x.kid 0, x.kid 1, x.kid 1, t.kid 3, t.kid 3, t.kid 0, t.kid 1, t.kid 2] = (x.kid 0).nsz + (x.kid 1).nsz + (x.kid 1).nsz + (t.kid 3).nsz + (t.kid 3).nsz + (t.kid 0).nsz + (t.kid 1).nsz + (t.kid 2).nsz := by
   simp only [T.nszs]; omega
  have hz := sizes_spec [x.kid 0, x.kid 1, x.kid 1, t.kid 3, t.kid 3, t.kid 0, t.kid 1, t.kid 2] (by unfold Wd; simp) (fun y hy => by
   simp only [List.mem_cons, List.not_mem_nil, or_false] at hy
   rcases hy with rfl | rfl | rfl | rfl | rfl | rfl | rfl | rfl
   ·exact (hx.kid _).1
   ·exact (hx.kid _).1
   ·exact (hx.kid _).1
   ·exact (ht.kid _).1
   ·exact (ht.kid _).1
   ·exact (ht.kid _).1
   ·exact (ht.kid _).1
   ·exact (ht.kid _).1)
  rw [szs_true _ 0 0 rfl, Nat.zero_add, e8] at hz
  have z1 := (hx.kid 0).nsz
  have z2 := (hx.kid 1).nsz
  have z3 := (ht.kid 3).nsz
  have z4 := (ht.kid 0).nsz
  have z5 := (ht.kid 1).nsz
  have z6 := (ht.kid 2).nsz
  have hsd := (ht.kid 1).sd (hx.kid 0)
  have hs := size2_spec (t.kid 1) (x.kid 0) (ht.kid 1).1 (hx.kid 0).1 (by omega)
  have hcn : treeN t x = 7 + ((x.kid 0).nsz + (x.kid 1).nsz + (x.kid 1).nsz + (t.kid 3).nsz + (t.kid 3).nsz + (t.kid 0).nsz + (t.kid 1).nsz + (t.kid 2).nsz) + (t.kid 1).sd (x.kid 0).nsz 0 := rfl
  generalize hm : (x.kid 0).nsz + (x.kid 1).nsz + (x.kid 1).nsz + (t.kid 3).nsz + (t.kid 3).nsz + (t.kid 0).nsz + (t.kid 1).nsz + (t.kid 2).nsz = m at hz hcn
  generalize (t.kid 1).sd (x.kid 0).nsz 0 = s at hs hcn hsd
  rw [i64w (n := ((m : Nat) : Int)) (by omega) (by omega)] at hz
  have w1 : IntKind.i64.wrap (7 + (m : Int)) = 7 + (m : Int) := i64w (by omega) (by omega)
  have w2 : IntKind.i64.wrap (7 + (m : Int) + (s : Int)) = ((treeN t x : Nat) : Int) := by rw [hcn, i64w (by omega) (by omega)]; push_cast; rfl
  have hR : treeT t x = ofT 6 [ofT 6 [ofT 6 [t.kid 3, x.kid 0], x.kid 1], ofT 5 [(t.kid 1).put [x.kid 0] 0, ofT 18 [(t.kid 0).lift 1 0 0, (t.kid 1).lift 1 1 0, (t.kid 2).lift 1 0 0, (t.kid 3).lift 1 0 0, ofT 6 [(x.kid 1).lift 1 0 0, ofT 1 []]]]] := rfl
  have ka0 := Xs x 0 0 rfl
  have ka1 := Xs x 1 1 rfl
  have k0 := Xs t 0 0 rfl
  have k1 := Xs t 1 1 rfl
  have k2 := Xs t 2 2 rfl
  have k3 := Xs t 3 3 rfl
  have c0 := tree1_spec t ht 0 0 0 rfl
  have c1 := tree1_spec t ht 1 1 1 rfl
  have c2 := tree1_spec t ht 2 2 0 rfl
  have c3 := tree1_spec t ht 3 3 0 rfl
  have cf := lift_spec (x.kid 1) 1 0 (hx.kid 1).deep (hx.kid 1).1
  have op := putT_spec (t.kid 1) [x.kid 0] (by unfold Wd; simp) (fun b hb => by rw [one_mem hb]; exact ⟨(hx.kid 0).1, (hx.kid 0).deep⟩) (ht.kid 1).deep (ht.kid 1).1
  obtain ⟨a, ha⟩ : ∃ y, y = x.kid 0 := ⟨_, rfl⟩
  obtain ⟨g, hg⟩ : ∃ y, y = x.kid 1 := ⟨_, rfl⟩
  obtain ⟨t0, ht0⟩ : ∃ y, y = t.kid 0 := ⟨_, rfl⟩
  obtain ⟨t1, ht1⟩ : ∃ y, y = t.kid 1 := ⟨_, rfl⟩
  obtain ⟨t2, ht2⟩ : ∃ y, y = t.kid 2 := ⟨_, rfl⟩
  obtain ⟨t3, ht3⟩ : ∃ y, y = t.kid 3 := ⟨_, rfl⟩
  obtain ⟨l0, hl0⟩ : ∃ y, y = (t.kid 0).lift 1 0 0 := ⟨_, rfl⟩
  obtain ⟨l1, hl1⟩ : ∃ y, y = (t.kid 1).lift 1 1 0 := ⟨_, rfl⟩
  obtain ⟨l2, hl2⟩ : ∃ y, y = (t.kid 2).lift 1 0 0 := ⟨_, rfl⟩
  obtain ⟨l3, hl3⟩ : ∃ y, y = (t.kid 3).lift 1 0 0 := ⟨_, rfl⟩
  obtain ⟨lf, hlf⟩ : ∃ y, y = (x.kid 1).lift 1 0 0 := ⟨_, rfl⟩
  obtain ⟨v, hv⟩ : ∃ y, y = ofT 1 [] := ⟨_, rfl⟩
  obtain ⟨p1, hp1⟩ : ∃ y, y = ofT 6 [lf, v] := ⟨_, rfl⟩
  obtain ⟨rest, hrest⟩ : ∃ y, y = ofT 18 [l0, l1, l2, l3, p1] := ⟨_, rfl⟩
  obtain ⟨pu, hpu⟩ : ∃ y, y = (t.kid 1).put [x.kid 0] 0 := ⟨_, rfl⟩
  obtain ⟨lam, hlam⟩ : ∃ y, y = ofT 5 [pu, rest] := ⟨_, rfl⟩
  obtain ⟨b1, hb1⟩ : ∃ y, y = ofT 6 [t3, a] := ⟨_, rfl⟩
  obtain ⟨b2, hb2⟩ : ∃ y, y = ofT 6 [b1, g] := ⟨_, rfl⟩
  obtain ⟨r, hr⟩ : ∃ y, y = ofT 6 [b2, lam] := ⟨_, rfl⟩
  have ov := hof_spec 1 []
  have o1 := hof_spec 6 [lf, v]
  have o2 := hof_spec 18 [l0, l1, l2, l3, p1]
  have o3 := hof_spec 5 [pu, rest]
  have o4 := hof_spec 6 [t3, a]
  have o5 := hof_spec 6 [b1, g]
  have o6 := hof_spec 6 [b2, lam]
  rw [<- ha] at ka0
  rw [<- hg] at ka1
  rw [<- ht0] at k0
  rw [<- ht1] at k1
  rw [<- ht2] at k2
  rw [<- ht3] at k3
  rw [<- hl0] at c0
  rw [<- hl1] at c1
  rw [<- hl2] at c2
  rw [<- hl3] at c3
  rw [<- hlf, <- hg] at cf
  rw [<- hv] at ov
  rw [<- hp1] at o1
  rw [<- hrest] at o2
  rw [<- hpu, <- ht1, <- ha] at op
  rw [<- hlam] at o3
  rw [<- hb1] at o4
  rw [<- hb2] at o5
  rw [<- hr] at o6
  rw [<- ha, <- hg, <- ht0, <- ht1, <- ht2, <- ht3] at hz
  rw [<- ht1, <- ha] at hs
  have hRr : treeT t x = r := by rw [hR, <- hv, <- hlf, <- hp1, <- hl0, <- hl1, <- hl2, <- hl3, <- hrest, <- hpu, <- hlam, <- ht3, <- ha, <- hb1, <- hg, <- hb2, <- hr]
  rw [hRr]
  generalize treeN t x = c at w2 ⊢
  unfold Ts at op
  have Ea := Qd a
  have Eg := Qd g
  have Et0 := Qd t0
  have Et1 := Qd t1
  have Et2 := Qd t2
  have Et3 := Qd t3
  have El0 := Qd l0
  have El1 := Qd l1
  have El2 := Qd l2
  have El3 := Qd l3
  have Elf := Qd lf
  have Ev := Qd v
  have Ep1 := Qd p1
  have Erest := Qd rest
  have Epu := Qd pu
  have Elam := Qd lam
  have Eb1 := Qd b1
  have Eb2 := Qd b2
  have Er := Qd r
  simp only [List.map_cons, enc_map0] at ov o1 o2 op o3 o4 o5 o6 hz
  simp only [Ea, Eg, Et0, Et1, Et2, Et3, El0, El1, El2, El3, Elf, Ev, Ep1, Erest, Epu, Elam, Eb1, Eb2, Er] at ka0 ka1 k0 k1 k2 k3 c0 c1 c2 c3 cf ov o1 o2 op o3 o4 o5 o6 hz hs
  rw [hEt] at k0 k1 k2 k3 c0 c1 c2 c3
  rw [hEx, hk] at ka0 ka1
  rw [hEt, hEx]
  simp only [List.cons_append, List.nil_append] at c0 c1 c2 c3
  by_cases hc : (c : Int) <= left
  ·have hp := burn_ok left l once done c (by omega) hc hl
   show Qt _ _ _ _ _ (Cost left l once done c _)
   rw [Cost_ok hc]
   unfold Wf headD Cs Wj at hp ⊢
   refine Qt.movd Qe (Qq Wb Tryz.func92 rfl (Qy _ _ Tryz.func92 rfl (by decide)) rfl rfl ?_)
   (refine sR fun K hK => ?_; ((repeat (rw [Qa]; simp)); (try simp only [zs])); refine hK _ _ _ ?_; clear hK K)
   (refine wpD_stay (T := Wa) 2 (ty := 27) (ds := [.int .i64 t.k, .int .i64 t.n, .int .i64 t.a, .slice (t.ls.map Wp) .any, .slice (t.ks.map Qv) .any]) rfl rfl (by first | exact ⟨rfl, .inr ⟨_, rfl, rfl⟩⟩ | exact ⟨rfl, .inl rfl⟩) ?_; simp [D.frzs, D.frz, HO.frz, dfFrz, refOf, TK.isAgg, FK.isB, FK.isM, FK.isO, D.isLen])
   refine Qf fun K1 hK1 => ?_
   (refine sR fun K hK => ?_; ((repeat (rw [Qa]; simp [hk])); (try simp only [zs])); refine hK _ _ _ ?_; clear hK K)
   refine pF rfl ?_
   refine Qs (hK1 _ _ _ ?_)
   (refine Qf fun K hK => ?_; refine dR fun KT hKT => ?_; ((repeat (rw [Qh]; simp)); (try simp only [Qm])))
   refine cYp (ka0) ?_
   ((try simp only [Qn, Qo, Ql, Qi, Qk]); (repeat (rw [Qh]; simp)); (try simp only [Qm]))
   refine cYp (ka1) ?_
   ((try simp only [Qn, Qo, Ql, Qi, Qk]); (repeat (rw [Qh]; simp)); (try simp only [Qm]))
   refine cYp (k3) ?_
   ((try simp only [Qn, Qo, Ql, Qi, Qk]); (repeat (rw [Qh]; simp)); (try simp only [Qm]))
   (refine hKT _ _ _ _ (by kernel_rfl) ?_; clear hKT KT; (try simp only [zs]))
   (refine hK _ _ _ ?_; clear hK K)
   (refine Qf fun K hK => ?_; refine dR fun KT hKT => ?_; ((repeat (rw [Qh]; simp)); (try simp only [Qm])))
   refine cYp (k0) ?_
   ((try simp only [Qn, Qo, Ql, Qi, Qk]); (repeat (rw [Qh]; simp [w1, w2])); (try simp only [Qm]))
   refine cYp (k1) ?_
   ((try simp only [Qn, Qo, Ql, Qi, Qk]); (repeat (rw [Qh]; simp [w1, w2])); (try simp only [Qm]))
   refine cYp (k2) ?_
   ((try simp only [Qn, Qo, Ql, Qi, Qk]); (repeat (rw [Qh]; simp [w1, w2])); (try simp only [Qm]))
   refine cYp (hz) ?_
   ((try simp only [Qn, Qo, Ql, Qi, Qk]); (repeat (rw [Qh]; simp [w1, w2])); (try simp only [Qm]))
   refine cYp (k1) ?_
   ((try simp only [Qn, Qo, Ql, Qi, Qk]); (repeat (rw [Qh]; simp [w1, w2])); (try simp only [Qm]))
   refine cYp (hs) ?_
   ((try simp only [Qn, Qo, Ql, Qi, Qk]); (repeat (rw [Qh]; simp [w1, w2])); (try simp only [Qm]))
   refine cYo [0, 1] true false (hp) (fun o h e => e) ?_; simp [zz, okA, Qx, Qu, hOf, Qg, Out.ren, upO, Qu, rdO]
   ((try simp only [Qn, Qo, Ql, Qi, Qk]); (repeat (rw [Qh]; simp)); (try simp only [Qm]))
   (refine hKT _ _ _ _ (by kernel_rfl) ?_; clear hKT KT; (try simp only [zs]))
   (refine hK _ _ _ ?_; clear hK K)
   (refine sR fun K hK => ?_; ((repeat (rw [Qa]; simp)); (try simp only [zs])); refine hK _ _ _ ?_; clear hK K)
   (refine Qf fun K hK => ?_; refine dR fun KT hKT => ?_; ((repeat (rw [Qh]; simp)); (try simp only [Qm])))
   refine cYp (c0) ?_
   ((try simp only [Qn, Qo, Ql, Qi, Qk]); (repeat (rw [Qh]; simp)); (try simp only [Qm]))
   refine cYp (c1) ?_
   ((try simp only [Qn, Qo, Ql, Qi, Qk]); (repeat (rw [Qh]; simp)); (try simp only [Qm]))
   refine cYp (c2) ?_
   ((try simp only [Qn, Qo, Ql, Qi, Qk]); (repeat (rw [Qh]; simp)); (try simp only [Qm]))
   refine cYp (c3) ?_
   ((try simp only [Qn, Qo, Ql, Qi, Qk]); (repeat (rw [Qh]; simp)); (try simp only [Qm]))
   refine cYp (cf) ?_
   ((try simp only [Qn, Qo, Ql, Qi, Qk]); (repeat (rw [Qh]; simp)); (try simp only [Qm]))
   refine cYp (ov) ?_
   ((try simp only [Qn, Qo, Ql, Qi, Qk]); (repeat (rw [Qh]; simp)); (try simp only [Qm]))
   refine cYp (o1) ?_
   ((try simp only [Qn, Qo, Ql, Qi, Qk]); (repeat (rw [Qh]; simp)); (try simp only [Qm]))
   refine cYp (o2) ?_
   ((try simp only [Qn, Qo, Ql, Qi, Qk]); (repeat (rw [Qh]; simp)); (try simp only [Qm]))
   (refine hKT _ _ _ _ (by kernel_rfl) ?_; clear hKT KT; (try simp only [zs]))
   (refine hK _ _ _ ?_; clear hK K)
   (refine Qf fun K hK => ?_; refine dR fun KT hKT => ?_; ((repeat (rw [Qh]; simp)); (try simp only [Qm])))
   refine cYp (k1) ?_
   ((try simp only [Qn, Qo, Ql, Qi, Qk]); (repeat (rw [Qh]; simp)); (try simp only [Qm]))
   refine cYp (op) ?_
   ((try simp only [Qn, Qo, Ql, Qi, Qk]); (repeat (rw [Qh]; simp)); (try simp only [Qm]))
   refine cYp (o3) ?_
   ((try simp only [Qn, Qo, Ql, Qi, Qk]); (repeat (rw [Qh]; simp)); (try simp only [Qm]))
   (refine hKT _ _ _ _ (by kernel_rfl) ?_; clear hKT KT; (try simp only [zs]))
   (refine hK _ _ _ ?_; clear hK K)
   (refine Qf fun K hK => ?_; refine dR fun KT hKT => ?_; ((repeat (rw [Qh]; simp)); (try simp only [Qm])))
   refine cYp (o4) ?_
   ((try simp only [Qn, Qo, Ql, Qi, Qk]); (repeat (rw [Qh]; simp)); (try simp only [Qm]))
   refine cYp (o5) ?_
   ((try simp only [Qn, Qo, Ql, Qi, Qk]); (repeat (rw [Qh]; simp)); (try simp only [Qm]))
   refine cYp (o6) ?_
   ((try simp only [Qn, Qo, Ql, Qi, Qk]); (repeat (rw [Qh]; simp)); (try simp only [Qm]))
   (refine hKT _ _ _ _ (by kernel_rfl) ?_; clear hKT KT; (try simp only [zs]))
   (refine hK _ _ _ ?_; clear hK K)
   (refine Qj ?_; (try simp only [zs]); refine Wc.ret rfl (.inr ⟨[], by decide, by simp, ?_⟩); simp [Out.mov, Wk, Wl, Wr, D.mov, HO.mov, okM, Wn, Wg, zz, okA, Qx, Qu, hOf, Qg, Qp, Out.fgt, D.fgt, D.fgts])
   exact Er.symm
  ·have hp := burn_dead left l once done c (by omega)
   show Qt _ _ _ _ _ (Cost left l once done c _)
   rw [Cost_no hc]
   unfold Wf headD Cs Wj goneD at hp
   unfold Wf headD Cs Wj goneD
   refine Qt.movd Qe (Qq Wb Tryz.func92 rfl (Qy _ _ Tryz.func92 rfl (by decide)) rfl rfl ?_)
   (refine sR fun K hK => ?_; ((repeat (rw [Qa]; simp)); (try simp only [zs])); refine hK _ _ _ ?_; clear hK K)
   (refine wpD_stay (T := Wa) 2 (ty := 27) (ds := [.int .i64 t.k, .int .i64 t.n, .int .i64 t.a, .slice (t.ls.map Wp) .any, .slice (t.ks.map Qv) .any]) rfl rfl (by first | exact ⟨rfl, .inr ⟨_, rfl, rfl⟩⟩ | exact ⟨rfl, .inl rfl⟩) ?_; simp [D.frzs, D.frz, HO.frz, dfFrz, refOf, TK.isAgg, FK.isB, FK.isM, FK.isO, D.isLen])
   refine Qf fun K1 hK1 => ?_
   (refine sR fun K hK => ?_; ((repeat (rw [Qa]; simp [hk])); (try simp only [zs])); refine hK _ _ _ ?_; clear hK K)
   refine pF rfl ?_
   refine Qs (hK1 _ _ _ ?_)
   (refine Qf fun K hK => ?_; refine dR fun KT hKT => ?_; ((repeat (rw [Qh]; simp)); (try simp only [Qm])))
   refine cYp (ka0) ?_
   ((try simp only [Qn, Qo, Ql, Qi, Qk]); (repeat (rw [Qh]; simp)); (try simp only [Qm]))
   refine cYp (ka1) ?_
   ((try simp only [Qn, Qo, Ql, Qi, Qk]); (repeat (rw [Qh]; simp)); (try simp only [Qm]))
   refine cYp (k3) ?_
   ((try simp only [Qn, Qo, Ql, Qi, Qk]); (repeat (rw [Qh]; simp)); (try simp only [Qm]))
   (refine hKT _ _ _ _ (by kernel_rfl) ?_; clear hKT KT; (try simp only [zs]))
   (refine hK _ _ _ ?_; clear hK K)
   (refine Qf fun K hK => ?_; refine dR fun KT hKT => ?_; ((repeat (rw [Qh]; simp)); (try simp only [Qm])))
   refine cYp (k0) ?_
   ((try simp only [Qn, Qo, Ql, Qi, Qk]); (repeat (rw [Qh]; simp [w1, w2])); (try simp only [Qm]))
   refine cYp (k1) ?_
   ((try simp only [Qn, Qo, Ql, Qi, Qk]); (repeat (rw [Qh]; simp [w1, w2])); (try simp only [Qm]))
   refine cYp (k2) ?_
   ((try simp only [Qn, Qo, Ql, Qi, Qk]); (repeat (rw [Qh]; simp [w1, w2])); (try simp only [Qm]))
   refine cYp (hz) ?_
   ((try simp only [Qn, Qo, Ql, Qi, Qk]); (repeat (rw [Qh]; simp [w1, w2])); (try simp only [Qm]))
   refine cYp (k1) ?_
   ((try simp only [Qn, Qo, Ql, Qi, Qk]); (repeat (rw [Qh]; simp [w1, w2])); (try simp only [Qm]))
   refine cYp (hs) ?_
   ((try simp only [Qn, Qo, Ql, Qi, Qk]); (repeat (rw [Qh]; simp [w1, w2])); (try simp only [Qm]))
   refine cYo [0, 1] true false (hp) (fun o h e => e) ?_; simp [zz, okA, Qx, Qu, hOf, Qg, Out.ren, upO, Qu, rdO]
   ((try simp only [Qn, Qo, Ql, Qi, Qk]); (repeat (refine wpT_late _ _ _ _ (by kernel_rfl) ?_; simp only [Ql, List.set, List.nil_append, List.cons_append, Nat.reduceAdd])); (try simp only [Qm]))
   (refine hKT _ _ _ _ (by kernel_rfl) ?_; clear hKT KT; (try simp only [zs]))
   simp [killHl]
   ((try simp only [zs]); refine Wc.pan (.inr ⟨[], by decide, by simp, ?_⟩); simp [Out.mov, Wk, Wl, Wr, D.mov, HO.mov, okM, Wn, Wg, zz, okA, Qx, Qu, hOf, Qg, Qp, Out.fgt, D.fgt, D.fgts])
 ·rw [if_neg hk]
  rw [hEt, hEx]
  unfold OwnP Wf headD Cs Wj
  refine Qt.movd Qe (Qq Wb Tryz.func92 rfl (Qy _ _ Tryz.func92 rfl (by decide)) rfl rfl ?_)
  (refine sR fun K hK => ?_; ((repeat (rw [Qa]; simp)); (try simp only [zs])); refine hK _ _ _ ?_; clear hK K)
  refine Qf fun K1 hK1 => ?_
  (refine sR fun K hK => ?_; ((repeat (rw [Qa]; simp [hk])); (try simp only [zs])); refine hK _ _ _ ?_; clear hK K)
  refine pT rfl ?_
  (refine sR fun K hK => ?_; ((repeat (rw [Qa]; simp)); (try simp only [zs])); refine hK _ _ _ ?_; clear hK K)
  (refine Qj ?_; (try simp only [zs]); refine Wc.ret rfl (.inr ⟨[], by decide, by simp, ?_⟩); simp [Out.mov, Wk, Wl, Wr, D.mov, HO.mov, okM, Wn, Wg, zz, okA, Qx, Qu, hOf, Qg, Qp, Out.fgt, D.fgt, D.fgts])
  first | done | simp [hEt]
theorem OwnP_cases (left : Int) (l : List C) (once done : Bool) (t : T) (w : Option (T × Nat)) : (∃ v b lf, OwnP left l once done t w = fun o hc => o.fgt = .ret (.tuple [Qv v, .bool b]) /\ hc = Wf lf l once done) \/ OwnP left l once done t w = fun o hc => o = .pan goneD /\ hc = [.dead, .dead] := by
 cases w with
 | none => exact .inl ⟨t, false, left, rfl⟩
 | some p =>
  by_cases h : (p.2 : Int) <= left
  ·exact .inl ⟨p.1, true, left - p.2, Cost_ok h⟩
  ·exact .inr (Cost_no h)
theorem placeX_some {t : T} {i many : Nat} (h : spot t = some (i, many)) : Wv t = t.kid i := by unfold Wv; rw [h]
theorem placeX_none {t : T} (h : spot t = none) : Wv t = Wh := by unfold Wv; rw [h]
theorem step_6 (left : Int) (l : List C) (once done : Bool) (hl : left <= 9223372036854775807) (t : T) (ht : okS t) (hk : t.k = 6) {i many : Nat} (hs : spot t = some (i, many)) (hp : Qt Tryz.prog glob 88 [.box 0 0, Qv t, Qv (Wv t)] (Wf left l once done) (OwnP left l once done t (ownS l t (Wv t)))) : Qt Tryz.prog glob 98 [.box 0 0, Qv t] (Wf left l once done) (OwnP left l once done t (ownS l t (Wv t))) := by
 have hsp := spot_spec t ht.1.kl
 rw [spotO_some hs ht.1.kl] at hsp
 have hki := Xs t i i rfl
 rw [<- placeX_some hs] at hki
 rcases OwnP_cases left l once done t (ownS l t (Wv t)) with ⟨v, b, lf, e⟩ | e
 ·rw [e] at hp ⊢
  generalize Wv t = x at hp hki
  have hEx := Qd x
  rw [hEx, Qd t, Qd v, hk] at hp
  rw [Qd t] at hsp
  rw [hEx, Qd t, hk] at hki
  rw [Qd t]
  unfold Wf headD Cs Wj at hp ⊢
  refine Qt.movd Qe (Qq Wb Tryz.func98 rfl (Qy _ _ Tryz.func98 rfl (by decide)) rfl rfl ?_)
  (refine sR fun K hK => ?_; ((repeat (rw [Qa]; simp)); (try simp only [zs])); refine hK _ _ _ ?_; clear hK K)
  (refine sR fun K hK => ?_; ((repeat (rw [Qa]; simp)); (try simp only [zs])))
  refine cXp (hsp) ?_
  ((try simp only [Qb, Qc, Ql, Qi, Qk]); (repeat (rw [Qa]; simp)); (try simp only [zs]))
  (refine hK _ _ _ ?_; clear hK K)
  (refine Qf fun K hK => ?_; refine dR fun KT hKT => ?_; ((repeat (rw [Qh]; simp [hk])); (try simp only [Qm])))
  (refine hKT _ _ _ _ (by kernel_rfl) ?_; clear hKT KT; (try simp only [zs]))
  (refine hK _ _ _ ?_; clear hK K)
  refine Qf fun K1 hK1 => ?_
  (refine sR fun K hK => ?_; ((repeat (rw [Qa]; simp [hk])); (try simp only [zs])); refine hK _ _ _ ?_; clear hK K)
  refine pF rfl ?_
  refine Qs (hK1 _ _ _ ?_)
  (refine sR fun K hK => ?_; ((repeat (rw [Qa]; simp)); (try simp only [zs])); refine hK _ _ _ ?_; clear hK K)
  refine Qf fun K2 hK2 => ?_
  (refine sR fun K hK => ?_; ((repeat (rw [Qa]; simp)); (try simp only [zs])); refine hK _ _ _ ?_; clear hK K)
  refine pT rfl ?_
  (refine Qz Wb ?_; ((repeat (rw [Qa]; simp)); (try simp only [zs])))
  refine cXp (hki) ?_
  ((try simp only [Qb, Qc, Ql, Qi, Qk]); (repeat (rw [Qa]; simp)); (try simp only [zs]))
  refine hK2 _ _ _ ?_
  (refine sR fun K hK => ?_; ((repeat (rw [Qa]; simp)); (try simp only [zs])))
  refine cXo [0, 1] true (hp) ?_
  (rintro o hc ⟨ho, rfl⟩; refine ⟨true, ?_⟩; rw [show told true o = _ from ho]; clear ho; simp [zz, okA, Qx, Qu, hOf, Qg, Out.ren, told, Out.fgt, upO, Qi, Qk])
  ((try simp only [Qb, Qc, Ql, Qi, Qk]); (repeat (rw [Qa]; simp)); (try simp only [zs]))
  (refine hK _ _ _ ?_; clear hK K)
  (refine Qj ?_; (try simp only [zs]); refine Wc.ret rfl (.inr ⟨[], by decide, by simp, ?_⟩); simp [Out.mov, Wk, Wl, Wr, D.mov, HO.mov, okM, Wn, Wg, zz, okA, Qx, Qu, hOf, Qg, Qp, Out.fgt, D.fgt, D.fgts])
  first | done | simp [Qd v]
 ·rw [e] at hp ⊢
  generalize Wv t = x at hp hki
  have hEx := Qd x
  rw [hEx, Qd t, hk] at hp
  rw [Qd t] at hsp
  rw [hEx, Qd t, hk] at hki
  rw [Qd t]
  unfold Wf headD Cs Wj goneD at hp
  unfold Wf headD Cs Wj goneD
  refine Qt.movd Qe (Qq Wb Tryz.func98 rfl (Qy _ _ Tryz.func98 rfl (by decide)) rfl rfl ?_)
  (refine sR fun K hK => ?_; ((repeat (rw [Qa]; simp)); (try simp only [zs])); refine hK _ _ _ ?_; clear hK K)
  (refine sR fun K hK => ?_; ((repeat (rw [Qa]; simp)); (try simp only [zs])))
  refine cXp (hsp) ?_
  ((try simp only [Qb, Qc, Ql, Qi, Qk]); (repeat (rw [Qa]; simp)); (try simp only [zs]))
  (refine hK _ _ _ ?_; clear hK K)
  (refine Qf fun K hK => ?_; refine dR fun KT hKT => ?_; ((repeat (rw [Qh]; simp [hk])); (try simp only [Qm])))
  (refine hKT _ _ _ _ (by kernel_rfl) ?_; clear hKT KT; (try simp only [zs]))
  (refine hK _ _ _ ?_; clear hK K)
  refine Qf fun K1 hK1 => ?_
  (refine sR fun K hK => ?_; ((repeat (rw [Qa]; simp [hk])); (try simp only [zs])); refine hK _ _ _ ?_; clear hK K)
  refine pF rfl ?_
  refine Qs (hK1 _ _ _ ?_)
  (refine sR fun K hK => ?_; ((repeat (rw [Qa]; simp)); (try simp only [zs])); refine hK _ _ _ ?_; clear hK K)
  refine Qf fun K2 hK2 => ?_
  (refine sR fun K hK => ?_; ((repeat (rw [Qa]; simp)); (try simp only [zs])); refine hK _ _ _ ?_; clear hK K)
  refine pT rfl ?_
  (refine Qz Wb ?_; ((repeat (rw [Qa]; simp)); (try simp only [zs])))
  refine cXp (hki) ?_
  ((try simp only [Qb, Qc, Ql, Qi, Qk]); (repeat (rw [Qa]; simp)); (try simp only [zs]))
  refine hK2 _ _ _ ?_
  (refine sR fun K hK => ?_; ((repeat (rw [Qa]; simp)); (try simp only [zs])))
  refine cXo [0, 1] true (hp) ?_
  (rintro o hc ⟨rfl, rfl⟩; refine ⟨false, ?_⟩; simp [zz, okA, Qx, Qu, hOf, Qg, Out.ren, told, Out.fgt, upO, Qi, Qk])
  ((try simp only [zs]); refine Wc.pan (.inr ⟨[], by decide, by simp, ?_⟩); simp [Out.mov, Wk, Wl, Wr, D.mov, HO.mov, okM, Wn, Wg, zz, okA, Qx, Qu, hOf, Qg, Qp, Out.fgt, D.fgt, D.fgts])
theorem step_14 (left : Int) (l : List C) (once done : Bool) (hl : left <= 9223372036854775807) (t : T) (ht : okS t) (hk : t.k = 14) {i many : Nat} (hs : spot t = some (i, many)) (hp : Qt Tryz.prog glob 89 [.box 0 0, Qv t, Qv (Wv t)] (Wf left l once done) (OwnP left l once done t (ownS l t (Wv t)))) : Qt Tryz.prog glob 98 [.box 0 0, Qv t] (Wf left l once done) (OwnP left l once done t (ownS l t (Wv t))) := by
 have hsp := spot_spec t ht.1.kl
 rw [spotO_some hs ht.1.kl] at hsp
 have hki := Xs t i i rfl
 rw [<- placeX_some hs] at hki
 rcases OwnP_cases left l once done t (ownS l t (Wv t)) with ⟨v, b, lf, e⟩ | e
 ·rw [e] at hp ⊢
  generalize Wv t = x at hp hki
  have hEx := Qd x
  rw [hEx, Qd t, Qd v, hk] at hp
  rw [Qd t] at hsp
  rw [hEx, Qd t, hk] at hki
  rw [Qd t]
  unfold Wf headD Cs Wj at hp ⊢
  refine Qt.movd Qe (Qq Wb Tryz.func98 rfl (Qy _ _ Tryz.func98 rfl (by decide)) rfl rfl ?_)
  (refine sR fun K hK => ?_; ((repeat (rw [Qa]; simp)); (try simp only [zs])); refine hK _ _ _ ?_; clear hK K)
  (refine sR fun K hK => ?_; ((repeat (rw [Qa]; simp)); (try simp only [zs])))
  refine cXp (hsp) ?_
  ((try simp only [Qb, Qc, Ql, Qi, Qk]); (repeat (rw [Qa]; simp)); (try simp only [zs]))
  (refine hK _ _ _ ?_; clear hK K)
  (refine Qf fun K hK => ?_; refine dR fun KT hKT => ?_; ((repeat (rw [Qh]; simp [hk])); (try simp only [Qm])))
  (refine hKT _ _ _ _ (by kernel_rfl) ?_; clear hKT KT; (try simp only [zs]))
  (refine hK _ _ _ ?_; clear hK K)
  refine Qf fun K1 hK1 => ?_
  (refine sR fun K hK => ?_; ((repeat (rw [Qa]; simp [hk])); (try simp only [zs])); refine hK _ _ _ ?_; clear hK K)
  refine pF rfl ?_
  refine Qs (hK1 _ _ _ ?_)
  (refine sR fun K hK => ?_; ((repeat (rw [Qa]; simp)); (try simp only [zs])); refine hK _ _ _ ?_; clear hK K)
  refine Qf fun K2 hK2 => ?_
  (refine sR fun K hK => ?_; ((repeat (rw [Qa]; simp)); (try simp only [zs])); refine hK _ _ _ ?_; clear hK K)
  refine pT rfl ?_
  (refine Qz Wb ?_; ((repeat (rw [Qa]; simp)); (try simp only [zs])))
  refine cXp (hki) ?_
  ((try simp only [Qb, Qc, Ql, Qi, Qk]); (repeat (rw [Qa]; simp)); (try simp only [zs]))
  refine hK2 _ _ _ ?_
  (refine sR fun K hK => ?_; ((repeat (rw [Qa]; simp)); (try simp only [zs])))
  refine cXo [0, 1] true (hp) ?_
  (rintro o hc ⟨ho, rfl⟩; refine ⟨true, ?_⟩; rw [show told true o = _ from ho]; clear ho; simp [zz, okA, Qx, Qu, hOf, Qg, Out.ren, told, Out.fgt, upO, Qi, Qk])
  ((try simp only [Qb, Qc, Ql, Qi, Qk]); (repeat (rw [Qa]; simp)); (try simp only [zs]))
  (refine hK _ _ _ ?_; clear hK K)
  (refine Qj ?_; (try simp only [zs]); refine Wc.ret rfl (.inr ⟨[], by decide, by simp, ?_⟩); simp [Out.mov, Wk, Wl, Wr, D.mov, HO.mov, okM, Wn, Wg, zz, okA, Qx, Qu, hOf, Qg, Qp, Out.fgt, D.fgt, D.fgts])
  first | done | simp [Qd v]
 ·rw [e] at hp ⊢
  generalize Wv t = x at hp hki
  have hEx := Qd x
  rw [hEx, Qd t, hk] at hp
  rw [Qd t] at hsp
  rw [hEx, Qd t, hk] at hki
  rw [Qd t]
  unfold Wf headD Cs Wj goneD at hp
  unfold Wf headD Cs Wj goneD
  refine Qt.movd Qe (Qq Wb Tryz.func98 rfl (Qy _ _ Tryz.func98 rfl (by decide)) rfl rfl ?_)
  (refine sR fun K hK => ?_; ((repeat (rw [Qa]; simp)); (try simp only [zs])); refine hK _ _ _ ?_; clear hK K)
  (refine sR fun K hK => ?_; ((repeat (rw [Qa]; simp)); (try simp only [zs])))
  refine cXp (hsp) ?_
  ((try simp only [Qb, Qc, Ql, Qi, Qk]); (repeat (rw [Qa]; simp)); (try simp only [zs]))
  (refine hK _ _ _ ?_; clear hK K)
  (refine Qf fun K hK => ?_; refine dR fun KT hKT => ?_; ((repeat (rw [Qh]; simp [hk])); (try simp only [Qm])))
  (refine hKT _ _ _ _ (by kernel_rfl) ?_; clear hKT KT; (try simp only [zs]))
  (refine hK _ _ _ ?_; clear hK K)
  refine Qf fun K1 hK1 => ?_
  (refine sR fun K hK => ?_; ((repeat (rw [Qa]; simp [hk])); (try simp only [zs])); refine hK _ _ _ ?_; clear hK K)
  refine pF rfl ?_
  refine Qs (hK1 _ _ _ ?_)
  (refine sR fun K hK => ?_; ((repeat (rw [Qa]; simp)); (try simp only [zs])); refine hK _ _ _ ?_; clear hK K)
  refine Qf fun K2 hK2 => ?_
  (refine sR fun K hK => ?_; ((repeat (rw [Qa]; simp)); (try simp only [zs])); refine hK _ _ _ ?_; clear hK K)
  refine pT rfl ?_
  (refine Qz Wb ?_; ((repeat (rw [Qa]; simp)); (try simp only [zs])))
  refine cXp (hki) ?_
  ((try simp only [Qb, Qc, Ql, Qi, Qk]); (repeat (rw [Qa]; simp)); (try simp only [zs]))
  refine hK2 _ _ _ ?_
  (refine sR fun K hK => ?_; ((repeat (rw [Qa]; simp)); (try simp only [zs])))
  refine cXo [0, 1] true (hp) ?_
  (rintro o hc ⟨rfl, rfl⟩; refine ⟨false, ?_⟩; simp [zz, okA, Qx, Qu, hOf, Qg, Out.ren, told, Out.fgt, upO, Qi, Qk])
  ((try simp only [zs]); refine Wc.pan (.inr ⟨[], by decide, by simp, ?_⟩); simp [Out.mov, Wk, Wl, Wr, D.mov, HO.mov, okM, Wn, Wg, zz, okA, Qx, Qu, hOf, Qg, Qp, Out.fgt, D.fgt, D.fgts])
theorem step_15 (left : Int) (l : List C) (once done : Bool) (hl : left <= 9223372036854775807) (t : T) (ht : okS t) (hk : t.k = 15) {i many : Nat} (hs : spot t = some (i, many)) (hp : Qt Tryz.prog glob 89 [.box 0 0, Qv t, Qv (Wv t)] (Wf left l once done) (OwnP left l once done t (ownS l t (Wv t)))) : Qt Tryz.prog glob 98 [.box 0 0, Qv t] (Wf left l once done) (OwnP left l once done t (ownS l t (Wv t))) := by
 have hsp := spot_spec t ht.1.kl
 rw [spotO_some hs ht.1.kl] at hsp
 have hki := Xs t i i rfl
 rw [<- placeX_some hs] at hki
 rcases OwnP_cases left l once done t (ownS l t (Wv t)) with ⟨v, b, lf, e⟩ | e
 ·rw [e] at hp ⊢
  generalize Wv t = x at hp hki
  have hEx := Qd x
  rw [hEx, Qd t, Qd v, hk] at hp
  rw [Qd t] at hsp
  rw [hEx, Qd t, hk] at hki
  rw [Qd t]
  unfold Wf headD Cs Wj at hp ⊢
  refine Qt.movd Qe (Qq Wb Tryz.func98 rfl (Qy _ _ Tryz.func98 rfl (by decide)) rfl rfl ?_)
  (refine sR fun K hK => ?_; ((repeat (rw [Qa]; simp)); (try simp only [zs])); refine hK _ _ _ ?_; clear hK K)
  (refine sR fun K hK => ?_; ((repeat (rw [Qa]; simp)); (try simp only [zs])))
  refine cXp (hsp) ?_
  ((try simp only [Qb, Qc, Ql, Qi, Qk]); (repeat (rw [Qa]; simp)); (try simp only [zs]))
  (refine hK _ _ _ ?_; clear hK K)
  (refine Qf fun K hK => ?_; refine dR fun KT hKT => ?_; ((repeat (rw [Qh]; simp [hk])); (try simp only [Qm])))
  (refine hKT _ _ _ _ (by kernel_rfl) ?_; clear hKT KT; (try simp only [zs]))
  (refine hK _ _ _ ?_; clear hK K)
  refine Qf fun K1 hK1 => ?_
  (refine sR fun K hK => ?_; ((repeat (rw [Qa]; simp [hk])); (try simp only [zs])); refine hK _ _ _ ?_; clear hK K)
  refine pF rfl ?_
  refine Qs (hK1 _ _ _ ?_)
  (refine sR fun K hK => ?_; ((repeat (rw [Qa]; simp)); (try simp only [zs])); refine hK _ _ _ ?_; clear hK K)
  refine Qf fun K2 hK2 => ?_
  (refine sR fun K hK => ?_; ((repeat (rw [Qa]; simp)); (try simp only [zs])); refine hK _ _ _ ?_; clear hK K)
  refine pT rfl ?_
  (refine Qz Wb ?_; ((repeat (rw [Qa]; simp)); (try simp only [zs])))
  refine cXp (hki) ?_
  ((try simp only [Qb, Qc, Ql, Qi, Qk]); (repeat (rw [Qa]; simp)); (try simp only [zs]))
  refine hK2 _ _ _ ?_
  (refine sR fun K hK => ?_; ((repeat (rw [Qa]; simp)); (try simp only [zs])))
  refine cXo [0, 1] true (hp) ?_
  (rintro o hc ⟨ho, rfl⟩; refine ⟨true, ?_⟩; rw [show told true o = _ from ho]; clear ho; simp [zz, okA, Qx, Qu, hOf, Qg, Out.ren, told, Out.fgt, upO, Qi, Qk])
  ((try simp only [Qb, Qc, Ql, Qi, Qk]); (repeat (rw [Qa]; simp)); (try simp only [zs]))
  (refine hK _ _ _ ?_; clear hK K)
  (refine Qj ?_; (try simp only [zs]); refine Wc.ret rfl (.inr ⟨[], by decide, by simp, ?_⟩); simp [Out.mov, Wk, Wl, Wr, D.mov, HO.mov, okM, Wn, Wg, zz, okA, Qx, Qu, hOf, Qg, Qp, Out.fgt, D.fgt, D.fgts])
  first | done | simp [Qd v]
 ·rw [e] at hp ⊢
  generalize Wv t = x at hp hki
  have hEx := Qd x
  rw [hEx, Qd t, hk] at hp
  rw [Qd t] at hsp
  rw [hEx, Qd t, hk] at hki
  rw [Qd t]
  unfold Wf headD Cs Wj goneD at hp
  unfold Wf headD Cs Wj goneD
  refine Qt.movd Qe (Qq Wb Tryz.func98 rfl (Qy _ _ Tryz.func98 rfl (by decide)) rfl rfl ?_)
  (refine sR fun K hK => ?_; ((repeat (rw [Qa]; simp)); (try simp only [zs])); refine hK _ _ _ ?_; clear hK K)
  (refine sR fun K hK => ?_; ((repeat (rw [Qa]; simp)); (try simp only [zs])))
  refine cXp (hsp) ?_
  ((try simp only [Qb, Qc, Ql, Qi, Qk]); (repeat (rw [Qa]; simp)); (try simp only [zs]))
  (refine hK _ _ _ ?_; clear hK K)
  (refine Qf fun K hK => ?_; refine dR fun KT hKT => ?_; ((repeat (rw [Qh]; simp [hk])); (try simp only [Qm])))
  (refine hKT _ _ _ _ (by kernel_rfl) ?_; clear hKT KT; (try simp only [zs]))
  (refine hK _ _ _ ?_; clear hK K)
  refine Qf fun K1 hK1 => ?_
  (refine sR fun K hK => ?_; ((repeat (rw [Qa]; simp [hk])); (try simp only [zs])); refine hK _ _ _ ?_; clear hK K)
  refine pF rfl ?_
  refine Qs (hK1 _ _ _ ?_)
  (refine sR fun K hK => ?_; ((repeat (rw [Qa]; simp)); (try simp only [zs])); refine hK _ _ _ ?_; clear hK K)
  refine Qf fun K2 hK2 => ?_
  (refine sR fun K hK => ?_; ((repeat (rw [Qa]; simp)); (try simp only [zs])); refine hK _ _ _ ?_; clear hK K)
  refine pT rfl ?_
  (refine Qz Wb ?_; ((repeat (rw [Qa]; simp)); (try simp only [zs])))
  refine cXp (hki) ?_
  ((try simp only [Qb, Qc, Ql, Qi, Qk]); (repeat (rw [Qa]; simp)); (try simp only [zs]))
  refine hK2 _ _ _ ?_
  (refine sR fun K hK => ?_; ((repeat (rw [Qa]; simp)); (try simp only [zs])))
  refine cXo [0, 1] true (hp) ?_
  (rintro o hc ⟨rfl, rfl⟩; refine ⟨false, ?_⟩; simp [zz, okA, Qx, Qu, hOf, Qg, Out.ren, told, Out.fgt, upO, Qi, Qk])
  ((try simp only [zs]); refine Wc.pan (.inr ⟨[], by decide, by simp, ?_⟩); simp [Out.mov, Wk, Wl, Wr, D.mov, HO.mov, okM, Wn, Wg, zz, okA, Qx, Qu, hOf, Qg, Qp, Out.fgt, D.fgt, D.fgts])
theorem step_18 (left : Int) (l : List C) (once done : Bool) (hl : left <= 9223372036854775807) (t : T) (ht : okS t) (hk : t.k = 18) {i many : Nat} (hs : spot t = some (i, many)) (hp : Qt Tryz.prog glob 92 [.box 0 0, Qv t, Qv (Wv t)] (Wf left l once done) (OwnP left l once done t (ownS l t (Wv t)))) : Qt Tryz.prog glob 98 [.box 0 0, Qv t] (Wf left l once done) (OwnP left l once done t (ownS l t (Wv t))) := by
 have hsp := spot_spec t ht.1.kl
 rw [spotO_some hs ht.1.kl] at hsp
 have hki := Xs t i i rfl
 rw [<- placeX_some hs] at hki
 rcases OwnP_cases left l once done t (ownS l t (Wv t)) with ⟨v, b, lf, e⟩ | e
 ·rw [e] at hp ⊢
  generalize Wv t = x at hp hki
  have hEx := Qd x
  rw [hEx, Qd t, Qd v, hk] at hp
  rw [Qd t] at hsp
  rw [hEx, Qd t, hk] at hki
  rw [Qd t]
  unfold Wf headD Cs Wj at hp ⊢
  refine Qt.movd Qe (Qq Wb Tryz.func98 rfl (Qy _ _ Tryz.func98 rfl (by decide)) rfl rfl ?_)
  (refine sR fun K hK => ?_; ((repeat (rw [Qa]; simp)); (try simp only [zs])); refine hK _ _ _ ?_; clear hK K)
  (refine sR fun K hK => ?_; ((repeat (rw [Qa]; simp)); (try simp only [zs])))
  refine cXp (hsp) ?_
  ((try simp only [Qb, Qc, Ql, Qi, Qk]); (repeat (rw [Qa]; simp)); (try simp only [zs]))
  (refine hK _ _ _ ?_; clear hK K)
  (refine Qf fun K hK => ?_; refine dR fun KT hKT => ?_; ((repeat (rw [Qh]; simp [hk])); (try simp only [Qm])))
  (refine hKT _ _ _ _ (by kernel_rfl) ?_; clear hKT KT; (try simp only [zs]))
  (refine hK _ _ _ ?_; clear hK K)
  refine Qf fun K1 hK1 => ?_
  (refine sR fun K hK => ?_; ((repeat (rw [Qa]; simp [hk])); (try simp only [zs])); refine hK _ _ _ ?_; clear hK K)
  refine pF rfl ?_
  refine Qs (hK1 _ _ _ ?_)
  (refine sR fun K hK => ?_; ((repeat (rw [Qa]; simp)); (try simp only [zs])); refine hK _ _ _ ?_; clear hK K)
  refine Qf fun K2 hK2 => ?_
  (refine sR fun K hK => ?_; ((repeat (rw [Qa]; simp)); (try simp only [zs])); refine hK _ _ _ ?_; clear hK K)
  refine pT rfl ?_
  (refine Qz Wb ?_; ((repeat (rw [Qa]; simp)); (try simp only [zs])))
  refine cXp (hki) ?_
  ((try simp only [Qb, Qc, Ql, Qi, Qk]); (repeat (rw [Qa]; simp)); (try simp only [zs]))
  refine hK2 _ _ _ ?_
  (refine sR fun K hK => ?_; ((repeat (rw [Qa]; simp)); (try simp only [zs])))
  refine cXo [0, 1] true (hp) ?_
  (rintro o hc ⟨ho, rfl⟩; refine ⟨true, ?_⟩; rw [show told true o = _ from ho]; clear ho; simp [zz, okA, Qx, Qu, hOf, Qg, Out.ren, told, Out.fgt, upO, Qi, Qk])
  ((try simp only [Qb, Qc, Ql, Qi, Qk]); (repeat (rw [Qa]; simp)); (try simp only [zs]))
  (refine hK _ _ _ ?_; clear hK K)
  (refine Qj ?_; (try simp only [zs]); refine Wc.ret rfl (.inr ⟨[], by decide, by simp, ?_⟩); simp [Out.mov, Wk, Wl, Wr, D.mov, HO.mov, okM, Wn, Wg, zz, okA, Qx, Qu, hOf, Qg, Qp, Out.fgt, D.fgt, D.fgts])
  first | done | simp [Qd v]
 ·rw [e] at hp ⊢
  generalize Wv t = x at hp hki
  have hEx := Qd x
  rw [hEx, Qd t, hk] at hp
  rw [Qd t] at hsp
  rw [hEx, Qd t, hk] at hki
  rw [Qd t]
  unfold Wf headD Cs Wj goneD at hp
  unfold Wf headD Cs Wj goneD
  refine Qt.movd Qe (Qq Wb Tryz.func98 rfl (Qy _ _ Tryz.func98 rfl (by decide)) rfl rfl ?_)
  (refine sR fun K hK => ?_; ((repeat (rw [Qa]; simp)); (try simp only [zs])); refine hK _ _ _ ?_; clear hK K)
  (refine sR fun K hK => ?_; ((repeat (rw [Qa]; simp)); (try simp only [zs])))
  refine cXp (hsp) ?_
  ((try simp only [Qb, Qc, Ql, Qi, Qk]); (repeat (rw [Qa]; simp)); (try simp only [zs]))
  (refine hK _ _ _ ?_; clear hK K)
  (refine Qf fun K hK => ?_; refine dR fun KT hKT => ?_; ((repeat (rw [Qh]; simp [hk])); (try simp only [Qm])))
  (refine hKT _ _ _ _ (by kernel_rfl) ?_; clear hKT KT; (try simp only [zs]))
  (refine hK _ _ _ ?_; clear hK K)
  refine Qf fun K1 hK1 => ?_
  (refine sR fun K hK => ?_; ((repeat (rw [Qa]; simp [hk])); (try simp only [zs])); refine hK _ _ _ ?_; clear hK K)
  refine pF rfl ?_
  refine Qs (hK1 _ _ _ ?_)
  (refine sR fun K hK => ?_; ((repeat (rw [Qa]; simp)); (try simp only [zs])); refine hK _ _ _ ?_; clear hK K)
  refine Qf fun K2 hK2 => ?_
  (refine sR fun K hK => ?_; ((repeat (rw [Qa]; simp)); (try simp only [zs])); refine hK _ _ _ ?_; clear hK K)
  refine pT rfl ?_
  (refine Qz Wb ?_; ((repeat (rw [Qa]; simp)); (try simp only [zs])))
  refine cXp (hki) ?_
  ((try simp only [Qb, Qc, Ql, Qi, Qk]); (repeat (rw [Qa]; simp)); (try simp only [zs]))
  refine hK2 _ _ _ ?_
  (refine sR fun K hK => ?_; ((repeat (rw [Qa]; simp)); (try simp only [zs])))
  refine cXo [0, 1] true (hp) ?_
  (rintro o hc ⟨rfl, rfl⟩; refine ⟨false, ?_⟩; simp [zz, okA, Qx, Qu, hOf, Qg, Out.ren, told, Out.fgt, upO, Qi, Qk])
  ((try simp only [zs]); refine Wc.pan (.inr ⟨[], by decide, by simp, ?_⟩); simp [Out.mov, Wk, Wl, Wr, D.mov, HO.mov, okM, Wn, Wg, zz, okA, Qx, Qu, hOf, Qg, Qp, Out.fgt, D.fgt, D.fgts])
theorem step_21 (left : Int) (l : List C) (once done : Bool) (hl : left <= 9223372036854775807) (t : T) (ht : okS t) (hk : t.k = 21) {i many : Nat} (hs : spot t = some (i, many)) (hp : Qt Tryz.prog glob 93 [.box 0 0, Qv t, Qv (Wv t)] (Wf left l once done) (OwnP left l once done t (ownS l t (Wv t)))) : Qt Tryz.prog glob 98 [.box 0 0, Qv t] (Wf left l once done) (OwnP left l once done t (ownS l t (Wv t))) := by
 have hsp := spot_spec t ht.1.kl
 rw [spotO_some hs ht.1.kl] at hsp
 have hki := Xs t i i rfl
 rw [<- placeX_some hs] at hki
 rcases OwnP_cases left l once done t (ownS l t (Wv t)) with ⟨v, b, lf, e⟩ | e
 ·rw [e] at hp ⊢
  generalize Wv t = x at hp hki
  have hEx := Qd x
  rw [hEx, Qd t, Qd v, hk] at hp
  rw [Qd t] at hsp
  rw [hEx, Qd t, hk] at hki
  rw [Qd t]
  unfold Wf headD Cs Wj at hp ⊢
  refine Qt.movd Qe (Qq Wb Tryz.func98 rfl (Qy _ _ Tryz.func98 rfl (by decide)) rfl rfl ?_)
  (refine sR fun K hK => ?_; ((repeat (rw [Qa]; simp)); (try simp only [zs])); refine hK _ _ _ ?_; clear hK K)
  (refine sR fun K hK => ?_; ((repeat (rw [Qa]; simp)); (try simp only [zs])))
  refine cXp (hsp) ?_
  ((try simp only [Qb, Qc, Ql, Qi, Qk]); (repeat (rw [Qa]; simp)); (try simp only [zs]))
  (refine hK _ _ _ ?_; clear hK K)
  (refine Qf fun K hK => ?_; refine dR fun KT hKT => ?_; ((repeat (rw [Qh]; simp [hk])); (try simp only [Qm])))
  (refine hKT _ _ _ _ (by kernel_rfl) ?_; clear hKT KT; (try simp only [zs]))
  (refine hK _ _ _ ?_; clear hK K)
  refine Qf fun K1 hK1 => ?_
  (refine sR fun K hK => ?_; ((repeat (rw [Qa]; simp [hk])); (try simp only [zs])); refine hK _ _ _ ?_; clear hK K)
  refine pF rfl ?_
  refine Qs (hK1 _ _ _ ?_)
  (refine sR fun K hK => ?_; ((repeat (rw [Qa]; simp)); (try simp only [zs])); refine hK _ _ _ ?_; clear hK K)
  refine Qf fun K2 hK2 => ?_
  (refine sR fun K hK => ?_; ((repeat (rw [Qa]; simp)); (try simp only [zs])); refine hK _ _ _ ?_; clear hK K)
  refine pT rfl ?_
  (refine Qz Wb ?_; ((repeat (rw [Qa]; simp)); (try simp only [zs])))
  refine cXp (hki) ?_
  ((try simp only [Qb, Qc, Ql, Qi, Qk]); (repeat (rw [Qa]; simp)); (try simp only [zs]))
  refine hK2 _ _ _ ?_
  (refine sR fun K hK => ?_; ((repeat (rw [Qa]; simp)); (try simp only [zs])))
  refine cXo [0, 1] true (hp) ?_
  (rintro o hc ⟨ho, rfl⟩; refine ⟨true, ?_⟩; rw [show told true o = _ from ho]; clear ho; simp [zz, okA, Qx, Qu, hOf, Qg, Out.ren, told, Out.fgt, upO, Qi, Qk])
  ((try simp only [Qb, Qc, Ql, Qi, Qk]); (repeat (rw [Qa]; simp)); (try simp only [zs]))
  (refine hK _ _ _ ?_; clear hK K)
  (refine Qj ?_; (try simp only [zs]); refine Wc.ret rfl (.inr ⟨[], by decide, by simp, ?_⟩); simp [Out.mov, Wk, Wl, Wr, D.mov, HO.mov, okM, Wn, Wg, zz, okA, Qx, Qu, hOf, Qg, Qp, Out.fgt, D.fgt, D.fgts])
  first | done | simp [Qd v]
 ·rw [e] at hp ⊢
  generalize Wv t = x at hp hki
  have hEx := Qd x
  rw [hEx, Qd t, hk] at hp
  rw [Qd t] at hsp
  rw [hEx, Qd t, hk] at hki
  rw [Qd t]
  unfold Wf headD Cs Wj goneD at hp
  unfold Wf headD Cs Wj goneD
  refine Qt.movd Qe (Qq Wb Tryz.func98 rfl (Qy _ _ Tryz.func98 rfl (by decide)) rfl rfl ?_)
  (refine sR fun K hK => ?_; ((repeat (rw [Qa]; simp)); (try simp only [zs])); refine hK _ _ _ ?_; clear hK K)
  (refine sR fun K hK => ?_; ((repeat (rw [Qa]; simp)); (try simp only [zs])))
  refine cXp (hsp) ?_
  ((try simp only [Qb, Qc, Ql, Qi, Qk]); (repeat (rw [Qa]; simp)); (try simp only [zs]))
  (refine hK _ _ _ ?_; clear hK K)
  (refine Qf fun K hK => ?_; refine dR fun KT hKT => ?_; ((repeat (rw [Qh]; simp [hk])); (try simp only [Qm])))
  (refine hKT _ _ _ _ (by kernel_rfl) ?_; clear hKT KT; (try simp only [zs]))
  (refine hK _ _ _ ?_; clear hK K)
  refine Qf fun K1 hK1 => ?_
  (refine sR fun K hK => ?_; ((repeat (rw [Qa]; simp [hk])); (try simp only [zs])); refine hK _ _ _ ?_; clear hK K)
  refine pF rfl ?_
  refine Qs (hK1 _ _ _ ?_)
  (refine sR fun K hK => ?_; ((repeat (rw [Qa]; simp)); (try simp only [zs])); refine hK _ _ _ ?_; clear hK K)
  refine Qf fun K2 hK2 => ?_
  (refine sR fun K hK => ?_; ((repeat (rw [Qa]; simp)); (try simp only [zs])); refine hK _ _ _ ?_; clear hK K)
  refine pT rfl ?_
  (refine Qz Wb ?_; ((repeat (rw [Qa]; simp)); (try simp only [zs])))
  refine cXp (hki) ?_
  ((try simp only [Qb, Qc, Ql, Qi, Qk]); (repeat (rw [Qa]; simp)); (try simp only [zs]))
  refine hK2 _ _ _ ?_
  (refine sR fun K hK => ?_; ((repeat (rw [Qa]; simp)); (try simp only [zs])))
  refine cXo [0, 1] true (hp) ?_
  (rintro o hc ⟨rfl, rfl⟩; refine ⟨false, ?_⟩; simp [zz, okA, Qx, Qu, hOf, Qg, Out.ren, told, Out.fgt, upO, Qi, Qk])
  ((try simp only [zs]); refine Wc.pan (.inr ⟨[], by decide, by simp, ?_⟩); simp [Out.mov, Wk, Wl, Wr, D.mov, HO.mov, okM, Wn, Wg, zz, okA, Qx, Qu, hOf, Qg, Qp, Out.fgt, D.fgt, D.fgts])
theorem step_24 (left : Int) (l : List C) (once done : Bool) (hl : left <= 9223372036854775807) (t : T) (ht : okS t) (hk : t.k = 24) {i many : Nat} (hs : spot t = some (i, many)) (hp : Qt Tryz.prog glob 94 [.box 0 0, Qv t, Qv (Wv t)] (Wf left l once done) (OwnP left l once done t (ownS l t (Wv t)))) : Qt Tryz.prog glob 98 [.box 0 0, Qv t] (Wf left l once done) (OwnP left l once done t (ownS l t (Wv t))) := by
 have hsp := spot_spec t ht.1.kl
 rw [spotO_some hs ht.1.kl] at hsp
 have hki := Xs t i i rfl
 rw [<- placeX_some hs] at hki
 rcases OwnP_cases left l once done t (ownS l t (Wv t)) with ⟨v, b, lf, e⟩ | e
 ·rw [e] at hp ⊢
  generalize Wv t = x at hp hki
  have hEx := Qd x
  rw [hEx, Qd t, Qd v, hk] at hp
  rw [Qd t] at hsp
  rw [hEx, Qd t, hk] at hki
  rw [Qd t]
  unfold Wf headD Cs Wj at hp ⊢
  refine Qt.movd Qe (Qq Wb Tryz.func98 rfl (Qy _ _ Tryz.func98 rfl (by decide)) rfl rfl ?_)
  (refine sR fun K hK => ?_; ((repeat (rw [Qa]; simp)); (try simp only [zs])); refine hK _ _ _ ?_; clear hK K)
  (refine sR fun K hK => ?_; ((repeat (rw [Qa]; simp)); (try simp only [zs])))
  refine cXp (hsp) ?_
  ((try simp only [Qb, Qc, Ql, Qi, Qk]); (repeat (rw [Qa]; simp)); (try simp only [zs]))
  (refine hK _ _ _ ?_; clear hK K)
  (refine Qf fun K hK => ?_; refine dR fun KT hKT => ?_; ((repeat (rw [Qh]; simp [hk])); (try simp only [Qm])))
  (refine hKT _ _ _ _ (by kernel_rfl) ?_; clear hKT KT; (try simp only [zs]))
  (refine hK _ _ _ ?_; clear hK K)
  refine Qf fun K1 hK1 => ?_
  (refine sR fun K hK => ?_; ((repeat (rw [Qa]; simp [hk])); (try simp only [zs])); refine hK _ _ _ ?_; clear hK K)
  refine pF rfl ?_
  refine Qs (hK1 _ _ _ ?_)
  (refine sR fun K hK => ?_; ((repeat (rw [Qa]; simp)); (try simp only [zs])); refine hK _ _ _ ?_; clear hK K)
  refine Qf fun K2 hK2 => ?_
  (refine sR fun K hK => ?_; ((repeat (rw [Qa]; simp)); (try simp only [zs])); refine hK _ _ _ ?_; clear hK K)
  refine pT rfl ?_
  (refine Qz Wb ?_; ((repeat (rw [Qa]; simp)); (try simp only [zs])))
  refine cXp (hki) ?_
  ((try simp only [Qb, Qc, Ql, Qi, Qk]); (repeat (rw [Qa]; simp)); (try simp only [zs]))
  refine hK2 _ _ _ ?_
  (refine sR fun K hK => ?_; ((repeat (rw [Qa]; simp)); (try simp only [zs])))
  refine cXo [0, 1] true (hp) ?_
  (rintro o hc ⟨ho, rfl⟩; refine ⟨true, ?_⟩; rw [show told true o = _ from ho]; clear ho; simp [zz, okA, Qx, Qu, hOf, Qg, Out.ren, told, Out.fgt, upO, Qi, Qk])
  ((try simp only [Qb, Qc, Ql, Qi, Qk]); (repeat (rw [Qa]; simp)); (try simp only [zs]))
  (refine hK _ _ _ ?_; clear hK K)
  (refine Qj ?_; (try simp only [zs]); refine Wc.ret rfl (.inr ⟨[], by decide, by simp, ?_⟩); simp [Out.mov, Wk, Wl, Wr, D.mov, HO.mov, okM, Wn, Wg, zz, okA, Qx, Qu, hOf, Qg, Qp, Out.fgt, D.fgt, D.fgts])
  first | done | simp [Qd v]
 ·rw [e] at hp ⊢
  generalize Wv t = x at hp hki
  have hEx := Qd x
  rw [hEx, Qd t, hk] at hp
  rw [Qd t] at hsp
  rw [hEx, Qd t, hk] at hki
  rw [Qd t]
  unfold Wf headD Cs Wj goneD at hp
  unfold Wf headD Cs Wj goneD
  refine Qt.movd Qe (Qq Wb Tryz.func98 rfl (Qy _ _ Tryz.func98 rfl (by decide)) rfl rfl ?_)
  (refine sR fun K hK => ?_; ((repeat (rw [Qa]; simp)); (try simp only [zs])); refine hK _ _ _ ?_; clear hK K)
  (refine sR fun K hK => ?_; ((repeat (rw [Qa]; simp)); (try simp only [zs])))
  refine cXp (hsp) ?_
  ((try simp only [Qb, Qc, Ql, Qi, Qk]); (repeat (rw [Qa]; simp)); (try simp only [zs]))
  (refine hK _ _ _ ?_; clear hK K)
  (refine Qf fun K hK => ?_; refine dR fun KT hKT => ?_; ((repeat (rw [Qh]; simp [hk])); (try simp only [Qm])))
  (refine hKT _ _ _ _ (by kernel_rfl) ?_; clear hKT KT; (try simp only [zs]))
  (refine hK _ _ _ ?_; clear hK K)
  refine Qf fun K1 hK1 => ?_
  (refine sR fun K hK => ?_; ((repeat (rw [Qa]; simp [hk])); (try simp only [zs])); refine hK _ _ _ ?_; clear hK K)
  refine pF rfl ?_
  refine Qs (hK1 _ _ _ ?_)
  (refine sR fun K hK => ?_; ((repeat (rw [Qa]; simp)); (try simp only [zs])); refine hK _ _ _ ?_; clear hK K)
  refine Qf fun K2 hK2 => ?_
  (refine sR fun K hK => ?_; ((repeat (rw [Qa]; simp)); (try simp only [zs])); refine hK _ _ _ ?_; clear hK K)
  refine pT rfl ?_
  (refine Qz Wb ?_; ((repeat (rw [Qa]; simp)); (try simp only [zs])))
  refine cXp (hki) ?_
  ((try simp only [Qb, Qc, Ql, Qi, Qk]); (repeat (rw [Qa]; simp)); (try simp only [zs]))
  refine hK2 _ _ _ ?_
  (refine sR fun K hK => ?_; ((repeat (rw [Qa]; simp)); (try simp only [zs])))
  refine cXo [0, 1] true (hp) ?_
  (rintro o hc ⟨rfl, rfl⟩; refine ⟨false, ?_⟩; simp [zz, okA, Qx, Qu, hOf, Qg, Out.ren, told, Out.fgt, upO, Qi, Qk])
  ((try simp only [zs]); refine Wc.pan (.inr ⟨[], by decide, by simp, ?_⟩); simp [Out.mov, Wk, Wl, Wr, D.mov, HO.mov, okM, Wn, Wg, zz, okA, Qx, Qu, hOf, Qg, Qp, Out.fgt, D.fgt, D.fgts])
theorem step_7 (left : Int) (l : List C) (once done : Bool) (hl : left <= 9223372036854775807) (t : T) (ht : okS t) (hk : t.k = 7) (hs : spot t = none) (hp : Qt Tryz.prog glob 90 [.box 0 0, Qv t, Qv (Wv t)] (Wf left l once done) (OwnP left l once done t (ownS l t (Wv t)))) : Qt Tryz.prog glob 98 [.box 0 0, Qv t] (Wf left l once done) (OwnP left l once done t (ownS l t (Wv t))) := by
 have hsp := spot_spec t ht.1.kl
 obtain ⟨p, q, hpq⟩ := spotO_none hs
 rw [hpq] at hsp
 have hx0 := placeX_none hs
 rcases OwnP_cases left l once done t (ownS l t (Wv t)) with ⟨v, b, lf, e⟩ | e
 ·rw [e] at hp ⊢
  generalize Wv t = x at hp hx0
  have hEx := Qd x
  rw [hEx, Qd t, Qd v, hk] at hp
  rw [Qd t] at hsp
  subst hx0
  rw [show (Wh : T).k = 0 from rfl, show (Wh : T).n = 0 from rfl, show (Wh : T).a = 0 from rfl, show (Wh : T).ls = [] from rfl, show (Wh : T).ks = [] from rfl, List.map_nil, List.map_nil] at hp
  rw [Qd t]
  unfold Wf headD Cs Wj at hp ⊢
  refine Qt.movd Qe (Qq Wb Tryz.func98 rfl (Qy _ _ Tryz.func98 rfl (by decide)) rfl rfl ?_)
  (refine sR fun K hK => ?_; ((repeat (rw [Qa]; simp)); (try simp only [zs])); refine hK _ _ _ ?_; clear hK K)
  (refine sR fun K hK => ?_; ((repeat (rw [Qa]; simp)); (try simp only [zs])))
  refine cXp (hsp) ?_
  ((try simp only [Qb, Qc, Ql, Qi, Qk]); (repeat (rw [Qa]; simp)); (try simp only [zs]))
  (refine hK _ _ _ ?_; clear hK K)
  (refine Qf fun K hK => ?_; refine dR fun KT hKT => ?_; ((repeat (rw [Qh]; simp [hk])); (try simp only [Qm])))
  (refine hKT _ _ _ _ (by kernel_rfl) ?_; clear hKT KT; (try simp only [zs]))
  (refine hK _ _ _ ?_; clear hK K)
  refine Qf fun K1 hK1 => ?_
  (refine sR fun K hK => ?_; ((repeat (rw [Qa]; simp [hk])); (try simp only [zs])); refine hK _ _ _ ?_; clear hK K)
  refine pF rfl ?_
  refine Qs (hK1 _ _ _ ?_)
  (refine sR fun K hK => ?_; ((repeat (rw [Qa]; simp)); (try simp only [zs])); refine hK _ _ _ ?_; clear hK K)
  refine Qf fun K2 hK2 => ?_
  (refine sR fun K hK => ?_; ((repeat (rw [Qa]; simp)); (try simp only [zs])); refine hK _ _ _ ?_; clear hK K)
  refine pF rfl ?_
  refine Qs (hK2 _ _ _ ?_)
  (refine sR fun K hK => ?_; ((repeat (rw [Qa]; simp)); (try simp only [zs])))
  refine cXo [0, 1] true (hp) ?_
  (rintro o hc ⟨ho, rfl⟩; refine ⟨true, ?_⟩; rw [show told true o = _ from ho]; clear ho; simp [zz, okA, Qx, Qu, hOf, Qg, Out.ren, told, Out.fgt, upO, Qi, Qk])
  ((try simp only [Qb, Qc, Ql, Qi, Qk]); (repeat (rw [Qa]; simp)); (try simp only [zs]))
  (refine hK _ _ _ ?_; clear hK K)
  (refine Qj ?_; (try simp only [zs]); refine Wc.ret rfl (.inr ⟨[], by decide, by simp, ?_⟩); simp [Out.mov, Wk, Wl, Wr, D.mov, HO.mov, okM, Wn, Wg, zz, okA, Qx, Qu, hOf, Qg, Qp, Out.fgt, D.fgt, D.fgts])
  first | done | simp [Qd v]
 ·rw [e] at hp ⊢
  generalize Wv t = x at hp hx0
  have hEx := Qd x
  rw [hEx, Qd t, hk] at hp
  rw [Qd t] at hsp
  subst hx0
  rw [show (Wh : T).k = 0 from rfl, show (Wh : T).n = 0 from rfl, show (Wh : T).a = 0 from rfl, show (Wh : T).ls = [] from rfl, show (Wh : T).ks = [] from rfl, List.map_nil, List.map_nil] at hp
  rw [Qd t]
  unfold Wf headD Cs Wj goneD at hp
  unfold Wf headD Cs Wj goneD
  refine Qt.movd Qe (Qq Wb Tryz.func98 rfl (Qy _ _ Tryz.func98 rfl (by decide)) rfl rfl ?_)
  (refine sR fun K hK => ?_; ((repeat (rw [Qa]; simp)); (try simp only [zs])); refine hK _ _ _ ?_; clear hK K)
  (refine sR fun K hK => ?_; ((repeat (rw [Qa]; simp)); (try simp only [zs])))
  refine cXp (hsp) ?_
  ((try simp only [Qb, Qc, Ql, Qi, Qk]); (repeat (rw [Qa]; simp)); (try simp only [zs]))
  (refine hK _ _ _ ?_; clear hK K)
  (refine Qf fun K hK => ?_; refine dR fun KT hKT => ?_; ((repeat (rw [Qh]; simp [hk])); (try simp only [Qm])))
  (refine hKT _ _ _ _ (by kernel_rfl) ?_; clear hKT KT; (try simp only [zs]))
  (refine hK _ _ _ ?_; clear hK K)
  refine Qf fun K1 hK1 => ?_
  (refine sR fun K hK => ?_; ((repeat (rw [Qa]; simp [hk])); (try simp only [zs])); refine hK _ _ _ ?_; clear hK K)
  refine pF rfl ?_
  refine Qs (hK1 _ _ _ ?_)
  (refine sR fun K hK => ?_; ((repeat (rw [Qa]; simp)); (try simp only [zs])); refine hK _ _ _ ?_; clear hK K)
  refine Qf fun K2 hK2 => ?_
  (refine sR fun K hK => ?_; ((repeat (rw [Qa]; simp)); (try simp only [zs])); refine hK _ _ _ ?_; clear hK K)
  refine pF rfl ?_
  refine Qs (hK2 _ _ _ ?_)
  (refine sR fun K hK => ?_; ((repeat (rw [Qa]; simp)); (try simp only [zs])))
  refine cXo [0, 1] true (hp) ?_
  (rintro o hc ⟨rfl, rfl⟩; refine ⟨false, ?_⟩; simp [zz, okA, Qx, Qu, hOf, Qg, Out.ren, told, Out.fgt, upO, Qi, Qk])
  ((try simp only [zs]); refine Wc.pan (.inr ⟨[], by decide, by simp, ?_⟩); simp [Out.mov, Wk, Wl, Wr, D.mov, HO.mov, okM, Wn, Wg, zz, okA, Qx, Qu, hOf, Qg, Qp, Out.fgt, D.fgt, D.fgts])
theorem step_3 (left : Int) (l : List C) (once done : Bool) (hl : left <= 9223372036854775807) (t : T) (ht : okS t) (hk : t.k = 3) (hs : spot t = none) (hp : Qt Tryz.prog glob 91 [.box 0 0, Qv t, Qv (Wv t)] (Wf left l once done) (OwnP left l once done t (ownS l t (Wv t)))) : Qt Tryz.prog glob 98 [.box 0 0, Qv t] (Wf left l once done) (OwnP left l once done t (ownS l t (Wv t))) := by
 have hsp := spot_spec t ht.1.kl
 obtain ⟨p, q, hpq⟩ := spotO_none hs
 rw [hpq] at hsp
 have hx0 := placeX_none hs
 rcases OwnP_cases left l once done t (ownS l t (Wv t)) with ⟨v, b, lf, e⟩ | e
 ·rw [e] at hp ⊢
  generalize Wv t = x at hp hx0
  have hEx := Qd x
  rw [hEx, Qd t, Qd v, hk] at hp
  rw [Qd t] at hsp
  subst hx0
  rw [show (Wh : T).k = 0 from rfl, show (Wh : T).n = 0 from rfl, show (Wh : T).a = 0 from rfl, show (Wh : T).ls = [] from rfl, show (Wh : T).ks = [] from rfl, List.map_nil, List.map_nil] at hp
  rw [Qd t]
  unfold Wf headD Cs Wj at hp ⊢
  refine Qt.movd Qe (Qq Wb Tryz.func98 rfl (Qy _ _ Tryz.func98 rfl (by decide)) rfl rfl ?_)
  (refine sR fun K hK => ?_; ((repeat (rw [Qa]; simp)); (try simp only [zs])); refine hK _ _ _ ?_; clear hK K)
  (refine sR fun K hK => ?_; ((repeat (rw [Qa]; simp)); (try simp only [zs])))
  refine cXp (hsp) ?_
  ((try simp only [Qb, Qc, Ql, Qi, Qk]); (repeat (rw [Qa]; simp)); (try simp only [zs]))
  (refine hK _ _ _ ?_; clear hK K)
  (refine Qf fun K hK => ?_; refine dR fun KT hKT => ?_; ((repeat (rw [Qh]; simp [hk])); (try simp only [Qm])))
  (refine hKT _ _ _ _ (by kernel_rfl) ?_; clear hKT KT; (try simp only [zs]))
  (refine hK _ _ _ ?_; clear hK K)
  refine Qf fun K1 hK1 => ?_
  (refine sR fun K hK => ?_; ((repeat (rw [Qa]; simp [hk])); (try simp only [zs])); refine hK _ _ _ ?_; clear hK K)
  refine pF rfl ?_
  refine Qs (hK1 _ _ _ ?_)
  (refine sR fun K hK => ?_; ((repeat (rw [Qa]; simp)); (try simp only [zs])); refine hK _ _ _ ?_; clear hK K)
  refine Qf fun K2 hK2 => ?_
  (refine sR fun K hK => ?_; ((repeat (rw [Qa]; simp)); (try simp only [zs])); refine hK _ _ _ ?_; clear hK K)
  refine pF rfl ?_
  refine Qs (hK2 _ _ _ ?_)
  (refine sR fun K hK => ?_; ((repeat (rw [Qa]; simp)); (try simp only [zs])))
  refine cXo [0, 1] true (hp) ?_
  (rintro o hc ⟨ho, rfl⟩; refine ⟨true, ?_⟩; rw [show told true o = _ from ho]; clear ho; simp [zz, okA, Qx, Qu, hOf, Qg, Out.ren, told, Out.fgt, upO, Qi, Qk])
  ((try simp only [Qb, Qc, Ql, Qi, Qk]); (repeat (rw [Qa]; simp)); (try simp only [zs]))
  (refine hK _ _ _ ?_; clear hK K)
  (refine Qj ?_; (try simp only [zs]); refine Wc.ret rfl (.inr ⟨[], by decide, by simp, ?_⟩); simp [Out.mov, Wk, Wl, Wr, D.mov, HO.mov, okM, Wn, Wg, zz, okA, Qx, Qu, hOf, Qg, Qp, Out.fgt, D.fgt, D.fgts])
  first | done | simp [Qd v]
 ·rw [e] at hp ⊢
  generalize Wv t = x at hp hx0
  have hEx := Qd x
  rw [hEx, Qd t, hk] at hp
  rw [Qd t] at hsp
  subst hx0
  rw [show (Wh : T).k = 0 from rfl, show (Wh : T).n = 0 from rfl, show (Wh : T).a = 0 from rfl, show (Wh : T).ls = [] from rfl, show (Wh : T).ks = [] from rfl, List.map_nil, List.map_nil] at hp
  rw [Qd t]
  unfold Wf headD Cs Wj goneD at hp
  unfold Wf headD Cs Wj goneD
  refine Qt.movd Qe (Qq Wb Tryz.func98 rfl (Qy _ _ Tryz.func98 rfl (by decide)) rfl rfl ?_)
  (refine sR fun K hK => ?_; ((repeat (rw [Qa]; simp)); (try simp only [zs])); refine hK _ _ _ ?_; clear hK K)
  (refine sR fun K hK => ?_; ((repeat (rw [Qa]; simp)); (try simp only [zs])))
  refine cXp (hsp) ?_
  ((try simp only [Qb, Qc, Ql, Qi, Qk]); (repeat (rw [Qa]; simp)); (try simp only [zs]))
  (refine hK _ _ _ ?_; clear hK K)
  (refine Qf fun K hK => ?_; refine dR fun KT hKT => ?_; ((repeat (rw [Qh]; simp [hk])); (try simp only [Qm])))
  (refine hKT _ _ _ _ (by kernel_rfl) ?_; clear hKT KT; (try simp only [zs]))
  (refine hK _ _ _ ?_; clear hK K)
  refine Qf fun K1 hK1 => ?_
  (refine sR fun K hK => ?_; ((repeat (rw [Qa]; simp [hk])); (try simp only [zs])); refine hK _ _ _ ?_; clear hK K)
  refine pF rfl ?_
  refine Qs (hK1 _ _ _ ?_)
  (refine sR fun K hK => ?_; ((repeat (rw [Qa]; simp)); (try simp only [zs])); refine hK _ _ _ ?_; clear hK K)
  refine Qf fun K2 hK2 => ?_
  (refine sR fun K hK => ?_; ((repeat (rw [Qa]; simp)); (try simp only [zs])); refine hK _ _ _ ?_; clear hK K)
  refine pF rfl ?_
  refine Qs (hK2 _ _ _ ?_)
  (refine sR fun K hK => ?_; ((repeat (rw [Qa]; simp)); (try simp only [zs])))
  refine cXo [0, 1] true (hp) ?_
  (rintro o hc ⟨rfl, rfl⟩; refine ⟨false, ?_⟩; simp [zz, okA, Qx, Qu, hOf, Qg, Out.ren, told, Out.fgt, upO, Qi, Qk])
  ((try simp only [zs]); refine Wc.pan (.inr ⟨[], by decide, by simp, ?_⟩); simp [Out.mov, Wk, Wl, Wr, D.mov, HO.mov, okM, Wn, Wg, zz, okA, Qx, Qu, hOf, Qg, Qp, Out.fgt, D.fgt, D.fgts])
theorem step_24n (left : Int) (l : List C) (once done : Bool) (hl : left <= 9223372036854775807) (t : T) (ht : okS t) (hk : t.k = 24) (hs : spot t = none) : Qt Tryz.prog glob 98 [.box 0 0, Qv t] (Wf left l once done) (OwnP left l once done t (ownS l t (Wv t))) := by
 have hw : ownS l t (Wv t) = none := by
  unfold ownS
  rw [if_neg (by omega), if_neg (by omega), if_neg (by omega), if_neg (by omega), if_neg (by omega), if_neg (by omega), if_neg (by rw [hs]; simp)]
 rw [hw]
 have hsp := spot_spec t ht.1.kl
 obtain ⟨p, q, hpq⟩ := spotO_none hs
 rw [hpq] at hsp
 unfold OwnP Wf headD Cs Wj
 rw [Qd t] at hsp
 rw [Qd t]
 refine Qt.movd Qe (Qq Wb Tryz.func98 rfl (Qy _ _ Tryz.func98 rfl (by decide)) rfl rfl ?_)
 (refine sR fun K hK => ?_; ((repeat (rw [Qa]; simp)); (try simp only [zs])); refine hK _ _ _ ?_; clear hK K)
 (refine sR fun K hK => ?_; ((repeat (rw [Qa]; simp)); (try simp only [zs])))
 refine cXp (hsp) ?_
 ((try simp only [Qb, Qc, Ql, Qi, Qk]); (repeat (rw [Qa]; simp)); (try simp only [zs]))
 (refine hK _ _ _ ?_; clear hK K)
 (refine Qf fun K hK => ?_; refine dR fun KT hKT => ?_; ((repeat (rw [Qh]; simp [hk])); (try simp only [Qm])))
 (refine hKT _ _ _ _ (by kernel_rfl) ?_; clear hKT KT; (try simp only [zs]))
 (refine hK _ _ _ ?_; clear hK K)
 refine Qf fun K1 hK1 => ?_
 (refine sR fun K hK => ?_; ((repeat (rw [Qa]; simp [hk])); (try simp only [zs])); refine hK _ _ _ ?_; clear hK K)
 refine pT rfl ?_
 (refine sR fun K hK => ?_; ((repeat (rw [Qa]; simp)); (try simp only [zs])); refine hK _ _ _ ?_; clear hK K)
 (refine Qj ?_; (try simp only [zs]); refine Wc.ret rfl (.inr ⟨[], by decide, by simp, ?_⟩); simp [Out.mov, Wk, Wl, Wr, D.mov, HO.mov, okM, Wn, Wg, zz, okA, Qx, Qu, hOf, Qg, Qp, Out.fgt, D.fgt, D.fgts])
 first | done | simp [Qd t, hk]
theorem find_no (k : Int) (h6 : ¬ k = 6) (h14 : ¬ k = 14) (h15 : ¬ k = 15) (h7 : ¬ k = 7) (h3 : ¬ k = 3) (h18 : ¬ k = 18) (h21 : ¬ k = 21) (h24 : ¬ k = 24) : findD (.int .i64 k) [(.int .i64 6, .fn (.func 88) [.box 0 0] []), (.int .i64 14, .fn (.func 89) [.box 0 0] []), (.int .i64 15, .fn (.func 89) [.box 0 0] []), (.int .i64 7, .fn (.func 90) [.box 0 0] []),
 (.int .i64 3, .fn (.func 91) [.box 0 0] []), (.int .i64 18, .fn (.func 92) [.box 0 0] []), (.int .i64 21, .fn (.func 93) [.box 0 0] []), (.int .i64 24, .fn (.func 94) [.box 0 0] [])] = none := by
 simp [findD, keyEq, h6, h14, h15, h7, h3, h18, h21, h24]
theorem step_no (left : Int) (l : List C) (once done : Bool) (hl : left <= 9223372036854775807) (t : T) (ht : okS t) (h6 : ¬ t.k = 6) (h14 : ¬ t.k = 14) (h15 : ¬ t.k = 15) (h7 : ¬ t.k = 7) (h3 : ¬ t.k = 3) (h18 : ¬ t.k = 18) (h21 : ¬ t.k = 21) (h24 : ¬ t.k = 24) : Qt Tryz.prog glob 98 [.box 0 0, Qv t] (Wf left l once done) (OwnP left l once done t (ownS l t (Wv t))) := by
 have hw : ownS l t (Wv t) = none := by
  unfold ownS
  rw [if_neg h6, if_neg (by omega), if_neg h7, if_neg h3, if_neg h18, if_neg h21, if_neg (fun h => h24 h.1)]
 rw [hw]
 have hs : spot t = none := by
  unfold spot
  rw [if_neg h6, if_neg (by omega), if_neg h18, if_neg h21, if_neg (fun h => h24 h.1)]
 have hfd := find_no t.k h6 h14 h15 h7 h3 h18 h21 h24
 have hsp := spot_spec t ht.1.kl
 obtain ⟨p, q, hpq⟩ := spotO_none hs
 rw [hpq] at hsp
 unfold OwnP Wf headD Cs Wj
 rw [Qd t] at hsp
 rw [Qd t]
 refine Qt.movd Qe (Qq Wb Tryz.func98 rfl (Qy _ _ Tryz.func98 rfl (by decide)) rfl rfl ?_)
 (refine sR fun K hK => ?_; ((repeat (rw [Qa]; simp)); (try simp only [zs])); refine hK _ _ _ ?_; clear hK K)
 (refine sR fun K hK => ?_; ((repeat (rw [Qa]; simp)); (try simp only [zs])))
 refine cXp (hsp) ?_
 ((try simp only [Qb, Qc, Ql, Qi, Qk]); (repeat (rw [Qa]; simp)); (try simp only [zs]))
 (refine hK _ _ _ ?_; clear hK K)
 (refine Qf fun K hK => ?_; refine dR fun KT hKT => ?_; ((repeat (rw [Qh]; simp [hfd, isIntK, h24])); (try simp only [Qm])))
 (refine hKT _ _ _ _ (by kernel_rfl) ?_; clear hKT KT; (try simp only [zs]))
 (refine hK _ _ _ ?_; clear hK K)
 refine Qf fun K1 hK1 => ?_
 (refine sR fun K hK => ?_; ((repeat (rw [Qa]; simp [hfd, isIntK, h24])); (try simp only [zs])); refine hK _ _ _ ?_; clear hK K)
 refine pT rfl ?_
 (refine sR fun K hK => ?_; ((repeat (rw [Qa]; simp)); (try simp only [zs])); refine hK _ _ _ ?_; clear hK K)
 (refine Qj ?_; (try simp only [zs]); refine Wc.ret rfl (.inr ⟨[], by decide, by simp, ?_⟩); simp [Out.mov, Wk, Wl, Wr, D.mov, HO.mov, okM, Wn, Wg, zz, okA, Qx, Qu, hOf, Qg, Qp, Out.fgt, D.fgt, D.fgts])
 first | done | simp [Qd t]
theorem step_spec (left : Int) (l : List C) (once done : Bool) (hl : left <= 9223372036854775807) (hcs : okCs l) (t : T) (ht : okS t) : Qt Tryz.prog glob 98 [.box 0 0, Qv t] (Wf left l once done) (OwnP left l once done t (ownS l t (Wv t))) := by
 have hz : okS Wh := ⟨zero_ok, by rw [pot_zero]; unfold PM; omega⟩
 have hx : okS (Wv t) := by
  rcases spot_of t with h | ⟨i, many, h⟩
  ·rw [placeX_none h]; exact hz
  ·rw [placeX_some h]; exact ht.kid i
 by_cases h6 : t.k = 6
 ·exact step_6 left l once done hl t ht h6 (i := 0) (many := 2) (by unfold spot; rw [if_pos h6]) (happ_spec left l once done hl t _ ht hx h6)
 by_cases h14 : t.k = 14
 ·exact step_14 left l once done hl t ht h14 (i := 0) (many := 1) (by unfold spot; rw [if_neg h6, if_pos (.inl h14)]) (hhalf_spec left l once done hl t _ hx (.inl h14))
 by_cases h15 : t.k = 15
 ·exact step_15 left l once done hl t ht h15 (i := 0) (many := 1) (by unfold spot; rw [if_neg h6, if_pos (.inr h15)]) (hhalf_spec left l once done hl t _ hx (.inr h15))
 have h145 : ¬ (t.k = 14 \/ t.k = 15) := by omega
 by_cases h18 : t.k = 18
 ·exact step_18 left l once done hl t ht h18 (i := 4) (many := 5) (by unfold spot; rw [if_neg h6, if_neg h145, if_pos h18]) (htree_spec left l once done hl t _ ht hx h18)
 by_cases h21 : t.k = 21
 ·exact step_21 left l once done hl t ht h21 (i := 5) (many := 6) (by unfold spot; rw [if_neg h6, if_neg h145, if_neg h18, if_pos h21]) (hpath_spec left l once done hl t _ ht h21)
 by_cases h24 : t.k = 24
 ·rcases spot_of t with h | ⟨i, many, h⟩
  ·exact step_24n left l once done hl t ht h24 h
  ·exact step_24 left l once done hl t ht h24 h (hbranch_spec left l once done hl t _ ht hx h24 (by rw [h]; rfl))
 have hs : spot t = none := by unfold spot; rw [if_neg h6, if_neg h145, if_neg h18, if_neg h21, if_neg (fun h => h24 h.1)]
 by_cases h7 : t.k = 7
 ·exact step_7 left l once done hl t ht h7 hs (hlet_spec left l once done hl t _ ht h7)
 by_cases h3 : t.k = 3
 ·exact step_3 left l once done hl t ht h3 hs (hconst_spec left l once done hl hcs t _ ht h3)
 exact step_no left l once done hl t ht h6 h14 h15 h7 h3 h18 h21 h24
theorem head_spec {l : List C} (hcs : okCs l) (N : Nat) : ∀ (k : Nat) (t : T) (left : Int) (done : Bool) (P : Out -> List HO -> Prop), 0 <= left -> left.toNat = N -> mu t = k -> okT t -> t.pot + 7 * left.toNat <= PM -> RunH l t left done P ->
  Qt Tryz.prog glob 49 [.box 0 0, Qv t] (Wf left l false done) P := by
 induction N using Nat.strongRecOn with
 | ind N ihN =>
 intro k
 induction k using Nat.strongRecOn with
 | ind k ihk =>
 intro t left done P h0 hN hk ht hpot hrun
 have hrec : ∀ (t' : T) (lf : Int) (d : Bool) (P' : Out -> List HO -> Prop), 0 <= lf -> (lf < left \/ (lf = left /\ mu t' < mu t)) -> okT t' -> t'.pot + 7 * lf.toNat <= PM -> RunH l t' lf d P' -> Qt Tryz.prog glob 49 [.box 0 0, Qv t'] (Wf lf l false d) P' := by
  intro t' lf d P' g0 gc gt gp gr
  rcases gc with gc | ⟨rfl, gc⟩
  ·exact ihN lf.toNat (by omega) (mu t') t' lf d P' g0 rfl rfl gt gp gr
  ·exact ihk (mu t') (by omega) t' lf d P' g0 hN rfl gt gp gr
 clear ihN ihk
 rw [Qd t]
 unfold Wf headD Cs Wj
 refine Qt.movd Qe (Qq Wb Tryz.func49 rfl (Qy _ _ Tryz.func49 rfl (by decide)) rfl rfl ?_)
 (refine sR fun K hK => ?_; ((repeat (rw [Qa]; simp)); (try simp only [zs])); refine hK _ _ _ ?_; clear hK K)
 refine Xh ?_
 refine wpD_loopMJ Qe [5, 6, 7, 8, 9, 10, 11, 12, 13, 14, 15, 16, 17, 18, 19, 20, 21, 22, 23, 24, 25, 26, 27, 28, 29, 30, 31, 32, 33, 34, 35, 36, 37, 38, 39, 40, 41, 42, 43, 44, 45, 46, 47, 48, 49, 50, 51, 52, 53, 54] [] (fun n ys hl => ∃ (t' : T) (lf : Int) (d : Bool), ys = [] /\ n = lf.toNat /\ 0 <= lf /\ (lf = left /\ t' = t \/ lf < left) /\ okT t' /\ t'.pot + 7 * lf.toNat <= PM /\ RunH l t' lf d P /\ hl = [.cells 93 [.int .i64 lf, .slice (l.map encC) .any, .bool false, .bool d, .map 1], .mp [(.int .i64 6, .fn (.func 88) [.box 0 0] []), (.int .i64 14, .fn (.func 89) [.box 0 0] []), (.int .i64 15, .fn (.func 89) [.box 0 0] []), (.int .i64 7, .fn (.func 90) [.box 0 0] []), (.int .i64 3, .fn (.func 91) [.box 0 0] []), (.int .i64 18, .fn (.func 92) [.box 0 0] []), (.int .i64 21, .fn (.func 93) [.box 0 0] []), (.int .i64 24, .fn (.func 94) [.box 0 0] [])], .cells 27 [.int .i64 t'.k, .int .i64 t'.n, .int .i64 t'.a, .slice (t'.ls.map Wp) .any, .slice (t'.ks.map Qv) .any], .cells 27 [.int .i64 0, .int .i64 0, .int .i64 0, .slice [] .full, .slice [] .full]]) (left.toNat) (by kernel_rfl) ?_ ?_
 ·exact ⟨t, left, done, rfl, rfl, h0, .inl ⟨rfl, rfl⟩, ht, hpot, hrun, rfl⟩
 ·rintro n ys hl A hA hA2 ⟨t', lf, d, rfl, hn, h0', hcase, ht', hp', hrun', rfl⟩
  have hle : lf <= left := by omega
  have hlf : lf <= 9223372036854775807 := by unfold PM at hp'; omega
  simp only [Qr, List.set, List.map_cons, List.map_nil, List.cons_append, List.nil_append]
  refine Xh ?_
  refine wpD_seqE (α := T × Int × Bool) [5, 6, 7, 10, 11, 12, 13, 14, 15, 16, 17, 18, 19, 20, 21, 22, 23, 24, 25, 26, 27, 28, 29, 30, 31, 32, 33, 34, 35] (fun _ => [5, 6, 7, 10, 11, 12, 13, 14, 15, 16, 17, 18, 19, 20, 21, 22, 23, 24, 25, 26, 27, 28, 29, 30, 31, 32, 33, 34, 35].map fun _ => .junk) (fun a => [.cells 93 [.int .i64 a.2.1, .slice (l.map encC) .any, .bool false, .bool a.2.2, .map 1], .mp [(.int .i64 6, .fn (.func 88) [.box 0 0] []), (.int .i64 14, .fn (.func 89) [.box 0 0] []), (.int .i64 15, .fn (.func 89) [.box 0 0] []), (.int .i64 7, .fn (.func 90) [.box 0 0] []), (.int .i64 3, .fn (.func 91) [.box 0 0] []), (.int .i64 18, .fn (.func 92) [.box 0 0] []), (.int .i64 21, .fn (.func 93) [.box 0 0] []), (.int .i64 24, .fn (.func 94) [.box 0 0] [])], .cells 27 [.int .i64 a.1.k, .int .i64 a.1.n, .int .i64 a.1.a, .slice (a.1.ls.map Wp) .any, .slice (a.1.ks.map Qv) .any], .cells 27 [.int .i64 0, .int .i64 0, .int .i64 0, .slice [] .full, .slice [] .full]]) (fun a => 0 <= a.2.1 /\ a.2.1 <= lf /\ okT a.1 /\ a.1.pot + 7 * a.2.1.toNat <= PM /\ RunH l a.1 a.2.1 a.2.2 P /\ Ready l a.1) ?_ ?_
  rotate_left
  ·intro K hK0
   rcases spot_of t' with hs | ⟨i, many, hs⟩
   ·obtain ⟨p, q, hpq⟩ := spotO_none hs
    have hsp := spot_spec t' ht'.kl
    rw [hpq, Qd t'] at hsp
    (refine sR fun K hK => ?_; ((repeat (rw [Qa]; simp)); (try simp only [zs])))
    refine cXp (hsp) ?_
    ((try simp only [Qb, Qc, Ql, Qi, Qk]); (repeat (rw [Qa]; simp)); (try simp only [zs]))
    (refine hK _ _ _ ?_; clear hK K)
    (refine sR fun K hK => ?_; ((repeat (rw [Qa]; simp)); (try simp only [zs])); refine hK _ _ _ ?_; clear hK K)
    refine pF rfl ?_
    refine Qs (hK0 (t', lf, d) _ ⟨h0', Int.le_refl _, ht', hp', hrun', .none hs⟩ ?_)
    simp [leT, Qr]
   ·have hsp := spot_spec t' ht'.kl
    rw [spotO_some hs ht'.kl, Qd t'] at hsp
    have hki := Xs t' i i rfl
    have hmu := mu_kid hs
    have hkp := kid_pot t' i
    have hcs2 : lf < left \/ (lf = left /\ mu (t'.kid i) < mu t) := by
     rcases hcase with ⟨e1, e2⟩ | h
     ·subst e2; exact .inr ⟨e1, hmu⟩
     ·exact .inl h
    rcases hrun'.place h0' hs with ⟨q, hq, hP⟩ | ⟨m, v, hv, hm, hrd, hrun2⟩
    ·subst hP
     have hre := hrec (t'.kid i) lf d GoneP h0' hcs2 (kid_ok ht' i) (by omega) (.gone hq)
     generalize t'.kid i = y at hki hre
     rw [Qd t', Qd y] at hki
     rw [Qd y] at hre
     unfold GoneP Wf headD Cs Wj goneD at hre
     (refine sR fun K hK => ?_; ((repeat (rw [Qa]; simp)); (try simp only [zs])))
     refine cXp (hsp) ?_
     ((try simp only [Qb, Qc, Ql, Qi, Qk]); (repeat (rw [Qa]; simp)); (try simp only [zs]))
     (refine hK _ _ _ ?_; clear hK K)
     (refine sR fun K hK => ?_; ((repeat (rw [Qa]; simp)); (try simp only [zs])); refine hK _ _ _ ?_; clear hK K)
     refine pT rfl ?_
     (refine Qf fun K hK => ?_; refine dR fun KT hKT => ?_; ((repeat (rw [Qh]; simp)); (try simp only [Qm])))
     refine cYp (hki) ?_
     ((try simp only [Qn, Qo, Ql, Qi, Qk]); (repeat (rw [Qh]; simp)); (try simp only [Qm]))
     refine cYo [0, 1] true false (hre) (fun o h e => e) ?_; simp [zz, okA, Qx, Qu, hOf, Qg, Out.ren, upO, Qu, rdO]
     (try simp only [Qn, Qo, Ql, Qi, Qk])
     (rw [Qh, if_neg (Bool.eq_false_iff.mp (by kernel_rfl))]; simp)
     (rw [Qh, if_neg (Bool.eq_false_iff.mp (by kernel_rfl))]; simp)
     ((try simp only [Qn, Qo, Ql, Qi, Qk]); (repeat (refine wpT_late _ _ _ _ (by kernel_rfl) ?_; simp only [Ql, List.set, List.nil_append, List.cons_append, Nat.reduceAdd])); (try simp only [Qm]))
     (refine hKT _ _ _ _ (by kernel_rfl) ?_; clear hKT KT; (try simp only [zs]))
     simp [killHl]
     ((try simp only [zs]); refine Wc.pan (.inr ⟨[], by decide, by simp, ?_⟩); simp [Out.mov, Wk, Wl, Wr, D.mov, HO.mov, okM, Wn, Wg, zz, okA, Qx, Qu, hOf, Qg, Qp, Out.fgt, D.fgt, D.fgts])
     exact ⟨rfl, rfl⟩
    ·have hre := hrec (t'.kid i) lf d _ h0' hcs2 (kid_ok ht' i) (by omega) (.fin hv hm)
     have hw := with_spec t' v i many (spot_many hs ht')
     have hvo := hv.ok hcs.ok (kid_ok ht' i)
     have hvp := hv.pot
     have hwp := with_pot (x := v) hs
     have hwo := with_ok (i := i) ht' hvo (spot_many hs ht')
     generalize hy : t'.kid i = y at hki hre hvp hwp hkp
     generalize hu : t'.withT v i many = u at hw hrd hrun2 hwp hwo
     rw [Qd t', Qd y] at hki
     unfold RetP Wf headD Cs Wj at hre
     rw [Qd y, Qd v] at hre
     rw [Qd t', Qd v, Qd u] at hw
     generalize hd1 : (d || decide (0 < m)) = d1 at hre hrun2
     (refine sR fun K hK => ?_; ((repeat (rw [Qa]; simp)); (try simp only [zs])))
     refine cXp (hsp) ?_
     ((try simp only [Qb, Qc, Ql, Qi, Qk]); (repeat (rw [Qa]; simp)); (try simp only [zs]))
     (refine hK _ _ _ ?_; clear hK K)
     (refine sR fun K hK => ?_; ((repeat (rw [Qa]; simp)); (try simp only [zs])); refine hK _ _ _ ?_; clear hK K)
     refine pT rfl ?_
     (refine Qf fun K hK => ?_; refine dR fun KT hKT => ?_; ((repeat (rw [Qh]; simp)); (try simp only [Qm])))
     refine cYp (hki) ?_
     ((try simp only [Qn, Qo, Ql, Qi, Qk]); (repeat (rw [Qh]; simp)); (try simp only [Qm]))
     refine cYo [0, 1] true true (hre) (fun o h e => e) ?_; simp [zz, okA, Qx, Qu, hOf, Qg, Out.ren, upO, Qu, rdO]
     ((try simp only [Qn, Qo, Ql, Qi, Qk]); (repeat (rw [Qh]; simp)); (try simp only [Qm]))
     refine cYp (hw) ?_
     ((try simp only [Qn, Qo, Ql, Qi, Qk]); (repeat (rw [Qh]; simp)); (try simp only [Qm]))
     (refine hKT _ _ _ _ (by kernel_rfl) ?_; clear hKT KT; (try simp only [zs]))
     (refine hK _ _ _ ?_; clear hK K)
     (refine sR fun K hK => ?_; ((repeat (rw [Qa]; simp)); (try simp only [zs])); refine hK _ _ _ ?_; clear hK K)
     refine pF rfl ?_
     refine Qs (hK0 (u, lf - m, d1) _ ⟨by simp only; omega, by simp only; omega, hwo, by simp only; omega, hrun2, hrd⟩ ?_)
     simp [leT, Qr]
  ·rintro ⟨t1, lf1, d1⟩ ⟨g0, gle, gt, gp, grun, grd⟩
   simp only at g0 gle gt gp grun grd
   simp only [Qr, List.set, List.map_cons, List.map_nil, List.cons_append, List.nil_append]
   have hst := step_spec lf1 l false d1 (by omega) hcs t1 ⟨gt, by omega⟩
   have hown := grun.own grd
   have hrd := grd.1
   cases ho : ownS l t1 (Wv t1) with
   | none =>
    rw [ho] at hst hown
    simp only at hown
    subst hown
    unfold OwnP Wf headD Cs Wj at hst
    rw [Qd t1] at hst
    (refine sR fun K hK => ?_; ((repeat (rw [Qa]; simp)); (try simp only [zs])))
    refine cXo [0, 1] true (hst) ?_
    (rintro o hc ⟨ho, rfl⟩; refine ⟨true, ?_⟩; rw [show told true o = _ from ho]; clear ho; simp [zz, okA, Qx, Qu, hOf, Qg, Out.ren, told, Out.fgt, upO, Qi, Qk])
    ((try simp only [Qb, Qc, Ql, Qi, Qk]); (repeat (rw [Qa]; simp)); (try simp only [zs]))
    (refine hK _ _ _ ?_; clear hK K)
    refine Qf fun K1 hK1 => ?_
    (refine sR fun K hK => ?_; ((repeat (rw [Qa]; simp)); (try simp only [zs])); refine hK _ _ _ ?_; clear hK K)
    refine pT rfl ?_
    (refine sR fun K hK => ?_; ((repeat (rw [Qa]; simp)); (try simp only [zs])); refine hK _ _ _ ?_; clear hK K)
    (refine Qj ?_; (try simp only [zs]); refine Wc.ret rfl (.inr ⟨[], by decide, by simp, ?_⟩); simp [Out.mov, Wk, Wl, Wr, D.mov, HO.mov, okM, Wn, Wg, zz, okA, Qx, Qu, hOf, Qg, Qp, Out.fgt, D.fgt, D.fgts])
    refine ⟨?_, rfl⟩
    simp [Out.fgt, Qd t1, D.fgt, D.fgts]
   | some p =>
    obtain ⟨w, c⟩ := p
    rw [ho] at hst hown hrd
    simp only at hown
    unfold OwnP at hst
    simp only at hst
    by_cases hc : (c : Int) <= lf1
    ·rw [if_pos hc] at hown
     rw [Cost_ok hc] at hst
     unfold Wf headD Cs Wj at hst
     rw [Qd t1, Qd w] at hst
     have hpos := hstep_pos t1 hrd
     have hwo := hstep_ok hcs.ok t1 gt hrd
     have hwp := hstep_pot t1 hrd
     (refine sR fun K hK => ?_; ((repeat (rw [Qa]; simp)); (try simp only [zs])))
     refine cXo [0, 1] true (hst) ?_
     (rintro o hc ⟨ho, rfl⟩; refine ⟨true, ?_⟩; rw [show told true o = _ from ho]; clear ho; simp [zz, okA, Qx, Qu, hOf, Qg, Out.ren, told, Out.fgt, upO, Qi, Qk])
     ((try simp only [Qb, Qc, Ql, Qi, Qk]); (repeat (rw [Qa]; simp)); (try simp only [zs]))
     (refine hK _ _ _ ?_; clear hK K)
     refine Qf fun K1 hK1 => ?_
     (refine sR fun K hK => ?_; ((repeat (rw [Qa]; simp)); (try simp only [zs])); refine hK _ _ _ ?_; clear hK K)
     refine pF rfl ?_
     refine Qs (hK1 _ _ _ ?_)
     (refine sR fun K hK => ?_; ((repeat (rw [Qa]; simp)); (try simp only [zs])); refine hK _ _ _ ?_; clear hK K)
     (refine sR fun K hK => ?_; ((repeat (rw [Qa]; simp)); (try simp only [zs])); refine hK _ _ _ ?_; clear hK K)
     refine pF rfl ?_
     refine Qs ?_
     (refine hA2 ([2, 3]) ((lf1 - c).toNat) _ _ _ (LeT.refl _) (by decide) (by simp) (by omega) (by simp [Wk, Wl, Wr, D.mov, HO.mov, okM, Wn, Wg, zz, okA, Qx, Qu, hOf, Qg, Qr]) ?_; simp [Wk, Wl, Wr, D.mov, HO.mov, okM, Wn, Wg, zz, okA, Qx, Qu, hOf, Qg])
     exact ⟨w, lf1 - c, by omega, by omega, .inr (by omega), hwo, by omega, hown, rfl, rfl, rfl, rfl, rfl, rfl⟩
    ·rw [if_neg hc] at hown
     subst hown
     rw [Cost_no hc] at hst
     unfold Wf headD Cs Wj goneD at hst
     rw [Qd t1] at hst
     (refine sR fun K hK => ?_; ((repeat (rw [Qa]; simp)); (try simp only [zs])))
     refine cXo [0, 1] true (hst) ?_
     (rintro o hc ⟨rfl, rfl⟩; refine ⟨false, ?_⟩; simp [zz, okA, Qx, Qu, hOf, Qg, Out.ren, told, Out.fgt, upO, Qi, Qk])
     ((try simp only [zs]); refine Wc.pan (.inr ⟨[], by decide, by simp, ?_⟩); simp [Out.mov, Wk, Wl, Wr, D.mov, HO.mov, okM, Wn, Wg, zz, okA, Qx, Qu, hOf, Qg, Qp, Out.fgt, D.fgt, D.fgts])
     exact ⟨rfl, rfl⟩
def OneP (l : List C) (t : T) (left : Int) : Out -> List HO -> Prop := match Wo l t with
 | none => fun o hc => o.fgt = .ret (Qv t.trunc) /\ hc = Wf left l true false
 | some p => if (p.2 : Int) <= left then fun o hc => o.fgt = .ret (Qv p.1) /\ hc = Wf (left - p.2) l true true else GoneP
theorem OneP_none {l : List C} {t : T} {left : Int} (h : Wo l t = none) : OneP l t left = fun o hc => o.fgt = .ret (Qv t.trunc) /\ hc = Wf left l true false := by unfold OneP; rw [h]
theorem OneP_some {l : List C} {t u : T} {c : Nat} {left : Int} (h : Wo l t = some (u, c)) (hc : (c : Int) <= left) : OneP l t left = fun o hc => o.fgt = .ret (Qv u) /\ hc = Wf (left - c) l true true := by unfold OneP; rw [h]; exact if_pos hc
theorem OneP_gone {l : List C} {t u : T} {c : Nat} {left : Int} (h : Wo l t = some (u, c)) (hc : ¬ (c : Int) <= left) : OneP l t left = GoneP := by unfold OneP; rw [h]; exact if_neg hc
theorem headO_spec {l : List C} (hcs : okCs l) (left : Int) (hlf : left <= 9223372036854775807) (k : Nat) : ∀ (t : T), mu t = k -> okS t -> Qt Tryz.prog glob 49 [.box 0 0, Qv t] (Wf left l true false) (OneP l t left) := by
 induction k using Nat.strongRecOn with
 | ind k ihk =>
 intro t hk ht
 rw [Qd t]
 unfold Wf headD Cs Wj
 refine Qt.movd Qe (Qq Wb Tryz.func49 rfl (Qy _ _ Tryz.func49 rfl (by decide)) rfl rfl ?_)
 (refine sR fun K hK => ?_; ((repeat (rw [Qa]; simp)); (try simp only [zs])); refine hK _ _ _ ?_; clear hK K)
 refine Xh ?_
 refine wpD_loopMJ Qe [5, 6, 7, 8, 9, 10, 11, 12, 13, 14, 15, 16, 17, 18, 19, 20, 21, 22, 23, 24, 25, 26, 27, 28, 29, 30, 31, 32, 33, 34, 35, 36, 37, 38, 39, 40, 41, 42, 43, 44, 45, 46, 47, 48, 49, 50, 51, 52, 53, 54] [] (fun n ys hl => ys = [] /\ hl = [.cells 93 [.int .i64 left, .slice (l.map encC) .any, .bool true, .bool false, .map 1], .mp [(.int .i64 6, .fn (.func 88) [.box 0 0] []), (.int .i64 14, .fn (.func 89) [.box 0 0] []), (.int .i64 15, .fn (.func 89) [.box 0 0] []), (.int .i64 7, .fn (.func 90) [.box 0 0] []), (.int .i64 3, .fn (.func 91) [.box 0 0] []), (.int .i64 18, .fn (.func 92) [.box 0 0] []), (.int .i64 21, .fn (.func 93) [.box 0 0] []), (.int .i64 24, .fn (.func 94) [.box 0 0] [])], .cells 27 [.int .i64 t.k, .int .i64 t.n, .int .i64 t.a, .slice (t.ls.map Wp) .any, .slice (t.ks.map Qv) .any], .cells 27 [.int .i64 0, .int .i64 0, .int .i64 0, .slice [] .full, .slice [] .full]]) (0) (by kernel_rfl) ?_ ?_
 ·exact ⟨rfl, rfl⟩
 ·rintro n ys hl A hA hA2 ⟨rfl, rfl⟩
  simp only [Qr, List.set, List.map_cons, List.map_nil, List.cons_append, List.nil_append]
  refine Xh ?_
  refine wpD_seqE (α := T) [5, 6, 7, 10, 11, 12, 13, 14, 15, 16, 17, 18, 19, 20, 21, 22, 23, 24, 25, 26, 27, 28, 29, 30, 31, 32, 33, 34, 35] (fun _ => [5, 6, 7, 10, 11, 12, 13, 14, 15, 16, 17, 18, 19, 20, 21, 22, 23, 24, 25, 26, 27, 28, 29, 30, 31, 32, 33, 34, 35].map fun _ => .junk) (fun a => [.cells 93 [.int .i64 left, .slice (l.map encC) .any, .bool true, .bool false, .map 1], .mp [(.int .i64 6, .fn (.func 88) [.box 0 0] []), (.int .i64 14, .fn (.func 89) [.box 0 0] []), (.int .i64 15, .fn (.func 89) [.box 0 0] []), (.int .i64 7, .fn (.func 90) [.box 0 0] []), (.int .i64 3, .fn (.func 91) [.box 0 0] []), (.int .i64 18, .fn (.func 92) [.box 0 0] []), (.int .i64 21, .fn (.func 93) [.box 0 0] []), (.int .i64 24, .fn (.func 94) [.box 0 0] [])], .cells 27 [.int .i64 a.k, .int .i64 a.n, .int .i64 a.a, .slice (a.ls.map Wp) .any, .slice (a.ks.map Qv) .any], .cells 27 [.int .i64 0, .int .i64 0, .int .i64 0, .slice [] .full, .slice [] .full]]) (fun a => okS a /\ Wo l t = ownS l a (Wv a) /\ (Wo l t = none -> t.trunc = a)) ?_ ?_
  rotate_left
  ·intro K hK0
   rcases spot_of t with hs | ⟨i, many, hs⟩
   ·obtain ⟨p, q, hpq⟩ := spotO_none hs
    have hsp := spot_spec t ht.1.kl
    rw [hpq, Qd t] at hsp
    have hrd := Ready.none (l := l) hs
    (refine sR fun K hK => ?_; ((repeat (rw [Qa]; simp)); (try simp only [zs])))
    refine cXp (hsp) ?_
    ((try simp only [Qb, Qc, Ql, Qi, Qk]); (repeat (rw [Qa]; simp)); (try simp only [zs]))
    (refine hK _ _ _ ?_; clear hK K)
    (refine sR fun K hK => ?_; ((repeat (rw [Qa]; simp)); (try simp only [zs])); refine hK _ _ _ ?_; clear hK K)
    refine pF rfl ?_
    refine Qs (hK0 t _ ⟨ht, hrd.1, fun _ => hrd.2⟩ ?_)
    simp [leT, Qr]
   ·have hsp := spot_spec t ht.1.kl
    rw [spotO_some hs ht.1.kl, Qd t] at hsp
    have hki := Xs t i i rfl
    have hmu := mu_kid hs
    have hre := ihk (mu (t.kid i)) (by omega) (t.kid i) rfl (ht.kid i)
    have hmy := spot_many hs ht.1
    cases hst : Wo l (t.kid i) with
    | none =>
     have hkst := kid_stuck hs hst
     have hw := with_spec t (t.kid i).trunc i many hmy
     rw [OneP_none hst] at hre
     have hwp := with_pot (x := (t.kid i).trunc) hs
     have htp := trunc_pot (t.kid i)
     have hwo := with_ok (i := i) ht.1 (trunc_ok _ (kid_ok ht.1 i)) hmy
     have hpl := place_with (x := (t.kid i).trunc) hs
     have hpot := ht.2
     generalize (t.kid i).trunc = v at hre hw hkst hwp htp hwo hpl
     generalize t.kid i = y at hki hre hwp htp
     generalize hu : t.withT v i many = u at hw hkst hwp hwo hpl
     rw [Qd t, Qd y] at hki
     unfold Wf headD Cs Wj at hre
     rw [Qd y, Qd v] at hre
     rw [Qd t, Qd v, Qd u] at hw
     (refine sR fun K hK => ?_; ((repeat (rw [Qa]; simp)); (try simp only [zs])))
     refine cXp (hsp) ?_
     ((try simp only [Qb, Qc, Ql, Qi, Qk]); (repeat (rw [Qa]; simp)); (try simp only [zs]))
     (refine hK _ _ _ ?_; clear hK K)
     (refine sR fun K hK => ?_; ((repeat (rw [Qa]; simp)); (try simp only [zs])); refine hK _ _ _ ?_; clear hK K)
     refine pT rfl ?_
     (refine Qf fun K hK => ?_; refine dR fun KT hKT => ?_; ((repeat (rw [Qh]; simp)); (try simp only [Qm])))
     refine cYp (hki) ?_
     ((try simp only [Qn, Qo, Ql, Qi, Qk]); (repeat (rw [Qh]; simp)); (try simp only [Qm]))
     refine cYo [0, 1] true true (hre) (fun o h e => e) ?_; simp [zz, okA, Qx, Qu, hOf, Qg, Out.ren, upO, Qu, rdO]
     ((try simp only [Qn, Qo, Ql, Qi, Qk]); (repeat (rw [Qh]; simp)); (try simp only [Qm]))
     refine cYp (hw) ?_
     ((try simp only [Qn, Qo, Ql, Qi, Qk]); (repeat (rw [Qh]; simp)); (try simp only [Qm]))
     (refine hKT _ _ _ _ (by kernel_rfl) ?_; clear hKT KT; (try simp only [zs]))
     (refine hK _ _ _ ?_; clear hK K)
     (refine sR fun K hK => ?_; ((repeat (rw [Qa]; simp)); (try simp only [zs])); refine hK _ _ _ ?_; clear hK K)
     refine pF rfl ?_
     refine Qs (hK0 u _ ⟨⟨hwo, by omega⟩, by rw [hkst.1, hpl], fun _ => hkst.2⟩ ?_)
     simp [leT, Qr]
    | some p =>
     obtain ⟨v, c⟩ := p
     have hks := kid_step hs hst
     by_cases hc : (c : Int) <= left
     ·rw [OneP_some hst hc] at hre
      have hw := with_spec t v i many hmy
      have hO := OneP_some hks hc
      generalize t.kid i = y at hki hre
      generalize hu : t.withT v i many = u at hw hO
      rw [Qd t, Qd y] at hki
      unfold Wf headD Cs Wj at hre
      rw [Qd y, Qd v] at hre
      rw [Qd t, Qd v, Qd u] at hw
      (refine sR fun K hK => ?_; ((repeat (rw [Qa]; simp)); (try simp only [zs])))
      refine cXp (hsp) ?_
      ((try simp only [Qb, Qc, Ql, Qi, Qk]); (repeat (rw [Qa]; simp)); (try simp only [zs]))
      (refine hK _ _ _ ?_; clear hK K)
      (refine sR fun K hK => ?_; ((repeat (rw [Qa]; simp)); (try simp only [zs])); refine hK _ _ _ ?_; clear hK K)
      refine pT rfl ?_
      (refine Qf fun K hK => ?_; refine dR fun KT hKT => ?_; ((repeat (rw [Qh]; simp)); (try simp only [Qm])))
      refine cYp (hki) ?_
      ((try simp only [Qn, Qo, Ql, Qi, Qk]); (repeat (rw [Qh]; simp)); (try simp only [Qm]))
      refine cYo [0, 1] true true (hre) (fun o h e => e) ?_; simp [zz, okA, Qx, Qu, hOf, Qg, Out.ren, upO, Qu, rdO]
      ((try simp only [Qn, Qo, Ql, Qi, Qk]); (repeat (rw [Qh]; simp)); (try simp only [Qm]))
      refine cYp (hw) ?_
      ((try simp only [Qn, Qo, Ql, Qi, Qk]); (repeat (rw [Qh]; simp)); (try simp only [Qm]))
      (refine hKT _ _ _ _ (by kernel_rfl) ?_; clear hKT KT; (try simp only [zs]))
      (refine hK _ _ _ ?_; clear hK K)
      (refine sR fun K hK => ?_; ((repeat (rw [Qa]; simp)); (try simp only [zs])); refine hK _ _ _ ?_; clear hK K)
      refine pT rfl ?_
      (refine sR fun K hK => ?_; ((repeat (rw [Qa]; simp)); (try simp only [zs])); refine hK _ _ _ ?_; clear hK K)
      (refine Qj ?_; (try simp only [zs]); refine Wc.ret rfl (.inr ⟨[], by decide, by simp, ?_⟩); simp [Out.mov, Wk, Wl, Wr, D.mov, HO.mov, okM, Wn, Wg, zz, okA, Qx, Qu, hOf, Qg, Qp, Out.fgt, D.fgt, D.fgts])
      rw [hO]
      refine ⟨?_, rfl⟩
      simp [Out.fgt, Qd u, D.fgt, D.fgts]
     ·rw [OneP_gone hst hc] at hre
      have hO := OneP_gone hks hc
      generalize t.kid i = y at hki hre
      rw [Qd t, Qd y] at hki
      rw [Qd y] at hre
      unfold GoneP Wf headD Cs Wj goneD at hre
      (refine sR fun K hK => ?_; ((repeat (rw [Qa]; simp)); (try simp only [zs])))
      refine cXp (hsp) ?_
      ((try simp only [Qb, Qc, Ql, Qi, Qk]); (repeat (rw [Qa]; simp)); (try simp only [zs]))
      (refine hK _ _ _ ?_; clear hK K)
      (refine sR fun K hK => ?_; ((repeat (rw [Qa]; simp)); (try simp only [zs])); refine hK _ _ _ ?_; clear hK K)
      refine pT rfl ?_
      (refine Qf fun K hK => ?_; refine dR fun KT hKT => ?_; ((repeat (rw [Qh]; simp)); (try simp only [Qm])))
      refine cYp (hki) ?_
      ((try simp only [Qn, Qo, Ql, Qi, Qk]); (repeat (rw [Qh]; simp)); (try simp only [Qm]))
      refine cYo [0, 1] true false (hre) (fun o h e => e) ?_; simp [zz, okA, Qx, Qu, hOf, Qg, Out.ren, upO, Qu, rdO]
      (try simp only [Qn, Qo, Ql, Qi, Qk])
      (rw [Qh, if_neg (Bool.eq_false_iff.mp (by kernel_rfl))]; simp)
      (rw [Qh, if_neg (Bool.eq_false_iff.mp (by kernel_rfl))]; simp)
      ((try simp only [Qn, Qo, Ql, Qi, Qk]); (repeat (refine wpT_late _ _ _ _ (by kernel_rfl) ?_; simp only [Ql, List.set, List.nil_append, List.cons_append, Nat.reduceAdd])); (try simp only [Qm]))
      (refine hKT _ _ _ _ (by kernel_rfl) ?_; clear hKT KT; (try simp only [zs]))
      simp [killHl]
      ((try simp only [zs]); refine Wc.pan (.inr ⟨[], by decide, by simp, ?_⟩); simp [Out.mov, Wk, Wl, Wr, D.mov, HO.mov, okM, Wn, Wg, zz, okA, Qx, Qu, hOf, Qg, Qp, Out.fgt, D.fgt, D.fgts])
      rw [hO]
      exact ⟨rfl, rfl⟩
  ·rintro t1 ⟨gt, gown, gtr⟩
   simp only [Qr, List.set, List.map_cons, List.map_nil, List.cons_append, List.nil_append]
   have hst := step_spec left l true false hlf hcs t1 gt
   rw [<- gown] at hst
   cases ho : Wo l t with
   | none =>
    rw [ho] at hst
    have hO := OneP_none (left := left) ho
    rw [gtr ho] at hO
    unfold OwnP Wf headD Cs Wj at hst
    rw [Qd t1] at hst
    (refine sR fun K hK => ?_; ((repeat (rw [Qa]; simp)); (try simp only [zs])))
    refine cXo [0, 1] true (hst) ?_
    (rintro o hc ⟨ho, rfl⟩; refine ⟨true, ?_⟩; rw [show told true o = _ from ho]; clear ho; simp [zz, okA, Qx, Qu, hOf, Qg, Out.ren, told, Out.fgt, upO, Qi, Qk])
    ((try simp only [Qb, Qc, Ql, Qi, Qk]); (repeat (rw [Qa]; simp)); (try simp only [zs]))
    (refine hK _ _ _ ?_; clear hK K)
    refine Qf fun K1 hK1 => ?_
    (refine sR fun K hK => ?_; ((repeat (rw [Qa]; simp)); (try simp only [zs])); refine hK _ _ _ ?_; clear hK K)
    refine pT rfl ?_
    (refine sR fun K hK => ?_; ((repeat (rw [Qa]; simp)); (try simp only [zs])); refine hK _ _ _ ?_; clear hK K)
    (refine Qj ?_; (try simp only [zs]); refine Wc.ret rfl (.inr ⟨[], by decide, by simp, ?_⟩); simp [Out.mov, Wk, Wl, Wr, D.mov, HO.mov, okM, Wn, Wg, zz, okA, Qx, Qu, hOf, Qg, Qp, Out.fgt, D.fgt, D.fgts])
    rw [hO]
    refine ⟨?_, rfl⟩
    simp [Out.fgt, Qd t1, D.fgt, D.fgts]
   | some p =>
    obtain ⟨w, c⟩ := p
    rw [ho] at hst
    unfold OwnP at hst
    simp only at hst
    by_cases hc : (c : Int) <= left
    ·have hO := OneP_some ho hc
     rw [Cost_ok hc] at hst
     unfold Wf headD Cs Wj at hst
     rw [Qd t1, Qd w] at hst
     (refine sR fun K hK => ?_; ((repeat (rw [Qa]; simp)); (try simp only [zs])))
     refine cXo [0, 1] true (hst) ?_
     (rintro o hc ⟨ho, rfl⟩; refine ⟨true, ?_⟩; rw [show told true o = _ from ho]; clear ho; simp [zz, okA, Qx, Qu, hOf, Qg, Out.ren, told, Out.fgt, upO, Qi, Qk])
     ((try simp only [Qb, Qc, Ql, Qi, Qk]); (repeat (rw [Qa]; simp)); (try simp only [zs]))
     (refine hK _ _ _ ?_; clear hK K)
     refine Qf fun K1 hK1 => ?_
     (refine sR fun K hK => ?_; ((repeat (rw [Qa]; simp)); (try simp only [zs])); refine hK _ _ _ ?_; clear hK K)
     refine pF rfl ?_
     refine Qs (hK1 _ _ _ ?_)
     (refine sR fun K hK => ?_; ((repeat (rw [Qa]; simp)); (try simp only [zs])); refine hK _ _ _ ?_; clear hK K)
     (refine sR fun K hK => ?_; ((repeat (rw [Qa]; simp)); (try simp only [zs])); refine hK _ _ _ ?_; clear hK K)
     refine pT rfl ?_
     (refine sR fun K hK => ?_; ((repeat (rw [Qa]; simp)); (try simp only [zs])); refine hK _ _ _ ?_; clear hK K)
     (refine Qj ?_; (try simp only [zs]); refine Wc.ret rfl (.inr ⟨[], by decide, by simp, ?_⟩); simp [Out.mov, Wk, Wl, Wr, D.mov, HO.mov, okM, Wn, Wg, zz, okA, Qx, Qu, hOf, Qg, Qp, Out.fgt, D.fgt, D.fgts])
     rw [hO]
     refine ⟨?_, rfl⟩
     simp [Out.fgt, Qd w, D.fgt, D.fgts]
    ·have hO := OneP_gone ho hc
     rw [Cost_no hc] at hst
     unfold Wf headD Cs Wj goneD at hst
     rw [Qd t1] at hst
     (refine sR fun K hK => ?_; ((repeat (rw [Qa]; simp)); (try simp only [zs])))
     refine cXo [0, 1] true (hst) ?_
     (rintro o hc ⟨rfl, rfl⟩; refine ⟨false, ?_⟩; simp [zz, okA, Qx, Qu, hOf, Qg, Out.ren, told, Out.fgt, upO, Qi, Qk])
     ((try simp only [zs]); refine Wc.pan (.inr ⟨[], by decide, by simp, ?_⟩); simp [Out.mov, Wk, Wl, Wr, D.mov, HO.mov, okM, Wn, Wg, zz, okA, Qx, Qu, hOf, Qg, Qp, Out.fgt, D.fgt, D.fgts])
     rw [hO]
     exact ⟨rfl, rfl⟩
theorem hat_spec (l : List C) (f : Int) : Qt Tryz.prog glob 48 [Cs l, .int .i64 f] [] (fun o hc => o = .ret (.box 0 0) /\ hc = Wf f l false false) := by
 unfold Wf headD Cs Wj
 have L0 : 0 < Wd := by unfold Wd; omega
 have L1 : 1 < Wd := by unfold Wd; omega
 have L2 : 2 < Wd := by unfold Wd; omega
 have L3 : 3 < Wd := by unfold Wd; omega
 have L4 : 4 < Wd := by unfold Wd; omega
 have L5 : 5 < Wd := by unfold Wd; omega
 have L6 : 6 < Wd := by unfold Wd; omega
 have L7 : 7 < Wd := by unfold Wd; omega
 refine Qt.movd Qe (Qq Wb Tryz.func48 rfl (Qy _ _ Tryz.func48 rfl (by decide)) rfl rfl ?_)
 (refine sR fun K hK => ?_; ((repeat (rw [Qa]; simp)); (try simp only [zs])); refine hK _ _ _ ?_; clear hK K)
 (refine sR fun K hK => ?_; ((repeat (rw [Qa]; simp)); (try simp only [zs])); refine hK _ _ _ ?_; clear hK K)
 (refine sR fun K hK => ?_; ((repeat (rw [Qa]; simp [findD, keyEq, isIntK, L0, L1, L2, L3, L4, L5, L6, L7])); (try simp only [zs])); refine hK _ _ _ ?_; clear hK K)
 (refine sR fun K hK => ?_; ((repeat (rw [Qa]; simp)); (try simp only [zs])); refine hK _ _ _ ?_; clear hK K)
 (refine Qj ?_; (try simp only [zs]); refine Wc.ret rfl (.inr ⟨[0, 1], by decide, by simp, ?_⟩); simp [Out.mov, Wk, Wl, Wr, D.mov, HO.mov, okM, Wn, Wg, zz, okA, Qx, Qu, hOf, Qg, Qp, Out.fgt, D.fgt, D.fgts])
end Go.Proofs.YtgloldepdhgfaaaGreatDoor
