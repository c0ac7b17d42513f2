/-
  MW8: the texts Nra Nrb Ccm Ccw Ccr Kse Trt Tct Kct Tl2 Tl3 C5 Hvp Htf Hg Hv, one behind the other.
-/
import Derived.Test.YtebmlojhdnldgaaGreatDoorMW7
namespace Go.Proofs.YtebmlojhdnldgaaGreatDoor
set_option linter.unusedSimpArgs false
set_option linter.unusedVariables false
set_option maxHeartbeats 10000000
set_option maxRecDepth 20000
open Go.RowKit
attribute [local simp] Qb Qc Xg Xw opD Qt Qn Qi Qj hOf Xd Xz Xu TK.isAgg TK.known Xf Xh Wv Qv D.ofV inB Wr Xj binX binD binE Xv bndD capB IntKind.min IntKind.max IntKind.signed IntKind.bits Xb late
inductive NmR (l : List C) (h : Nat) (ts : List T) (f : Int) : Option (List T × Int) -> Prop where
 | fin {n : Nat} {xs : List T} (H : Nms l h ts n xs) (hn : (n : Int) <= f) : NmR l h ts f (some (xs, f - n))
 | gone (H : NsGone l h ts f) : NmR l h ts f none
def glueN (es : List T) : Option (List T × Int) -> Option (List T × Int)
 | some (xs, g) => some (es ++ xs, g)
 | none => none
theorem glueN_glue (a b : List T) (o : Option (List T × Int)) : glueN a (glueN b o) = glueN (a ++ b) o := by
 cases o with
 | none => rfl
 | some v => unfold glueN; simp
theorem NmR.split {l : List C} {h : Nat} {t : T} {r : List T} {f : Int} {o : Option (List T × Int)} (H : NmR l h (t :: r) f o) :
  ∃ h', h = h' + 1 /\ ((∃ q, GoneAt l t f q /\ o = none) \/ ∃ (u : T) (m : Nat), Hd l t m u /\ (m : Int) <= f /\ ((NmR l h' u.ks (f - m) none /\ o = none) \/
   ∃ ks g o', NmR l h' u.ks (f - m) (some (ks, g)) /\ NmR l h r g o' /\ o = glueN [u.withKs ks] o')) := by
 cases H with
 | fin H hn =>
  cases H with
  | @cons h' _ u _ ks xs m n p hd hk hr =>
   refine ⟨h', rfl, .inr ⟨u, m, hd, by omega, .inr ⟨ks, f - m - n, _, .fin hk (by omega), .fin hr (by omega), ?_⟩⟩⟩
   unfold glueN
   simp
   omega
 | gone H =>
  cases H with
  | @head h' _ _ _ q g => exact ⟨h', rfl, .inl ⟨q, g, rfl⟩⟩
  | @kids h' _ u _ m _ hd hm g => exact ⟨h', rfl, .inr ⟨u, m, hd, hm, .inl ⟨.gone g, rfl⟩⟩⟩
  | @rest h' _ u _ ks m n _ hd hk hm g =>
   refine ⟨h', rfl, .inr ⟨u, m, hd, by omega, .inr ⟨ks, f - m - n, none, .fin hk (by omega), ?_, rfl⟩⟩⟩
   rw [show f - (m : Int) - n = f - (m + n) by omega]
   exact .gone g
theorem NmR.le {l : List C} {h : Nat} {ts xs : List T} {f g : Int} (H : NmR l h ts f (some (xs, g))) : 0 <= g /\ g <= f := by
 generalize ho : some (xs, g) = o at H
 cases H with
 | fin H hn => cases ho; omega
 | gone H => cases ho
theorem nmR_total (l : List C) (t : T) (f : Int) (h0 : 0 <= f) : ∃ h o, NmR l h [t] f o := by
 rcases nm_or l f.toNat t.pot t f h0 (by omega) (Nat.le_refl _) with ⟨h, n, x, H, hn⟩ | ⟨h, H⟩
 ·exact ⟨h, _, .fin H hn⟩
 ·exact ⟨h, _, .gone H⟩
def walkO (left : Int) (l : List C) : List HO := [.cells 63 [.int .i64 left, Cs l]]
theorem use_ok (left g : Int) (l : List C) : Qu Tryz.prog glob 68 [.box 0 0, .int .i64 g, .int .i64 0] (walkO left l) (fun o hc => o = .ret (.tuple []) /\ hc = walkO g l) := by
 unfold walkO Cs
 refine Qu.movd Qf (Qp Wc Tryz.func68 rfl (Qw _ _ Tryz.func68 rfl (by decide)) rfl rfl ?_)
 refine Qg fun K1 hK1 => ?_
 (refine sR fun K hK => ?_; ((repeat (rw [Qa]; simp)); (try simp only [zs])); refine hK _ _ _ ?_; clear hK K)
 refine pF rfl ?_
 refine Qs (hK1 _ _ _ ?_)
 (refine Qz Wc ?_; ((repeat (rw [Qa]; simp)); (try simp only [zs])))
 ((try simp only [zs]); refine Wa.nrm rfl (.inr ⟨[], by decide, by simp, ?_⟩); simp [Out.mov, Wg, Wh, Wj, D.mov, HO.mov, okM, Wi, We, zz, okA, Qr, Qq, hOf, Qe, Qt, Out.fgt, D.fgt, D.fgts])
theorem use_no (left g : Int) (l : List C) : Qu Tryz.prog glob 68 [.box 0 0, .int .i64 g, .int .i64 5] (walkO left l) (fun o hc => o = .pan Xo /\ hc = [.dead]) := by
 refine Qu.dead (Post := fun o hc => o = .pan Xo /\ hc = walkO left l) ?_ fun o hc hp => ⟨[.dead], fun r => by
  rw [hp.2]
  match r with
  | 0 => exact .inr rfl
  | r + 1 => exact .inl rfl, hp.1, rfl⟩
 unfold walkO Cs Xo
 refine Qu.movd Qf (Qp Wc Tryz.func68 rfl (Qw _ _ Tryz.func68 rfl (by decide)) rfl rfl ?_)
 refine Qg fun K1 hK1 => ?_
 (refine sR fun K hK => ?_; ((repeat (rw [Qa]; simp)); (try simp only [zs])); refine hK _ _ _ ?_; clear hK K)
 refine pT rfl ?_
 (refine Qz Wc ?_; ((repeat (rw [Qa]; simp)); (try simp only [zs])))
 ((try simp only [zs]); refine Wa.pan (.inr ⟨[], by decide, by simp, ?_⟩); simp [Out.mov, Wg, Wh, Wj, D.mov, HO.mov, okM, Wi, We, zz, okA, Qr, Qq, hOf, Qe, Qt, Out.fgt, D.fgt, D.fgts])
def NP (l : List C) : Option (List T × Int) -> Out -> List HO -> Prop
 | some (xs, g) => fun o hc => o.fgt = .ret (Ts xs) /\ hc = walkO g l
 | none => fun o hc => o = .pan Xo /\ hc = [.dead]
theorem NP_some {l : List C} {xs : List T} {g : Int} : NP l (some (xs, g)) = fun o hc => o.fgt = .ret (Ts xs) /\ hc = walkO g l := rfl
theorem NP_none {l : List C} : NP l none = fun o hc => o = .pan Xo /\ hc = [.dead] := rfl
theorem ks_okP {f : Int} {t a : T} (ht : okP f t) (h : a ∈ t.ks) : okP f a := by
 refine ⟨ht.1.ks a h, ?_⟩
 have := ks_pot h
 have := ht.2
 omega
set_option maxHeartbeats 8000000 in
theorem nall_spec {l : List C} (hcs : okCs l) : ∀ (h : Nat) (ts : List T) (f : Int) (o : Option (List T × Int)), ts.length <= Wd -> 0 <= f -> f <= 1073741824 -> (∀ t, t ∈ ts -> okP f t) -> NmR l h ts f o ->
  Qu Tryz.prog glob 38 [.box 0 0, Ts ts] (walkO f l) (NP l o) := by
 intro h
 induction h with
 | zero =>
  intro ts f o hl h0 h1 hp H
  have hts : ts = [] := by
   cases ts with
   | nil => rfl
   | cons t r => obtain ⟨h', e, -⟩ := H.split; cases e
  have ho : o = some ([], f) := by
   rw [hts] at H
   cases H with
   | fin H hn => cases H; simp
   | gone H => cases H
  subst ho
  have hn0 : ts.length = 0 := by rw [hts]; rfl
  rw [NP_some]
  unfold Ts walkO Cs
  refine Qu.movd Qf (Qp Wc Tryz.func38 rfl (Qw _ _ Tryz.func38 rfl (by decide)) rfl rfl ?_)
  (refine sR fun K hK => ?_; ((repeat (rw [Qa]; simp)); (try simp only [zs])); refine hK _ _ _ ?_; clear hK K)
  refine Qg fun K1 hK1 => ?_
  (refine sR fun K hK => ?_; ((repeat (rw [Qa]; simp)); (try simp only [zs])); refine hK _ _ _ ?_; clear hK K)
  refine Za Wc Qf (ti := 3) (tk := 12) (tn := 11) (td := 13) (ts := 46) [6, 7, 8, 9, 12, 13, 14, 15, 16, 17, 18, 19, 20, 21, 22, 23, 24, 25, 26, 27, 28, 29, 30, 31, 32, 33, 34, 35, 36, 37, 38, 39, 40, 41, 42, 43, 44, 45, 46] [4] (ts.length) (fun k ys hl => ys = [.slice [] .full] /\ hl = [.cells 63 [.int .i64 f, .slice (l.map encC) .any]]) rfl rfl rfl rfl rfl rfl rfl rfl rfl rfl rfl rfl (by simp) (by decide) rfl (by first | assumption | omega | (unfold Wd; omega)) rfl (by kernel_rfl) (by decide) ?_ ?_ ?_
  ·exact ⟨rfl, rfl⟩
  ·rintro i ys hl A hi ⟨rfl, rfl⟩ hA hA2
   exact absurd hi (by omega)
  ·rintro ys hl tl' ⟨rfl, rfl⟩ htl
   refine hK1 _ _ _ (wpD_weakL htl ?_)
   simp only [Qv, List.set, List.map_cons, List.map_nil, List.cons_append, List.nil_append]
   (refine sR fun K hK => ?_; ((repeat (rw [Qa]; simp)); (try simp only [zs])); refine hK _ _ _ ?_; clear hK K)
   (refine Qo ?_; (try simp only [zs]); refine Wa.ret rfl (.inr ⟨[], by decide, by simp, ?_⟩); simp [Out.mov, Wg, Wh, Wj, D.mov, HO.mov, okM, Wi, We, zz, okA, Qr, Qq, hOf, Qe, Qt, Out.fgt, D.fgt, D.fgts])
 | succ h ih =>
  intro ts f o hl h0 h1 hp H
  have hl0 := hl
  unfold Wd at hl0
  unfold Ts walkO Cs
  refine Qu.movd Qf (Qp Wc Tryz.func38 rfl (Qw _ _ Tryz.func38 rfl (by decide)) rfl rfl ?_)
  (refine sR fun K hK => ?_; ((repeat (rw [Qa]; simp)); (try simp only [zs])); refine hK _ _ _ ?_; clear hK K)
  refine wpD_tokT 4 ?_
  simp [D.tokd]
  refine Qg fun K1 hK1 => ?_
  (refine sR fun K hK => ?_; ((repeat (rw [Qa]; simp)); (try simp only [zs])); refine hK _ _ _ ?_; clear hK K)
  refine Za Wc Qf (ti := 3) (tk := 12) (tn := 11) (td := 13) (ts := 46) [6, 7, 8, 9, 12, 13, 14, 15, 16, 17, 18, 19, 20, 21, 22, 23, 24, 25, 26, 27, 28, 29, 30, 31, 32, 33, 34, 35, 36, 37, 38, 39, 40, 41, 42, 43, 44, 45, 46] [4] (ts.length) (fun k ys hl => ∃ (g : Int) (es : List T) (o' : Option (List T × Int)), ys = [.slice (es.map Qx) (.tok 1)] /\ NmR l (h + 1) (ts.drop k) g o' /\ o = glueN es o' /\ es.length = k /\ 0 <= g /\ g <= f /\ hl = [.cells 63 [.int .i64 g, .slice (l.map encC) .any], .tok]) rfl rfl rfl rfl rfl rfl rfl rfl rfl rfl rfl rfl (by simp) (by decide) rfl (by first | assumption | omega | (unfold Wd; omega)) rfl (by kernel_rfl) (by decide) ?_ ?_ ?_
  ·exact ⟨f, [], o, rfl, H, (by cases o with | none => rfl | some v => rfl), rfl, h0, Int.le_refl _, rfl⟩
  ·rintro i ys hl A hi ⟨g, es, o', rfl, hg, ho, hes, hg0, hg1, rfl⟩ hA hA2
   simp only [Qv, List.set, List.map_cons, List.map_nil, List.cons_append, List.nil_append]
   have hi' : (i : Int) < ts.length := by omega
   rw [List.drop_eq_getElem_cons hi] at hg
   have hpo := (hp _ (List.getElem_mem hi)).le hg1
   obtain ⟨t, ht⟩ : ∃ t, ts[i] = t := ⟨_, rfl⟩
   rw [ht] at hg hpo
   have hEt := Qd t
   have hel : es.length + 1 <= Wd := by unfold Wd; omega
   obtain ⟨h', e, hc⟩ := hg.split
   cases e
   rcases hc with ⟨q, gn, rfl⟩ | ⟨u, m, hd, hm, hc⟩
   ·have wh := whnf_gone hcs hg0 (by omega) hpo.1 hpo.2 gn
    have us := use_no g 0 l
    have ho : o = none := ho
    subst ho
    rw [hEt, encZ] at wh
    unfold Cs at wh
    unfold walkO Cs Xo at us
    rw [NP_none]
    unfold Xo
    (refine sR fun K hK => ?_; ((repeat (rw [Qa]; simp [hi, hi', ht, hEt])); (try simp only [zs])); refine hK _ _ _ ?_; clear hK K)
    (refine Qg fun K hK => ?_; refine dR fun KT hKT => ?_; ((repeat (rw [Qh]; simp)); (try simp only [Qk])))
    refine cYp (wh) ?_
    ((try simp only [Ql, Qm, Qn, Qi, Qj]); (repeat (rw [Qh]; simp)); (try simp only [Qk]))
    (refine hKT _ _ _ _ (by kernel_rfl) ?_; clear hKT KT; (try simp only [zs]))
    (refine hK _ _ _ ?_; clear hK K)
    (refine sR fun K hK => ?_; ((repeat (rw [Qa]; simp)); (try simp only [zs])))
    refine cXo [0] false (us) ?_
    (rintro o hc ⟨rfl, rfl⟩; refine ⟨false, ?_⟩; simp [zz, okA, Qr, Qq, hOf, Qe, Out.ren, told, Out.fgt, upO, Qi, Qj])
    ((try simp only [zs]); refine Wa.pan (.inr ⟨[], by decide, by simp, ?_⟩); simp [Out.mov, Wg, Wh, Wj, D.mov, HO.mov, okM, Wi, We, zz, okA, Qr, Qq, hOf, Qe, Qt, Out.fgt, D.fgt, D.fgts])
   have wh := whnf_fin hcs hg0 (by omega) hpo.1 hpo.2 hd hm
   have us := use_ok g (g - m) l
   have hou : okP (g - m) u := hpo.head hcs (.fin hd hm)
   have hks := fun o'' hh => ih u.ks (g - m) o'' hou.1.kl (by omega) (by omega) (fun a ha => ks_okP hou ha) hh
   have hEu := Qd u
   have hlt1 : g - (m : Int) <= g := by omega
   generalize g - (m : Int) = g1 at wh us hks hc hlt1
   rw [hEt, hEu] at wh
   unfold Cs at wh
   unfold walkO Cs at us
   unfold Ts walkO Cs at hks
   rcases hc with ⟨c1, rfl⟩ | ⟨ks, g2, o2, c1, c2, rfl⟩
   ·have hal := hks _ c1
    rw [NP_none] at hal
    have ho : o = none := ho
    subst ho
    unfold Xo at hal
    rw [NP_none]
    unfold Xo
    (refine sR fun K hK => ?_; ((repeat (rw [Qa]; simp [hi, hi', ht, hEt])); (try simp only [zs])); refine hK _ _ _ ?_; clear hK K)
    (refine Qg fun K hK => ?_; refine dR fun KT hKT => ?_; ((repeat (rw [Qh]; simp)); (try simp only [Qk])))
    refine cYp (wh) ?_
    ((try simp only [Ql, Qm, Qn, Qi, Qj]); (repeat (rw [Qh]; simp)); (try simp only [Qk]))
    (refine hKT _ _ _ _ (by kernel_rfl) ?_; clear hKT KT; (try simp only [zs]))
    (refine hK _ _ _ ?_; clear hK K)
    (refine sR fun K hK => ?_; ((repeat (rw [Qa]; simp)); (try simp only [zs])))
    refine cXo [0] false (us) ?_
    (rintro o hc ⟨rfl, rfl⟩; refine ⟨false, ?_⟩; simp [zz, okA, Qr, Qq, hOf, Qe, Out.ren, told, Out.fgt, upO, Qi, Qj])
    ((try simp only [Qb, Qc, Qn, Qi, Qj]); (repeat (rw [Qa]; simp)); (try simp only [zs]))
    (refine hK _ _ _ ?_; clear hK K)
    (refine sR fun K hK => ?_; ((repeat (rw [Qa]; simp)); (try simp only [zs])))
    refine cXo [0] true (hal) ?_
    (rintro o hc ⟨rfl, rfl⟩; refine ⟨false, ?_⟩; simp [zz, okA, Qr, Qq, hOf, Qe, Out.ren, told, Out.fgt, upO, Qi, Qj])
    ((try simp only [zs]); refine Wa.pan (.inr ⟨[], by decide, by simp, ?_⟩); simp [Out.mov, Wg, Wh, Wj, D.mov, HO.mov, okM, Wi, We, zz, okA, Qr, Qq, hOf, Qe, Qt, Out.fgt, D.fgt, D.fgts])
   ·have hal := hks _ c1
    have hle := c1.le
    rw [NP_some] at hal
    unfold Ts walkO Cs at hal
    (refine sR fun K hK => ?_; ((repeat (rw [Qa]; simp [hi, hi', ht, hEt])); (try simp only [zs])); refine hK _ _ _ ?_; clear hK K)
    (refine Qg fun K hK => ?_; refine dR fun KT hKT => ?_; ((repeat (rw [Qh]; simp)); (try simp only [Qk])))
    refine cYp (wh) ?_
    ((try simp only [Ql, Qm, Qn, Qi, Qj]); (repeat (rw [Qh]; simp)); (try simp only [Qk]))
    (refine hKT _ _ _ _ (by kernel_rfl) ?_; clear hKT KT; (try simp only [zs]))
    (refine hK _ _ _ ?_; clear hK K)
    (refine sR fun K hK => ?_; ((repeat (rw [Qa]; simp)); (try simp only [zs])))
    refine cXo [0] false (us) ?_
    (rintro o hc ⟨rfl, rfl⟩; refine ⟨false, ?_⟩; simp [zz, okA, Qr, Qq, hOf, Qe, Out.ren, told, Out.fgt, upO, Qi, Qj])
    ((try simp only [Qb, Qc, Qn, Qi, Qj]); (repeat (rw [Qa]; simp)); (try simp only [zs]))
    (refine hK _ _ _ ?_; clear hK K)
    (refine sR fun K hK => ?_; ((repeat (rw [Qa]; simp)); (try simp only [zs])))
    refine cXo [0] true (hal) ?_
    (rintro o hc ⟨ho, rfl⟩; refine ⟨true, ?_⟩; rw [show told true o = _ from ho]; clear ho; simp [zz, okA, Qr, Qq, hOf, Qe, Out.ren, told, Out.fgt, upO, Qi, Qj])
    ((try simp only [Qb, Qc, Qn, Qi, Qj]); (repeat (rw [Qa]; simp)); (try simp only [zs]))
    (refine hK _ _ _ ?_; clear hK K)
    (refine Qz Wc ?_; ((repeat (rw [Qa]; simp [hel])); (try simp only [zs])))
    (refine hA2 ([4]) _ _ _ (LeT.refl _) (by decide) (by simp) (by simp [Wg, Wh, Wj, D.mov, HO.mov, okM, Wi, We, zz, okA, Qr, Qq, hOf, Qe, Qv]) ?_ rfl; simp [Wg, Wh, Wj, D.mov, HO.mov, okM, Wi, We, zz, okA, Qr, Qq, hOf, Qe])
    refine ⟨g2, es ++ [u.withKs ks], ?_, o2, c2, by rw [ho, glueN_glue], by simp [hes], hle.1, by omega, rfl⟩
    have e : (es ++ [u.withKs ks]).map Qx = es.map Qx ++ [D.agg [.int .i64 u.k, .int .i64 u.n, .int .i64 u.a, .slice (u.ls.map Wm) .any, .slice (ks.map Qx) .any]] := by
     rw [List.map_append, List.map_cons, List.map_nil]
     unfold T.withKs
     rw [encT_mk']
    rw [<- e, mapT_ren]
  ·rintro ys hl tl' ⟨g, es, o', rfl, hg, ho, hes, hg0, hg1, rfl⟩ htl
   refine hK1 _ _ _ (wpD_weakL htl ?_)
   rw [List.drop_length] at hg
   have ho' : o' = some ([], g) := by
    cases hg with
    | fin H hn => cases H; simp
    | gone H => cases H
   subst ho'
   have ho : o = some (es, g) := by rw [ho]; unfold glueN; simp
   subst ho
   rw [NP_some]
   unfold Ts walkO Cs
   simp only [Qv, List.set, List.map_cons, List.map_nil, List.cons_append, List.nil_append]
   refine wpD_fgtT 4 ?_
   simp [D.fgt]
   (refine sR fun K hK => ?_; ((repeat (rw [Qa]; simp)); (try simp only [zs])); refine hK _ _ _ ?_; clear hK K)
   (refine Qo ?_; (try simp only [zs]); refine Wa.ret rfl (.inr ⟨[], by decide, by simp, ?_⟩); simp [Out.mov, Wg, Wh, Wj, D.mov, HO.mov, okM, Wi, We, zz, okA, Qr, Qq, hOf, Qe, Qt, Out.fgt, D.fgt, D.fgts])
theorem ncatch_idle (k n a x y : Int) (ls ks : D) : SpecD Tryz.prog glob 37 [.box 0 0, .box 1 0, .box 2 0] [.cells 33 [.int .i64 y], .cells 27 [.int .i64 k, .int .i64 n, .int .i64 a, ls, ks], .cells 3 [.int .i64 x]] none
  (fun hc => hc = [.cells 33 [.int .i64 y], .cells 27 [.int .i64 k, .int .i64 n, .int .i64 a, ls, ks], .cells 3 [.int .i64 x]]) := by
 refine wpD_specd Wc Tryz.func37 rfl rfl (fun a w => rfl) rfl (Qw _ _ Tryz.func37 rfl (by decide)) rfl rfl ?_
 ((try simp only [Qb, Qc, Qn, Qi, Qj]); (repeat (rw [Qa]; simp)); (try simp only [zs]))
 (refine sR fun K hK => ?_; ((repeat (rw [Qa]; simp)); (try simp only [zs])); refine hK _ _ _ ?_; clear hK K)
 refine pF rfl ?_
 refine Qs ?_
 refine Wa.nrm rfl ?_
 simp [Qi]
theorem ncatch_gone (x y : Int) : SpecD Tryz.prog glob 37 [.box 0 0, .box 1 0, .box 2 0] [.cells 33 [.int .i64 y], .cells 27 [.int .i64 0, .int .i64 0, .int .i64 0, .slice [] .full, .slice [] .full], .cells 3 [.int .i64 x]] (some Xo)
  (fun hc => hc = [.cells 33 [.int .i64 5], .cells 27 [.int .i64 0, .int .i64 0, .int .i64 0, .slice [] .full, .slice [] .full], .cells 3 [.int .i64 0]]) := by
 refine wpD_specd Wc Tryz.func37 rfl rfl (fun a w => rfl) rfl (Qw _ _ Tryz.func37 rfl (by decide)) rfl rfl ?_
 unfold Xo
 ((try simp only [Qb, Qc, Qn, Qi, Qj]); (repeat (rw [Qa]; simp)); (try simp only [zs]))
 (refine sR fun K hK => ?_; ((repeat (rw [Qa]; simp)); (try simp only [zs])); refine hK _ _ _ ?_; clear hK K)
 refine pT rfl ?_
 (refine sR fun K hK => ?_; ((repeat (rw [Qa]; simp)); (try simp only [zs])); refine hK _ _ _ ?_; clear hK K)
 refine Qg fun K1 hK1 => ?_
 (refine sR fun K hK => ?_; ((repeat (rw [Qa]; simp)); (try simp only [zs])); refine hK _ _ _ ?_; clear hK K)
 (refine sR fun K hK => ?_; ((repeat (rw [Qa]; simp)); (try simp only [zs])); refine hK _ _ _ ?_; clear hK K)
 refine pF rfl ?_
 refine Qs (hK1 _ _ _ ?_)
 (refine Qz Wc ?_; ((repeat (rw [Qa]; simp)); (try simp only [zs])))
 refine Wa.nrm rfl ?_
 simp
def normD : Option (List T × Int) -> D
 | some (x :: _, g) => .tuple [Qx x, .int .i64 g, .int .i64 0]
 | _ => .tuple [Qx Wl, .int .i64 0, .int .i64 5]
theorem normT_spec {l : List C} (hcs : okCs l) {h : Nat} {t : T} {f : Int} {r : Option (List T × Int)} (h0 : 0 <= f) (h1 : f <= 1073741824) (ht : okP f t) (hr : NmR l h [t] f r) :
  Qu Tryz.prog glob 12 [Cs l, Qx t, .int .i64 f] [] (fun o _ => o.fgt = .ret (normD r)) := by
 have al := nall_spec hcs h [t] f r (by unfold Wd; simp) h0 h1 (fun x hx => by rw [List.mem_singleton.1 hx]; exact ht) hr
 have hEt := Qd t
 unfold Ts at al
 simp only [List.map_cons, List.map_nil] at al
 cases r with
 | none =>
  rw [NP_none] at al
  unfold walkO Cs Xo at al
  unfold normD Cs
  have hcg := ncatch_gone 0 0
  unfold Xo at hcg
  rw [hEt] at al
  rw [hEt, encZ]
  refine Qu.movd Qf (wpD_specD Wc Tryz.func12 rfl (Qw _ _ Tryz.func12 rfl (by decide)) rfl rfl ?_)
  (refine sR fun K hK => ?_; ((repeat (rw [Qa]; simp)); (try simp only [zs])); refine hK _ _ _ ?_; clear hK K)
  (refine sR fun K hK => ?_; ((repeat (rw [Qa]; simp)); (try simp only [zs])); refine hK _ _ _ ?_; clear hK K)
  (refine sR fun K hK => ?_; ((repeat (rw [Qa]; simp)); (try simp only [zs])); refine hK _ _ _ ?_; clear hK K)
  (refine sR fun K hK => ?_; ((repeat (rw [Qa]; simp)); (try simp only [zs])))
  refine cXo [4] true (al) ?_
  (rintro o hc ⟨rfl, rfl⟩; refine ⟨false, ?_⟩; simp [zz, okA, Qr, Qq, hOf, Qe, Out.ren, told, Out.fgt, upO, Qi, Qj])
  (try simp only [zs])
  refine DefX.objs Qf [3, 1, 2] hcg ?_ ?_ (fun d h => by cases h; rfl) (by decide) (by simp) (by simp [zz, okA, Qr, Qq, hOf, Qe]) (by simp [zz, okA, Qr, Qq, hOf, Qe]) (by simp [zz, okA, Qr, Qq, hOf, Qe]) (by simp [zz, okA, Qr, Qq, hOf, Qe])
  ·rintro hc rfl
   simp [zz, okA, Qr, Qq, hOf, Qe, upO, Qi, Qj]
   refine endD.intro rfl (.inr ⟨[], by decide, by simp, ?_⟩)
   simp [Out.mov, Wg, Wh, Wj, D.mov, HO.mov, okM, Wi, We, zz, okA, Qr, Qq, hOf, Qe]
   try simp [Out.fgt, D.fgt, D.fgts]
  ·rintro hc rfl
   simp
 | some v =>
  obtain ⟨xs, g⟩ := v
  obtain ⟨x, rfl⟩ : ∃ x, xs = [x] := by
   generalize ho : some (xs, g) = o at hr
   cases hr with
   | fin H hn => cases ho; exact List.length_eq_one_iff.1 H.len
   | gone H => cases ho
  rw [NP_some] at al
  unfold Ts walkO Cs at al
  simp only [List.map_cons, List.map_nil] at al
  unfold normD Cs
  have hEx := Qd x
  rw [hEt, hEx] at al
  rw [hEt]
  refine Qu.movd Qf (wpD_specD Wc Tryz.func12 rfl (Qw _ _ Tryz.func12 rfl (by decide)) rfl rfl ?_)
  (refine sR fun K hK => ?_; ((repeat (rw [Qa]; simp)); (try simp only [zs])); refine hK _ _ _ ?_; clear hK K)
  (refine sR fun K hK => ?_; ((repeat (rw [Qa]; simp)); (try simp only [zs])); refine hK _ _ _ ?_; clear hK K)
  (refine sR fun K hK => ?_; ((repeat (rw [Qa]; simp)); (try simp only [zs])); refine hK _ _ _ ?_; clear hK K)
  (refine sR fun K hK => ?_; ((repeat (rw [Qa]; simp)); (try simp only [zs])))
  refine cXo [4] true (al) ?_
  (rintro o hc ⟨ho, rfl⟩; refine ⟨true, ?_⟩; rw [show told true o = _ from ho]; clear ho; simp [zz, okA, Qr, Qq, hOf, Qe, Out.ren, told, Out.fgt, upO, Qi, Qj])
  ((try simp only [Qb, Qc, Qn, Qi, Qj]); (repeat (rw [Qa]; simp)); (try simp only [zs]))
  (refine hK _ _ _ ?_; clear hK K)
  (refine Qg fun K hK => ?_; refine dR fun KT hKT => ?_; ((repeat (rw [Qh]; simp)); (try simp only [Qk])))
  (refine hKT _ _ _ _ (by kernel_rfl) ?_; clear hKT KT; (try simp only [zs]))
  (refine hK _ _ _ ?_; clear hK K)
  refine Qo ?_
  refine DefX.objs Qf [3, 1, 2] (ncatch_idle x.k x.n x.a g 0 (.slice (x.ls.map Wm) .any) (.slice (x.ks.map Qx) .any)) ?_ ?_ (fun d h => by cases h) (by decide) (by simp) (by simp [zz, okA, Qr, Qq, hOf, Qe]) (by simp [zz, okA, Qr, Qq, hOf, Qe]) (by simp [zz, okA, Qr, Qq, hOf, Qe]) (by simp [zz, okA, Qr, Qq, hOf, Qe])
  ·rintro hc rfl
   simp [zz, okA, Qr, Qq, hOf, Qe, upO, Qi, Qj]
   refine endD.intro rfl (.inr ⟨[], by decide, by simp, ?_⟩)
   simp [Out.mov, Wg, Wh, Wj, D.mov, HO.mov, okM, Wi, We, zz, okA, Qr, Qq, hOf, Qe]
   simp [Out.fgt, Qd x, D.fgt, D.fgts]
  ·rintro hc rfl
   simp
def idxOf (b : Bool) : List Bool -> Int -> Int
 | [], _ => -1
 | x :: r, i => if b = x then i else idxOf b r (i + 1)
theorem idxOf_at {b : Bool} {l : List Bool} {k : Nat} (h : k < l.length) : idxOf b (l.drop k) k = if b = l[k] then (k : Int) else idxOf b (l.drop (k + 1)) ((k + 1 : Nat) : Int) := by
 rw [List.drop_eq_getElem_cons h, idxOf]; simp
theorem indexB_spec (l : List Bool) (b : Bool) (hl : l.length <= Wd) : Qu Tryz.prog glob 127 [Wz l, .bool b] [] (fun o _ => o.fgt = .ret (.int .i64 (idxOf b l 0))) := by
 obtain ⟨R, hR⟩ : ∃ R, R = idxOf b l 0 := ⟨_, rfl⟩
 rw [<- hR]
 refine Qu.movd Qf (Qp Wc Tryz.func127 rfl (Qw _ _ Tryz.func127 rfl (by decide)) rfl rfl ?_)
 unfold Wz
 (refine sR fun K hK => ?_; ((repeat (rw [Qa]; simp)); (try simp only [zs])); refine hK _ _ _ ?_; clear hK K)
 refine Qg fun K1 hK1 => ?_
 (refine sR fun K hK => ?_; ((repeat (rw [Qa]; simp)); (try simp only [zs])); refine hK _ _ _ ?_; clear hK K)
 refine Za Wc Qf (ti := 3) (tk := 8) (tn := 7) (td := 9) (ts := 18) [4, 5, 8, 9, 10, 11, 12, 13, 14, 15, 16, 17, 18] [] (l.length) (fun k ys hl => ys = [] /\ R = idxOf b (l.drop k) k /\ hl = []) rfl rfl rfl rfl rfl rfl rfl rfl rfl rfl rfl rfl (by simp) (by decide) rfl (by first | assumption | omega | (unfold Wd; omega)) rfl (by kernel_rfl) (by decide) ?_ ?_ ?_
 ·exact ⟨rfl, hR, rfl⟩
 ·rintro i ys hl A hi ⟨rfl, hF, rfl⟩ hA hA2
  simp only [Qv, List.set, List.map_cons, List.map_nil, List.cons_append, List.nil_append]
  have hi' : (i : Int) < l.length := by omega
  rw [idxOf_at hi] at hF
  obtain ⟨x, hx⟩ : ∃ x, l[i] = x := ⟨_, rfl⟩
  rw [hx] at hF
  (refine sR fun K hK => ?_; ((repeat (rw [Qa]; simp)); (try simp only [zs])); refine hK _ _ _ ?_; clear hK K)
  (refine sR fun K hK => ?_; ((repeat (rw [Qa]; simp [hi, hi', hx, pairX])); (try simp only [zs])); refine hK _ _ _ ?_; clear hK K)
  by_cases hb : b = x
  ·rw [if_pos hb] at hF
   subst hb
   refine wpD_part rfl (fun _ => ?_) (fun h => absurd h (by simp))
   (refine sR fun K hK => ?_; ((repeat (rw [Qa]; simp)); (try simp only [zs])); refine hK _ _ _ ?_; clear hK K)
   (refine Qo ?_; (try simp only [zs]); refine Wa.ret rfl (.inl ?_); simp [Qt, Out.fgt, D.fgt, D.fgts])
   exact hF.symm
  ·rw [if_neg hb] at hF
   refine wpD_part rfl (fun h => absurd (by simpa using h) hb) (fun _ => ?_)
   refine Qs ?_
   (refine hA2 ([]) _ _ _ (LeT.refl _) (by decide) (by simp) (by simp [Wg, Wh, Wj, D.mov, HO.mov, okM, Wi, We, zz, okA, Qr, Qq, hOf, Qe, Qv]) ?_ rfl; simp [Wg, Wh, Wj, D.mov, HO.mov, okM, Wi, We, zz, okA, Qr, Qq, hOf, Qe])
   exact hF
 ·rintro ys hl tl' ⟨rfl, hF, rfl⟩ htl
  refine hK1 _ _ _ (wpD_weakL htl ?_)
  simp only [Qv, List.set, List.map_cons, List.map_nil, List.cons_append, List.nil_append]
  rw [List.drop_length, idxOf] at hF
  subst hF
  (refine sR fun K hK => ?_; ((repeat (rw [Qa]; simp)); (try simp only [zs])); refine hK _ _ _ ?_; clear hK K)
  (refine Qo ?_; (try simp only [zs]); refine Wa.ret rfl (.inl ?_); simp [Qt, Out.fgt, D.fgt, D.fgts])
theorem idx_mem : ∀ (l : List Bool) (b : Bool) (i : Int), 0 <= i -> (0 <= idxOf b l i ↔ b ∈ l)
 | [], b, i, h => by simp [idxOf]
 | x :: r, b, i, h => by
  rw [idxOf]
  by_cases hx : b = x
  ·simp [hx, h]
  ·rw [if_neg hx, idx_mem r b (i + 1) (by omega)]; simp [hx]
theorem containsB_spec (l : List Bool) (b : Bool) (hl : l.length <= Wd) : Qu Tryz.prog glob 89 [Wz l, .bool b] [] (fun o _ => o.fgt = .ret (.bool (decide (b ∈ l)))) := by
 refine Qu.movd Qf (Qp Wc Tryz.func89 rfl (Qw _ _ Tryz.func89 rfl (by decide)) rfl rfl ?_)
 unfold Wz
 (refine sR fun K hK => ?_; ((repeat (rw [Qa]; simp)); (try simp only [zs])); refine hK _ _ _ ?_; clear hK K)
 (refine sR fun K hK => ?_; ((repeat (rw [Qa]; simp)); (try simp only [zs])))
 refine Xk.pure Qf (indexB_spec l b hl) ?_ (by simp [D.fgts, D.fgt, Wz]) (by simp [D.pures, D.pure, Cp.free, D.pures_map, Wz]) (by simp [Out.pure, D.pure, D.pures, Cp.free, D.pures_map, Wz])
 ((try simp only [Qb, Qc, Qn, Qi, Qj]); (repeat (rw [Qa]; simp)); (try simp only [zs]))
 (refine hK _ _ _ ?_; clear hK K)
 (refine Qo ?_; (try simp only [zs]); refine Wa.ret rfl (.inl ?_); simp [Qt, Out.fgt, D.fgt, D.fgts])
 exact idx_mem l b 0 (by omega)
def Wn : D := .iface 88 (.agg [])
theorem must_spec (l : List Bool) (hl : l.length <= Wd) : Qu Tryz.prog glob 55 [Wz l] [] (fun o _ => o.fgt = if false ∈ l then .pan Wn else .ret (.tuple [])) := by
 refine Qu.movd Qf (Qp Wc Tryz.func55 rfl (Qw _ _ Tryz.func55 rfl (by decide)) rfl rfl ?_)
 unfold Wz
 (refine sR fun K hK => ?_; ((repeat (rw [Qa]; simp)); (try simp only [zs])))
 refine Xk.pure Qf (containsB_spec l false hl) ?_ (by simp [D.fgts, D.fgt, Wz]) (by simp [D.pures, D.pure, Cp.free, D.pures_map, Wz]) (by simp [Out.pure, D.pure, D.pures, Cp.free, D.pures_map, Wz])
 ((try simp only [Qb, Qc, Qn, Qi, Qj]); (repeat (rw [Qa]; simp)); (try simp only [zs]))
 (refine hK _ _ _ ?_; clear hK K)
 refine wpD_part rfl (fun h => ?_) (fun h => ?_)
 ·replace h : false ∈ l := by simpa using h
  (refine Qz Wc ?_; ((repeat (rw [Qa]; simp)); (try simp only [zs])))
  ((try simp only [zs]); refine Wa.pan (.inl ?_); simp [Out.fgt, D.fgt, D.fgts])
  simp [h, Wn]
 ·replace h : ¬ false ∈ l := by simpa using h
  refine Qs ?_
  ((try simp only [zs]); refine Wa.nrm rfl (.inl ?_); simp [Qt, Out.fgt, D.fgt, D.fgts])
  simp [h]
theorem must_ok (l : List Bool) (h : l.all id = true) (hl : l.length <= Wd := by simp [Wd]) : Qu Tryz.prog glob 55 [Wz l] [] (fun o _ => o.fgt = .ret (.tuple [])) := by
 have := must_spec l hl
 rw [if_neg (by simpa using h)] at this
 exact this
theorem must_no (l : List Bool) (h : l.all id = false) (hl : l.length <= Wd := by simp [Wd]) : Qu Tryz.prog glob 55 [Wz l] [] (fun o _ => o.fgt = .pan Wn) := by
 have := must_spec l hl
 rw [if_pos (by simpa using h)] at this
 exact this
def Xr (b : Bool) (d : D) : Out := if b then .ret d else .pan Wn
theorem bare_spec (t : T) : Qu Tryz.prog glob 129 [Qx t] [] (fun o _ => o.fgt = Xr (bareB t) (.tuple [])) := by
 refine Qu.movd Qf (Qp Wc Tryz.func129 rfl (Qw _ _ Tryz.func129 rfl (by decide)) rfl rfl ?_)
 (refine sR fun K hK => ?_; ((repeat (rw [Qa]; simp)); (try simp only [zs])); refine hK _ _ _ ?_; clear hK K)
 cases hb : bareB t with
 | true =>
  (refine Qz Wc ?_; ((repeat (rw [Qa]; simp)); (try simp only [zs])))
  refine Xk.pure Qf (must_ok [decide (t.n = 0), decide (t.a = 0), decide (t.ls = [])] (by simpa [bareB, and_assoc] using hb)) ?_ (by simp [D.fgts, D.fgt, Wz]) (by simp [D.pures, D.pure, Cp.free, D.pures_map, Wz]) (by simp [Out.pure, D.pure, D.pures, Cp.free, D.pures_map, Wz])
  ((try simp only [Qb, Qc, Qn, Qi, Qj]); (repeat (rw [Qa]; simp)); (try simp only [zs]))
  ((try simp only [zs]); refine Wa.nrm rfl (.inl ?_); simp [Qt, Out.fgt, D.fgt, D.fgts])
  rfl
 | false =>
  (refine Qz Wc ?_; ((repeat (rw [Qa]; simp)); (try simp only [zs])))
  refine Xk.pure Qf (must_no [decide (t.n = 0), decide (t.a = 0), decide (t.ls = [])] (by simpa [bareB, -Bool.and_eq_false_imp, Bool.and_assoc] using hb)) ?_ (by simp [D.fgts, D.fgt, Wz, Wn]) (by simp [D.pures, D.pure, Cp.free, D.pures_map, Wz, Wn]) (by simp [Out.pure, D.pure, D.pures, Cp.free, D.pures_map, Wz, Wn])
  ((try simp only [Qb, Qc, Qn, Qi, Qj]); (repeat (rw [Qa]; simp)); (try simp only [zs]))
  ((try simp only [zs]); refine Wa.pan (.inl ?_); simp [Out.fgt, D.fgt, D.fgts])
  rfl
def scopeD (n sc : Int) : D := .agg [.int .i64 n, .int .i64 sc]
theorem sbelow_spec (n sc m : Int) : Qu Tryz.prog glob 103 [scopeD n sc, .int .i64 m] [] (fun o _ => o.fgt = .ret (scopeD n (IntKind.i64.wrap (sc + m)))) := by
 refine Qu.movd Qf (Qp Wc Tryz.func103 rfl (Qw _ _ Tryz.func103 rfl (by decide)) rfl rfl ?_)
 unfold scopeD
 (refine sR fun K hK => ?_; ((repeat (rw [Qa]; simp)); (try simp only [zs])); refine hK _ _ _ ?_; clear hK K)
 (refine sR fun K hK => ?_; ((repeat (rw [Qa]; simp)); (try simp only [zs])); refine hK _ _ _ ?_; clear hK K)
 (refine Qo ?_; (try simp only [zs]); refine Wa.ret rfl (.inl ?_); simp [Qt, Out.fgt, D.fgt, D.fgts])
def coreAsk : List (Int × FuncId) := [(1, 90), (2, 91), (3, 92), (4, 93), (5, 93), (6, 93), (7, 94),
 (12, 93), (13, 93), (14, 95), (15, 95), (16, 93), (17, 93), (18, 96), (19, 94),
 (20, 97), (21, 98), (22, 99), (23, 100), (24, 101)]
def coreKeys : List D := coreAsk.map fun p => .int .i64 p.1
def coreVals : List D := coreAsk.map fun p => .fn (.func p.2) [] []
def coreMap : D := .mapc coreKeys coreVals
@[simp high] theorem coreMap_fgt : coreMap.fgt = coreMap := rfl
@[simp high] theorem coreMap_pure : coreMap.pure = true := by kernel_rfl
@[simp high] theorem coreMap_one : coreMap.one = true := rfl
@[simp high] theorem coreMap_cells : coreMap.cells = [coreMap] := rfl
@[simp high] theorem coreMap_size : coreMap.size = 1 := rfl
@[simp high] theorem coreMap_frz (bx : FK) (i : Nat) (x : D) : D.frz bx i x coreMap = coreMap := D.frz_pure bx i x _ coreMap_pure
@[simp high] theorem coreMap_low (m : Nat) : coreMap.low m = true := D.low_pure m _ coreMap_pure
@[simp high] theorem coreKeys_pure : D.pures coreKeys = true := by kernel_rfl
@[simp high] theorem coreVals_pure : D.pures coreVals = true := by kernel_rfl
@[simp high] theorem coreKeys_okN (p : Nat -> Bool) : D.okNs p coreKeys = true := D.okNs_pure p _ coreKeys_pure
@[simp high] theorem coreVals_okN (p : Nat -> Bool) : D.okNs p coreVals = true := D.okNs_pure p _ coreVals_pure
@[simp high] theorem coreKeys_ren (σ : Nat -> Nat) : D.rens σ coreKeys = coreKeys := D.rens_pure σ _ coreKeys_pure
@[simp high] theorem coreVals_ren (σ : Nat -> Nat) : D.rens σ coreVals = coreVals := D.rens_pure σ _ coreVals_pure
@[simp high] theorem coreMap_okN (p : Nat -> Bool) : D.okN p coreMap = true := D.okN_pure p _ coreMap_pure
@[simp high] theorem coreMap_ren (σ : Nat -> Nat) : D.ren σ coreMap = coreMap := D.ren_pure σ _ coreMap_pure
def walkD (n sc : Int) (cs : List Int) : D := .agg [.int .i64 n, .int .i64 sc, Ints cs, coreMap]
theorem two_spec (n sc : Int) (cs : List Int) (t : T) : Qu Tryz.prog glob 93 [walkD n sc cs, Qx t] [] (fun o _ => o.fgt = Xr (bareB t) (.int .i64 2)) := by
 refine Qu.movd Qf (Qp Wc Tryz.func93 rfl (Qw _ _ Tryz.func93 rfl (by decide)) rfl rfl ?_)
 unfold walkD Ints
 (refine sR fun K hK => ?_; ((repeat (rw [Qa]; simp)); (try simp only [zs])); refine hK _ _ _ ?_; clear hK K)
 have hb := bare_spec t
 cases h : bareB t with
 | true =>
  simp only [h, Xr, if_true, if_false, Bool.false_eq_true] at hb
  (refine sR fun K hK => ?_; ((repeat (rw [Qa]; simp)); (try simp only [zs])))
  refine Xk.pure Qf (hb) ?_ (by simp [D.fgts, D.fgt, Qd t]) (by simp [D.pures, D.pure, Cp.free, D.pures_map, Qd t]) (by simp [Out.pure, D.pure, D.pures, Cp.free, D.pures_map, Qd t])
  ((try simp only [Qb, Qc, Qn, Qi, Qj]); (repeat (rw [Qa]; simp)); (try simp only [zs]))
  (refine hK _ _ _ ?_; clear hK K)
  (refine sR fun K hK => ?_; ((repeat (rw [Qa]; simp)); (try simp only [zs])); refine hK _ _ _ ?_; clear hK K)
  (refine Qo ?_; (try simp only [zs]); refine Wa.ret rfl (.inl ?_); simp [Qt, Out.fgt, D.fgt, D.fgts])
  rfl
 | false =>
  simp only [h, Xr, if_true, if_false, Bool.false_eq_true] at hb
  (refine sR fun K hK => ?_; ((repeat (rw [Qa]; simp)); (try simp only [zs])))
  refine Xk.pure Qf (hb) ?_ (by simp [D.fgts, D.fgt, Qd t, Wn]) (by simp [D.pures, D.pure, Cp.free, D.pures_map, Qd t, Wn]) (by simp [Out.pure, D.pure, D.pures, Cp.free, D.pures_map, Qd t, Wn])
  ((try simp only [Qb, Qc, Qn, Qi, Qj]); (repeat (rw [Qa]; simp)); (try simp only [zs]))
  ((try simp only [zs]); refine Wa.pan (.inl ?_); simp [Out.fgt, D.fgt, D.fgts])
  rfl
theorem three_spec (n sc : Int) (cs : List Int) (t : T) : Qu Tryz.prog glob 94 [walkD n sc cs, Qx t] [] (fun o _ => o.fgt = Xr (bareB t) (.int .i64 3)) := by
 refine Qu.movd Qf (Qp Wc Tryz.func94 rfl (Qw _ _ Tryz.func94 rfl (by decide)) rfl rfl ?_)
 unfold walkD Ints
 (refine sR fun K hK => ?_; ((repeat (rw [Qa]; simp)); (try simp only [zs])); refine hK _ _ _ ?_; clear hK K)
 have hb := bare_spec t
 cases h : bareB t with
 | true =>
  simp only [h, Xr, if_true, if_false, Bool.false_eq_true] at hb
  (refine sR fun K hK => ?_; ((repeat (rw [Qa]; simp)); (try simp only [zs])))
  refine Xk.pure Qf (hb) ?_ (by simp [D.fgts, D.fgt, Qd t]) (by simp [D.pures, D.pure, Cp.free, D.pures_map, Qd t]) (by simp [Out.pure, D.pure, D.pures, Cp.free, D.pures_map, Qd t])
  ((try simp only [Qb, Qc, Qn, Qi, Qj]); (repeat (rw [Qa]; simp)); (try simp only [zs]))
  (refine hK _ _ _ ?_; clear hK K)
  (refine sR fun K hK => ?_; ((repeat (rw [Qa]; simp)); (try simp only [zs])); refine hK _ _ _ ?_; clear hK K)
  (refine Qo ?_; (try simp only [zs]); refine Wa.ret rfl (.inl ?_); simp [Qt, Out.fgt, D.fgt, D.fgts])
  rfl
 | false =>
  simp only [h, Xr, if_true, if_false, Bool.false_eq_true] at hb
  (refine sR fun K hK => ?_; ((repeat (rw [Qa]; simp)); (try simp only [zs])))
  refine Xk.pure Qf (hb) ?_ (by simp [D.fgts, D.fgt, Qd t, Wn]) (by simp [D.pures, D.pure, Cp.free, D.pures_map, Qd t, Wn]) (by simp [Out.pure, D.pure, D.pures, Cp.free, D.pures_map, Qd t, Wn])
  ((try simp only [Qb, Qc, Qn, Qi, Qj]); (repeat (rw [Qa]; simp)); (try simp only [zs]))
  ((try simp only [zs]); refine Wa.pan (.inl ?_); simp [Out.fgt, D.fgt, D.fgts])
  rfl
theorem one_spec (n sc : Int) (cs : List Int) (t : T) : Qu Tryz.prog glob 95 [walkD n sc cs, Qx t] [] (fun o _ => o.fgt = Xr (bareB t) (.int .i64 1)) := by
 refine Qu.movd Qf (Qp Wc Tryz.func95 rfl (Qw _ _ Tryz.func95 rfl (by decide)) rfl rfl ?_)
 unfold walkD Ints
 (refine sR fun K hK => ?_; ((repeat (rw [Qa]; simp)); (try simp only [zs])); refine hK _ _ _ ?_; clear hK K)
 have hb := bare_spec t
 cases h : bareB t with
 | true =>
  simp only [h, Xr, if_true, if_false, Bool.false_eq_true] at hb
  (refine sR fun K hK => ?_; ((repeat (rw [Qa]; simp)); (try simp only [zs])))
  refine Xk.pure Qf (hb) ?_ (by simp [D.fgts, D.fgt, Qd t]) (by simp [D.pures, D.pure, Cp.free, D.pures_map, Qd t]) (by simp [Out.pure, D.pure, D.pures, Cp.free, D.pures_map, Qd t])
  ((try simp only [Qb, Qc, Qn, Qi, Qj]); (repeat (rw [Qa]; simp)); (try simp only [zs]))
  (refine hK _ _ _ ?_; clear hK K)
  (refine sR fun K hK => ?_; ((repeat (rw [Qa]; simp)); (try simp only [zs])); refine hK _ _ _ ?_; clear hK K)
  (refine Qo ?_; (try simp only [zs]); refine Wa.ret rfl (.inl ?_); simp [Qt, Out.fgt, D.fgt, D.fgts])
  rfl
 | false =>
  simp only [h, Xr, if_true, if_false, Bool.false_eq_true] at hb
  (refine sR fun K hK => ?_; ((repeat (rw [Qa]; simp)); (try simp only [zs])))
  refine Xk.pure Qf (hb) ?_ (by simp [D.fgts, D.fgt, Qd t, Wn]) (by simp [D.pures, D.pure, Cp.free, D.pures_map, Qd t, Wn]) (by simp [Out.pure, D.pure, D.pures, Cp.free, D.pures_map, Qd t, Wn])
  ((try simp only [Qb, Qc, Qn, Qi, Qj]); (repeat (rw [Qa]; simp)); (try simp only [zs]))
  ((try simp only [zs]); refine Wa.pan (.inl ?_); simp [Out.fgt, D.fgt, D.fgts])
  rfl
theorem five_spec (n sc : Int) (cs : List Int) (t : T) : Qu Tryz.prog glob 96 [walkD n sc cs, Qx t] [] (fun o _ => o.fgt = Xr (bareB t) (.int .i64 5)) := by
 refine Qu.movd Qf (Qp Wc Tryz.func96 rfl (Qw _ _ Tryz.func96 rfl (by decide)) rfl rfl ?_)
 unfold walkD Ints
 (refine sR fun K hK => ?_; ((repeat (rw [Qa]; simp)); (try simp only [zs])); refine hK _ _ _ ?_; clear hK K)
 have hb := bare_spec t
 cases h : bareB t with
 | true =>
  simp only [h, Xr, if_true, if_false, Bool.false_eq_true] at hb
  (refine sR fun K hK => ?_; ((repeat (rw [Qa]; simp)); (try simp only [zs])))
  refine Xk.pure Qf (hb) ?_ (by simp [D.fgts, D.fgt, Qd t]) (by simp [D.pures, D.pure, Cp.free, D.pures_map, Qd t]) (by simp [Out.pure, D.pure, D.pures, Cp.free, D.pures_map, Qd t])
  ((try simp only [Qb, Qc, Qn, Qi, Qj]); (repeat (rw [Qa]; simp)); (try simp only [zs]))
  (refine hK _ _ _ ?_; clear hK K)
  (refine sR fun K hK => ?_; ((repeat (rw [Qa]; simp)); (try simp only [zs])); refine hK _ _ _ ?_; clear hK K)
  (refine Qo ?_; (try simp only [zs]); refine Wa.ret rfl (.inl ?_); simp [Qt, Out.fgt, D.fgt, D.fgts])
  rfl
 | false =>
  simp only [h, Xr, if_true, if_false, Bool.false_eq_true] at hb
  (refine sR fun K hK => ?_; ((repeat (rw [Qa]; simp)); (try simp only [zs])))
  refine Xk.pure Qf (hb) ?_ (by simp [D.fgts, D.fgt, Qd t, Wn]) (by simp [D.pures, D.pure, Cp.free, D.pures_map, Qd t, Wn]) (by simp [Out.pure, D.pure, D.pures, Cp.free, D.pures_map, Qd t, Wn])
  ((try simp only [Qb, Qc, Qn, Qi, Qj]); (repeat (rw [Qa]; simp)); (try simp only [zs]))
  ((try simp only [zs]); refine Wa.pan (.inl ?_); simp [Out.fgt, D.fgt, D.fgts])
  rfl
theorem leaf_spec (n sc : Int) (cs : List Int) (t : T) : Qu Tryz.prog glob 97 [walkD n sc cs, Qx t] [] (fun o _ => o.fgt = Xr (bareB t) (.int .i64 0)) := by
 refine Qu.movd Qf (Qp Wc Tryz.func97 rfl (Qw _ _ Tryz.func97 rfl (by decide)) rfl rfl ?_)
 unfold walkD Ints
 (refine sR fun K hK => ?_; ((repeat (rw [Qa]; simp)); (try simp only [zs])); refine hK _ _ _ ?_; clear hK K)
 have hb := bare_spec t
 cases h : bareB t with
 | true =>
  simp only [h, Xr, if_true, if_false, Bool.false_eq_true] at hb
  (refine sR fun K hK => ?_; ((repeat (rw [Qa]; simp)); (try simp only [zs])))
  refine Xk.pure Qf (hb) ?_ (by simp [D.fgts, D.fgt, Qd t]) (by simp [D.pures, D.pure, Cp.free, D.pures_map, Qd t]) (by simp [Out.pure, D.pure, D.pures, Cp.free, D.pures_map, Qd t])
  ((try simp only [Qb, Qc, Qn, Qi, Qj]); (repeat (rw [Qa]; simp)); (try simp only [zs]))
  (refine hK _ _ _ ?_; clear hK K)
  (refine sR fun K hK => ?_; ((repeat (rw [Qa]; simp)); (try simp only [zs])); refine hK _ _ _ ?_; clear hK K)
  (refine Qo ?_; (try simp only [zs]); refine Wa.ret rfl (.inl ?_); simp [Qt, Out.fgt, D.fgt, D.fgts])
  rfl
 | false =>
  simp only [h, Xr, if_true, if_false, Bool.false_eq_true] at hb
  (refine sR fun K hK => ?_; ((repeat (rw [Qa]; simp)); (try simp only [zs])))
  refine Xk.pure Qf (hb) ?_ (by simp [D.fgts, D.fgt, Qd t, Wn]) (by simp [D.pures, D.pure, Cp.free, D.pures_map, Qd t, Wn]) (by simp [Out.pure, D.pure, D.pures, Cp.free, D.pures_map, Qd t, Wn])
  ((try simp only [Qb, Qc, Qn, Qi, Qj]); (repeat (rw [Qa]; simp)); (try simp only [zs]))
  ((try simp only [zs]); refine Wa.pan (.inl ?_); simp [Out.fgt, D.fgt, D.fgts])
  rfl
theorem six_spec (n sc : Int) (cs : List Int) (t : T) : Qu Tryz.prog glob 98 [walkD n sc cs, Qx t] [] (fun o _ => o.fgt = Xr (bareB t) (.int .i64 6)) := by
 refine Qu.movd Qf (Qp Wc Tryz.func98 rfl (Qw _ _ Tryz.func98 rfl (by decide)) rfl rfl ?_)
 unfold walkD Ints
 (refine sR fun K hK => ?_; ((repeat (rw [Qa]; simp)); (try simp only [zs])); refine hK _ _ _ ?_; clear hK K)
 have hb := bare_spec t
 cases h : bareB t with
 | true =>
  simp only [h, Xr, if_true, if_false, Bool.false_eq_true] at hb
  (refine sR fun K hK => ?_; ((repeat (rw [Qa]; simp)); (try simp only [zs])))
  refine Xk.pure Qf (hb) ?_ (by simp [D.fgts, D.fgt, Qd t]) (by simp [D.pures, D.pure, Cp.free, D.pures_map, Qd t]) (by simp [Out.pure, D.pure, D.pures, Cp.free, D.pures_map, Qd t])
  ((try simp only [Qb, Qc, Qn, Qi, Qj]); (repeat (rw [Qa]; simp)); (try simp only [zs]))
  (refine hK _ _ _ ?_; clear hK K)
  (refine sR fun K hK => ?_; ((repeat (rw [Qa]; simp)); (try simp only [zs])); refine hK _ _ _ ?_; clear hK K)
  (refine Qo ?_; (try simp only [zs]); refine Wa.ret rfl (.inl ?_); simp [Qt, Out.fgt, D.fgt, D.fgts])
  rfl
 | false =>
  simp only [h, Xr, if_true, if_false, Bool.false_eq_true] at hb
  (refine sR fun K hK => ?_; ((repeat (rw [Qa]; simp)); (try simp only [zs])))
  refine Xk.pure Qf (hb) ?_ (by simp [D.fgts, D.fgt, Qd t, Wn]) (by simp [D.pures, D.pure, Cp.free, D.pures_map, Qd t, Wn]) (by simp [Out.pure, D.pure, D.pures, Cp.free, D.pures_map, Qd t, Wn])
  ((try simp only [Qb, Qc, Qn, Qi, Qj]); (repeat (rw [Qa]; simp)); (try simp only [zs]))
  ((try simp only [zs]); refine Wa.pan (.inl ?_); simp [Out.fgt, D.fgt, D.fgts])
  rfl
theorem variable_spec (n sc : Int) (cs : List Int) (t : T) : Qu Tryz.prog glob 90 [walkD n sc cs, Qx t] [] (fun o _ => o.fgt = Xr (variableB sc t) (.int .i64 0)) := by
 refine Qu.movd Qf (Qp Wc Tryz.func90 rfl (Qw _ _ Tryz.func90 rfl (by decide)) rfl rfl ?_)
 unfold walkD Ints
 (refine sR fun K hK => ?_; ((repeat (rw [Qa]; simp)); (try simp only [zs])); refine hK _ _ _ ?_; clear hK K)
 cases h : variableB sc t with
 | true =>
  (refine sR fun K hK => ?_; ((repeat (rw [Qa]; simp)); (try simp only [zs])))
  refine Xk.pure Qf (must_ok [decide (0 <= t.n), decide (t.n < sc), decide (t.a = 0), decide (t.ls = [])] (by simpa [variableB, and_assoc] using h)) ?_ (by simp [D.fgts, D.fgt, Wz]) (by simp [D.pures, D.pure, Cp.free, D.pures_map, Wz]) (by simp [Out.pure, D.pure, D.pures, Cp.free, D.pures_map, Wz])
  ((try simp only [Qb, Qc, Qn, Qi, Qj]); (repeat (rw [Qa]; simp)); (try simp only [zs]))
  (refine hK _ _ _ ?_; clear hK K)
  (refine sR fun K hK => ?_; ((repeat (rw [Qa]; simp)); (try simp only [zs])); refine hK _ _ _ ?_; clear hK K)
  (refine Qo ?_; (try simp only [zs]); refine Wa.ret rfl (.inl ?_); simp [Qt, Out.fgt, D.fgt, D.fgts])
  rfl
 | false =>
  (refine sR fun K hK => ?_; ((repeat (rw [Qa]; simp)); (try simp only [zs])))
  refine Xk.pure Qf (must_no [decide (0 <= t.n), decide (t.n < sc), decide (t.a = 0), decide (t.ls = [])] (by simpa [variableB, -Bool.and_eq_false_imp, Bool.and_assoc] using h)) ?_ (by simp [D.fgts, D.fgt, Wz, Wn]) (by simp [D.pures, D.pure, Cp.free, D.pures_map, Wz, Wn]) (by simp [Out.pure, D.pure, D.pures, Cp.free, D.pures_map, Wz, Wn])
  ((try simp only [Qb, Qc, Qn, Qi, Qj]); (repeat (rw [Qa]; simp)); (try simp only [zs]))
  ((try simp only [zs]); refine Wa.pan (.inl ?_); simp [Out.fgt, D.fgt, D.fgts])
  rfl
theorem fin_spec (n sc : Int) (cs : List Int) (t : T) : Qu Tryz.prog glob 99 [walkD n sc cs, Qx t] [] (fun o _ => o.fgt = Xr (finB t) (.int .i64 0)) := by
 refine Qu.movd Qf (Qp Wc Tryz.func99 rfl (Qw _ _ Tryz.func99 rfl (by decide)) rfl rfl ?_)
 unfold walkD Ints
 (refine sR fun K hK => ?_; ((repeat (rw [Qa]; simp)); (try simp only [zs])); refine hK _ _ _ ?_; clear hK K)
 cases h : finB t with
 | true =>
  (refine sR fun K hK => ?_; ((repeat (rw [Qa]; simp)); (try simp only [zs])))
  refine Xk.pure Qf (must_ok [decide (0 <= t.n), decide (t.a = 0), decide (t.ls = [])] (by simpa [finB, and_assoc] using h)) ?_ (by simp [D.fgts, D.fgt, Wz]) (by simp [D.pures, D.pure, Cp.free, D.pures_map, Wz]) (by simp [Out.pure, D.pure, D.pures, Cp.free, D.pures_map, Wz])
  ((try simp only [Qb, Qc, Qn, Qi, Qj]); (repeat (rw [Qa]; simp)); (try simp only [zs]))
  (refine hK _ _ _ ?_; clear hK K)
  (refine sR fun K hK => ?_; ((repeat (rw [Qa]; simp)); (try simp only [zs])); refine hK _ _ _ ?_; clear hK K)
  (refine Qo ?_; (try simp only [zs]); refine Wa.ret rfl (.inl ?_); simp [Qt, Out.fgt, D.fgt, D.fgts])
  rfl
 | false =>
  (refine sR fun K hK => ?_; ((repeat (rw [Qa]; simp)); (try simp only [zs])))
  refine Xk.pure Qf (must_no [decide (0 <= t.n), decide (t.a = 0), decide (t.ls = [])] (by simpa [finB, -Bool.and_eq_false_imp, Bool.and_assoc] using h)) ?_ (by simp [D.fgts, D.fgt, Wz, Wn]) (by simp [D.pures, D.pure, Cp.free, D.pures_map, Wz, Wn]) (by simp [Out.pure, D.pure, D.pures, Cp.free, D.pures_map, Wz, Wn])
  ((try simp only [Qb, Qc, Qn, Qi, Qj]); (repeat (rw [Qa]; simp)); (try simp only [zs]))
  ((try simp only [zs]); refine Wa.pan (.inl ?_); simp [Out.fgt, D.fgt, D.fgts])
  rfl
theorem elem_spec (n sc : Int) (cs : List Int) (t : T) : Qu Tryz.prog glob 100 [walkD n sc cs, Qx t] [] (fun o _ => o.fgt = Xr (elemB t) (.int .i64 0)) := by
 refine Qu.movd Qf (Qp Wc Tryz.func100 rfl (Qw _ _ Tryz.func100 rfl (by decide)) rfl rfl ?_)
 unfold walkD Ints
 (refine sR fun K hK => ?_; ((repeat (rw [Qa]; simp)); (try simp only [zs])); refine hK _ _ _ ?_; clear hK K)
 cases h : elemB t with
 | true =>
  (refine sR fun K hK => ?_; ((repeat (rw [Qa]; simp)); (try simp only [zs])))
  refine Xk.pure Qf (must_ok [decide (0 <= t.n), decide (t.n < t.a), decide (t.ls = [])] (by simpa [elemB, and_assoc] using h)) ?_ (by simp [D.fgts, D.fgt, Wz]) (by simp [D.pures, D.pure, Cp.free, D.pures_map, Wz]) (by simp [Out.pure, D.pure, D.pures, Cp.free, D.pures_map, Wz])
  ((try simp only [Qb, Qc, Qn, Qi, Qj]); (repeat (rw [Qa]; simp)); (try simp only [zs]))
  (refine hK _ _ _ ?_; clear hK K)
  (refine sR fun K hK => ?_; ((repeat (rw [Qa]; simp)); (try simp only [zs])); refine hK _ _ _ ?_; clear hK K)
  (refine Qo ?_; (try simp only [zs]); refine Wa.ret rfl (.inl ?_); simp [Qt, Out.fgt, D.fgt, D.fgts])
  rfl
 | false =>
  (refine sR fun K hK => ?_; ((repeat (rw [Qa]; simp)); (try simp only [zs])))
  refine Xk.pure Qf (must_no [decide (0 <= t.n), decide (t.n < t.a), decide (t.ls = [])] (by simpa [elemB, -Bool.and_eq_false_imp, Bool.and_assoc] using h)) ?_ (by simp [D.fgts, D.fgt, Wz, Wn]) (by simp [D.pures, D.pure, Cp.free, D.pures_map, Wz, Wn]) (by simp [Out.pure, D.pure, D.pures, Cp.free, D.pures_map, Wz, Wn])
  ((try simp only [Qb, Qc, Qn, Qi, Qj]); (repeat (rw [Qa]; simp)); (try simp only [zs]))
  ((try simp only [zs]); refine Wa.pan (.inl ?_); simp [Out.fgt, D.fgt, D.fgts])
  rfl
theorem branches_spec (n sc : Int) (cs : List Int) (t : T) : Qu Tryz.prog glob 101 [walkD n sc cs, Qx t] [] (fun o _ => o.fgt = Xr (branchesB t) (.int .i64 (IntKind.i64.wrap (t.a + 2)))) := by
 refine Qu.movd Qf (Qp Wc Tryz.func101 rfl (Qw _ _ Tryz.func101 rfl (by decide)) rfl rfl ?_)
 unfold walkD Ints
 (refine sR fun K hK => ?_; ((repeat (rw [Qa]; simp)); (try simp only [zs])); refine hK _ _ _ ?_; clear hK K)
 cases h : branchesB t with
 | true =>
  (refine sR fun K hK => ?_; ((repeat (rw [Qa]; simp)); (try simp only [zs])))
  refine Xk.pure Qf (must_ok [decide (t.n = 0), decide (0 <= t.a), decide (t.ls = [])] (by simpa [branchesB, and_assoc] using h)) ?_ (by simp [D.fgts, D.fgt, Wz]) (by simp [D.pures, D.pure, Cp.free, D.pures_map, Wz]) (by simp [Out.pure, D.pure, D.pures, Cp.free, D.pures_map, Wz])
  ((try simp only [Qb, Qc, Qn, Qi, Qj]); (repeat (rw [Qa]; simp)); (try simp only [zs]))
  (refine hK _ _ _ ?_; clear hK K)
  (refine sR fun K hK => ?_; ((repeat (rw [Qa]; simp)); (try simp only [zs])); refine hK _ _ _ ?_; clear hK K)
  (refine Qo ?_; (try simp only [zs]); refine Wa.ret rfl (.inl ?_); simp [Qt, Out.fgt, D.fgt, D.fgts])
  rfl
 | false =>
  (refine sR fun K hK => ?_; ((repeat (rw [Qa]; simp)); (try simp only [zs])))
  refine Xk.pure Qf (must_no [decide (t.n = 0), decide (0 <= t.a), decide (t.ls = [])] (by simpa [branchesB, -Bool.and_eq_false_imp, Bool.and_assoc] using h)) ?_ (by simp [D.fgts, D.fgt, Wz, Wn]) (by simp [D.pures, D.pure, Cp.free, D.pures_map, Wz, Wn]) (by simp [Out.pure, D.pure, D.pures, Cp.free, D.pures_map, Wz, Wn])
  ((try simp only [Qb, Qc, Qn, Qi, Qj]); (repeat (rw [Qa]; simp)); (try simp only [zs]))
  ((try simp only [zs]); refine Wa.pan (.inl ?_); simp [Out.fgt, D.fgt, D.fgts])
  rfl
theorem scopeRight_spec (n sc : Int) (ls : List LV) (hl : ls.length <= Wd) (hls : ∀ l, l ∈ ls -> l.length <= Wd) : Qu Tryz.prog glob 128 [scopeD n sc, Lvs ls] [] (fun o _ => o.fgt = Xr (ls.all fun l => levelRight l n) (.tuple [])) := by
 obtain ⟨R, hR⟩ : ∃ R, R = ls.all fun l => levelRight l n := ⟨_, rfl⟩
 rw [<- hR]
 refine Qu.movd Qf (Qp Wc Tryz.func128 rfl (Qw _ _ Tryz.func128 rfl (by decide)) rfl rfl ?_)
 unfold scopeD Lvs
 (refine sR fun K hK => ?_; ((repeat (rw [Qa]; simp)); (try simp only [zs])); refine hK _ _ _ ?_; clear hK K)
 (refine sR fun K hK => ?_; ((repeat (rw [Qa]; simp)); (try simp only [zs])); refine hK _ _ _ ?_; clear hK K)
 refine Za Wc Qf (ti := 3) (tk := 8) (tn := 7) (td := 9) (ts := 18) [5, 8, 9, 10, 11, 12, 13, 14, 15, 16, 17, 18] [] (ls.length) (fun k ys hl => ys = [] /\ R = ((ls.drop k).all fun l => levelRight l n) /\ hl = [.cells 92 [.int .i64 n, .int .i64 sc]]) rfl rfl rfl rfl rfl rfl rfl rfl rfl rfl rfl rfl (by simp) (by decide) rfl (by first | assumption | omega | (unfold Wd; omega)) rfl (by kernel_rfl) (by decide) ?_ ?_ ?_
 ·exact ⟨rfl, hR, rfl⟩
 ·rintro i ys hl A hi ⟨rfl, hF, rfl⟩ hA hA2
  simp only [Qv, List.set, List.map_cons, List.map_nil, List.cons_append, List.nil_append]
  have hi' : (i : Int) < ls.length := by omega
  rw [List.drop_eq_getElem_cons hi, List.all_cons] at hF
  have hlr := levelRight_spec ls[i] n (hls _ (List.getElem_mem hi))
  obtain ⟨x, hx⟩ : ∃ x, ls[i] = x := ⟨_, rfl⟩
  rw [hx] at hF hlr
  unfold Wm at hlr
  generalize levelRight x n = B at hF hlr
  (refine sR fun K hK => ?_; ((repeat (rw [Qa]; simp [hi, hi', hx, Wm])); (try simp only [zs])); refine hK _ _ _ ?_; clear hK K)
  cases B with
  | true =>
   (refine Qz Wc ?_; ((repeat (rw [Qa]; simp)); (try simp only [zs])))
   refine cXp (hlr) ?_
   ((try simp only [Qb, Qc, Qn, Qi, Qj]); (repeat (rw [Qa]; simp)); (try simp only [zs]))
   refine Xk.pure Qf (must_ok [true] rfl) ?_ (by simp [D.fgts, D.fgt, Wz]) (by simp [D.pures, D.pure, Cp.free, D.pures_map, Wz]) (by simp [Out.pure, D.pure, D.pures, Cp.free, D.pures_map, Wz])
   ((try simp only [Qb, Qc, Qn, Qi, Qj]); (repeat (rw [Qa]; simp)); (try simp only [zs]))
   (refine hA2 ([0]) _ _ _ (LeT.refl _) (by decide) (by simp) (by simp [Wg, Wh, Wj, D.mov, HO.mov, okM, Wi, We, zz, okA, Qr, Qq, hOf, Qe, Qv]) ?_ rfl; simp [Wg, Wh, Wj, D.mov, HO.mov, okM, Wi, We, zz, okA, Qr, Qq, hOf, Qe])
   simpa using hF
  | false =>
   (refine Qz Wc ?_; ((repeat (rw [Qa]; simp)); (try simp only [zs])))
   refine cXp (hlr) ?_
   ((try simp only [Qb, Qc, Qn, Qi, Qj]); (repeat (rw [Qa]; simp)); (try simp only [zs]))
   refine Xk.pure Qf (must_no [false] rfl) ?_ (by simp [D.fgts, D.fgt, Wz, Wn]) (by simp [D.pures, D.pure, Cp.free, D.pures_map, Wz, Wn]) (by simp [Out.pure, D.pure, D.pures, Cp.free, D.pures_map, Wz, Wn])
   ((try simp only [Qb, Qc, Qn, Qi, Qj]); (repeat (rw [Qa]; simp)); (try simp only [zs]))
   ((try simp only [zs]); refine Wa.pan (.inl ?_); simp [Out.fgt, D.fgt, D.fgts])
   rw [hF]; rfl
 ·rintro ys hl tl' ⟨rfl, hF, rfl⟩ htl
  rw [List.drop_length] at hF
  subst hF
  ((try simp only [zs]); refine Wa.nrm rfl (.inl ?_); simp [Qt, Out.fgt, D.fgt, D.fgts])
  rfl
theorem scopeRight_ok (n sc : Int) (ls : List LV) (hl : ls.length <= Wd) (hls : ∀ l, l ∈ ls -> l.length <= Wd) (h : (ls.all fun l => levelRight l n) = true) : Qu Tryz.prog glob 128 [scopeD n sc, Lvs ls] [] (fun o _ => o.fgt = .ret (.tuple [])) := by
 have := scopeRight_spec n sc ls hl hls
 rw [h] at this
 exact this
theorem scopeRight_no (n sc : Int) (ls : List LV) (hl : ls.length <= Wd) (hls : ∀ l, l ∈ ls -> l.length <= Wd) (h : (ls.all fun l => levelRight l n) = false) : Qu Tryz.prog glob 128 [scopeD n sc, Lvs ls] [] (fun o _ => o.fgt = .pan Wn) := by
 have := scopeRight_spec n sc ls hl hls
 rw [h] at this
 exact this
theorem sort_spec (n sc : Int) (cs : List Int) (t : T) (hl : t.ls.length <= Wd) (hls : ∀ l, l ∈ t.ls -> l.length <= Wd) : Qu Tryz.prog glob 91 [walkD n sc cs, Qx t] [] (fun o _ => o.fgt = Xr (sortB n t) (.int .i64 0)) := by
 refine Qu.movd Qf (Qp Wc Tryz.func91 rfl (Qw _ _ Tryz.func91 rfl (by decide)) rfl rfl ?_)
 unfold walkD Ints
 (refine sR fun K hK => ?_; ((repeat (rw [Qa]; simp)); (try simp only [zs])); refine hK _ _ _ ?_; clear hK K)
 have e1 : decide ((t.ls.length : Int) = 1) = decide (t.ls.length = 1) := by congr 1; exact propext (by omega)
 cases h : decide (t.n = 0) && decide (t.a = 0) && decide (t.ls.length = 1) with
 | false =>
  (refine sR fun K hK => ?_; ((repeat (rw [Qa]; simp [e1])); (try simp only [zs])))
  refine Xk.pure Qf (must_no [decide (t.n = 0), decide (t.a = 0), decide (t.ls.length = 1)] (by simpa [-Bool.and_eq_false_imp, Bool.and_assoc] using h)) ?_ (by simp [D.fgts, D.fgt, Wz, Wn, e1]) (by simp [D.pures, D.pure, Cp.free, D.pures_map, Wz, Wn, e1]) (by simp [Out.pure, D.pure, D.pures, Cp.free, D.pures_map, Wz, Wn, e1])
  ((try simp only [Qb, Qc, Qn, Qi, Qj]); (repeat (rw [Qa]; simp)); (try simp only [zs]))
  ((try simp only [zs]); refine Wa.pan (.inl ?_); simp [Out.fgt, D.fgt, D.fgts])
  simp [sortB, h, Xr, Wn]; rfl
 | true =>
  (refine sR fun K hK => ?_; ((repeat (rw [Qa]; simp [e1])); (try simp only [zs])))
  refine Xk.pure Qf (must_ok [decide (t.n = 0), decide (t.a = 0), decide (t.ls.length = 1)] (by simpa [and_assoc] using h)) ?_ (by simp [D.fgts, D.fgt, Wz, e1]) (by simp [D.pures, D.pure, Cp.free, D.pures_map, Wz, e1]) (by simp [Out.pure, D.pure, D.pures, Cp.free, D.pures_map, Wz, e1])
  ((try simp only [Qb, Qc, Qn, Qi, Qj]); (repeat (rw [Qa]; simp)); (try simp only [zs]))
  (refine hK _ _ _ ?_; clear hK K)
  cases h2 : t.ls.all fun l => levelRight l n with
  | false =>
   (refine sR fun K hK => ?_; ((repeat (rw [Qa]; simp)); (try simp only [zs])))
   refine Xk.pure Qf (scopeRight_no n sc t.ls hl hls h2) ?_ (by simp [D.fgts, D.fgt, scopeD, Lvs, Wn]) (by simp [D.pures, D.pure, Cp.free, D.pures_map, scopeD, Lvs, Wn]) (by simp [Out.pure, D.pure, D.pures, Cp.free, D.pures_map, scopeD, Lvs, Wn])
   ((try simp only [Qb, Qc, Qn, Qi, Qj]); (repeat (rw [Qa]; simp)); (try simp only [zs]))
   ((try simp only [zs]); refine Wa.pan (.inl ?_); simp [Out.fgt, D.fgt, D.fgts])
   simp [sortB, h, h2, Xr, Wn]; rfl
  | true =>
   (refine sR fun K hK => ?_; ((repeat (rw [Qa]; simp)); (try simp only [zs])))
   refine Xk.pure Qf (scopeRight_ok n sc t.ls hl hls h2) ?_ (by simp [D.fgts, D.fgt, scopeD, Lvs]) (by simp [D.pures, D.pure, Cp.free, D.pures_map, scopeD, Lvs]) (by simp [Out.pure, D.pure, D.pures, Cp.free, D.pures_map, scopeD, Lvs])
   ((try simp only [Qb, Qc, Qn, Qi, Qj]); (repeat (rw [Qa]; simp)); (try simp only [zs]))
   (refine hK _ _ _ ?_; clear hK K)
   (refine sR fun K hK => ?_; ((repeat (rw [Qa]; simp)); (try simp only [zs])); refine hK _ _ _ ?_; clear hK K)
   (refine Qo ?_; (try simp only [zs]); refine Wa.ret rfl (.inl ?_); simp [Qt, Out.fgt, D.fgt, D.fgts])
   simp only [sortB, h, h2]; rfl
theorem constant_spec (n sc : Int) (cs : List Int) (t : T) (hcs : cs.length <= Wd) (hl : t.ls.length <= Wd) (hls : ∀ l, l ∈ t.ls -> l.length <= Wd) : Qu Tryz.prog glob 92 [walkD n sc cs, Qx t] [] (fun o _ => o.fgt = Xr (constB n cs t) (.int .i64 0)) := by
 refine Qu.movd Qf (Qp Wc Tryz.func92 rfl (Qw _ _ Tryz.func92 rfl (by decide)) rfl rfl ?_)
 unfold walkD Ints
 (refine sR fun K hK => ?_; ((repeat (rw [Qa]; simp)); (try simp only [zs])); refine hK _ _ _ ?_; clear hK K)
 cases h : decide (0 <= t.n) && decide (t.n < cs.length) && decide (t.a = 0) with
 | false =>
  (refine sR fun K hK => ?_; ((repeat (rw [Qa]; simp)); (try simp only [zs])))
  refine Xk.pure Qf (must_no [decide (0 <= t.n), decide (t.n < cs.length), decide (t.a = 0)] (by simpa [-Bool.and_eq_false_imp, Bool.and_assoc] using h)) ?_ (by simp [D.fgts, D.fgt, Wz, Wn]) (by simp [D.pures, D.pure, Cp.free, D.pures_map, Wz, Wn]) (by simp [Out.pure, D.pure, D.pures, Cp.free, D.pures_map, Wz, Wn])
  ((try simp only [Qb, Qc, Qn, Qi, Qj]); (repeat (rw [Qa]; simp)); (try simp only [zs]))
  ((try simp only [zs]); refine Wa.pan (.inl ?_); simp [Out.fgt, D.fgt, D.fgts])
  simp [constB, h, Xr, Wn]; rfl
 | true =>
  (refine sR fun K hK => ?_; ((repeat (rw [Qa]; simp)); (try simp only [zs])))
  refine Xk.pure Qf (must_ok [decide (0 <= t.n), decide (t.n < cs.length), decide (t.a = 0)] (by simpa [and_assoc] using h)) ?_ (by simp [D.fgts, D.fgt, Wz]) (by simp [D.pures, D.pure, Cp.free, D.pures_map, Wz]) (by simp [Out.pure, D.pure, D.pures, Cp.free, D.pures_map, Wz])
  ((try simp only [Qb, Qc, Qn, Qi, Qj]); (repeat (rw [Qa]; simp)); (try simp only [zs]))
  (refine hK _ _ _ ?_; clear hK K)
  have h0 := h
  simp only [Bool.and_eq_true, decide_eq_true_eq] at h0
  obtain ⟨⟨k1, k2⟩, k3⟩ := h0
  have k4 : t.n.toNat < cs.length := by omega
  have k5 : cs.getD t.n.toNat 0 = cs[t.n.toNat] := by rw [List.getD_eq_getElem?_getD, List.getElem?_eq_getElem k4]; rfl
  cases h1 : decide ((t.ls.length : Int) = cs[t.n.toNat]) with
  | false =>
   (refine Qg fun K hK => ?_; refine dR fun KT hKT => ?_; ((repeat (rw [Qh]; simp [k1, k4])); (try simp only [Qk])))
   refine CallY.pure Qf (must_no [decide ((t.ls.length : Int) = cs[t.n.toNat])] (by simp [h1])) ?_ (by simp [D.fgts, D.fgt, Wz, Wn]) (by simp [D.pures, D.pure, Cp.free, D.pures_map, Wz, Wn]) (by simp [Out.pure, D.pure, D.pures, Cp.free, D.pures_map, Wz, Wn])
   ((try simp only [Ql, Qm, Qn, Qi, Qj]); (repeat (rw [Qh]; simp)); (try simp only [Qk]))
   (refine hKT _ _ _ _ (by kernel_rfl) ?_; clear hKT KT; (try simp only [zs]))
   simp
   ((try simp only [zs]); refine Wa.pan (.inl ?_); simp [Out.fgt, D.fgt, D.fgts])
   simp only [constB, h, k5, h1]; rfl
  | true =>
   (refine Qg fun K hK => ?_; refine dR fun KT hKT => ?_; ((repeat (rw [Qh]; simp [k1, k4])); (try simp only [Qk])))
   refine CallY.pure Qf (must_ok [decide ((t.ls.length : Int) = cs[t.n.toNat])] (by simp [h1])) ?_ (by simp [D.fgts, D.fgt, Wz]) (by simp [D.pures, D.pure, Cp.free, D.pures_map, Wz]) (by simp [Out.pure, D.pure, D.pures, Cp.free, D.pures_map, Wz])
   ((try simp only [Ql, Qm, Qn, Qi, Qj]); (repeat (rw [Qh]; simp)); (try simp only [Qk]))
   (refine hKT _ _ _ _ (by kernel_rfl) ?_; clear hKT KT; (try simp only [zs]))
   (refine hK _ _ _ ?_; clear hK K)
   cases h2 : t.ls.all fun l => levelRight l n with
   | false =>
    (refine sR fun K hK => ?_; ((repeat (rw [Qa]; simp)); (try simp only [zs])))
    refine Xk.pure Qf (scopeRight_no n sc t.ls hl hls h2) ?_ (by simp [D.fgts, D.fgt, scopeD, Lvs, Wn]) (by simp [D.pures, D.pure, Cp.free, D.pures_map, scopeD, Lvs, Wn]) (by simp [Out.pure, D.pure, D.pures, Cp.free, D.pures_map, scopeD, Lvs, Wn])
    ((try simp only [Qb, Qc, Qn, Qi, Qj]); (repeat (rw [Qa]; simp)); (try simp only [zs]))
    ((try simp only [zs]); refine Wa.pan (.inl ?_); simp [Out.fgt, D.fgt, D.fgts])
    simp only [constB, h, k5, h1, h2]; rfl
   | true =>
    (refine sR fun K hK => ?_; ((repeat (rw [Qa]; simp)); (try simp only [zs])))
    refine Xk.pure Qf (scopeRight_ok n sc t.ls hl hls h2) ?_ (by simp [D.fgts, D.fgt, scopeD, Lvs]) (by simp [D.pures, D.pure, Cp.free, D.pures_map, scopeD, Lvs]) (by simp [Out.pure, D.pure, D.pures, Cp.free, D.pures_map, scopeD, Lvs])
    ((try simp only [Qb, Qc, Qn, Qi, Qj]); (repeat (rw [Qa]; simp)); (try simp only [zs]))
    (refine hK _ _ _ ?_; clear hK K)
    (refine sR fun K hK => ?_; ((repeat (rw [Qa]; simp)); (try simp only [zs])); refine hK _ _ _ ?_; clear hK K)
    (refine Qo ?_; (try simp only [zs]); refine Wa.ret rfl (.inl ?_); simp [Qt, Out.fgt, D.fgt, D.fgts])
    simp only [constB, h, k5, h1, h2]; rfl
theorem kinds_spec : Qu Tryz.prog glob 56 [] [] (fun o _ => o.fgt = .ret coreMap) := by
 refine Qu.movd Qf (Qp Wc Tryz.func56 rfl (Qw _ _ Tryz.func56 rfl (by decide)) rfl rfl ?_)
 (refine sR fun K hK => ?_; ((repeat (rw [Qa]; simp)); (try simp only [zs])); refine hK _ _ _ ?_; clear hK K)
 (refine sR fun K hK => ?_; ((repeat (rw [Qa]; simp)); (try simp only [zs])); refine hK _ _ _ ?_; clear hK K)
 refine wpD_staym 0 (es := coreAsk.map fun p => (.int .i64 p.1, .fn (.func p.2) [] [])) rfl ?_
 simp [D.frzs, D.frz, HO.frz, dfFrz]
 (refine Qo ?_; (try simp only [zs]); refine Wa.ret rfl (.inl ?_); simp [Qt, Out.fgt, D.fgt, D.fgts])
 rfl
def lookAsk (k : Int) : Option FuncId := (coreAsk.find? fun p => decide (k = p.1)).map (·.2)
theorem look_small : ∀ j : Fin 25, (lookAsk (j.1 : Int)).isSome = inCore (j.1 : Int) := by decide
theorem look_in (k : Int) : (lookAsk k).isSome = inCore k := by
 by_cases h : 0 <= k /\ k < 25
 ·obtain ⟨j, rfl⟩ : ∃ j : Nat, k = j := ⟨k.toNat, by omega⟩
  exact look_small ⟨j, by omega⟩
 ·have h1 : inCore k = false := by unfold inCore; simp; omega
  rw [h1]
  unfold lookAsk
  rw [Option.isSome_map, Option.isSome_eq_false_iff, Option.isNone_iff_eq_none, List.find?_eq_none]
  intro p hp
  simp only [coreAsk, List.mem_cons, List.not_mem_nil, or_false] at hp
  rcases hp with rfl | rfl | rfl | rfl | rfl | rfl | rfl | rfl | rfl | rfl | rfl | rfl | rfl | rfl | rfl | rfl | rfl | rfl | rfl | rfl <;> simp <;> omega
theorem ask_spec (n sc : Int) (cs : List Int) (t : T) (hcs : cs.length <= Wd) (ht : okT t) (f : FuncId) (hf : lookAsk t.k = some f) :
  Qu Tryz.prog glob f [walkD n sc cs, Qx t] [] (fun o _ => o.fgt = Xr (askC n sc cs t) (.int .i64 (askN t.k t.a))) := by
 have hl := ht.ll
 have hls : ∀ l, l ∈ t.ls -> l.length <= Wd := fun l h => (ht.ls l h).1
 have key : (t.k, f) ∈ coreAsk := by
  unfold lookAsk at hf
  cases h : coreAsk.find? (fun p => decide (t.k = p.1)) with
  | none => rw [h] at hf; cases hf
  | some p =>
   rw [h] at hf
   cases hf
   have h1 := List.find?_some h
   have h2 := List.mem_of_find?_eq_some h
   simp only [decide_eq_true_eq] at h1
   rw [h1]; exact h2
 simp only [coreAsk, List.mem_cons, Prod.mk.injEq, List.not_mem_nil, or_false] at key
 rcases key with ⟨h, rfl⟩ | ⟨h, rfl⟩ | ⟨h, rfl⟩ | ⟨h, rfl⟩ | ⟨h, rfl⟩ | ⟨h, rfl⟩ | ⟨h, rfl⟩ | ⟨h, rfl⟩ | ⟨h, rfl⟩ | ⟨h, rfl⟩ | ⟨h, rfl⟩ | ⟨h, rfl⟩ | ⟨h, rfl⟩ | ⟨h, rfl⟩ | ⟨h, rfl⟩ | ⟨h, rfl⟩ | ⟨h, rfl⟩ | ⟨h, rfl⟩ | ⟨h, rfl⟩ | ⟨h, rfl⟩ <;> simp only [askC, askN, h] <;> simp
 ·exact variable_spec n sc cs t
 ·exact sort_spec n sc cs t hl hls
 ·exact constant_spec n sc cs t hcs hl hls
 all_goals first | exact two_spec n sc cs t | exact three_spec n sc cs t | exact one_spec n sc cs t | exact five_spec n sc cs t | exact leaf_spec n sc cs t | exact six_spec n sc cs t | exact fin_spec n sc cs t | exact elem_spec n sc cs t | exact branches_spec n sc cs t
theorem core_len : coreKeys.length = coreVals.length := by kernel_rfl
theorem core_all : ((coreKeys.zip coreVals).all fun p => isIntK IntKind.i64 p.1) = true := by kernel_rfl
theorem find_ask (a : Int) : ∀ l : List (Int × FuncId), findD (.int .i64 a) ((l.map fun p => (.int .i64 p.1 : D)).zip (l.map fun p => (.fn (.func p.2) [] [] : D))) = ((l.find? fun p => decide (a = p.1)).map (·.2)).map fun f => .fn (.func f) [] []
 | [] => rfl
 | p :: r => by
  rw [List.map_cons, List.map_cons, List.zip_cons_cons, findD, List.find?_cons]
  by_cases h : a = p.1
  ·simp [keyEq, h]
  ·simp [keyEq, h]; simpa using find_ask a r
theorem core_find (a : Int) : findD (.int .i64 a) (coreKeys.zip coreVals) = (lookAsk a).map fun f => .fn (.func f) [] [] := find_ask a coreAsk
def ksC (n : Int) (cs : List Int) (k sc : Int) (ks : List T) (j : Nat) : Bool := coreKs n cs (ks.drop j) k j sc
theorem ksC_at {n : Int} {cs : List Int} {k sc : Int} {ks : List T} {j : Nat} (h : j < ks.length) : ksC n cs k sc ks j = (coreB n cs ks[j] (Zb sc k j) && ksC n cs k sc ks (j + 1)) := by
 unfold ksC
 rw [List.drop_eq_getElem_cons h, coreKs]
theorem ksC_end {n : Int} {cs : List Int} {k sc : Int} {ks : List T} : ksC n cs k sc ks ks.length = true := by
 unfold ksC
 rw [List.drop_length, coreKs]
theorem cwalk_spec (n : Int) (cs : List Int) (hcs : cs.length <= Wd) (t : T) : ∀ sc, okT t -> Qu Tryz.prog glob 57 [walkD n sc cs, Qx t] [] (fun o _ => o.fgt = Xr (coreB n cs t sc) (.tuple [])) := by
 induction t using T.ind with
 | h kk m a ls ks ih =>
  intro sc ht
  have hkl : ks.length <= Wd := ht.kl
  have hks := ht.ks
  simp only [T.ks_mk] at hks
  have ha0 := fun f hf => ask_spec n sc cs _ hcs ht f hf
  simp only [T.k_mk, T.a_mk] at ha0
  have hC : coreB n cs (.mk kk m a ls ks) sc = (inCore kk && askC n sc cs (.mk kk m a ls ks) && decide ((ks.length : Int) = askN kk a) && ksC n cs kk sc ks 0) := by
   rw [coreB]; rfl
  generalize coreB n cs (.mk kk m a ls ks) sc = R at hC ⊢
  generalize askC n sc cs (.mk kk m a ls ks) = B at hC ha0
  generalize askN kk a = q at hC ha0
  have hin := look_in kk
  generalize inCore kk = I at hin hC
  rw [Qd] at ha0 ⊢
  simp only [T.k_mk, T.n_mk, T.a_mk, T.ls_mk, T.ks_mk] at ha0 ⊢
  unfold walkD Ints at ha0 ⊢
  refine Qu.movd Qf (Qp Wc Tryz.func57 rfl (Qw _ _ Tryz.func57 rfl (by decide)) rfl rfl ?_)
  (refine sR fun K hK => ?_; ((repeat (rw [Qa]; simp)); (try simp only [zs])); refine hK _ _ _ ?_; clear hK K)
  cases hf : lookAsk kk with
  | none =>
   rw [hf] at hin
   have hI : I = false := hin.symm
   subst hI
   (refine sR fun K hK => ?_; ((repeat (rw [Qa]; simp [coreMap, core_len, core_all, core_find, hf])); (try simp only [zs])); refine hK _ _ _ ?_; clear hK K)
   (refine sR fun K hK => ?_; ((repeat (rw [Qa]; simp)); (try simp only [zs])))
   refine Xk.pure Qf (must_no [false] rfl) ?_ (by simp [D.fgts, D.fgt, Wz, Wn]) (by simp [D.pures, D.pure, Cp.free, D.pures_map, Wz, Wn]) (by simp [Out.pure, D.pure, D.pures, Cp.free, D.pures_map, Wz, Wn])
   ((try simp only [Qb, Qc, Qn, Qi, Qj]); (repeat (rw [Qa]; simp)); (try simp only [zs]))
   ((try simp only [zs]); refine Wa.pan (.inl ?_); simp [Out.fgt, D.fgt, D.fgts])
   rw [hC]; simp [Xr, Wn, D.fgt, D.fgts]
  | some f =>
   rw [hf] at hin
   have hI : I = true := hin.symm
   subst hI
   have ha := ha0 f hf
   clear ha0
   (refine sR fun K hK => ?_; ((repeat (rw [Qa]; simp [coreMap, core_len, core_all, core_find, hf])); (try simp only [zs])); refine hK _ _ _ ?_; clear hK K)
   (refine sR fun K hK => ?_; ((repeat (rw [Qa]; simp)); (try simp only [zs])))
   refine Xk.pure Qf (must_ok [true] rfl) ?_ (by simp [D.fgts, D.fgt, Wz]) (by simp [D.pures, D.pure, Cp.free, D.pures_map, Wz]) (by simp [Out.pure, D.pure, D.pures, Cp.free, D.pures_map, Wz])
   ((try simp only [Qb, Qc, Qn, Qi, Qj]); (repeat (rw [Qa]; simp)); (try simp only [zs]))
   (refine hK _ _ _ ?_; clear hK K)
   cases B with
   | false =>
    simp only [Xr, if_false, Bool.false_eq_true] at ha
    (refine Qg fun K hK => ?_; refine dR fun KT hKT => ?_; ((repeat (rw [Qh]; simp)); (try simp only [Qk])))
    refine CallY.pure Qf ha ?_ (by simp [D.fgts, D.fgt, coreMap]) (by simp [D.pures, D.pure, Cp.free, D.pures_map]) (by simp [Out.pure, D.pure, D.pures, Wn])
    (try simp only [Ql, Qm, Qn, Qi, Qj])
    ((try simp only [Ql, Qm, Qn, Qi, Qj]); (repeat (refine wpT_late _ _ _ _ (by kernel_rfl) ?_; simp only [Qn, List.set, List.nil_append, List.cons_append, Nat.reduceAdd])); (try simp only [Qk]))
    (refine hKT _ _ _ _ (by kernel_rfl) ?_; clear hKT KT; (try simp only [zs]))
    simp
    ((try simp only [zs]); refine Wa.pan (.inl ?_); simp [Out.fgt, D.fgt, D.fgts])
    rw [hC]; simp [Xr, Wn, D.fgt, D.fgts]
   | true =>
    simp only [Xr, if_true] at ha
    cases hm : decide ((ks.length : Int) = q) with
    | false =>
     (refine Qg fun K hK => ?_; refine dR fun KT hKT => ?_; ((repeat (rw [Qh]; simp)); (try simp only [Qk])))
     refine CallY.pure Qf ha ?_ (by simp [D.fgts, D.fgt, coreMap]) (by simp [D.pures, D.pure, Cp.free, D.pures_map]) (by simp [Out.pure, D.pure, D.pures])
     ((try simp only [Ql, Qm, Qn, Qi, Qj]); (repeat (rw [Qh]; simp)); (try simp only [Qk]))
     refine CallY.pure Qf (must_no [decide ((ks.length : Int) = q)] (by simp [hm])) ?_ (by simp [D.fgts, D.fgt, Wz, Wn]) (by simp [D.pures, D.pure, Cp.free, D.pures_map, Wz, Wn]) (by simp [Out.pure, D.pure, D.pures, Cp.free, D.pures_map, Wz, Wn])
     ((try simp only [Ql, Qm, Qn, Qi, Qj]); (repeat (refine wpT_late _ _ _ _ (by kernel_rfl) ?_; simp only [Qn, List.set, List.nil_append, List.cons_append, Nat.reduceAdd])); (try simp only [Qk]))
     (refine hKT _ _ _ _ (by kernel_rfl) ?_; clear hKT KT; (try simp only [zs]))
     simp
     ((try simp only [zs]); refine Wa.pan (.inl ?_); simp [Out.fgt, D.fgt, D.fgts])
     rw [hC, hm]; simp [Xr, Wn, D.fgt, D.fgts]
    | true =>
     rw [hm] at hC
     simp only [Bool.true_and] at hC
     (refine Qg fun K hK => ?_; refine dR fun KT hKT => ?_; ((repeat (rw [Qh]; simp)); (try simp only [Qk])))
     refine CallY.pure Qf ha ?_ (by simp [D.fgts, D.fgt, coreMap]) (by simp [D.pures, D.pure, Cp.free, D.pures_map]) (by simp [Out.pure, D.pure, D.pures])
     ((try simp only [Ql, Qm, Qn, Qi, Qj]); (repeat (rw [Qh]; simp)); (try simp only [Qk]))
     refine CallY.pure Qf (must_ok [decide ((ks.length : Int) = q)] (by simp [hm])) ?_ (by simp [D.fgts, D.fgt, Wz]) (by simp [D.pures, D.pure, Cp.free, D.pures_map, Wz]) (by simp [Out.pure, D.pure, D.pures, Cp.free, D.pures_map, Wz])
     ((try simp only [Ql, Qm, Qn, Qi, Qj]); (repeat (rw [Qh]; simp)); (try simp only [Qk]))
     (refine hKT _ _ _ _ (by kernel_rfl) ?_; clear hKT KT; (try simp only [zs]))
     (refine hK _ _ _ ?_; clear hK K)
     clear ha hm
     (refine sR fun K hK => ?_; ((repeat (rw [Qa]; simp)); (try simp only [zs])); refine hK _ _ _ ?_; clear hK K)
     refine Za Wc Qf (ti := 3) (tk := 33) (tn := 32) (td := 34) (ts := 50) [6, 7, 8, 33, 34, 35, 36, 37, 38, 39, 40, 41, 42, 43, 44, 45, 46, 47, 48, 49, 50] [] (ks.length) (fun k ys hl => ys = [] /\ R = ksC n cs kk sc ks k /\ hl = [.cells 96 [.int .i64 n, .int .i64 sc, .slice (cs.map (.int .i64)) .any, coreMap], .cells 27 [.int .i64 kk, .int .i64 m, .int .i64 a, .slice (ls.map Wm) .any, .slice (ks.map Qx) .any]]) rfl rfl rfl rfl rfl rfl rfl rfl rfl rfl rfl rfl (by simp) (by decide) rfl (by first | assumption | omega | (unfold Wd; omega)) rfl (by kernel_rfl) (by decide) ?_ ?_ ?_
     ·exact ⟨rfl, hC, rfl⟩
     ·rintro i ys hl A hi ⟨rfl, hF, rfl⟩ hA hA2
      simp only [Qv, List.set, List.map_cons, List.map_nil, List.cons_append, List.nil_append]
      have hi' : (i : Int) < ks.length := by omega
      rw [ksC_at hi] at hF
      have hrec := ih ks[i] (List.getElem_mem hi) (Zb sc kk i) (hks _ (List.getElem_mem hi))
      have hbi := binds_spec kk i
      have hbl := sbelow_spec n sc 1
      have hbd : Zb sc kk i = if Wu kk i then IntKind.i64.wrap (sc + 1) else sc := rfl
      unfold walkD Ints at hrec
      unfold scopeD at hbl
      obtain ⟨x, hx⟩ : ∃ x, ks[i] = x := ⟨_, rfl⟩
      have hEx := Qd x
      rw [hx] at hrec hF
      rw [hEx] at hrec
      generalize coreB n cs x (Zb sc kk i) = Bx at hrec hF
      generalize Zb sc kk i = sc' at hrec hbd
      generalize Wu kk i = bb at hbi hbd
      (refine sR fun K hK => ?_; ((repeat (rw [Qa]; simp [hi, hi', hx, hEx])); (try simp only [zs])); refine hK _ _ _ ?_; clear hK K)
      (refine sR fun K hK => ?_; ((repeat (rw [Qa]; simp)); (try simp only [zs])); refine hK _ _ _ ?_; clear hK K)
      refine Qg fun K2 hK2 => ?_
      cases bb with
      | true =>
       rw [if_pos rfl] at hbd
       subst hbd
       (refine sR fun K hK => ?_; ((repeat (rw [Qa]; simp)); (try simp only [zs])))
       refine cXp (hbi) ?_
       ((try simp only [Qb, Qc, Qn, Qi, Qj]); (repeat (rw [Qa]; simp)); (try simp only [zs]))
       (refine hK _ _ _ ?_; clear hK K)
       refine pT rfl ?_
       (refine Qz Wc ?_; ((repeat (rw [Qa]; simp)); (try simp only [zs])))
       refine cXp (hbl) ?_
       ((try simp only [Qb, Qc, Qn, Qi, Qj]); (repeat (rw [Qa]; simp)); (try simp only [zs]))
       refine hK2 _ _ _ ?_
       cases Bx with
       | true =>
        simp only [Xr, if_true] at hrec
        (refine Qz Wc ?_; ((repeat (rw [Qa]; simp)); (try simp only [zs])))
        refine cXp (hrec) ?_
        ((try simp only [Qb, Qc, Qn, Qi, Qj]); (repeat (rw [Qa]; simp)); (try simp only [zs]))
        (refine hA2 ([0, 1]) _ _ _ (LeT.refl _) (by decide) (by simp) (by simp [Wg, Wh, Wj, D.mov, HO.mov, okM, Wi, We, zz, okA, Qr, Qq, hOf, Qe, Qv]) ?_ rfl; simp [Wg, Wh, Wj, D.mov, HO.mov, okM, Wi, We, zz, okA, Qr, Qq, hOf, Qe])
        simpa using hF
       | false =>
        simp only [Xr, if_false, Bool.false_eq_true] at hrec
        (refine Qz Wc ?_; ((repeat (rw [Qa]; simp)); (try simp only [zs])))
        refine Xk.pure Qf (hrec) ?_ (by simp [D.fgts, D.fgt, Wn]) (by simp [D.pures, D.pure, Cp.free, D.pures_map, Wn]) (by simp [Out.pure, D.pure, D.pures, Cp.free, D.pures_map, Wn])
        ((try simp only [Qb, Qc, Qn, Qi, Qj]); (repeat (rw [Qa]; simp)); (try simp only [zs]))
        ((try simp only [zs]); refine Wa.pan (.inl ?_); simp [Out.fgt, D.fgt, D.fgts])
        rw [hF]; simp [Xr, Wn, D.fgt, D.fgts]
      | false =>
       rw [if_neg Bool.false_ne_true] at hbd
       subst hbd
       (refine sR fun K hK => ?_; ((repeat (rw [Qa]; simp)); (try simp only [zs])))
       refine cXp (hbi) ?_
       ((try simp only [Qb, Qc, Qn, Qi, Qj]); (repeat (rw [Qa]; simp)); (try simp only [zs]))
       (refine hK _ _ _ ?_; clear hK K)
       refine pF rfl ?_
       refine Qs (hK2 _ _ _ ?_)
       cases Bx with
       | true =>
        simp only [Xr, if_true] at hrec
        (refine Qz Wc ?_; ((repeat (rw [Qa]; simp)); (try simp only [zs])))
        refine cXp (hrec) ?_
        ((try simp only [Qb, Qc, Qn, Qi, Qj]); (repeat (rw [Qa]; simp)); (try simp only [zs]))
        (refine hA2 ([0, 1]) _ _ _ (LeT.refl _) (by decide) (by simp) (by simp [Wg, Wh, Wj, D.mov, HO.mov, okM, Wi, We, zz, okA, Qr, Qq, hOf, Qe, Qv]) ?_ rfl; simp [Wg, Wh, Wj, D.mov, HO.mov, okM, Wi, We, zz, okA, Qr, Qq, hOf, Qe])
        simpa using hF
       | false =>
        simp only [Xr, if_false, Bool.false_eq_true] at hrec
        (refine Qz Wc ?_; ((repeat (rw [Qa]; simp)); (try simp only [zs])))
        refine Xk.pure Qf (hrec) ?_ (by simp [D.fgts, D.fgt, Wn]) (by simp [D.pures, D.pure, Cp.free, D.pures_map, Wn]) (by simp [Out.pure, D.pure, D.pures, Cp.free, D.pures_map, Wn])
        ((try simp only [Qb, Qc, Qn, Qi, Qj]); (repeat (rw [Qa]; simp)); (try simp only [zs]))
        ((try simp only [zs]); refine Wa.pan (.inl ?_); simp [Out.fgt, D.fgt, D.fgts])
        rw [hF]; simp [Xr, Wn, D.fgt, D.fgts]
     ·rintro ys hl tl' ⟨rfl, hF, rfl⟩ htl
      rw [ksC_end] at hF
      subst hF
      ((try simp only [zs]); refine Wa.nrm rfl (.inl ?_); simp [Qt, Out.fgt, D.fgt, D.fgts])
      simp [Xr]
theorem catchR_idle (b : Bool) : SpecD Tryz.prog glob 54 [.box 0 0] [.cells 4 [.bool b]] none (fun hc => hc = [.cells 4 [.bool b]]) := by
 refine wpD_specd Wc Tryz.func54 rfl rfl (fun a w => rfl) rfl (Qw _ _ Tryz.func54 rfl (by decide)) rfl rfl ?_
 ((try simp only [Qb, Qc, Qn, Qi, Qj]); (repeat (rw [Qa]; simp)); (try simp only [zs]))
 (refine sR fun K hK => ?_; ((repeat (rw [Qa]; simp)); (try simp only [zs])); refine hK _ _ _ ?_; clear hK K)
 refine pF rfl ?_
 refine Qs ?_
 refine Wa.nrm rfl ?_
 simp [Qi]
theorem catchR_wrong (b : Bool) : SpecD Tryz.prog glob 54 [.box 0 0] [.cells 4 [.bool b]] (some Wn) (fun hc => hc = [.cells 4 [.bool false], .cells 88 []]) := by
 refine wpD_specd Wc Tryz.func54 rfl rfl (fun a w => rfl) rfl (Qw _ _ Tryz.func54 rfl (by decide)) rfl rfl ?_
 unfold Wn
 ((try simp only [Qb, Qc, Qn, Qi, Qj]); (repeat (rw [Qa]; simp)); (try simp only [zs]))
 (refine sR fun K hK => ?_; ((repeat (rw [Qa]; simp)); (try simp only [zs])); refine hK _ _ _ ?_; clear hK K)
 refine pT rfl ?_
 refine Qg fun K1 hK1 => ?_
 (refine sR fun K hK => ?_; ((repeat (rw [Qa]; simp)); (try simp only [zs])); refine hK _ _ _ ?_; clear hK K)
 (refine sR fun K hK => ?_; ((repeat (rw [Qa]; simp)); (try simp only [zs])); refine hK _ _ _ ?_; clear hK K)
 refine pF rfl ?_
 refine Qs (hK1 _ _ _ ?_)
 (refine Qz Wc ?_; ((repeat (rw [Qa]; simp)); (try simp only [zs])))
 refine Wa.nrm rfl ?_
 simp
theorem coreRight_spec (n sc : Int) (cs : List Int) (t : T) (hcs : cs.length <= Wd) (ht : okT t) : Qu Tryz.prog glob 22 [.int .i64 n, .int .i64 sc, Ints cs, Qx t] [] (fun o _ => o.fgt = .ret (.bool (rightB n sc cs t))) := by
 have hw := cwalk_spec n cs hcs t sc ht
 have hR : rightB n sc cs t = (decide (0 <= n) && decide (0 <= sc) && coreB n cs t sc) := rfl
 generalize rightB n sc cs t = R at hR ⊢
 generalize coreB n cs t sc = B at hR hw
 unfold walkD at hw
 rw [Qd t] at hw ⊢
 unfold Ints at hw ⊢
 have hk := kinds_spec
 refine Qu.movd Qf (wpD_specD Wc Tryz.func22 rfl (Qw _ _ Tryz.func22 rfl (by decide)) rfl rfl ?_)
 (refine sR fun K hK => ?_; ((repeat (rw [Qa]; simp)); (try simp only [zs])); refine hK _ _ _ ?_; clear hK K)
 (refine sR fun K hK => ?_; ((repeat (rw [Qa]; simp)); (try simp only [zs])); refine hK _ _ _ ?_; clear hK K)
 cases hm : decide (0 <= n) && decide (0 <= sc) with
 | false =>
  rw [hm, Bool.false_and] at hR
  subst hR
  (refine sR fun K hK => ?_; ((repeat (rw [Qa]; simp)); (try simp only [zs])))
  refine Xk.pure Qf (must_no [decide (0 <= n), decide (0 <= sc)] (by simpa [-Bool.and_eq_false_imp] using hm)) ?_ (by simp [D.fgts, D.fgt, Wz, Wn]) (by simp [D.pures, D.pure, Cp.free, D.pures_map, Wz, Wn]) (by simp [Out.pure, D.pure, D.pures, Cp.free, D.pures_map, Wz, Wn])
  ((try simp only [Qb, Qc, Qn, Qi, Qj]); (repeat (rw [Qa]; simp)); (try simp only [zs]))
  (try simp only [zs])
  refine DefX.objs Qf [1] (catchR_wrong false) ?_ ?_ (fun d h => by cases h; rfl) (by decide) (by simp) (by simp [zz, okA, Qr, Qq, hOf, Qe]) (by simp [zz, okA, Qr, Qq, hOf, Qe]) (by simp [zz, okA, Qr, Qq, hOf, Qe]) (by simp [zz, okA, Qr, Qq, hOf, Qe, Wn])
  ·rintro hc rfl
   simp [zz, okA, Qr, Qq, hOf, Qe, upO, Qi, Qj]
   refine endD.intro rfl (.inr ⟨[], by decide, by simp, ?_⟩)
   simp [Out.mov, Wg, Wh, Wj, D.mov, HO.mov, okM, Wi, We, zz, okA, Qr, Qq, hOf, Qe, Out.fgt, D.fgt]
  ·rintro hc rfl
   simp
 | true =>
  rw [hm, Bool.true_and] at hR
  subst hR
  (refine sR fun K hK => ?_; ((repeat (rw [Qa]; simp)); (try simp only [zs])))
  refine Xk.pure Qf (must_ok [decide (0 <= n), decide (0 <= sc)] (by simpa using hm)) ?_ (by simp [D.fgts, D.fgt, Wz]) (by simp [D.pures, D.pure, Cp.free, D.pures_map, Wz]) (by simp [Out.pure, D.pure, D.pures, Cp.free, D.pures_map, Wz])
  ((try simp only [Qb, Qc, Qn, Qi, Qj]); (repeat (rw [Qa]; simp)); (try simp only [zs]))
  (refine hK _ _ _ ?_; clear hK K)
  cases R with
  | true =>
   simp only [Xr, if_true] at hw
   (refine Qg fun K hK => ?_; refine dR fun KT hKT => ?_; ((repeat (rw [Qh]; simp)); (try simp only [Qk])))
   refine cYp (hk) ?_
   ((try simp only [Ql, Qm, Qn, Qi, Qj]); (repeat (rw [Qh]; simp)); (try simp only [Qk]))
   refine cYp (hw) ?_
   ((try simp only [Ql, Qm, Qn, Qi, Qj]); (repeat (rw [Qh]; simp)); (try simp only [Qk]))
   (refine hKT _ _ _ _ (by kernel_rfl) ?_; clear hKT KT; (try simp only [zs]))
   (refine hK _ _ _ ?_; clear hK K)
   (refine sR fun K hK => ?_; ((repeat (rw [Qa]; simp)); (try simp only [zs])); refine hK _ _ _ ?_; clear hK K)
   refine Qo ?_
   refine DefX.objs Qf [1] (catchR_idle true) ?_ ?_ (fun d h => by cases h) (by decide) (by simp) (by simp [zz, okA, Qr, Qq, hOf, Qe]) (by simp [zz, okA, Qr, Qq, hOf, Qe]) (by simp [zz, okA, Qr, Qq, hOf, Qe]) (by simp [zz, okA, Qr, Qq, hOf, Qe])
   ·rintro hc rfl
    simp [zz, okA, Qr, Qq, hOf, Qe, upO, Qi, Qj]
    refine endD.intro rfl (.inr ⟨[], by decide, by simp, ?_⟩)
    simp [Out.mov, Wg, Wh, Wj, D.mov, HO.mov, okM, Wi, We, zz, okA, Qr, Qq, hOf, Qe, Out.fgt, D.fgt]
   ·rintro hc rfl
    simp
  | false =>
   simp only [Xr, if_false, Bool.false_eq_true] at hw
   (refine Qg fun K hK => ?_; refine dR fun KT hKT => ?_; ((repeat (rw [Qh]; simp)); (try simp only [Qk])))
   refine cYp (hk) ?_
   ((try simp only [Ql, Qm, Qn, Qi, Qj]); (repeat (rw [Qh]; simp)); (try simp only [Qk]))
   refine CallY.pure Qf (hw) ?_ (by simp [D.fgts, D.fgt, Wn]) (by simp [D.pures, D.pure, Cp.free, D.pures_map, Wn]) (by simp [Out.pure, D.pure, D.pures, Cp.free, D.pures_map, Wn])
   ((try simp only [Ql, Qm, Qn, Qi, Qj]); (repeat (refine wpT_late _ _ _ _ (by kernel_rfl) ?_; simp only [Qn, List.set, List.nil_append, List.cons_append, Nat.reduceAdd])); (try simp only [Qk]))
   (refine hKT _ _ _ _ (by kernel_rfl) ?_; clear hKT KT; (try simp only [zs]))
   simp
   refine DefX.objs Qf [1] (catchR_wrong false) ?_ ?_ (fun d h => by cases h; rfl) (by decide) (by simp [killHl]) (by simp [zz, okA, Qr, Qq, hOf, Qe, killHl]) (by simp [zz, okA, Qr, Qq, hOf, Qe, killHl]) (by simp [zz, okA, Qr, Qq, hOf, Qe]) (by simp [zz, okA, Qr, Qq, hOf, Qe, Wn])
   ·rintro hc rfl
    simp [zz, okA, Qr, Qq, hOf, Qe, upO, Qi, Qj, killHl, killTl]
    refine endD.intro rfl (.inr ⟨[], by decide, by simp, ?_⟩)
    simp [Out.mov, Wg, Wh, Wj, D.mov, HO.mov, okM, Wi, We, zz, okA, Qr, Qq, hOf, Qe, Out.fgt, D.fgt]
   ·rintro hc rfl
    simp
mutual
def T.eqB : T -> T -> Bool
 | .mk k n a ls ks, .mk k' n' a' ls' ks' => decide (k = k') && decide (n = n') && decide (a = a') && decide (ls = ls') && T.eqsB ks ks'
def T.eqsB : List T -> List T -> Bool
 | [], [] => true
 | a :: r, b :: s => T.eqB a b && T.eqsB r s
 | [], _ :: _ => false
 | _ :: _, [] => false
end
mutual
theorem T.eqB_iff : ∀ t u : T, T.eqB t u = true ↔ t = u
 | .mk k n a ls ks, .mk k' n' a' ls' ks' => by rw [T.eqB]; simp [T.eqsB_iff ks ks', and_assoc]
theorem T.eqsB_iff : ∀ l m : List T, T.eqsB l m = true ↔ l = m
 | [], [] => by rw [T.eqsB]; simp
 | a :: r, b :: s => by rw [T.eqsB]; simp [T.eqB_iff a b, T.eqsB_iff r s]
 | [], _ :: _ => by rw [T.eqsB]; simp
 | _ :: _, [] => by rw [T.eqsB]; simp
end
def outNum (n : Int) : Bool := decide (n < 0) || decide (1048576 < n)
def nodeKids (k a : Int) : Int := if k = 24 then IntKind.i64.wrap ((kindAt k).2.2.2.1 + a) else (kindAt k).2.2.2.1
def nodeMost (k : Int) : Int := if k = 10 then 10 else 8
def nodeIn (k n a : Int) : Bool := decide (1 <= k) && decide (k <= 24) && !(outNum n || outNum a)
def nodeHas (k n a : Int) (ls : List LV) (len : Nat) : Bool :=
 decide ((len : Int) = nodeKids k a) && (decide (n = 0) || (kindAt k).1) && (decide (a = 0) || (kindAt k).2.1) && (decide ((kindAt k).2.2.1 < 0) || decide ((ls.length : Int) = (kindAt k).2.2.1)) && decide ((ls.length : Int) <= nodeMost k)
def nodeT (t : T) : Bool := nodeIn t.k t.n t.a && nodeHas t.k t.n t.a t.ls t.ks.length && !(t.ls.any fun l => !levelRight l 9)
mutual
def T.cnt : T -> Int -> Int -> Bool × Int
 | .mk k n a ls ks, deep, c =>
  let c1 := IntKind.i64.wrap (c + 1)
  if deep <= 400 /\ c1 <= 20000 /\ nodeT (.mk k n a ls ks) = true then T.cnts ks (IntKind.i64.wrap (deep + 1)) c1 else (false, c1)
def T.cnts : List T -> Int -> Int -> Bool × Int
 | [], _, c => (true, c)
 | t :: r, deep, c => if (T.cnt t deep c).1 = true then T.cnts r deep (T.cnt t deep c).2 else (false, (T.cnt t deep c).2)
end
def cntF {α : Type} (step : α -> Int -> Int) (q : Int) : List α -> Int -> Int
 | [], n => n
 | x :: r, n => if n <= q then cntF step q r (step x n) else n
def lvOf (q : Int) (l : LV) : Int := min (IntKind.i64.wrap (1 + (l.length : Int))) (IntKind.i64.wrap (q + 1))
theorem lvOf_spec (l : LV) (q : Int) : Qu Tryz.prog glob 112 [Wm l, .int .i64 q] [] (fun o _ => o.fgt = .ret (.int .i64 (lvOf q l))) := by
 refine Qu.movd Qf (Qp Wc Tryz.func112 rfl (Qw _ _ Tryz.func112 rfl (by decide)) rfl rfl ?_)
 unfold Wm
 (refine sR fun K hK => ?_; ((repeat (rw [Qa]; simp)); (try simp only [zs])); refine hK _ _ _ ?_; clear hK K)
 (refine sR fun K hK => ?_; ((repeat (rw [Qa]; simp)); (try simp only [zs])); refine hK _ _ _ ?_; clear hK K)
 (refine Qo ?_; (try simp only [zs]); refine Wa.ret rfl (.inl ?_); simp [Qt, Out.fgt, D.fgt, D.fgts])
 rfl
theorem lvsOf_gen (l : List (LV)) (q : Int) (step : LV -> Int -> Int) (hl : l.length <= Wd) (hst : ∀ x s, step x s = IntKind.i64.wrap (s + lvOf q x)) (hg : ∀ x, x ∈ l -> ∀ s : Int, Qu Tryz.prog glob 112 [Wm x, .int .i64 q] [] (fun o _ => o.fgt = .ret (.int .i64 (lvOf q x)))) :
  Qu Tryz.prog glob 67 [.slice (l.map Wm) .any, .int .i64 q] [] (fun o _ => o.fgt = .ret (.int .i64 (cntF step q l 0))) := by
 obtain ⟨R, hR⟩ : ∃ R, R = cntF step q l 0 := ⟨_, rfl⟩
 rw [<- hR]
 have hl0 := hl
 unfold Wd at hl0
 refine Qu.movd Qf (Qp Wc Tryz.func67 rfl (Qw _ _ Tryz.func67 rfl (by decide)) rfl rfl ?_)
 (refine sR fun K hK => ?_; ((repeat (rw [Qa]; simp)); (try simp only [zs])); refine hK _ _ _ ?_; clear hK K)
 (refine sR fun K hK => ?_; ((repeat (rw [Qa]; simp)); (try simp only [zs])); refine hK _ _ _ ?_; clear hK K)
 refine Qg fun K1 hK1 => ?_
 (refine sR fun K hK => ?_; ((repeat (rw [Qa]; simp)); (try simp only [zs])); refine hK _ _ _ ?_; clear hK K)
 refine Wy ?_
 refine wpD_loopWJ [7, 8, 9, 10, 11, 12, 13, 14, 15, 16, 17, 18, 19, 20, 21, 22, 23, 24, 25] [5, 6] (fun n ys hl => ∃ (k : Nat) (s : Int), ys = [.int .i64 s, .int .i64 k] /\ n + k = l.length /\ R = cntF step q (l.drop k) s /\ hl = []) (l.length) (by kernel_rfl) ?_ ?_
 ·exact ⟨0, 0, rfl, rfl, hR, rfl⟩
 ·rintro n ys hl A hA ⟨i, s, rfl, hn, hF, rfl⟩
  simp only [Qv, List.set, List.map_cons, List.map_nil, List.cons_append, List.nil_append]
  refine Qg fun K2 hK2 => ?_
  by_cases hi : i < l.length
  ·have hi' : (i : Int) < l.length := by omega
   by_cases hs : s <= q
   ·(refine sR fun K hK => ?_; ((repeat (rw [Qa]; simp [hi, hi', hs])); (try simp only [zs])); refine hK _ _ _ ?_; clear hK K)
    refine pT rfl ?_
    refine Qs (hK2 _ _ _ ?_)
    clear hK2 K2
    refine Qg fun K3 hK3 => ?_
    refine Wy ?_
    rw [List.drop_eq_getElem_cons hi, cntF, if_pos hs] at hF
    have hrec := hg l[i] (List.getElem_mem hi) s
    obtain ⟨x, hx⟩ : ∃ x, l[i] = x := ⟨_, rfl⟩
    rw [hx] at hrec hF
    unfold Wm at hrec
    obtain ⟨v, hv⟩ : ∃ v, lvOf q x = v := ⟨_, rfl⟩
    rw [hv] at hrec
    rw [hst, hv] at hF
    (refine Qz Wc ?_; ((repeat (rw [Qa]; simp [hi, hi', hx, Wm])); (try simp only [zs])))
    refine cXp (hrec) ?_
    ((try simp only [Qb, Qc, Qn, Qi, Qj]); (repeat (rw [Qa]; simp)); (try simp only [zs]))
    refine hK3 _ _ _ ?_
    clear hK3 K3
    have hw1 : IntKind.i64.wrap ((i : Int) + 1) = (i : Int) + 1 := i64w (by omega) (by omega)
    (refine Qz Wc ?_; ((repeat (rw [Qa]; simp [hw1])); (try simp only [zs])))
    refine hA (n - 1) _ _ _ (LeT.refl _) (by omega) (by kernel_rfl) ?_
    exact ⟨i + 1, _, rfl, by omega, hF, rfl⟩
   ·(refine sR fun K hK => ?_; ((repeat (rw [Qa]; simp [hi, hi', hs])); (try simp only [zs])); refine hK _ _ _ ?_; clear hK K)
    refine pF rfl ?_
    refine wpD_exit ?_
    refine hK1 _ _ _ ?_
    rw [List.drop_eq_getElem_cons hi, cntF, if_neg hs] at hF
    subst hF
    (refine sR fun K hK => ?_; ((repeat (rw [Qa]; simp)); (try simp only [zs])); refine hK _ _ _ ?_; clear hK K)
    (refine Qo ?_; (try simp only [zs]); refine Wa.ret rfl (.inl ?_); simp [Qt, Out.fgt, D.fgt, D.fgts])
  ·have hi' : ¬ (i : Int) < l.length := by omega
   (refine sR fun K hK => ?_; ((repeat (rw [Qa]; simp [hi, hi'])); (try simp only [zs])); refine hK _ _ _ ?_; clear hK K)
   refine pF rfl ?_
   refine wpD_exit ?_
   refine hK1 _ _ _ ?_
   rw [List.drop_of_length_le (by omega), cntF] at hF
   subst hF
   (refine sR fun K hK => ?_; ((repeat (rw [Qa]; simp)); (try simp only [zs])); refine hK _ _ _ ?_; clear hK K)
   (refine Qo ?_; (try simp only [zs]); refine Wa.ret rfl (.inl ?_); simp [Qt, Out.fgt, D.fgt, D.fgts])
def lvsN (q : Int) (ls : List LV) : Int := cntF (fun x s => IntKind.i64.wrap (s + lvOf q x)) q ls 0
theorem lvsN_spec (ls : List LV) (q : Int) (hl : ls.length <= Wd) : Qu Tryz.prog glob 67 [.slice (ls.map Wm) .any, .int .i64 q] [] (fun o _ => o.fgt = .ret (.int .i64 (lvsN q ls))) :=
 lvsOf_gen ls q _ hl (fun _ _ => rfl) (fun x _ _ => lvOf_spec x q)
mutual
def T.tof : T -> Int -> Int
 | .mk _ _ _ ls ks, q => IntKind.i64.wrap (IntKind.i64.wrap (1 + lvsN q ls) + T.tofs ks 0 q)
def T.tofs : List T -> Int -> Int -> Int
 | [], n, _ => n
 | t :: r, n, q => if n <= q then T.tofs r (IntKind.i64.wrap (n + T.tof t (IntKind.i64.wrap (q - n)))) q else n
end
theorem tofs_cnt (q : Int) : ∀ (l : List T) (n : Int), T.tofs l n q = cntF (fun x s => IntKind.i64.wrap (s + T.tof x (IntKind.i64.wrap (q - s)))) q l n
 | [], n => by rw [T.tofs, cntF]
 | t :: r, n => by rw [T.tofs, cntF, tofs_cnt q r]
theorem tofs_gen (l : List (T)) (q : Int) (step : T -> Int -> Int) (hl : l.length <= Wd) (hst : ∀ x s, step x s = IntKind.i64.wrap (s + T.tof x (IntKind.i64.wrap (q - s)))) (hg : ∀ x, x ∈ l -> ∀ s : Int, Qu Tryz.prog glob 36 [Qx x, .int .i64 (IntKind.i64.wrap (q - s))] [] (fun o _ => o.fgt = .ret (.int .i64 (T.tof x (IntKind.i64.wrap (q - s)))))) :
  Qu Tryz.prog glob 61 [.slice (l.map Qx) .any, .int .i64 q] [] (fun o _ => o.fgt = .ret (.int .i64 (cntF step q l 0))) := by
 obtain ⟨R, hR⟩ : ∃ R, R = cntF step q l 0 := ⟨_, rfl⟩
 rw [<- hR]
 have hl0 := hl
 unfold Wd at hl0
 refine Qu.movd Qf (Qp Wc Tryz.func61 rfl (Qw _ _ Tryz.func61 rfl (by decide)) rfl rfl ?_)
 (refine sR fun K hK => ?_; ((repeat (rw [Qa]; simp)); (try simp only [zs])); refine hK _ _ _ ?_; clear hK K)
 (refine sR fun K hK => ?_; ((repeat (rw [Qa]; simp)); (try simp only [zs])); refine hK _ _ _ ?_; clear hK K)
 refine Qg fun K1 hK1 => ?_
 (refine sR fun K hK => ?_; ((repeat (rw [Qa]; simp)); (try simp only [zs])); refine hK _ _ _ ?_; clear hK K)
 refine Wy ?_
 refine wpD_loopWJ [7, 8, 9, 10, 11, 12, 13, 14, 15, 16, 17, 18, 19, 20, 21, 22, 23, 24, 25, 26, 27] [5, 6] (fun n ys hl => ∃ (k : Nat) (s : Int), ys = [.int .i64 s, .int .i64 k] /\ n + k = l.length /\ R = cntF step q (l.drop k) s /\ hl = []) (l.length) (by kernel_rfl) ?_ ?_
 ·exact ⟨0, 0, rfl, rfl, hR, rfl⟩
 ·rintro n ys hl A hA ⟨i, s, rfl, hn, hF, rfl⟩
  simp only [Qv, List.set, List.map_cons, List.map_nil, List.cons_append, List.nil_append]
  refine Qg fun K2 hK2 => ?_
  by_cases hi : i < l.length
  ·have hi' : (i : Int) < l.length := by omega
   by_cases hs : s <= q
   ·(refine sR fun K hK => ?_; ((repeat (rw [Qa]; simp [hi, hi', hs])); (try simp only [zs])); refine hK _ _ _ ?_; clear hK K)
    refine pT rfl ?_
    refine Qs (hK2 _ _ _ ?_)
    clear hK2 K2
    refine Qg fun K3 hK3 => ?_
    refine Wy ?_
    rw [List.drop_eq_getElem_cons hi, cntF, if_pos hs] at hF
    have hrec := hg l[i] (List.getElem_mem hi) s
    obtain ⟨x, hx⟩ : ∃ x, l[i] = x := ⟨_, rfl⟩
    rw [hx] at hrec hF
    have hEx := Qd x
    rw [hEx] at hrec
    rw [hst] at hF
    generalize T.tof x (IntKind.i64.wrap (q - s)) = v at hrec hF
    (refine Qz Wc ?_; ((repeat (rw [Qa]; simp [hi, hi', hx, hEx])); (try simp only [zs])))
    refine cXp (hrec) ?_
    ((try simp only [Qb, Qc, Qn, Qi, Qj]); (repeat (rw [Qa]; simp)); (try simp only [zs]))
    refine hK3 _ _ _ ?_
    clear hK3 K3
    have hw1 : IntKind.i64.wrap ((i : Int) + 1) = (i : Int) + 1 := i64w (by omega) (by omega)
    (refine Qz Wc ?_; ((repeat (rw [Qa]; simp [hw1])); (try simp only [zs])))
    refine hA (n - 1) _ _ _ (LeT.refl _) (by omega) (by kernel_rfl) ?_
    exact ⟨i + 1, _, rfl, by omega, hF, rfl⟩
   ·(refine sR fun K hK => ?_; ((repeat (rw [Qa]; simp [hi, hi', hs])); (try simp only [zs])); refine hK _ _ _ ?_; clear hK K)
    refine pF rfl ?_
    refine wpD_exit ?_
    refine hK1 _ _ _ ?_
    rw [List.drop_eq_getElem_cons hi, cntF, if_neg hs] at hF
    subst hF
    (refine sR fun K hK => ?_; ((repeat (rw [Qa]; simp)); (try simp only [zs])); refine hK _ _ _ ?_; clear hK K)
    (refine Qo ?_; (try simp only [zs]); refine Wa.ret rfl (.inl ?_); simp [Qt, Out.fgt, D.fgt, D.fgts])
  ·have hi' : ¬ (i : Int) < l.length := by omega
   (refine sR fun K hK => ?_; ((repeat (rw [Qa]; simp [hi, hi'])); (try simp only [zs])); refine hK _ _ _ ?_; clear hK K)
   refine pF rfl ?_
   refine wpD_exit ?_
   refine hK1 _ _ _ ?_
   rw [List.drop_of_length_le (by omega), cntF] at hF
   subst hF
   (refine sR fun K hK => ?_; ((repeat (rw [Qa]; simp)); (try simp only [zs])); refine hK _ _ _ ?_; clear hK K)
   (refine Qo ?_; (try simp only [zs]); refine Wa.ret rfl (.inl ?_); simp [Qt, Out.fgt, D.fgt, D.fgts])
theorem tof_spec (t : T) : ∀ q, okT t -> Qu Tryz.prog glob 36 [Qx t, .int .i64 q] [] (fun o _ => o.fgt = .ret (.int .i64 (t.tof q))) := by
 induction t using T.ind with
 | h k n a ls ks ih =>
  intro q ht
  have hks := ht.ks
  simp only [T.ks_mk] at hks
  have hL := lvsN_spec ls q ht.ll
  have hT := tofs_gen ks q _ ht.kl (fun _ _ => rfl) (fun x hx s => ih x hx _ (hks x hx))
  rw [<- tofs_cnt] at hT
  have e : (T.mk k n a ls ks).tof q = IntKind.i64.wrap (IntKind.i64.wrap (1 + lvsN q ls) + T.tofs ks 0 q) := by rw [T.tof]
  rw [e]
  generalize lvsN q ls = v at hL ⊢
  generalize T.tofs ks 0 q = v2 at hT ⊢
  rw [Qd]
  simp only [T.k_mk, T.n_mk, T.a_mk, T.ls_mk, T.ks_mk]
  refine Qu.movd Qf (Qp Wc Tryz.func36 rfl (Qw _ _ Tryz.func36 rfl (by decide)) rfl rfl ?_)
  (refine sR fun K hK => ?_; ((repeat (rw [Qa]; simp)); (try simp only [zs])); refine hK _ _ _ ?_; clear hK K)
  (refine Qg fun K hK => ?_; refine dR fun KT hKT => ?_; ((repeat (rw [Qh]; simp)); (try simp only [Qk])))
  refine cYp (hL) ?_
  ((try simp only [Ql, Qm, Qn, Qi, Qj]); (repeat (rw [Qh]; simp)); (try simp only [Qk]))
  refine cYp (hT) ?_
  ((try simp only [Ql, Qm, Qn, Qi, Qj]); (repeat (rw [Qh]; simp)); (try simp only [Qk]))
  (refine hKT _ _ _ _ (by kernel_rfl) ?_; clear hKT KT; (try simp only [zs]))
  (refine hK _ _ _ ?_; clear hK K)
  (refine Qo ?_; (try simp only [zs]); refine Wa.ret rfl (.inl ?_); simp [Qt, Out.fgt, D.fgt, D.fgts])
theorem tofs_spec (l : List T) (q : Int) (hl : l.length <= Wd) (hls : ∀ x, x ∈ l -> okT x) : Qu Tryz.prog glob 61 [.slice (l.map Qx) .any, .int .i64 q] [] (fun o _ => o.fgt = .ret (.int .i64 (T.tofs l 0 q))) := by
 rw [tofs_cnt]
 exact tofs_gen l q _ hl (fun _ _ => rfl) (fun x hx s => tof_spec x _ (hls x hx))
def vT (n : Int) : T := .mk 1 n 0 [] []
theorem encT_mk (k n a : Int) (ls : List LV) (ks : List T) : Qx (.mk k n a ls ks) = .agg [.int .i64 k, .int .i64 n, .int .i64 a, .slice (ls.map Wm) .any, .slice (ks.map Qx) .any] := Qd _
mutual
def T.dp : T -> Int -> Int
 | .mk _ _ _ _ ks, q => IntKind.i64.wrap ((if 0 < q then T.dps ks (IntKind.i64.wrap (q - 1)) 0 else 0) + 1)
def T.dps : List T -> Int -> Int -> Int
 | [], _, s => s
 | t :: r, q, s => T.dps r q (max s (T.dp t q))
end
theorem deep_spec (t : T) : ∀ q, okT t -> Qu Tryz.prog glob 34 [Qx t, .int .i64 q] [] (fun o _ => o.fgt = .ret (.int .i64 (t.dp q))) := by
 induction t using T.ind with
 | h kk m a ls ks ih =>
 intro q ht
 have hkl : ks.length <= Wd := ht.kl
 have hks := ht.ks
 simp only [T.ks_mk] at hks
 unfold Wd at hkl
 have hR0 : T.dp (.mk kk m a ls ks) q = IntKind.i64.wrap ((if 0 < q then T.dps ks (IntKind.i64.wrap (q - 1)) 0 else 0) + 1) := by rw [T.dp]
 rw [hR0]
 rw [Qd]
 simp only [T.k_mk, T.n_mk, T.a_mk, T.ls_mk, T.ks_mk]
 refine Qu.movd Qf (Qp Wc Tryz.func34 rfl (Qw _ _ Tryz.func34 rfl (by decide)) rfl rfl ?_)
 (refine sR fun K hK => ?_; ((repeat (rw [Qa]; simp)); (try simp only [zs])); refine hK _ _ _ ?_; clear hK K)
 (refine sR fun K hK => ?_; ((repeat (rw [Qa]; simp)); (try simp only [zs])); refine hK _ _ _ ?_; clear hK K)
 by_cases hq : 0 < q
 rotate_left
 ·rw [if_neg hq]
  refine Qg fun K1 hK1 => ?_
  (refine sR fun K hK => ?_; ((repeat (rw [Qa]; simp)); (try simp only [zs])); refine hK _ _ _ ?_; clear hK K)
  refine Wy ?_
  refine wpD_loopWJ [7, 8, 9, 10, 11, 12, 13, 14, 15, 16, 17, 18, 19, 20, 21, 22, 23, 24, 25, 26, 27] [5, 6] (fun n ys hl => ys = [.int .i64 0, .int .i64 0] /\ n = 0 /\ hl = [.cells 27 [.int .i64 kk, .int .i64 m, .int .i64 a, .slice (ls.map Wm) .any, .slice (ks.map Qx) .any]]) (0) (by kernel_rfl) ?_ ?_
  ·exact ⟨rfl, rfl, rfl⟩
  ·rintro n ys hl A hA ⟨rfl, -, rfl⟩
   simp only [Qv, List.set, List.map_cons, List.map_nil, List.cons_append, List.nil_append]
   refine Qg fun K2 hK2 => ?_
   by_cases h0 : 0 < ks.length
   ·have h0' : (0 : Int) < ks.length := by omega
    (refine sR fun K hK => ?_; ((repeat (rw [Qa]; simp [h0, h0', hq])); (try simp only [zs])); refine hK _ _ _ ?_; clear hK K)
    refine pF rfl ?_
    refine wpD_exit ?_
    refine hK1 _ _ _ ?_
    (refine sR fun K hK => ?_; ((repeat (rw [Qa]; simp)); (try simp only [zs])); refine hK _ _ _ ?_; clear hK K)
    (refine Qo ?_; (try simp only [zs]); refine Wa.ret rfl (.inl ?_); simp [Qt, Out.fgt, D.fgt, D.fgts])
   ·have h0' : ¬ (0 : Int) < ks.length := by omega
    (refine sR fun K hK => ?_; ((repeat (rw [Qa]; simp [h0, h0', hq])); (try simp only [zs])); refine hK _ _ _ ?_; clear hK K)
    refine pF rfl ?_
    refine wpD_exit ?_
    refine hK1 _ _ _ ?_
    (refine sR fun K hK => ?_; ((repeat (rw [Qa]; simp)); (try simp only [zs])); refine hK _ _ _ ?_; clear hK K)
    (refine Qo ?_; (try simp only [zs]); refine Wa.ret rfl (.inl ?_); simp [Qt, Out.fgt, D.fgt, D.fgts])
 rw [if_pos hq]
 obtain ⟨R, hR⟩ : ∃ R, R = T.dps ks (IntKind.i64.wrap (q - 1)) 0 := ⟨_, rfl⟩
 rw [<- hR]
 refine Qg fun K1a hK1a => ?_
 (refine sR fun K hK => ?_; ((repeat (rw [Qa]; simp)); (try simp only [zs])); refine hK _ _ _ ?_; clear hK K)
 refine Wy ?_
 refine wpD_loopWJ [7, 8, 9, 10, 11, 12, 13, 14, 15, 16, 17, 18, 19, 20, 21, 22, 23, 24, 25, 26, 27] [5, 6] (fun n ys hl => ∃ (k : Nat) (s : Int), ys = [.int .i64 s, .int .i64 k] /\ n + k = ks.length /\ R = T.dps (ks.drop k) (IntKind.i64.wrap (q - 1)) s /\ hl = [.cells 27 [.int .i64 kk, .int .i64 m, .int .i64 a, .slice (ls.map Wm) .any, .slice (ks.map Qx) .any]]) (ks.length) (by kernel_rfl) ?_ ?_
 ·exact ⟨0, 0, rfl, rfl, hR, rfl⟩
 ·rintro n1 ys hl A1 hA1 ⟨i1, s, rfl, hn, hF, rfl⟩
  have hA := hA1
  simp only [Qv, List.set, List.map_cons, List.map_nil, List.cons_append, List.nil_append]
  refine Qg fun K1b hK1b => ?_
  by_cases hi1 : i1 < ks.length
  ·have hi1' : (i1 : Int) < ks.length := by omega
   rw [List.drop_eq_getElem_cons hi1, T.dps] at hF
   have hrec := ih ks[i1] (List.getElem_mem hi1) (IntKind.i64.wrap (q - 1)) (hks _ (List.getElem_mem hi1))
   obtain ⟨x, hx⟩ : ∃ x, ks[i1] = x := ⟨_, rfl⟩
   rw [hx] at hrec hF
   have hEx := Qd x
   rw [hEx] at hrec
   generalize x.dp (IntKind.i64.wrap (q - 1)) = v at hrec hF
   (refine sR fun K hK => ?_; ((repeat (rw [Qa]; simp [hi1, hi1', hq])); (try simp only [zs])); refine hK _ _ _ ?_; clear hK K)
   refine pT rfl ?_
   refine Qs (hK1b _ _ _ ?_)
   clear hK1b K1b
   refine Qg fun K1c hK1c => ?_
   refine Wy ?_
   (refine Qz Wc ?_; ((repeat (rw [Qa]; simp [hi1, hi1', hx, hEx])); (try simp only [zs])))
   refine cXp (hrec) ?_
   ((try simp only [Qb, Qc, Qn, Qi, Qj]); (repeat (rw [Qa]; simp)); (try simp only [zs]))
   refine hK1c _ _ _ ?_
   clear hK1c K1c
   have hw1 : IntKind.i64.wrap ((i1 : Int) + 1) = (i1 : Int) + 1 := i64w (by omega) (by omega)
   (refine Qz Wc ?_; ((repeat (rw [Qa]; simp [hw1])); (try simp only [zs])))
   refine hA (n1 - 1) _ _ _ (LeT.refl _) (by omega) (by kernel_rfl) ?_
   exact ⟨i1 + 1, _, rfl, by omega, hF, rfl⟩
  ·have hi1' : ¬ (i1 : Int) < ks.length := by omega
   (refine sR fun K hK => ?_; ((repeat (rw [Qa]; simp [hi1, hi1', hq])); (try simp only [zs])); refine hK _ _ _ ?_; clear hK K)
   refine pF rfl ?_
   refine wpD_exit ?_
   refine hK1a _ _ _ ?_
   clear hK1b K1b
   rw [List.drop_of_length_le (by omega), T.dps] at hF
   subst hF
   (refine sR fun K hK => ?_; ((repeat (rw [Qa]; simp)); (try simp only [zs])); refine hK _ _ _ ?_; clear hK K)
   (refine Qo ?_; (try simp only [zs]); refine Wa.ret rfl (.inl ?_); simp [Qt, Out.fgt, D.fgt, D.fgts])
end Go.Proofs.YtebmlojhdnldgaaGreatDoor
namespace Go.Proofs.YtebmlojhdnldgaaGreatDoor
set_option linter.unusedSimpArgs false
set_option linter.unusedVariables false
open Go.RowKit
def finN (n : Int) : T := .mk 22 n 0 [] []
theorem okCs_nil : okCs [] := ⟨by unfold Wd; simp, (fun _ h => nomatch h), (fun _ h => nomatch h), (fun _ h => nomatch h)⟩
def lvSz : List LV -> Nat
 | [] => 0
 | l :: r => 1 + l.length + lvSz r
mutual
def T.tsz : T -> Nat
 | .mk _ _ _ ls ks => 1 + lvSz ls + T.tszs ks
def T.tszs : List T -> Nat
 | [] => 0
 | t :: r => T.tsz t + T.tszs r
end
mutual
theorem nsz_tsz : ∀ t : T, t.nsz <= t.tsz
 | .mk _ _ _ ls ks => by rw [T.nsz, T.tsz]; have := nszs_tszs ks; omega
theorem nszs_tszs : ∀ ks : List T, T.nszs ks <= T.tszs ks
 | [] => by rw [T.nszs, T.tszs]; exact Nat.le_refl _
 | t :: r => by rw [T.nszs, T.tszs]; have := nsz_tsz t; have := nszs_tszs r; omega
end
def QB : Int := 4611686018427387904
theorem lvOf_law (l : LV) (q : Int) (hl : (l.length : Int) < QB) (hq : 0 <= q /\ q <= QB) : 1 <= lvOf q l /\ lvOf q l <= 1 + l.length /\ (lvOf q l <= q -> lvOf q l = 1 + l.length) := by
 unfold QB at hl hq
 unfold lvOf
 rw [i64w (by omega) (by omega), i64w (by omega) (by omega)]
 omega
theorem lvs_law (q : Int) (hq : 0 <= q /\ q <= QB) : ∀ (ls : List LV) (s : Int), 0 <= s -> s + (lvSz ls : Int) <= QB ->
  s <= cntF (fun x s => IntKind.i64.wrap (s + lvOf q x)) q ls s /\ cntF (fun x s => IntKind.i64.wrap (s + lvOf q x)) q ls s <= s + (lvSz ls : Int) /\ (cntF (fun x s => IntKind.i64.wrap (s + lvOf q x)) q ls s <= q -> cntF (fun x s => IntKind.i64.wrap (s + lvOf q x)) q ls s = s + (lvSz ls : Int))
 | [], s, h0, h1 => by simp only [cntF, lvSz]; omega
 | l :: r, s, h0, h1 => by
  rw [cntF]
  rw [lvSz] at h1 ⊢
  split
  ·rename_i hs
   have hq2 := hq
   unfold QB at h1 hq2
   obtain ⟨a1, a2, a3⟩ := lvOf_law l q (by unfold QB; omega) hq
   rw [i64w (n := s + lvOf q l) (by omega) (by omega)]
   obtain ⟨b1, b2, b3⟩ := lvs_law q hq r (s + lvOf q l) (by omega) (by unfold QB; omega)
   refine ⟨by omega, by omega, fun h => ?_⟩
   have := b3 h
   have := a3 (by omega)
   omega
  ·omega
mutual
theorem tof_law : ∀ (t : T) (q : Int), (t.tsz : Int) <= QB -> 0 <= q /\ q <= QB -> 1 <= t.tof q /\ t.tof q <= t.tsz /\ (t.tof q <= q -> t.tof q = t.tsz)
 | .mk k n a ls ks, q, ht, hq => by
  rw [T.tsz] at ht
  have ht2 := ht
  have hq2 := hq
  unfold QB at ht2 hq2
  obtain ⟨a1, a2, a3⟩ := lvs_law q hq ls 0 (by omega) (by unfold QB; omega)
  obtain ⟨b1, b2, b3⟩ := tofs_law ks 0 q (by omega) (by unfold QB; omega) hq
  rw [T.tof, T.tsz]
  unfold lvsN
  generalize cntF (fun x s => IntKind.i64.wrap (s + lvOf q x)) q ls 0 = v at a1 a2 a3
  rw [i64w (n := 1 + v) (by omega) (by omega), i64w (by omega) (by omega)]
  refine ⟨by omega, by omega, fun h => ?_⟩
  have := a3 (by omega)
  have := b3 (by omega)
  omega
theorem tofs_law : ∀ (ks : List T) (s q : Int), 0 <= s -> s + (T.tszs ks : Int) <= QB -> 0 <= q /\ q <= QB -> s <= T.tofs ks s q /\ T.tofs ks s q <= s + (T.tszs ks : Int) /\ (T.tofs ks s q <= q -> T.tofs ks s q = s + (T.tszs ks : Int))
 | [], s, q, h0, h1, hq => by rw [T.tofs, T.tszs]; omega
 | t :: r, s, q, h0, h1, hq => by
  rw [T.tofs]
  rw [T.tszs] at h1 ⊢
  split
  ·rename_i hs
   have h2 := h1
   have hq2 := hq
   unfold QB at h2 hq2
   rw [i64w (n := q - s) (by omega) (by omega)]
   obtain ⟨a1, a2, a3⟩ := tof_law t (q - s) (by unfold QB; omega) ⟨by omega, by unfold QB; omega⟩
   rw [i64w (n := s + t.tof (q - s)) (by omega) (by omega)]
   obtain ⟨b1, b2, b3⟩ := tofs_law r (s + t.tof (q - s)) q (by omega) (by unfold QB; omega) hq
   refine ⟨by omega, by omega, fun h => ?_⟩
   have := b3 h
   have := a3 (by omega)
   omega
  ·omega
end
def cosz : List C -> Nat
 | [] => 0
 | c :: r => 1 + c.ty.tsz + c.bo.tsz + cosz r
theorem cosz_mem : ∀ {l : List C} {c : C}, c ∈ l -> c.ty.tsz <= cosz l /\ c.bo.tsz <= cosz l
 | [], c, h => by cases h
 | x :: r, c, h => by
  rw [cosz]
  cases h with
  | head => omega
  | tail _ hm => have := cosz_mem hm; omega
end Go.Proofs.YtebmlojhdnldgaaGreatDoor
namespace Go.Proofs.YtebmlojhdnldgaaGreatDoor
set_option linter.unusedSimpArgs false
set_option linter.unusedVariables false
set_option maxHeartbeats 10000000
set_option maxRecDepth 20000
open Go.RowKit
attribute [local simp] Qb Qc Xg Xw opD Qt Qn Qi Qj hOf Xd Xz Xu TK.isAgg TK.known Xf Xh Wv Qv D.ofV inB Wr Xj binX binD binE Xv bndD capB IntKind.min IntKind.max IntKind.signed IntKind.bits Xb late
theorem coresOf_gen (l : List (C)) (q : Int) (step : C -> Int -> Int) (hl : l.length <= Wd) (hst : ∀ x s, step x s = IntKind.i64.wrap (IntKind.i64.wrap (IntKind.i64.wrap (s + 1) + x.ty.tof q) + x.bo.tof q)) (hg : ∀ x, x ∈ l -> ∀ s : Int, okC x) :
  Qu Tryz.prog glob 35 [.slice (l.map encC) .any, .int .i64 q] [] (fun o _ => o.fgt = .ret (.int .i64 (cntF step q l 0))) := by
 obtain ⟨R, hR⟩ : ∃ R, R = cntF step q l 0 := ⟨_, rfl⟩
 rw [<- hR]
 have hl0 := hl
 unfold Wd at hl0
 refine Qu.movd Qf (Qp Wc Tryz.func35 rfl (Qw _ _ Tryz.func35 rfl (by decide)) rfl rfl ?_)
 (refine sR fun K hK => ?_; ((repeat (rw [Qa]; simp)); (try simp only [zs])); refine hK _ _ _ ?_; clear hK K)
 (refine sR fun K hK => ?_; ((repeat (rw [Qa]; simp)); (try simp only [zs])); refine hK _ _ _ ?_; clear hK K)
 refine Qg fun K1 hK1 => ?_
 (refine sR fun K hK => ?_; ((repeat (rw [Qa]; simp)); (try simp only [zs])); refine hK _ _ _ ?_; clear hK K)
 refine Wy ?_
 refine wpD_loopWJ [7, 8, 9, 10, 11, 12, 13, 14, 15, 16, 17, 18, 19, 20, 21, 22, 23, 24, 25, 26, 27, 28, 29, 30, 31, 32, 33, 34, 35] [5, 6] (fun n ys hl => ∃ (k : Nat) (s : Int), ys = [.int .i64 s, .int .i64 k] /\ n + k = l.length /\ R = cntF step q (l.drop k) s /\ hl = []) (l.length) (by kernel_rfl) ?_ ?_
 ·exact ⟨0, 0, rfl, rfl, hR, rfl⟩
 ·rintro n ys hl A hA ⟨i, s, rfl, hn, hF, rfl⟩
  simp only [Qv, List.set, List.map_cons, List.map_nil, List.cons_append, List.nil_append]
  refine Qg fun K2 hK2 => ?_
  by_cases hi : i < l.length
  ·have hi' : (i : Int) < l.length := by omega
   by_cases hs : s <= q
   ·(refine sR fun K hK => ?_; ((repeat (rw [Qa]; simp [hi, hi', hs])); (try simp only [zs])); refine hK _ _ _ ?_; clear hK K)
    refine pT rfl ?_
    refine Qs (hK2 _ _ _ ?_)
    clear hK2 K2
    refine Qg fun K3 hK3 => ?_
    refine Wy ?_
    rw [List.drop_eq_getElem_cons hi, cntF, if_pos hs] at hF
    have hrec := hg l[i] (List.getElem_mem hi) s
    obtain ⟨x, hx⟩ : ∃ x, l[i] = x := ⟨_, rfl⟩
    rw [hx] at hrec hF
    have hE := encC_eq x
    have ht1 := tof_spec x.ty q hrec.2.1
    have ht2 := tof_spec x.bo q hrec.2.2
    rw [Qd x.ty] at ht1
    rw [Qd x.bo] at ht2
    rw [hst] at hF
    generalize x.ty.tof q = v1 at ht1 hF
    generalize x.bo.tof q = v2 at ht2 hF
    (refine dR fun KT hKT => ?_; ((repeat (rw [Qh]; simp [hi, hi', hx, hE])); (try simp only [Qk])))
    refine cYp (ht1) ?_
    ((try simp only [Ql, Qm, Qn, Qi, Qj]); (repeat (rw [Qh]; simp [hi, hi', hx, hE])); (try simp only [Qk]))
    refine cYp (ht2) ?_
    ((try simp only [Ql, Qm, Qn, Qi, Qj]); (repeat (rw [Qh]; simp [hi, hi', hx, hE])); (try simp only [Qk]))
    (refine hKT _ _ _ _ (by kernel_rfl) ?_; clear hKT KT; (try simp only [zs]))
    refine hK3 _ _ _ ?_
    clear hK3 K3
    have hw1 : IntKind.i64.wrap ((i : Int) + 1) = (i : Int) + 1 := i64w (by omega) (by omega)
    (refine Qz Wc ?_; ((repeat (rw [Qa]; simp [hw1])); (try simp only [zs])))
    refine hA (n - 1) _ _ _ (LeT.refl _) (by omega) (by kernel_rfl) ?_
    exact ⟨i + 1, _, rfl, by omega, hF, rfl⟩
   ·(refine sR fun K hK => ?_; ((repeat (rw [Qa]; simp [hi, hi', hs])); (try simp only [zs])); refine hK _ _ _ ?_; clear hK K)
    refine pF rfl ?_
    refine wpD_exit ?_
    refine hK1 _ _ _ ?_
    rw [List.drop_eq_getElem_cons hi, cntF, if_neg hs] at hF
    subst hF
    (refine sR fun K hK => ?_; ((repeat (rw [Qa]; simp)); (try simp only [zs])); refine hK _ _ _ ?_; clear hK K)
    (refine Qo ?_; (try simp only [zs]); refine Wa.ret rfl (.inl ?_); simp [Qt, Out.fgt, D.fgt, D.fgts])
  ·have hi' : ¬ (i : Int) < l.length := by omega
   (refine sR fun K hK => ?_; ((repeat (rw [Qa]; simp [hi, hi'])); (try simp only [zs])); refine hK _ _ _ ?_; clear hK K)
   refine pF rfl ?_
   refine wpD_exit ?_
   refine hK1 _ _ _ ?_
   rw [List.drop_of_length_le (by omega), cntF] at hF
   subst hF
   (refine sR fun K hK => ?_; ((repeat (rw [Qa]; simp)); (try simp only [zs])); refine hK _ _ _ ?_; clear hK K)
   (refine Qo ?_; (try simp only [zs]); refine Wa.ret rfl (.inl ?_); simp [Qt, Out.fgt, D.fgt, D.fgts])
end Go.Proofs.YtebmlojhdnldgaaGreatDoor
