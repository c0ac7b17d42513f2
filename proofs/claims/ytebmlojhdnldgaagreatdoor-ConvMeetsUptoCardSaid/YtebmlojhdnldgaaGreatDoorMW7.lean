/-
  MW7: the texts Cva Cvb Cvc Cvf Cvg Cvh, one behind the other.
-/
import Derived.Test.YtebmlojhdnldgaaGreatDoorMW6
namespace Go.Proofs.YtebmlojhdnldgaaGreatDoor
set_option linter.unusedSimpArgs false
set_option linter.unusedVariables false
set_option maxHeartbeats 10000000
set_option maxRecDepth 20000
open Go.RowKit
attribute [local simp] Qb Qc Xg Xw opD Qt Qn Qi Qj hOf Xd Xz Xu TK.isAgg TK.known Xf Xh Wv Qv D.ofV inB Wr Xj binX binD binE Xv bndD capB IntKind.min IntKind.max IntKind.signed IntKind.bits Xb late
def Xa (left : Int) (l : List C) : List HO := [.cells 134 [.int .i64 left, Cs l]]
def Xo : D := .iface 33 (.int .i64 5)
theorem call_ok (left : Int) (l : List C) (h : 1 <= left) (hl : left <= 9223372036854775807) : Qu Tryz.prog glob 105 [.box 0 0] (Xa left l) (fun o hc => o = .ret (.tuple []) /\ hc = Xa (left - 1) l) := by
 have hw : IntKind.i64.wrap (left - 1) = left - 1 := i64w (by omega) (by omega)
 have h' : ¬ left = 0 := by omega
 unfold Xa Cs
 refine Qu.movd Qf (Qp Wc Tryz.func105 rfl (Qw _ _ Tryz.func105 rfl (by decide)) rfl rfl ?_)
 refine Qg fun K1 hK1 => ?_
 (refine sR fun K hK => ?_; ((repeat (rw [Qa]; simp [h'])); (try simp only [zs])); refine hK _ _ _ ?_; clear hK K)
 refine pF rfl ?_
 refine Qs (hK1 _ _ _ ?_)
 (refine Qz Wc ?_; ((repeat (rw [Qa]; simp [hw])); (try simp only [zs])))
 ((try simp only [zs]); refine Wa.nrm rfl (.inr ⟨[], by decide, by simp, ?_⟩); simp [Out.mov, Wg, Wh, Wj, D.mov, HO.mov, okM, Wi, We, zz, okA, Qr, Qq, hOf, Qe, Qt, Out.fgt, D.fgt, D.fgts])
theorem call_no (l : List C) : Qu Tryz.prog glob 105 [.box 0 0] (Xa 0 l) (fun o hc => o = .pan Xo /\ hc = [.dead]) := by
 refine Qu.dead (Post := fun o hc => o = .pan Xo /\ hc = Xa 0 l) ?_ fun o hc hp => ⟨[.dead], fun r => by
  rw [hp.2]
  match r with
  | 0 => exact .inr rfl
  | r + 1 => exact .inl rfl, hp.1, rfl⟩
 unfold Xa Cs Xo
 refine Qu.movd Qf (Qp Wc Tryz.func105 rfl (Qw _ _ Tryz.func105 rfl (by decide)) rfl rfl ?_)
 refine Qg fun K1 hK1 => ?_
 (refine sR fun K hK => ?_; ((repeat (rw [Qa]; simp)); (try simp only [zs])); refine hK _ _ _ ?_; clear hK K)
 refine pT rfl ?_
 (refine Qz Wc ?_; ((repeat (rw [Qa]; simp)); (try simp only [zs])))
 ((try simp only [zs]); refine Wa.pan (.inr ⟨[], by decide, by simp, ?_⟩); simp [Out.mov, Wg, Wh, Wj, D.mov, HO.mov, okM, Wi, We, zz, okA, Qr, Qq, hOf, Qe, Qt, Out.fgt, D.fgt, D.fgts])
theorem spend_ok (left g : Int) (l : List C) : Qu Tryz.prog glob 130 [.box 0 0, .int .i64 g, .int .i64 0] (Xa left l) (fun o hc => o = .ret (.tuple []) /\ hc = Xa g l) := by
 unfold Xa Cs
 refine Qu.movd Qf (Qp Wc Tryz.func130 rfl (Qw _ _ Tryz.func130 rfl (by decide)) rfl rfl ?_)
 (refine sR fun K hK => ?_; ((repeat (rw [Qa]; simp)); (try simp only [zs])); refine hK _ _ _ ?_; clear hK K)
 (refine sR fun K hK => ?_; ((repeat (rw [Qa]; simp)); (try simp only [zs])); refine hK _ _ _ ?_; clear hK K)
 refine pF rfl ?_
 refine Qs ?_
 ((try simp only [zs]); refine Wa.nrm rfl (.inr ⟨[], by decide, by simp, ?_⟩); simp [Out.mov, Wg, Wh, Wj, D.mov, HO.mov, okM, Wi, We, zz, okA, Qr, Qq, hOf, Qe, Qt, Out.fgt, D.fgt, D.fgts])
theorem spend_no (left g : Int) (l : List C) : Qu Tryz.prog glob 130 [.box 0 0, .int .i64 g, .int .i64 5] (Xa left l) (fun o hc => o = .pan Xo /\ hc = [.dead]) := by
 refine Qu.dead (Post := fun o hc => o = .pan Xo /\ hc = Xa g l) ?_ fun o hc hp => ⟨[.dead], fun r => by
  rw [hp.2]
  match r with
  | 0 => exact .inr rfl
  | r + 1 => exact .inl rfl, hp.1, rfl⟩
 unfold Xa Cs Xo
 refine Qu.movd Qf (Qp Wc Tryz.func130 rfl (Qw _ _ Tryz.func130 rfl (by decide)) rfl rfl ?_)
 (refine sR fun K hK => ?_; ((repeat (rw [Qa]; simp)); (try simp only [zs])); refine hK _ _ _ ?_; clear hK K)
 (refine sR fun K hK => ?_; ((repeat (rw [Qa]; simp)); (try simp only [zs])); refine hK _ _ _ ?_; clear hK K)
 refine pT rfl ?_
 (refine Qz Wc ?_; ((repeat (rw [Qa]; simp)); (try simp only [zs])))
 ((try simp only [zs]); refine Wa.pan (.inr ⟨[], by decide, by simp, ?_⟩); simp [Out.mov, Wg, Wh, Wj, D.mov, HO.mov, okM, Wi, We, zz, okA, Qr, Qq, hOf, Qe, Qt, Out.fgt, D.fgt, D.fgts])
def HeadP (l : List C) : Option (T × Int) -> Out -> List HO -> Prop
 | some (u, g) => fun o hc => o.fgt = .ret (Qx u) /\ hc = Xa g l
 | none => fun o hc => o = .pan Xo /\ hc = [.dead]
theorem ahead_spec {l : List C} (hcs : okCs l) {t : T} {f : Int} {r : Option (T × Int)} (h0 : 0 <= f) (h1 : f <= 1073741824) (ht : okT t) (hp : t.pot + 7 * f.toNat <= PM) (h : HdO l t f r) :
  Qu Tryz.prog glob 106 [.box 0 0, Qx t] (Xa f l) (HeadP l r) := by
 cases h with
 | @fin m u h hm =>
  have wh := whnf_fin hcs h0 h1 ht hp h hm
  have sp := spend_ok f (f - m) l
  generalize f - (m : Int) = g at wh sp ⊢
  show Qu Tryz.prog glob 106 _ _ (fun o hc => o.fgt = .ret (Qx u) /\ hc = Xa g l)
  unfold Xa Cs at sp ⊢
  unfold Cs at wh
  have hEt := Qd t
  have hEu := Qd u
  rw [hEt, hEu] at wh
  rw [hEt, hEu]
  refine Qu.movd Qf (Qp Wc Tryz.func106 rfl (Qw _ _ Tryz.func106 rfl (by decide)) rfl rfl ?_)
  (refine sR fun K hK => ?_; ((repeat (rw [Qa]; simp)); (try simp only [zs])); refine hK _ _ _ ?_; clear hK K)
  (refine Qg fun K hK => ?_; refine dR fun KT hKT => ?_; ((repeat (rw [Qh]; simp)); (try simp only [Qk])))
  refine cYp (wh) ?_
  ((try simp only [Ql, Qm, Qn, Qi, Qj]); (repeat (rw [Qh]; simp)); (try simp only [Qk]))
  (refine hKT _ _ _ _ (by kernel_rfl) ?_; clear hKT KT; (try simp only [zs]))
  (refine hK _ _ _ ?_; clear hK K)
  (refine sR fun K hK => ?_; ((repeat (rw [Qa]; simp)); (try simp only [zs])))
  refine cXo [0] false (sp) ?_
  (rintro o hc ⟨rfl, rfl⟩; refine ⟨false, ?_⟩; simp [zz, okA, Qr, Qq, hOf, Qe, Out.ren, told, Out.fgt, upO, Qi, Qj])
  ((try simp only [Qb, Qc, Qn, Qi, Qj]); (repeat (rw [Qa]; simp)); (try simp only [zs]))
  (refine hK _ _ _ ?_; clear hK K)
  (refine sR fun K hK => ?_; ((repeat (rw [Qa]; simp)); (try simp only [zs])); refine hK _ _ _ ?_; clear hK K)
  (refine Qo ?_; (try simp only [zs]); refine Wa.ret rfl (.inr ⟨[], by decide, by simp, ?_⟩); simp [Out.mov, Wg, Wh, Wj, D.mov, HO.mov, okM, Wi, We, zz, okA, Qr, Qq, hOf, Qe, Qt, Out.fgt, D.fgt, D.fgts])
 | @gone q g =>
  have wh := whnf_gone hcs h0 h1 ht hp g
  have sp := spend_no f 0 l
  show Qu Tryz.prog glob 106 _ _ (fun o hc => o = .pan Xo /\ hc = [.dead])
  unfold Xa Cs Xo at sp
  unfold Xa Cs Xo
  unfold Cs at wh
  have hEt := Qd t
  rw [hEt, encZ] at wh
  rw [hEt]
  refine Qu.movd Qf (Qp Wc Tryz.func106 rfl (Qw _ _ Tryz.func106 rfl (by decide)) rfl rfl ?_)
  (refine sR fun K hK => ?_; ((repeat (rw [Qa]; simp)); (try simp only [zs])); refine hK _ _ _ ?_; clear hK K)
  (refine Qg fun K hK => ?_; refine dR fun KT hKT => ?_; ((repeat (rw [Qh]; simp)); (try simp only [Qk])))
  refine cYp (wh) ?_
  ((try simp only [Ql, Qm, Qn, Qi, Qj]); (repeat (rw [Qh]; simp)); (try simp only [Qk]))
  (refine hKT _ _ _ _ (by kernel_rfl) ?_; clear hKT KT; (try simp only [zs]))
  (refine hK _ _ _ ?_; clear hK K)
  (refine sR fun K hK => ?_; ((repeat (rw [Qa]; simp)); (try simp only [zs])))
  refine cXo [0] false (sp) ?_
  (rintro o hc ⟨rfl, rfl⟩; refine ⟨false, ?_⟩; simp [zz, okA, Qr, Qq, hOf, Qe, Out.ren, told, Out.fgt, upO, Qi, Qj])
  ((try simp only [zs]); refine Wa.pan (.inr ⟨[], by decide, by simp, ?_⟩); simp [Out.mov, Wg, Wh, Wj, D.mov, HO.mov, okM, Wi, We, zz, okA, Qr, Qq, hOf, Qe, Qt, Out.fgt, D.fgt, D.fgts])
def kidsT (t : T) (ns : List Int) (k : Nat) : List T := (ns.take k).map (kidI t)
theorem kidsT_succ {t : T} {ns : List Int} {k : Nat} (h : k < ns.length) : kidsT t ns (k + 1) = kidsT t ns k ++ [kidI t ns[k]] := by unfold kidsT; rw [List.take_succ_eq_append_getElem h, List.map_append]; rfl
theorem kidsT_end (t : T) (ns : List Int) : kidsT t ns ns.length = ns.map (kidI t) := by unfold kidsT; rw [List.take_length]
theorem kidsT_len {t : T} {ns : List Int} {k : Nat} (h : k <= ns.length) : (kidsT t ns k).length = k := by unfold kidsT; rw [List.length_map, List.length_take]; omega
theorem kids_spec (t : T) (ht : okT t) (ns : List Int) (hl : ns.length <= Wd) (hn : ∀ n, n ∈ ns -> 0 <= n) : Qu Tryz.prog glob 111 [Qx t, Ints ns] [] (fun o _ => o.fgt = .ret (Ts (ns.map (kidI t)))) := by
 rw [<- kidsT_end]
 have hkl := ht.kl
 unfold Wd at hkl
 obtain ⟨kk, nn, aa, ls, ks⟩ := t
 simp only [T.ks_mk] at hkl
 rw [encT_mk']
 unfold Ints Ts
 refine Qu.movd Qf (Qp Wc Tryz.func111 rfl (Qw _ _ Tryz.func111 rfl (by decide)) rfl rfl ?_)
 (refine sR fun K hK => ?_; ((repeat (rw [Qa]; simp)); (try simp only [zs])); refine hK _ _ _ ?_; clear hK K)
 refine wpD_tokT 4 ?_
 simp [D.tokd]
 refine Qg fun K1 hK1 => ?_
 (refine sR fun K hK => ?_; ((repeat (rw [Qa]; simp)); (try simp only [zs])); refine hK _ _ _ ?_; clear hK K)
 refine Za Wc Qf (ti := 3) (tk := 10) (tn := 9) (td := 11) (ts := 29) [6, 7, 10, 11, 12, 13, 14, 15, 16, 17, 18, 19, 20, 21, 22, 23, 24, 25, 26, 27, 28, 29] [4] (ns.length) (fun k ys hl => ys = [.slice ((kidsT (.mk kk nn aa ls ks) ns k).map Qx) (.tok 1)] /\ hl = [.cells 27 [.int .i64 kk, .int .i64 nn, .int .i64 aa, .slice (ls.map Wm) .any, .slice (ks.map Qx) .any], .tok]) rfl rfl rfl rfl rfl rfl rfl rfl rfl rfl rfl rfl (by simp) (by decide) rfl (by first | assumption | omega | (unfold Wd; omega)) rfl (by kernel_rfl) (by decide) ?_ ?_ ?_
 ·exact ⟨rfl, rfl⟩
 ·rintro i ys hl A hi ⟨rfl, rfl⟩ hA hA2
  simp only [Qv, List.set, List.map_cons, List.map_nil, List.cons_append, List.nil_append]
  have hi' : (i : Int) < ns.length := by omega
  have hsn := kidsT_succ (t := .mk kk nn aa ls ks) hi
  have hln := kidsT_len (t := .mk kk nn aa ls ks) (Nat.le_of_lt hi)
  have hx0 := hn _ (List.getElem_mem hi)
  obtain ⟨x, hx⟩ : ∃ x, ns[i] = x := ⟨_, rfl⟩
  rw [hx] at hsn hx0
  obtain ⟨m, rfl⟩ : ∃ m : Nat, x = m := ⟨x.toNat, by omega⟩
  rw [kidI_nat] at hsn
  have hel : (kidsT (.mk kk nn aa ls ks) ns i).length + 1 <= Wd := by omega
  generalize kidsT (.mk kk nn aa ls ks) ns i = es at hsn hln hel ⊢
  (refine sR fun K hK => ?_; ((repeat (rw [Qa]; simp [hi, hi', hx])); (try simp only [zs])); refine hK _ _ _ ?_; clear hK K)
  (refine sR fun K hK => ?_; ((repeat (rw [Qa]; simp)); (try simp only [zs])); refine hK _ _ _ ?_; clear hK K)
  refine wpD_fgtO 2 rfl ?_
  simp [D.fgts, D.fgt]
  refine Qg fun K2 hK2 => ?_
  by_cases hm : m < ks.length
  ·have hm' : (m : Int) < ks.length := by omega
   have hk : (T.mk kk nn aa ls ks).kid m = ks[m] := by unfold T.kid; simp [List.getD_eq_getElem?_getD, hm]
   rw [hk] at hsn
   obtain ⟨y, hy⟩ : ∃ y, ks[m] = y := ⟨_, rfl⟩
   rw [hy] at hsn
   have hEy := Qd y
   (refine sR fun K hK => ?_; ((repeat (rw [Qa]; simp [hm, hm'])); (try simp only [zs])); refine hK _ _ _ ?_; clear hK K)
   refine pT rfl ?_
   (refine Qz Wc ?_; ((repeat (rw [Qa]; simp [hm, hm', hy, hEy])); (try simp only [zs])))
   refine hK2 _ _ _ ?_
   clear hK2 K2
   (refine Qz Wc ?_; ((repeat (rw [Qa]; simp [hel])); (try simp only [zs])))
   (refine hA2 ([0, 3]) _ _ _ (LeT.refl _) (by decide) (by simp) (by simp [Wg, Wh, Wj, D.mov, HO.mov, okM, Wi, We, zz, okA, Qr, Qq, hOf, Qe, Qv]) ?_ rfl; simp [Wg, Wh, Wj, D.mov, HO.mov, okM, Wi, We, zz, okA, Qr, Qq, hOf, Qe])
   rw [hsn, <- hEy, show es.map Qx ++ [Qx y] = (es ++ [y]).map Qx by simp, mapT_ren]
  ·have hm' : ¬ (m : Int) < ks.length := by omega
   have hk : (T.mk kk nn aa ls ks).kid m = Wl := by unfold T.kid; simp [List.getD_eq_getElem?_getD, hm]
   rw [hk] at hsn
   (refine sR fun K hK => ?_; ((repeat (rw [Qa]; simp [hm, hm'])); (try simp only [zs])); refine hK _ _ _ ?_; clear hK K)
   refine pF rfl ?_
   refine Qs (hK2 _ _ _ ?_)
   clear hK2 K2
   (refine Qz Wc ?_; ((repeat (rw [Qa]; simp [hel])); (try simp only [zs])))
   (refine hA2 ([0, 3]) _ _ _ (LeT.refl _) (by decide) (by simp) (by simp [Wg, Wh, Wj, D.mov, HO.mov, okM, Wi, We, zz, okA, Qr, Qq, hOf, Qe, Qv]) ?_ rfl; simp [Wg, Wh, Wj, D.mov, HO.mov, okM, Wi, We, zz, okA, Qr, Qq, hOf, Qe])
   rw [hsn, <- encZ, show es.map Qx ++ [Qx Wl] = (es ++ [Wl]).map Qx by simp, mapT_ren]
 ·rintro ys hl tl' ⟨rfl, rfl⟩ htl
  refine hK1 _ _ _ (wpD_weakL htl ?_)
  simp only [Qv, List.set, List.map_cons, List.map_nil, List.cons_append, List.nil_append]
  (refine sR fun K hK => ?_; ((repeat (rw [Qa]; simp)); (try simp only [zs])); refine hK _ _ _ ?_; clear hK K)
  (refine Qo ?_; (try simp only [zs]); refine Wa.ret rfl (.inl ?_); simp [Qt, Out.fgt, D.fgt, D.fgts])
theorem applied_spec (t : T) (ht : okT t) (hd : t.deep <= DM) : Qu Tryz.prog glob 146 [Qx t] [] (fun o _ => o.fgt = .ret (Ts [appliedT t])) := by
 have hli := lift_spec t 1 0 hd ht
 unfold appliedT
 generalize t.lift 1 0 0 = u at hli ⊢
 have hEu := Qd u
 have hEt := Qd t
 rw [hEt, hEu] at hli
 rw [hEt]
 refine Qu.deepR (e := .slice [.agg [.int .i64 6, .int .i64 0, .int .i64 0, .slice [] .full, .slice [Qx u, .agg [.int .i64 1, .int .i64 0, .int .i64 0, .slice [] .full, .slice [] .full]] .full]] .any) ?_ ?_
 rotate_left
 ·unfold Ts ofT
  simp only [List.map_cons, List.map_nil, encT_mk', D.deep, D.deeps, mapT_deep, encT_deep]
 rw [hEu]
 refine Qu.movd Qf (Qp Wc Tryz.func146 rfl (Qw _ _ Tryz.func146 rfl (by decide)) rfl rfl ?_)
 (refine sR fun K hK => ?_; ((repeat (rw [Qa]; simp)); (try simp only [zs])); refine hK _ _ _ ?_; clear hK K)
 (refine sR fun K hK => ?_; ((repeat (rw [Qa]; simp)); (try simp only [zs])))
 refine cXp (hli) ?_
 ((try simp only [Qb, Qc, Qn, Qi, Qj]); (repeat (rw [Qa]; simp)); (try simp only [zs]))
 (refine hK _ _ _ ?_; clear hK K)
 (refine Qo ?_; (try simp only [zs]); refine Wa.ret rfl (.inl ?_); simp [Qt, Out.fgt, D.fgt, D.fgts])
theorem halves_spec (t : T) : Qu Tryz.prog glob 148 [Qx t] [] (fun o _ => o.fgt = .ret (Ts [ofT 14 [t], ofT 15 [t]])) := by
 have hEt := Qd t
 refine Qu.deepR (e := .slice [.agg [.int .i64 14, .int .i64 0, .int .i64 0, .slice [] .full, .slice [Qx t] .full], .agg [.int .i64 15, .int .i64 0, .int .i64 0, .slice [] .full, .slice [Qx t] .full]] .any) ?_ ?_
 rotate_left
 ·unfold Ts ofT
  simp only [List.map_cons, List.map_nil, encT_mk', D.deep, D.deeps, mapT_deep, encT_deep]
 rw [hEt]
 refine Qu.movd Qf (Qp Wc Tryz.func148 rfl (Qw _ _ Tryz.func148 rfl (by decide)) rfl rfl ?_)
 (refine sR fun K hK => ?_; ((repeat (rw [Qa]; simp)); (try simp only [zs])); refine hK _ _ _ ?_; clear hK K)
 (refine sR fun K hK => ?_; ((repeat (rw [Qa]; simp)); (try simp only [zs])); refine hK _ _ _ ?_; clear hK K)
 (refine Qo ?_; (try simp only [zs]); refine Wa.ret rfl (.inl ?_); simp [Qt, Out.fgt, D.fgt, D.fgts])
theorem parts1_spec (t : T) (ht : okT t) : Qu Tryz.prog glob 145 [.ref (Qx t)] [] (fun o _ => o.fgt = .ret (Ts [t.kid 1])) := by
 have hk := kids_spec t ht [1] (by unfold Wd; simp) (by simp)
 unfold Ints at hk
 simp only [List.map_cons, List.map_nil] at hk
 rw [show kidI t 1 = t.kid 1 from rfl] at hk
 unfold Ts at hk ⊢
 simp only [List.map_cons, List.map_nil] at hk ⊢
 rw [Qd t] at hk ⊢
 refine Qu.movd Qf (Qp Wc Tryz.func145 rfl (Qw _ _ Tryz.func145 rfl (by decide)) rfl rfl ?_)
 (refine sR fun K hK => ?_; ((repeat (rw [Qa]; simp)); (try simp only [zs])); refine hK _ _ _ ?_; clear hK K)
 (refine sR fun K hK => ?_; ((repeat (rw [Qa]; simp)); (try simp only [zs])))
 refine cXp (hk) ?_
 ((try simp only [Qb, Qc, Qn, Qi, Qj]); (repeat (rw [Qa]; simp)); (try simp only [zs]))
 (refine hK _ _ _ ?_; clear hK K)
 (refine Qo ?_; (try simp only [zs]); refine Wa.ret rfl (.inl ?_); simp [Qt, Out.fgt, D.fgt, D.fgts])
theorem parts2_spec (t : T) (ht : okT t) : Qu Tryz.prog glob 147 [.ref (Qx t)] [] (fun o _ => o.fgt = .ret (Ts [t.kid 0, t.kid 1])) := by
 have hk := kids_spec t ht [0, 1] (by unfold Wd; simp) (by simp)
 unfold Ints at hk
 simp only [List.map_cons, List.map_nil] at hk
 rw [show kidI t 1 = t.kid 1 from rfl, show kidI t 0 = t.kid 0 from rfl] at hk
 unfold Ts at hk ⊢
 simp only [List.map_cons, List.map_nil] at hk ⊢
 rw [Qd t] at hk ⊢
 refine Qu.movd Qf (Qp Wc Tryz.func147 rfl (Qw _ _ Tryz.func147 rfl (by decide)) rfl rfl ?_)
 (refine sR fun K hK => ?_; ((repeat (rw [Qa]; simp)); (try simp only [zs])); refine hK _ _ _ ?_; clear hK K)
 (refine sR fun K hK => ?_; ((repeat (rw [Qa]; simp)); (try simp only [zs])))
 refine cXp (hk) ?_
 ((try simp only [Qb, Qc, Qn, Qi, Qj]); (repeat (rw [Qa]; simp)); (try simp only [zs]))
 (refine hK _ _ _ ?_; clear hK K)
 (refine Qo ?_; (try simp only [zs]); refine Wa.ret rfl (.inl ?_); simp [Qt, Out.fgt, D.fgt, D.fgts])
theorem parts_spec (t : T) (ht : okT t) (hd : t.deep <= DM) (k : Int) (hk : k = 5 \/ k = 13) : Qu Tryz.prog glob 131 [Qx t, .int .i64 k] [] (fun o _ => o.fgt = .ret (Ts (partsT k t))) := by
 have h1 := parts1_spec t ht
 have h2 := parts2_spec t ht
 have h3 := applied_spec t ht hd
 have h4 := halves_spec t
 have hEt := Qd t
 obtain ⟨R, hR⟩ : ∃ R, R = partsT k t := ⟨_, rfl⟩
 rw [<- hR]
 unfold partsT at hR
 generalize t.kid 0 = k0 at h2 hR
 generalize t.kid 1 = k1 at h1 h2 hR
 generalize ofT 14 [t] = o1 at h4 hR
 generalize ofT 15 [t] = o2 at h4 hR
 generalize appliedT t = ap at h3 hR
 unfold Ts at h1 h2 h3 h4 ⊢
 rw [hEt] at h1 h2 h3 h4 ⊢
 rcases hk with rfl | rfl
 ·refine Qu.movd Qf (Qp Wc Tryz.func131 rfl (Qw _ _ Tryz.func131 rfl (by decide)) rfl rfl ?_)
  (refine sR fun K hK => ?_; ((repeat (rw [Qa]; simp)); (try simp only [zs])); refine hK _ _ _ ?_; clear hK K)
  (refine Xq (T := Wb) 0 (ty := 27) (ds := [.int .i64 t.k, .int .i64 t.n, .int .i64 t.a, .slice (t.ls.map Wm) .any, .slice (t.ks.map Qx) .any]) rfl rfl (by first | exact ⟨rfl, .inr ⟨_, rfl, rfl⟩⟩ | exact ⟨rfl, .inl rfl⟩) ?_; simp [D.frzs, D.frz, HO.frz, dfFrz, refOf, TK.isAgg, FK.isB, FK.isM, FK.isO, D.isLen])
  (refine sR fun K hK => ?_; ((repeat (rw [Qa]; simp)); (try simp only [zs])); refine hK _ _ _ ?_; clear hK K)
  refine Qg fun K1 hK1 => ?_
  (refine sR fun K hK => ?_; ((repeat (rw [Qa]; simp)); (try simp only [zs])); refine hK _ _ _ ?_; clear hK K)
  refine pF rfl ?_
  refine Qs (hK1 _ _ _ ?_)
  clear hK1 K1
  refine Qg fun K1 hK1 => ?_
  by_cases hk5 : t.k = 5
  ·rw [if_pos hk5, if_neg (by omega)] at hR
   subst hR
   rw [hk5] at h1
   (refine sR fun K hK => ?_; ((repeat (rw [Qa]; simp [hk5])); (try simp only [zs])); refine hK _ _ _ ?_; clear hK K)
   refine pT rfl ?_
   (refine sR fun K hK => ?_; ((repeat (rw [Qa]; simp)); (try simp only [zs])))
   refine cXp (h1) ?_
   ((try simp only [Qb, Qc, Qn, Qi, Qj]); (repeat (rw [Qa]; simp)); (try simp only [zs]))
   (refine hK _ _ _ ?_; clear hK K)
   (refine Qo ?_; (try simp only [zs]); refine Wa.ret rfl (.inl ?_); simp [Qt, Out.fgt, D.fgt, D.fgts])
  ·rw [if_neg hk5, if_neg (by omega)] at hR
   subst hR
   (refine sR fun K hK => ?_; ((repeat (rw [Qa]; simp [hk5])); (try simp only [zs])); refine hK _ _ _ ?_; clear hK K)
   refine pF rfl ?_
   refine Qs (hK1 _ _ _ ?_)
   (refine sR fun K hK => ?_; ((repeat (rw [Qa]; simp)); (try simp only [zs])))
   refine cXp (h3) ?_
   ((try simp only [Qb, Qc, Qn, Qi, Qj]); (repeat (rw [Qa]; simp)); (try simp only [zs]))
   (refine hK _ _ _ ?_; clear hK K)
   (refine Qo ?_; (try simp only [zs]); refine Wa.ret rfl (.inl ?_); simp [Qt, Out.fgt, D.fgt, D.fgts])
 ·refine Qu.movd Qf (Qp Wc Tryz.func131 rfl (Qw _ _ Tryz.func131 rfl (by decide)) rfl rfl ?_)
  (refine sR fun K hK => ?_; ((repeat (rw [Qa]; simp)); (try simp only [zs])); refine hK _ _ _ ?_; clear hK K)
  (refine Xq (T := Wb) 0 (ty := 27) (ds := [.int .i64 t.k, .int .i64 t.n, .int .i64 t.a, .slice (t.ls.map Wm) .any, .slice (t.ks.map Qx) .any]) rfl rfl (by first | exact ⟨rfl, .inr ⟨_, rfl, rfl⟩⟩ | exact ⟨rfl, .inl rfl⟩) ?_; simp [D.frzs, D.frz, HO.frz, dfFrz, refOf, TK.isAgg, FK.isB, FK.isM, FK.isO, D.isLen])
  (refine sR fun K hK => ?_; ((repeat (rw [Qa]; simp)); (try simp only [zs])); refine hK _ _ _ ?_; clear hK K)
  refine Qg fun K1 hK1 => ?_
  (refine sR fun K hK => ?_; ((repeat (rw [Qa]; simp)); (try simp only [zs])); refine hK _ _ _ ?_; clear hK K)
  refine pT rfl ?_
  (refine Qz Wc ?_; ((repeat (rw [Qa]; simp)); (try simp only [zs])))
  refine hK1 _ _ _ ?_
  clear hK1 K1
  refine Qg fun K1 hK1 => ?_
  by_cases hk5 : t.k = 13
  ·rw [if_pos hk5, if_pos rfl] at hR
   subst hR
   rw [hk5] at h2
   (refine sR fun K hK => ?_; ((repeat (rw [Qa]; simp [hk5])); (try simp only [zs])); refine hK _ _ _ ?_; clear hK K)
   refine pT rfl ?_
   (refine sR fun K hK => ?_; ((repeat (rw [Qa]; simp)); (try simp only [zs])))
   refine cXp (h2) ?_
   ((try simp only [Qb, Qc, Qn, Qi, Qj]); (repeat (rw [Qa]; simp)); (try simp only [zs]))
   (refine hK _ _ _ ?_; clear hK K)
   (refine Qo ?_; (try simp only [zs]); refine Wa.ret rfl (.inl ?_); simp [Qt, Out.fgt, D.fgt, D.fgts])
  ·rw [if_neg hk5, if_pos rfl] at hR
   subst hR
   (refine sR fun K hK => ?_; ((repeat (rw [Qa]; simp [hk5])); (try simp only [zs])); refine hK _ _ _ ?_; clear hK K)
   refine pF rfl ?_
   refine Qs (hK1 _ _ _ ?_)
   (refine sR fun K hK => ?_; ((repeat (rw [Qa]; simp)); (try simp only [zs])))
   refine cXp (h4) ?_
   ((try simp only [Qb, Qc, Qn, Qi, Qj]); (repeat (rw [Qa]; simp)); (try simp only [zs]))
   (refine hK _ _ _ ?_; clear hK K)
   (refine Qo ?_; (try simp only [zs]); refine Wa.ret rfl (.inl ?_); simp [Qt, Out.fgt, D.fgt, D.fgts])
theorem matters_spec (t : T) (ht : okT t) : Qu Tryz.prog glob 132 [Qx t] [] (fun o _ => o.fgt = .ret (Ts (mattersT t))) := by
 have h1 := kids_spec t ht [2, 3, 4] (by unfold Wd; simp) (by simp)
 have h2 := kids_spec t ht [2, 3, 5] (by unfold Wd; simp) (by simp)
 unfold Ints at h1 h2
 simp only [List.map_cons, List.map_nil] at h1 h2
 rw [show kidI t 2 = t.kid 2 from rfl, show kidI t 3 = t.kid 3 from rfl] at h1 h2
 rw [show kidI t 4 = t.kid 4 from rfl] at h1
 rw [show kidI t 5 = t.kid 5 from rfl] at h2
 obtain ⟨R, hR⟩ : ∃ R, R = mattersT t := ⟨_, rfl⟩
 rw [<- hR]
 unfold mattersT at hR
 generalize t.kid 2 = k2 at h1 h2 hR
 generalize t.kid 3 = k3 at h1 h2 hR
 generalize t.kid 4 = k4 at h1 hR
 generalize t.kid 5 = k5 at h2 hR
 unfold Ts at h1 h2 ⊢
 have hEt := Qd t
 rw [hEt] at h1 h2 ⊢
 refine Qu.movd Qf (Qp Wc Tryz.func132 rfl (Qw _ _ Tryz.func132 rfl (by decide)) rfl rfl ?_)
 (refine sR fun K hK => ?_; ((repeat (rw [Qa]; simp)); (try simp only [zs])); refine hK _ _ _ ?_; clear hK K)
 refine Qg fun K1 hK1 => ?_
 (refine sR fun K hK => ?_; ((repeat (rw [Qa]; simp)); (try simp only [zs])); refine hK _ _ _ ?_; clear hK K)
 refine Wy ?_
 by_cases k18 : t.k = 18
 ·rw [if_pos k18] at hR
  subst hR
  rw [k18] at h1
  (refine sR fun K hK => ?_; ((repeat (rw [Qa]; simp [k18])); (try simp only [zs])); refine hK _ _ _ ?_; clear hK K)
  refine pT rfl ?_
  (refine sR fun K hK => ?_; ((repeat (rw [Qa]; simp)); (try simp only [zs])))
  refine cXp (h1) ?_
  ((try simp only [Qb, Qc, Qn, Qi, Qj]); (repeat (rw [Qa]; simp)); (try simp only [zs]))
  (refine hK _ _ _ ?_; clear hK K)
  (refine Qo ?_; (try simp only [zs]); refine Wa.ret rfl (.inl ?_); simp [Qt, Out.fgt, D.fgt, D.fgts])
 ·rw [if_neg k18] at hR
  (refine sR fun K hK => ?_; ((repeat (rw [Qa]; simp [k18])); (try simp only [zs])); refine hK _ _ _ ?_; clear hK K)
  refine pF rfl ?_
  by_cases k21 : t.k = 21
  ·rw [if_pos k21] at hR
   subst hR
   rw [k21] at h2
   (refine sR fun K hK => ?_; ((repeat (rw [Qa]; simp [k21])); (try simp only [zs])); refine hK _ _ _ ?_; clear hK K)
   refine pT rfl ?_
   (refine sR fun K hK => ?_; ((repeat (rw [Qa]; simp)); (try simp only [zs])))
   refine cXp (h2) ?_
   ((try simp only [Qb, Qc, Qn, Qi, Qj]); (repeat (rw [Qa]; simp)); (try simp only [zs]))
   (refine hK _ _ _ ?_; clear hK K)
   (refine Qo ?_; (try simp only [zs]); refine Wa.ret rfl (.inl ?_); simp [Qt, Out.fgt, D.fgt, D.fgts])
  ·rw [if_neg k21] at hR
   subst hR
   (refine sR fun K hK => ?_; ((repeat (rw [Qa]; simp [k21])); (try simp only [zs])); refine hK _ _ _ ?_; clear hK K)
   refine pF rfl ?_
   refine Qs (hK1 _ _ _ ?_)
   (refine sR fun K hK => ?_; ((repeat (rw [Qa]; simp)); (try simp only [zs])); refine hK _ _ _ ?_; clear hK K)
   (refine Qo ?_; (try simp only [zs]); refine Wa.ret rfl (.inl ?_); simp [Qt, Out.fgt, D.fgt, D.fgts])
def AnsP (l : List C) : Option (Bool × Int) -> Out -> List HO -> Prop
 | some (b, g) => fun o hc => o.fgt = .ret (.bool b) /\ hc = Xa g l
 | none => fun o hc => o = .pan Xo /\ hc = [.dead]
theorem Xl {l : List C} {b : Bool} {g : Int} : AnsP l (some (b, g)) = fun o hc => o.fgt = .ret (.bool b) /\ hc = Xa g l := rfl
theorem Xt {l : List C} : AnsP l none = fun o hc => o = .pan Xo /\ hc = [.dead] := rfl
def okP (f : Int) (t : T) : Prop := okT t /\ t.pot + 7 * f.toNat <= PM
theorem okP.le {f g : Int} {t : T} (h : okP f t) (hg : g <= f) : okP g t := ⟨h.1, by have := h.2; omega⟩
theorem okP.head {l : List C} (hcs : okCs l) {f g : Int} {t u : T} (h : okP f t) (hd : HdO l t f (some (u, g))) : okP g u := by
 obtain ⟨m, h1, h2, h3⟩ := hd.cost
 have := h1.pot
 have := h.2
 exact ⟨h1.ok hcs.ok h.1, by omega⟩
mutual
theorem pot_lift (n fr : Int) : ∀ (t : T) (d : Int), (T.walk (liftTurn n fr) t d).pot = t.pot
 | .mk k m a ls ks, d => by rw [walk_lift, T.pot, T.pot, pots_lift n fr k ks 0 d, T.walks_length]
theorem pots_lift (n fr k : Int) : ∀ (ks : List T) (i : Nat) (d : Int), T.pots (T.walks (liftTurn n fr) k ks i d) = T.pots ks
 | [], _, _ => by rw [T.walks]
 | t :: r, i, d => by rw [T.walks, T.pots, T.pots, pot_lift n fr t, pots_lift n fr k r]
end
theorem pot_lift1 (t : T) (n fr : Int) : (t.lift n fr 0).pot <= t.pot := Nat.le_of_eq (pot_lift n fr t 0)
theorem parts_pot {k : Int} {t a : T} (h : a ∈ partsT k t) : a.pot <= t.pot + 7 := by
 unfold partsT at h
 split at h
 ·split at h
  ·simp only [List.mem_cons, List.not_mem_nil, or_false] at h
   rcases h with rfl | rfl
   ·have := kid_pot t 0; omega
   ·have := kid_pot t 1; omega
  ·simp only [List.mem_cons, List.not_mem_nil, or_false] at h
   subst h
   have := kid_pot t 1; omega
 ·split at h
  ·simp only [List.mem_cons, List.not_mem_nil, or_false] at h
   rcases h with rfl | rfl
   ·unfold ofT; rw [T.pot, T.pots, T.pots, show lackN 14 [t].length = 0 from rfl]; omega
   ·unfold ofT; rw [T.pot, T.pots, T.pots, show lackN 15 [t].length = 0 from rfl]; omega
  ·simp only [List.mem_cons, List.not_mem_nil, or_false] at h
   subst h
   unfold appliedT ofT
   have := pot_lift1 t 1 0
   rw [T.pot, T.pots, T.pots, T.pots, T.pot, T.pots, show lackN 1 ([] : List T).length = 0 from rfl]
   generalize t.lift 1 0 0 = u at this
   rw [show lackN 6 [u, T.mk 1 0 0 [] []].length = 0 from rfl]
   omega
theorem parts_okT {k : Int} {t a : T} (ht : okT t) (h : a ∈ partsT k t) : okT a := by
 unfold partsT at h
 split at h
 ·split at h
  ·simp only [List.mem_cons, List.not_mem_nil, or_false] at h
   rcases h with rfl | rfl <;> exact kid_ok ht _
  ·simp only [List.mem_cons, List.not_mem_nil, or_false] at h
   subst h; exact kid_ok ht _
 ·split at h
  ·simp only [List.mem_cons, List.not_mem_nil, or_false] at h
   rcases h with rfl | rfl
   ·exact ok_of (by unfold I64; omega) (by unfold Wd; simp) fun x hx => by rw [List.mem_singleton.1 hx]; exact ht
   ·exact ok_of (by unfold I64; omega) (by unfold Wd; simp) fun x hx => by rw [List.mem_singleton.1 hx]; exact ht
  ·simp only [List.mem_cons, List.not_mem_nil, or_false] at h
   subst h
   exact ok_of2 (by unfold I64; omega) (lift_ok 1 0 0 ht) (ok_of (by unfold I64; omega) (by unfold Wd; simp) fun x hx => by cases hx)
theorem matters_in {t a : T} (h : a ∈ mattersT t) : a ∈ t.ks \/ ∃ i, a = t.kid i := by
 unfold mattersT at h
 split at h
 ·simp only [List.mem_cons, List.not_mem_nil, or_false] at h
  rcases h with rfl | rfl | rfl <;> exact .inr ⟨_, rfl⟩
 ·split at h
  ·simp only [List.mem_cons, List.not_mem_nil, or_false] at h
   rcases h with rfl | rfl | rfl <;> exact .inr ⟨_, rfl⟩
  ·exact .inl h
theorem matters_okP {f : Int} {t a : T} (ht : okP f t) (h : a ∈ mattersT t) : okP f a := by
 rcases matters_in h with h | ⟨i, rfl⟩
 ·refine ⟨ht.1.ks a h, ?_⟩
  have h2 := ht.2
  cases t with
  | mk k n x ls ks => have := pots_mem (show a ∈ ks from h); rw [T.pot] at h2; omega
 ·exact ⟨kid_ok ht.1 i, by have := kid_pot t i; have := ht.2; omega⟩
theorem parts_okP {k f : Int} {t a : T} (h0 : 0 <= f) (ht : okP (f + 1) t) (h : a ∈ partsT k t) : okP f a := ⟨parts_okT ht.1 h, by have := parts_pot h; have := ht.2; omega⟩
theorem matters_len {f : Int} {t : T} (ht : okP f t) : (mattersT t).length <= Wd := by
 unfold mattersT
 split
 ·unfold Wd; simp
 ·split
  ·unfold Wd; simp
  ·exact ht.1.kl
theorem parts_lmax (k : Int) (t : T) : (partsT k t).length <= Wd := by unfold partsT Wd; split <;> split <;> simp
def OneSpec (l : List C) (h : Nat) : Prop := ∀ p q f o, 0 <= f -> f <= 1073741824 -> okP f p -> okP f q -> CR l h [p] [q] f o -> Qu Tryz.prog glob 64 [.box 0 0, Qx p, Qx q] (Xa f l) (AnsP l o)
set_option maxHeartbeats 4000000 in
theorem all_spec {l : List C} {h : Nat} (H : OneSpec l h) {ps qs : List T} {f : Int} {o : Option (Bool × Int)} (hlen : ps.length = qs.length) (hl : ps.length <= Wd) (h0 : 0 <= f) (h1 : f <= 1073741824) (hp : ∀ p, p ∈ ps -> okP f p) (hq : ∀ q, q ∈ qs -> okP f q) (hcr : CR l h ps qs f o) :
  Qu Tryz.prog glob 110 [.box 0 0, Ts ps, Ts qs] (Xa f l) (AnsP l o) := by
 have hl0 := hl
 unfold Wd at hl0
 unfold Ts Xa Cs
 refine Qu.movd Qf (Qp Wc Tryz.func110 rfl (Qw _ _ Tryz.func110 rfl (by decide)) rfl rfl ?_)
 (refine sR fun K hK => ?_; ((repeat (rw [Qa]; simp)); (try simp only [zs])); refine hK _ _ _ ?_; clear hK K)
 refine Qg fun K1 hK1 => ?_
 (refine sR fun K hK => ?_; ((repeat (rw [Qa]; simp)); (try simp only [zs])); refine hK _ _ _ ?_; clear hK K)
 refine Za Wc Qf (ti := 3) (tk := 10) (tn := 9) (td := 11) (ts := 24) [6, 7, 10, 11, 12, 13, 14, 15, 16, 17, 18, 19, 20, 21, 22, 23, 24] [] (ps.length) (fun k ys hl => ∃ (g : Int), ys = [] /\ CR l h (ps.drop k) (qs.drop k) g o /\ 0 <= g /\ g <= f /\ hl = [.cells 134 [.int .i64 g, .slice (l.map encC) .any]]) rfl rfl rfl rfl rfl rfl rfl rfl rfl rfl rfl rfl (by simp) (by decide) rfl (by first | assumption | omega | (unfold Wd; omega)) rfl (by kernel_rfl) (by decide) ?_ ?_ ?_
 ·exact ⟨f, rfl, hcr, h0, Int.le_refl _, rfl⟩
 ·rintro i ys hl A hi ⟨g, rfl, hg, hg0, hg1, rfl⟩ hA hA2
  simp only [Qv, List.set, List.map_cons, List.map_nil, List.cons_append, List.nil_append]
  have hi' : (i : Int) < ps.length := by omega
  have hi2 : i < qs.length := by omega
  have hi2' : (i : Int) < qs.length := by omega
  rw [List.drop_eq_getElem_cons hi, List.drop_eq_getElem_cons hi2] at hg
  have hpo := (hp _ (List.getElem_mem hi)).le hg1
  have hqo := (hq _ (List.getElem_mem hi2)).le hg1
  obtain ⟨x, hx⟩ : ∃ x, ps[i] = x := ⟨_, rfl⟩
  obtain ⟨y, hy⟩ : ∃ y, qs[i] = y := ⟨_, rfl⟩
  rw [hx, hy] at hg
  rw [hx] at hpo
  rw [hy] at hqo
  have hEx := Qd x
  have hEy := Qd y
  have hone := fun o' => H x y g o' hg0 (by omega) hpo hqo
  rw [hEx, hEy] at hone
  unfold Xa Cs at hone
  have hsp : (CR l h [x] [y] g none /\ o = none) \/ (∃ g', CR l h [x] [y] g (some (false, g')) /\ o = some (false, g')) \/ ∃ g', CR l h [x] [y] g (some (true, g')) /\ CR l h (ps.drop (i + 1)) (qs.drop (i + 1)) g' o := by
   cases h with
   | zero => cases hg
   | succ h => exact hg.split
  rcases hsp with ⟨c1, rfl⟩ | ⟨g', c1, rfl⟩ | ⟨g', c1, c2⟩
  ·have one := hone _ c1
   rw [Xt] at one
   unfold Xo at one
   (refine sR fun K hK => ?_; ((repeat (rw [Qa]; simp [hi, hi'])); (try simp only [zs])); refine hK _ _ _ ?_; clear hK K)
   (refine Qg fun K hK => ?_; refine dR fun KT hKT => ?_; ((repeat (rw [Qh]; simp [hi, hi', hx, hi2, hi2', hy, hEx, hEy])); (try simp only [Qk])))
   refine cYo [0] true false (one) (fun o h e => e) ?_; simp [zz, okA, Qr, Qq, hOf, Qe, Out.ren, upO, Qq, rdO]
   ((try simp only [Ql, Qm, Qn, Qi, Qj]); (repeat (refine wpT_late _ _ _ _ (by kernel_rfl) ?_; simp only [Qn, List.set, List.nil_append, List.cons_append, Nat.reduceAdd])); (try simp only [Qk]))
   (refine hKT _ _ _ _ (by kernel_rfl) ?_; clear hKT KT; (try simp only [zs]))
   simp [killHl]
   rw [Xt]
   unfold Xo
   ((try simp only [zs]); refine Wa.pan (.inr ⟨[], by decide, by simp, ?_⟩); simp [Out.mov, Wg, Wh, Wj, D.mov, HO.mov, okM, Wi, We, zz, okA, Qr, Qq, hOf, Qe, Qt, Out.fgt, D.fgt, D.fgts])
  ·have one := hone _ c1
   rw [Xl] at one
   unfold Xa Cs at one
   (refine sR fun K hK => ?_; ((repeat (rw [Qa]; simp [hi, hi'])); (try simp only [zs])); refine hK _ _ _ ?_; clear hK K)
   (refine Qg fun K hK => ?_; refine dR fun KT hKT => ?_; ((repeat (rw [Qh]; simp [hi, hi', hx, hi2, hi2', hy, hEx, hEy])); (try simp only [Qk])))
   refine cYo [0] true true (one) (fun o h e => e) ?_; simp [zz, okA, Qr, Qq, hOf, Qe, Out.ren, upO, Qq, rdO]
   ((try simp only [Ql, Qm, Qn, Qi, Qj]); (repeat (rw [Qh]; simp)); (try simp only [Qk]))
   (refine hKT _ _ _ _ (by kernel_rfl) ?_; clear hKT KT; (try simp only [zs]))
   (refine hK _ _ _ ?_; clear hK K)
   refine pT rfl ?_
   (refine sR fun K hK => ?_; ((repeat (rw [Qa]; simp)); (try simp only [zs])); refine hK _ _ _ ?_; clear hK K)
   rw [Xl]
   unfold Xa Cs
   (refine Qo ?_; (try simp only [zs]); refine Wa.ret rfl (.inr ⟨[], by decide, by simp, ?_⟩); simp [Out.mov, Wg, Wh, Wj, D.mov, HO.mov, okM, Wi, We, zz, okA, Qr, Qq, hOf, Qe, Qt, Out.fgt, D.fgt, D.fgts])
  ·have one := hone _ c1
   have hle := c1.le hg0 _ _ rfl
   rw [Xl] at one
   unfold Xa Cs at one
   (refine sR fun K hK => ?_; ((repeat (rw [Qa]; simp [hi, hi'])); (try simp only [zs])); refine hK _ _ _ ?_; clear hK K)
   (refine Qg fun K hK => ?_; refine dR fun KT hKT => ?_; ((repeat (rw [Qh]; simp [hi, hi', hx, hi2, hi2', hy, hEx, hEy])); (try simp only [Qk])))
   refine cYo [0] true true (one) (fun o h e => e) ?_; simp [zz, okA, Qr, Qq, hOf, Qe, Out.ren, upO, Qq, rdO]
   ((try simp only [Ql, Qm, Qn, Qi, Qj]); (repeat (rw [Qh]; simp)); (try simp only [Qk]))
   (refine hKT _ _ _ _ (by kernel_rfl) ?_; clear hKT KT; (try simp only [zs]))
   (refine hK _ _ _ ?_; clear hK K)
   refine pF rfl ?_
   refine Qs ?_
   (refine hA2 ([]) _ _ _ (LeT.refl _) (by decide) (by simp) (by simp [Wg, Wh, Wj, D.mov, HO.mov, okM, Wi, We, zz, okA, Qr, Qq, hOf, Qe, Qv]) ?_ rfl; simp [Wg, Wh, Wj, D.mov, HO.mov, okM, Wi, We, zz, okA, Qr, Qq, hOf, Qe])
   exact ⟨g', c2, hle.1, by omega, rfl⟩
 ·rintro ys hl tl' ⟨g, rfl, hg, hg0, hg1, rfl⟩ htl
  refine hK1 _ _ _ (wpD_weakL htl ?_)
  simp only [Qv, List.set, List.map_cons, List.map_nil, List.cons_append, List.nil_append]
  rw [List.drop_length, hlen, List.drop_length] at hg
  cases hg
  rw [Xl]
  unfold Xa Cs
  (refine sR fun K hK => ?_; ((repeat (rw [Qa]; simp)); (try simp only [zs])); refine hK _ _ _ ?_; clear hK K)
  (refine Qo ?_; (try simp only [zs]); refine Wa.ret rfl (.inr ⟨[], by decide, by simp, ?_⟩); simp [Out.mov, Wg, Wh, Wj, D.mov, HO.mov, okM, Wi, We, zz, okA, Qr, Qq, hOf, Qe, Qt, Out.fgt, D.fgt, D.fgts])
inductive HeadsR (l : List C) (h : Nat) (x y : T) (f : Int) : Option (Bool × Int) -> Prop where
 | mis (hp : prs x y = none) : HeadsR l h x y f (some (false, f))
 | kids {ds bs : List T} {o : Option (Bool × Int)} (hp : prs x y = some (ds, bs)) (hk : CR l h ds bs f o) : HeadsR l h x y f o
set_option maxHeartbeats 8000000 in
theorem heads_spec {l : List C} {h : Nat} (H : OneSpec l h) {x y : T} {f : Int} {o : Option (Bool × Int)} (h0 : 0 <= f) (h1 : f <= 1073741824) (hx : okP (f + 1) x) (hy : okP (f + 1) y) (hr : HeadsR l h x y f o) :
  Qu Tryz.prog glob 107 [.box 0 0, Qx x, Qx y] (Xa f l) (AnsP l o) := by
 have hdx : x.deep <= DM := okS.deep ⟨hx.1, by have := hx.2; omega⟩
 have hdy : y.deep <= DM := okS.deep ⟨hy.1, by have := hy.2; omega⟩
 have px5 := parts_spec x hx.1 hdx 5 (.inl rfl)
 have py5 := parts_spec y hy.1 hdy 5 (.inl rfl)
 have px13 := parts_spec x hx.1 hdx 13 (.inr rfl)
 have py13 := parts_spec y hy.1 hdy 13 (.inr rfl)
 have mx := matters_spec x hx.1
 have my := matters_spec y hy.1
 have eqf := equalFuncL_spec (fun a b => decide (Wq a = Wq b)) 46 x.ls y.ls hx.1.ll hy.1.ll (fun a b ha hb => same_spec a b (hx.1.ls a ha).1 (hy.1.ls b hb).1)
 rw [<- sameLs_all] at eqf
 -- what is asked in each case
 have R5 : x.k = 5 \/ y.k = 5 -> Qu Tryz.prog glob 110 [.box 0 0, Ts (partsT 5 x), Ts (partsT 5 y)] (Xa f l) (AnsP l o) := fun hd => by
  have hp : prs x y = some (partsT 5 x, partsT 5 y) := by unfold prs; rw [if_pos hd]
  cases hr with
  | mis hp' => rw [hp] at hp'; cases hp'
  | kids hp' hk =>
   rw [hp] at hp'; cases hp'
   exact all_spec H (parts_len 5 x y) (parts_lmax 5 x) h0 h1 (fun p hm => parts_okP h0 hx hm) (fun p hm => parts_okP h0 hy hm) hk
 have R13 : ¬ (x.k = 5 \/ y.k = 5) -> x.k = 13 \/ y.k = 13 -> Qu Tryz.prog glob 110 [.box 0 0, Ts (partsT 13 x), Ts (partsT 13 y)] (Xa f l) (AnsP l o) := fun hn hd => by
  have hp : prs x y = some (partsT 13 x, partsT 13 y) := by unfold prs; rw [if_neg hn, if_pos hd]
  cases hr with
  | mis hp' => rw [hp] at hp'; cases hp'
  | kids hp' hk =>
   rw [hp] at hp'; cases hp'
   exact all_spec H (parts_len 13 x y) (parts_lmax 13 x) h0 h1 (fun p hm => parts_okP h0 hx hm) (fun p hm => parts_okP h0 hy hm) hk
 have RA : ¬ (x.k = 5 \/ y.k = 5) -> ¬ (x.k = 13 \/ y.k = 13) -> alikeT x y -> Qu Tryz.prog glob 110 [.box 0 0, Ts (mattersT x), Ts (mattersT y)] (Xa f l) (AnsP l o) := fun hn hn2 hd => by
  have hp : prs x y = some (mattersT x, mattersT y) := by unfold prs; rw [if_neg hn, if_neg hn2, if_pos hd]
  cases hr with
  | mis hp' => rw [hp] at hp'; cases hp'
  | kids hp' hk =>
   rw [hp] at hp'; cases hp'
   exact all_spec H (prs_len hp) (matters_len hx) h0 h1 (fun p hm => matters_okP (hx.le (by omega)) hm) (fun p hm => matters_okP (hy.le (by omega)) hm) hk
 have RN : ¬ (x.k = 5 \/ y.k = 5) -> ¬ (x.k = 13 \/ y.k = 13) -> ¬ alikeT x y -> o = some (false, f) := fun hn hn2 hd => by
  have hp : prs x y = none := by unfold prs; rw [if_neg hn, if_neg hn2, if_neg hd]
  cases hr with
  | mis _ => rfl
  | kids hp' _ => rw [hp] at hp'; cases hp'
 clear hr
 have hkx := hx.1.kl
 have hky := hy.1.kl
 unfold alikeT at RA RN
 generalize partsT 5 x = p5 at px5 R5
 generalize partsT 5 y = q5 at py5 R5
 generalize partsT 13 x = p13 at px13 R13
 generalize partsT 13 y = q13 at py13 R13
 generalize mattersT x = m1 at mx RA
 generalize mattersT y = m2 at my RA
 generalize sameLs x.ls y.ls = sl at eqf RA RN
 have hEx := Qd x
 have hEy := Qd y
 rw [hEx] at px5 px13 mx
 rw [hEy] at py5 py13 my
 unfold Ts at px5 py5 px13 py13 mx my R5 R13 RA
 unfold Xa Cs at R5 R13 RA
 unfold Xa Cs
 rw [hEx, hEy]
 clear hEx hEy hx hy hdx hdy H
 refine Qu.movd Qf (Qp Wc Tryz.func107 rfl (Qw _ _ Tryz.func107 rfl (by decide)) rfl rfl ?_)
 (refine sR fun K hK => ?_; ((repeat (rw [Qa]; simp)); (try simp only [zs])); refine hK _ _ _ ?_; clear hK K)
 refine Qg fun K1 hK1 => ?_
 (refine sR fun K hK => ?_; ((repeat (rw [Qa]; simp)); (try simp only [zs])); refine hK _ _ _ ?_; clear hK K)
 refine Za Wc Qf (ti := 3) (tk := 12) (tn := 11) (td := 13) (ts := 34) [6, 8, 12, 13, 14, 15, 16, 17, 18, 19, 20, 21, 22, 23, 24, 25, 26, 27, 28, 29, 30, 31, 32, 33, 34] [] (2) (fun k ys hl => ys = [] /\ (1 <= k -> ¬ (x.k = 5 \/ y.k = 5)) /\ (2 <= k -> ¬ (x.k = 13 \/ y.k = 13)) /\ hl = [.cells 134 [.int .i64 f, .slice (l.map encC) .any], .cells 27 [.int .i64 x.k, .int .i64 x.n, .int .i64 x.a, .slice (x.ls.map Wm) .any, .slice (x.ks.map Qx) .any], .cells 27 [.int .i64 y.k, .int .i64 y.n, .int .i64 y.a, .slice (y.ls.map Wm) .any, .slice (y.ks.map Qx) .any]]) rfl rfl rfl rfl rfl rfl rfl rfl rfl rfl rfl rfl (by simp) (by decide) rfl (by first | assumption | omega | (unfold Wd; omega)) rfl (by kernel_rfl) (by decide) ?_ ?_ ?_
 ·exact ⟨rfl, fun h => absurd h (by omega), fun h => absurd h (by omega), rfl⟩
 ·rintro i ys hl A hi ⟨rfl, hk1, hk2, rfl⟩ hA hA2
  simp only [Qv, List.set, List.map_cons, List.map_nil, List.cons_append, List.nil_append]
  obtain rfl | rfl : i = 0 \/ i = 1 := by omega
  ·(refine sR fun K hK => ?_; ((repeat (rw [Qa]; simp)); (try simp only [zs])); refine hK _ _ _ ?_; clear hK K)
   by_cases g1 : x.k = 5
   ·have hd : x.k = 5 \/ y.k = 5 := .inl g1
    have hal := R5 hd
    rw [g1] at px5
    (refine sR fun K hK => ?_; ((repeat (rw [Qa]; simp [g1])); (try simp only [zs])); refine hK _ _ _ ?_; clear hK K)
    refine pT rfl ?_
    cases o with
    | none =>
     rw [Xt] at hal
     unfold Xo at hal
     (refine Qg fun K hK => ?_; refine dR fun KT hKT => ?_; ((repeat (rw [Qh]; simp)); (try simp only [Qk])))
     refine cYp (px5) ?_
     ((try simp only [Ql, Qm, Qn, Qi, Qj]); (repeat (rw [Qh]; simp)); (try simp only [Qk]))
     refine cYp (py5) ?_
     ((try simp only [Ql, Qm, Qn, Qi, Qj]); (repeat (rw [Qh]; simp)); (try simp only [Qk]))
     refine cYo [0] true false (hal) (fun o h e => e) ?_; simp [zz, okA, Qr, Qq, hOf, Qe, Out.ren, upO, Qq, rdO]
     ((try simp only [Ql, Qm, Qn, Qi, Qj]); (repeat (refine wpT_late _ _ _ _ (by kernel_rfl) ?_; simp only [Qn, List.set, List.nil_append, List.cons_append, Nat.reduceAdd])); (try simp only [Qk]))
     (refine hKT _ _ _ _ (by kernel_rfl) ?_; clear hKT KT; (try simp only [zs]))
     simp [killHl]
     rw [Xt]
     unfold Xo
     ((try simp only [zs]); refine Wa.pan (.inr ⟨[], by decide, by simp, ?_⟩); simp [Out.mov, Wg, Wh, Wj, D.mov, HO.mov, okM, Wi, We, zz, okA, Qr, Qq, hOf, Qe, Qt, Out.fgt, D.fgt, D.fgts])
    | some v =>
     obtain ⟨b, g⟩ := v
     rw [Xl] at hal
     unfold Xa Cs at hal
     (refine Qg fun K hK => ?_; refine dR fun KT hKT => ?_; ((repeat (rw [Qh]; simp)); (try simp only [Qk])))
     refine cYp (px5) ?_
     ((try simp only [Ql, Qm, Qn, Qi, Qj]); (repeat (rw [Qh]; simp)); (try simp only [Qk]))
     refine cYp (py5) ?_
     ((try simp only [Ql, Qm, Qn, Qi, Qj]); (repeat (rw [Qh]; simp)); (try simp only [Qk]))
     refine cYo [0] true true (hal) (fun o h e => e) ?_; simp [zz, okA, Qr, Qq, hOf, Qe, Out.ren, upO, Qq, rdO]
     ((try simp only [Ql, Qm, Qn, Qi, Qj]); (repeat (rw [Qh]; simp)); (try simp only [Qk]))
     (refine hKT _ _ _ _ (by kernel_rfl) ?_; clear hKT KT; (try simp only [zs]))
     (refine hK _ _ _ ?_; clear hK K)
     rw [Xl]
     unfold Xa Cs
     (refine Qo ?_; (try simp only [zs]); refine Wa.ret rfl (.inr ⟨[], by decide, by simp, ?_⟩); simp [Out.mov, Wg, Wh, Wj, D.mov, HO.mov, okM, Wi, We, zz, okA, Qr, Qq, hOf, Qe, Qt, Out.fgt, D.fgt, D.fgts])
   by_cases g2 : y.k = 5
   ·have hd : x.k = 5 \/ y.k = 5 := .inr g2
    have hal := R5 hd
    rw [g2] at py5
    (refine sR fun K hK => ?_; ((repeat (rw [Qa]; simp [g1, g2])); (try simp only [zs])); refine hK _ _ _ ?_; clear hK K)
    refine pT rfl ?_
    cases o with
    | none =>
     rw [Xt] at hal
     unfold Xo at hal
     (refine Qg fun K hK => ?_; refine dR fun KT hKT => ?_; ((repeat (rw [Qh]; simp)); (try simp only [Qk])))
     refine cYp (px5) ?_
     ((try simp only [Ql, Qm, Qn, Qi, Qj]); (repeat (rw [Qh]; simp)); (try simp only [Qk]))
     refine cYp (py5) ?_
     ((try simp only [Ql, Qm, Qn, Qi, Qj]); (repeat (rw [Qh]; simp)); (try simp only [Qk]))
     refine cYo [0] true false (hal) (fun o h e => e) ?_; simp [zz, okA, Qr, Qq, hOf, Qe, Out.ren, upO, Qq, rdO]
     ((try simp only [Ql, Qm, Qn, Qi, Qj]); (repeat (refine wpT_late _ _ _ _ (by kernel_rfl) ?_; simp only [Qn, List.set, List.nil_append, List.cons_append, Nat.reduceAdd])); (try simp only [Qk]))
     (refine hKT _ _ _ _ (by kernel_rfl) ?_; clear hKT KT; (try simp only [zs]))
     simp [killHl]
     rw [Xt]
     unfold Xo
     ((try simp only [zs]); refine Wa.pan (.inr ⟨[], by decide, by simp, ?_⟩); simp [Out.mov, Wg, Wh, Wj, D.mov, HO.mov, okM, Wi, We, zz, okA, Qr, Qq, hOf, Qe, Qt, Out.fgt, D.fgt, D.fgts])
    | some v =>
     obtain ⟨b, g⟩ := v
     rw [Xl] at hal
     unfold Xa Cs at hal
     (refine Qg fun K hK => ?_; refine dR fun KT hKT => ?_; ((repeat (rw [Qh]; simp)); (try simp only [Qk])))
     refine cYp (px5) ?_
     ((try simp only [Ql, Qm, Qn, Qi, Qj]); (repeat (rw [Qh]; simp)); (try simp only [Qk]))
     refine cYp (py5) ?_
     ((try simp only [Ql, Qm, Qn, Qi, Qj]); (repeat (rw [Qh]; simp)); (try simp only [Qk]))
     refine cYo [0] true true (hal) (fun o h e => e) ?_; simp [zz, okA, Qr, Qq, hOf, Qe, Out.ren, upO, Qq, rdO]
     ((try simp only [Ql, Qm, Qn, Qi, Qj]); (repeat (rw [Qh]; simp)); (try simp only [Qk]))
     (refine hKT _ _ _ _ (by kernel_rfl) ?_; clear hKT KT; (try simp only [zs]))
     (refine hK _ _ _ ?_; clear hK K)
     rw [Xl]
     unfold Xa Cs
     (refine Qo ?_; (try simp only [zs]); refine Wa.ret rfl (.inr ⟨[], by decide, by simp, ?_⟩); simp [Out.mov, Wg, Wh, Wj, D.mov, HO.mov, okM, Wi, We, zz, okA, Qr, Qq, hOf, Qe, Qt, Out.fgt, D.fgt, D.fgts])
   (refine sR fun K hK => ?_; ((repeat (rw [Qa]; simp [g1, g2])); (try simp only [zs])); refine hK _ _ _ ?_; clear hK K)
   refine pF rfl ?_
   refine Qs ?_
   (refine hA2 ([1, 2]) _ _ _ (LeT.refl _) (by decide) (by simp) (by simp [Wg, Wh, Wj, D.mov, HO.mov, okM, Wi, We, zz, okA, Qr, Qq, hOf, Qe, Qv]) ?_ rfl; simp [Wg, Wh, Wj, D.mov, HO.mov, okM, Wi, We, zz, okA, Qr, Qq, hOf, Qe])
   exact ⟨fun _ => by omega, fun h => absurd h (by omega)⟩
  ·have hn5 := hk1 (Nat.le_refl _)
   (refine sR fun K hK => ?_; ((repeat (rw [Qa]; simp)); (try simp only [zs])); refine hK _ _ _ ?_; clear hK K)
   by_cases g1 : x.k = 13
   ·have hd : x.k = 13 \/ y.k = 13 := .inl g1
    have hal := R13 hn5 hd
    rw [g1] at px13
    (refine sR fun K hK => ?_; ((repeat (rw [Qa]; simp [g1])); (try simp only [zs])); refine hK _ _ _ ?_; clear hK K)
    refine pT rfl ?_
    cases o with
    | none =>
     rw [Xt] at hal
     unfold Xo at hal
     (refine Qg fun K hK => ?_; refine dR fun KT hKT => ?_; ((repeat (rw [Qh]; simp)); (try simp only [Qk])))
     refine cYp (px13) ?_
     ((try simp only [Ql, Qm, Qn, Qi, Qj]); (repeat (rw [Qh]; simp)); (try simp only [Qk]))
     refine cYp (py13) ?_
     ((try simp only [Ql, Qm, Qn, Qi, Qj]); (repeat (rw [Qh]; simp)); (try simp only [Qk]))
     refine cYo [0] true false (hal) (fun o h e => e) ?_; simp [zz, okA, Qr, Qq, hOf, Qe, Out.ren, upO, Qq, rdO]
     ((try simp only [Ql, Qm, Qn, Qi, Qj]); (repeat (refine wpT_late _ _ _ _ (by kernel_rfl) ?_; simp only [Qn, List.set, List.nil_append, List.cons_append, Nat.reduceAdd])); (try simp only [Qk]))
     (refine hKT _ _ _ _ (by kernel_rfl) ?_; clear hKT KT; (try simp only [zs]))
     simp [killHl]
     rw [Xt]
     unfold Xo
     ((try simp only [zs]); refine Wa.pan (.inr ⟨[], by decide, by simp, ?_⟩); simp [Out.mov, Wg, Wh, Wj, D.mov, HO.mov, okM, Wi, We, zz, okA, Qr, Qq, hOf, Qe, Qt, Out.fgt, D.fgt, D.fgts])
    | some v =>
     obtain ⟨b, g⟩ := v
     rw [Xl] at hal
     unfold Xa Cs at hal
     (refine Qg fun K hK => ?_; refine dR fun KT hKT => ?_; ((repeat (rw [Qh]; simp)); (try simp only [Qk])))
     refine cYp (px13) ?_
     ((try simp only [Ql, Qm, Qn, Qi, Qj]); (repeat (rw [Qh]; simp)); (try simp only [Qk]))
     refine cYp (py13) ?_
     ((try simp only [Ql, Qm, Qn, Qi, Qj]); (repeat (rw [Qh]; simp)); (try simp only [Qk]))
     refine cYo [0] true true (hal) (fun o h e => e) ?_; simp [zz, okA, Qr, Qq, hOf, Qe, Out.ren, upO, Qq, rdO]
     ((try simp only [Ql, Qm, Qn, Qi, Qj]); (repeat (rw [Qh]; simp)); (try simp only [Qk]))
     (refine hKT _ _ _ _ (by kernel_rfl) ?_; clear hKT KT; (try simp only [zs]))
     (refine hK _ _ _ ?_; clear hK K)
     rw [Xl]
     unfold Xa Cs
     (refine Qo ?_; (try simp only [zs]); refine Wa.ret rfl (.inr ⟨[], by decide, by simp, ?_⟩); simp [Out.mov, Wg, Wh, Wj, D.mov, HO.mov, okM, Wi, We, zz, okA, Qr, Qq, hOf, Qe, Qt, Out.fgt, D.fgt, D.fgts])
   by_cases g2 : y.k = 13
   ·have hd : x.k = 13 \/ y.k = 13 := .inr g2
    have hal := R13 hn5 hd
    rw [g2] at py13
    (refine sR fun K hK => ?_; ((repeat (rw [Qa]; simp [g1, g2])); (try simp only [zs])); refine hK _ _ _ ?_; clear hK K)
    refine pT rfl ?_
    cases o with
    | none =>
     rw [Xt] at hal
     unfold Xo at hal
     (refine Qg fun K hK => ?_; refine dR fun KT hKT => ?_; ((repeat (rw [Qh]; simp)); (try simp only [Qk])))
     refine cYp (px13) ?_
     ((try simp only [Ql, Qm, Qn, Qi, Qj]); (repeat (rw [Qh]; simp)); (try simp only [Qk]))
     refine cYp (py13) ?_
     ((try simp only [Ql, Qm, Qn, Qi, Qj]); (repeat (rw [Qh]; simp)); (try simp only [Qk]))
     refine cYo [0] true false (hal) (fun o h e => e) ?_; simp [zz, okA, Qr, Qq, hOf, Qe, Out.ren, upO, Qq, rdO]
     ((try simp only [Ql, Qm, Qn, Qi, Qj]); (repeat (refine wpT_late _ _ _ _ (by kernel_rfl) ?_; simp only [Qn, List.set, List.nil_append, List.cons_append, Nat.reduceAdd])); (try simp only [Qk]))
     (refine hKT _ _ _ _ (by kernel_rfl) ?_; clear hKT KT; (try simp only [zs]))
     simp [killHl]
     rw [Xt]
     unfold Xo
     ((try simp only [zs]); refine Wa.pan (.inr ⟨[], by decide, by simp, ?_⟩); simp [Out.mov, Wg, Wh, Wj, D.mov, HO.mov, okM, Wi, We, zz, okA, Qr, Qq, hOf, Qe, Qt, Out.fgt, D.fgt, D.fgts])
    | some v =>
     obtain ⟨b, g⟩ := v
     rw [Xl] at hal
     unfold Xa Cs at hal
     (refine Qg fun K hK => ?_; refine dR fun KT hKT => ?_; ((repeat (rw [Qh]; simp)); (try simp only [Qk])))
     refine cYp (px13) ?_
     ((try simp only [Ql, Qm, Qn, Qi, Qj]); (repeat (rw [Qh]; simp)); (try simp only [Qk]))
     refine cYp (py13) ?_
     ((try simp only [Ql, Qm, Qn, Qi, Qj]); (repeat (rw [Qh]; simp)); (try simp only [Qk]))
     refine cYo [0] true true (hal) (fun o h e => e) ?_; simp [zz, okA, Qr, Qq, hOf, Qe, Out.ren, upO, Qq, rdO]
     ((try simp only [Ql, Qm, Qn, Qi, Qj]); (repeat (rw [Qh]; simp)); (try simp only [Qk]))
     (refine hKT _ _ _ _ (by kernel_rfl) ?_; clear hKT KT; (try simp only [zs]))
     (refine hK _ _ _ ?_; clear hK K)
     rw [Xl]
     unfold Xa Cs
     (refine Qo ?_; (try simp only [zs]); refine Wa.ret rfl (.inr ⟨[], by decide, by simp, ?_⟩); simp [Out.mov, Wg, Wh, Wj, D.mov, HO.mov, okM, Wi, We, zz, okA, Qr, Qq, hOf, Qe, Qt, Out.fgt, D.fgt, D.fgts])
   (refine sR fun K hK => ?_; ((repeat (rw [Qa]; simp [g1, g2])); (try simp only [zs])); refine hK _ _ _ ?_; clear hK K)
   refine pF rfl ?_
   refine Qs ?_
   (refine hA2 ([1, 2]) _ _ _ (LeT.refl _) (by decide) (by simp) (by simp [Wg, Wh, Wj, D.mov, HO.mov, okM, Wi, We, zz, okA, Qr, Qq, hOf, Qe, Qv]) ?_ rfl; simp [Wg, Wh, Wj, D.mov, HO.mov, okM, Wi, We, zz, okA, Qr, Qq, hOf, Qe])
   exact ⟨by omega, by omega⟩
 ·rintro ys hl tl' ⟨rfl, hk1, hk2, rfl⟩ htl
  refine hK1 _ _ _ (wpD_weakL htl ?_)
  clear hK1 K1 px5 py5 px13 py13 R5 R13
  have RA := RA (hk1 (by omega)) (hk2 (by omega))
  have RN := RN (hk1 (by omega)) (hk2 (by omega))
  clear hk1 hk2
  simp only [Qv, List.set, List.map_cons, List.map_nil, List.cons_append, List.nil_append]
  by_cases e1 : x.k = y.k
  rotate_left
  ·rw [RN fun h => by exact e1 h.1, Xl]
   unfold Xa Cs
   (refine sR fun K hK => ?_; ((repeat (rw [Qa]; simp [e1])); (try simp only [zs])); refine hK _ _ _ ?_; clear hK K)
   (refine Qg fun K hK => ?_; refine dR fun KT hKT => ?_; ((repeat (rw [Qh]; simp)); (try simp only [Qk])))
   (refine hKT _ _ _ _ (by kernel_rfl) ?_; clear hKT KT; (try simp only [zs]))
   (refine hK _ _ _ ?_; clear hK K)
   (refine Qo ?_; (try simp only [zs]); refine Wa.ret rfl (.inr ⟨[], by decide, by simp, ?_⟩); simp [Out.mov, Wg, Wh, Wj, D.mov, HO.mov, okM, Wi, We, zz, okA, Qr, Qq, hOf, Qe, Qt, Out.fgt, D.fgt, D.fgts])
  by_cases e2 : x.n = y.n
  rotate_left
  ·rw [RN fun h => by exact e2 h.2.1, Xl]
   unfold Xa Cs
   (refine sR fun K hK => ?_; ((repeat (rw [Qa]; simp [e1, e2])); (try simp only [zs])); refine hK _ _ _ ?_; clear hK K)
   (refine Qg fun K hK => ?_; refine dR fun KT hKT => ?_; ((repeat (rw [Qh]; simp)); (try simp only [Qk])))
   (refine hKT _ _ _ _ (by kernel_rfl) ?_; clear hKT KT; (try simp only [zs]))
   (refine hK _ _ _ ?_; clear hK K)
   (refine Qo ?_; (try simp only [zs]); refine Wa.ret rfl (.inr ⟨[], by decide, by simp, ?_⟩); simp [Out.mov, Wg, Wh, Wj, D.mov, HO.mov, okM, Wi, We, zz, okA, Qr, Qq, hOf, Qe, Qt, Out.fgt, D.fgt, D.fgts])
  by_cases e3 : x.a = y.a
  rotate_left
  ·rw [RN fun h => by exact e3 h.2.2.1, Xl]
   unfold Xa Cs
   (refine sR fun K hK => ?_; ((repeat (rw [Qa]; simp [e1, e2, e3])); (try simp only [zs])); refine hK _ _ _ ?_; clear hK K)
   (refine Qg fun K hK => ?_; refine dR fun KT hKT => ?_; ((repeat (rw [Qh]; simp)); (try simp only [Qk])))
   (refine hKT _ _ _ _ (by kernel_rfl) ?_; clear hKT KT; (try simp only [zs]))
   (refine hK _ _ _ ?_; clear hK K)
   (refine Qo ?_; (try simp only [zs]); refine Wa.ret rfl (.inr ⟨[], by decide, by simp, ?_⟩); simp [Out.mov, Wg, Wh, Wj, D.mov, HO.mov, okM, Wi, We, zz, okA, Qr, Qq, hOf, Qe, Qt, Out.fgt, D.fgt, D.fgts])
  by_cases e4 : x.ks.length = y.ks.length
  rotate_left
  ·have e4' : ¬ (x.ks.length : Int) = y.ks.length := by omega
   rw [RN fun h => by exact e4 h.2.2.2.1, Xl]
   unfold Xa Cs
   (refine sR fun K hK => ?_; ((repeat (rw [Qa]; simp [e1, e2, e3, e4'])); (try simp only [zs])); refine hK _ _ _ ?_; clear hK K)
   (refine Qg fun K hK => ?_; refine dR fun KT hKT => ?_; ((repeat (rw [Qh]; simp)); (try simp only [Qk])))
   (refine hKT _ _ _ _ (by kernel_rfl) ?_; clear hKT KT; (try simp only [zs]))
   (refine hK _ _ _ ?_; clear hK K)
   (refine Qo ?_; (try simp only [zs]); refine Wa.ret rfl (.inr ⟨[], by decide, by simp, ?_⟩); simp [Out.mov, Wg, Wh, Wj, D.mov, HO.mov, okM, Wi, We, zz, okA, Qr, Qq, hOf, Qe, Qt, Out.fgt, D.fgt, D.fgts])
  have e4' : (x.ks.length : Int) = y.ks.length := by omega
  cases sl with
  | false =>
   rw [RN fun h => by exact absurd h.2.2.2.2 (by decide), Xl]
   unfold Xa Cs
   (refine sR fun K hK => ?_; ((repeat (rw [Qa]; simp [e1, e2, e3, e4'])); (try simp only [zs])))
   refine cXp (eqf) ?_
   ((try simp only [Qb, Qc, Qn, Qi, Qj]); (repeat (rw [Qa]; simp)); (try simp only [zs]))
   (refine hK _ _ _ ?_; clear hK K)
   (refine Qg fun K hK => ?_; refine dR fun KT hKT => ?_; ((repeat (rw [Qh]; simp)); (try simp only [Qk])))
   (refine hKT _ _ _ _ (by kernel_rfl) ?_; clear hKT KT; (try simp only [zs]))
   (refine hK _ _ _ ?_; clear hK K)
   (refine Qo ?_; (try simp only [zs]); refine Wa.ret rfl (.inr ⟨[], by decide, by simp, ?_⟩); simp [Out.mov, Wg, Wh, Wj, D.mov, HO.mov, okM, Wi, We, zz, okA, Qr, Qq, hOf, Qe, Qt, Out.fgt, D.fgt, D.fgts])
  | true =>
   have RA := RA ⟨e1, e2, e3, e4, rfl⟩
   rw [e1, e2, e3] at mx
   (refine sR fun K hK => ?_; ((repeat (rw [Qa]; simp [e1, e2, e3, e4'])); (try simp only [zs])))
   refine cXp (eqf) ?_
   ((try simp only [Qb, Qc, Qn, Qi, Qj]); (repeat (rw [Qa]; simp)); (try simp only [zs]))
   (refine hK _ _ _ ?_; clear hK K)
   cases o with
   | none =>
    rw [Xt] at RA
    unfold Xo at RA
    (refine Qg fun K hK => ?_; refine dR fun KT hKT => ?_; ((repeat (rw [Qh]; simp)); (try simp only [Qk])))
    refine cYp (mx) ?_
    ((try simp only [Ql, Qm, Qn, Qi, Qj]); (repeat (rw [Qh]; simp)); (try simp only [Qk]))
    refine cYp (my) ?_
    ((try simp only [Ql, Qm, Qn, Qi, Qj]); (repeat (rw [Qh]; simp)); (try simp only [Qk]))
    refine cYo [0] true false (RA) (fun o h e => e) ?_; simp [zz, okA, Qr, Qq, hOf, Qe, Out.ren, upO, Qq, rdO]
    ((try simp only [Ql, Qm, Qn, Qi, Qj]); (repeat (refine wpT_late _ _ _ _ (by kernel_rfl) ?_; simp only [Qn, List.set, List.nil_append, List.cons_append, Nat.reduceAdd])); (try simp only [Qk]))
    (refine hKT _ _ _ _ (by kernel_rfl) ?_; clear hKT KT; (try simp only [zs]))
    simp [killHl]
    rw [Xt]
    unfold Xo
    ((try simp only [zs]); refine Wa.pan (.inr ⟨[], by decide, by simp, ?_⟩); simp [Out.mov, Wg, Wh, Wj, D.mov, HO.mov, okM, Wi, We, zz, okA, Qr, Qq, hOf, Qe, Qt, Out.fgt, D.fgt, D.fgts])
   | some v =>
    obtain ⟨b, g⟩ := v
    rw [Xl] at RA
    unfold Xa Cs at RA
    (refine Qg fun K hK => ?_; refine dR fun KT hKT => ?_; ((repeat (rw [Qh]; simp)); (try simp only [Qk])))
    refine cYp (mx) ?_
    ((try simp only [Ql, Qm, Qn, Qi, Qj]); (repeat (rw [Qh]; simp)); (try simp only [Qk]))
    refine cYp (my) ?_
    ((try simp only [Ql, Qm, Qn, Qi, Qj]); (repeat (rw [Qh]; simp)); (try simp only [Qk]))
    refine cYo [0] true true (RA) (fun o h e => e) ?_; simp [zz, okA, Qr, Qq, hOf, Qe, Out.ren, upO, Qq, rdO]
    ((try simp only [Ql, Qm, Qn, Qi, Qj]); (repeat (rw [Qh]; simp)); (try simp only [Qk]))
    (refine hKT _ _ _ _ (by kernel_rfl) ?_; clear hKT KT; (try simp only [zs]))
    (refine hK _ _ _ ?_; clear hK K)
    rw [Xl]
    unfold Xa Cs
    (refine Qo ?_; (try simp only [zs]); refine Wa.ret rfl (.inr ⟨[], by decide, by simp, ?_⟩); simp [Out.mov, Wg, Wh, Wj, D.mov, HO.mov, okM, Wi, We, zz, okA, Qr, Qq, hOf, Qe, Qt, Out.fgt, D.fgt, D.fgts])
theorem CR.one_cases {l : List C} {h : Nat} {p q : T} {f : Int} {o : Option (Bool × Int)} (H : CR l (h + 1) [p] [q] f o) :
  (f = 0 /\ o = none) \/ (1 <= f /\ p.sameB q = true /\ o = some (true, f - 1)) \/ (1 <= f /\ p.sameB q = false /\ ((HdO l p (f - 1) none /\ o = none) \/
   ∃ x f1, HdO l p (f - 1) (some (x, f1)) /\ ((HdO l q f1 none /\ o = none) \/ ∃ y f2, HdO l q f1 (some (y, f2)) /\ HeadsR l h x y f2 o))) := by
 cases H with
 | out => exact .inl ⟨rfl, rfl⟩
 | same hf hs hr => cases hr; exact .inr (.inl ⟨hf, hs, rfl⟩)
 | gone1 hf hs h1 => exact .inr (.inr ⟨hf, hs, .inl ⟨h1, rfl⟩⟩)
 | gone2 hf hs h1 h2 => exact .inr (.inr ⟨hf, hs, .inr ⟨_, _, h1, .inl ⟨h2, rfl⟩⟩⟩)
 | mis hf hs h1 h2 hp => exact .inr (.inr ⟨hf, hs, .inr ⟨_, _, h1, .inr ⟨_, _, h2, .mis hp⟩⟩⟩)
 | kids hf hs h1 h2 hp hk hn => exact .inr (.inr ⟨hf, hs, .inr ⟨_, _, h1, .inr ⟨_, _, h2, .kids hp hk⟩⟩⟩)
 | yes hf hs h1 h2 hp hk hr => cases hr; exact .inr (.inr ⟨hf, hs, .inr ⟨_, _, h1, .inr ⟨_, _, h2, .kids hp hk⟩⟩⟩)
theorem okP.head1 {l : List C} (hcs : okCs l) {f g : Int} {t u : T} (h : okP (f + 1) t) (hd : HdO l t f (some (u, g))) : okP (g + 1) u := h.head hcs (hd.more (by omega))
set_option maxHeartbeats 4000000 in
theorem aone_spec {l : List C} (hcs : okCs l) {h : Nat} (H : OneSpec l h) : OneSpec l (h + 1) := by
 intro p q f o h0 h1 hp hq hcr
 have sm := sameT_spec p q hp.1 hq.1
 have hEp := Qd p
 have hEq := Qd q
 rcases hcr.one_cases with ⟨rfl, rfl⟩ | ⟨hf, hs, rfl⟩ | ⟨hf, hs, hrest⟩
 ·have ca := call_no l
  rw [Xt]
  unfold Xa Cs Xo at ca
  unfold Xa Cs Xo
  rw [hEp, hEq]
  refine Qu.movd Qf (Qp Wc Tryz.func64 rfl (Qw _ _ Tryz.func64 rfl (by decide)) rfl rfl ?_)
  (refine sR fun K hK => ?_; ((repeat (rw [Qa]; simp)); (try simp only [zs])); refine hK _ _ _ ?_; clear hK K)
  (refine sR fun K hK => ?_; ((repeat (rw [Qa]; simp)); (try simp only [zs])))
  refine cXo [0] false (ca) ?_
  (rintro o hc ⟨rfl, rfl⟩; refine ⟨false, ?_⟩; simp [zz, okA, Qr, Qq, hOf, Qe, Out.ren, told, Out.fgt, upO, Qi, Qj])
  ((try simp only [zs]); refine Wa.pan (.inr ⟨[], by decide, by simp, ?_⟩); simp [Out.mov, Wg, Wh, Wj, D.mov, HO.mov, okM, Wi, We, zz, okA, Qr, Qq, hOf, Qe, Qt, Out.fgt, D.fgt, D.fgts])
 ·have ca := call_ok f l hf (by omega)
  rw [hs, hEp, hEq] at sm
  rw [Xl]
  unfold Xa Cs at ca ⊢
  rw [hEp, hEq]
  refine Qu.movd Qf (Qp Wc Tryz.func64 rfl (Qw _ _ Tryz.func64 rfl (by decide)) rfl rfl ?_)
  (refine sR fun K hK => ?_; ((repeat (rw [Qa]; simp)); (try simp only [zs])); refine hK _ _ _ ?_; clear hK K)
  (refine sR fun K hK => ?_; ((repeat (rw [Qa]; simp)); (try simp only [zs])))
  refine cXo [0] false (ca) ?_
  (rintro o hc ⟨rfl, rfl⟩; refine ⟨false, ?_⟩; simp [zz, okA, Qr, Qq, hOf, Qe, Out.ren, told, Out.fgt, upO, Qi, Qj])
  ((try simp only [Qb, Qc, Qn, Qi, Qj]); (repeat (rw [Qa]; simp)); (try simp only [zs]))
  (refine hK _ _ _ ?_; clear hK K)
  refine Qg fun K1 hK1 => ?_
  (refine sR fun K hK => ?_; ((repeat (rw [Qa]; simp)); (try simp only [zs])))
  refine cXp (sm) ?_
  ((try simp only [Qb, Qc, Qn, Qi, Qj]); (repeat (rw [Qa]; simp)); (try simp only [zs]))
  (refine hK _ _ _ ?_; clear hK K)
  refine pT rfl ?_
  (refine sR fun K hK => ?_; ((repeat (rw [Qa]; simp)); (try simp only [zs])); refine hK _ _ _ ?_; clear hK K)
  (refine Qo ?_; (try simp only [zs]); refine Wa.ret rfl (.inr ⟨[], by decide, by simp, ?_⟩); simp [Out.mov, Wg, Wh, Wj, D.mov, HO.mov, okM, Wi, We, zz, okA, Qr, Qq, hOf, Qe, Qt, Out.fgt, D.fgt, D.fgts])
 ·have ca := call_ok f l hf (by omega)
  rw [hs, hEp, hEq] at sm
  have hp1 : okP (f - 1 + 1) p := by rw [show f - 1 + 1 = f by omega]; exact hp
  have ah1 := fun r h => ahead_spec (r := r) hcs (by omega) (by omega) hp.1 (hp.le (show f - 1 <= f by omega)).2 h
  rcases hrest with ⟨g1, rfl⟩ | ⟨x, f1, g1, hrest⟩
  ·have ah1 : Qu Tryz.prog glob 106 [.box 0 0, Qx p] (Xa (f - 1) l) (fun o hc => o = .pan Xo /\ hc = [.dead]) := ah1 _ g1
   rw [Xt]
   unfold Xa Cs at ca
   unfold Xa Cs Xo at ah1
   unfold Xa Cs Xo
   rw [hEp] at ah1
   rw [hEp, hEq]
   refine Qu.movd Qf (Qp Wc Tryz.func64 rfl (Qw _ _ Tryz.func64 rfl (by decide)) rfl rfl ?_)
   (refine sR fun K hK => ?_; ((repeat (rw [Qa]; simp)); (try simp only [zs])); refine hK _ _ _ ?_; clear hK K)
   (refine sR fun K hK => ?_; ((repeat (rw [Qa]; simp)); (try simp only [zs])))
   refine cXo [0] false (ca) ?_
   (rintro o hc ⟨rfl, rfl⟩; refine ⟨false, ?_⟩; simp [zz, okA, Qr, Qq, hOf, Qe, Out.ren, told, Out.fgt, upO, Qi, Qj])
   ((try simp only [Qb, Qc, Qn, Qi, Qj]); (repeat (rw [Qa]; simp)); (try simp only [zs]))
   (refine hK _ _ _ ?_; clear hK K)
   refine Qg fun K1 hK1 => ?_
   (refine sR fun K hK => ?_; ((repeat (rw [Qa]; simp)); (try simp only [zs])))
   refine cXp (sm) ?_
   ((try simp only [Qb, Qc, Qn, Qi, Qj]); (repeat (rw [Qa]; simp)); (try simp only [zs]))
   (refine hK _ _ _ ?_; clear hK K)
   refine pF rfl ?_
   refine Qs (hK1 _ _ _ ?_)
   (refine sR fun K hK => ?_; ((repeat (rw [Qa]; simp)); (try simp only [zs])))
   refine cXo [0] false (ah1) ?_
   (rintro o hc ⟨rfl, rfl⟩; refine ⟨false, ?_⟩; simp [zz, okA, Qr, Qq, hOf, Qe, Out.ren, told, Out.fgt, upO, Qi, Qj])
   ((try simp only [zs]); refine Wa.pan (.inr ⟨[], by decide, by simp, ?_⟩); simp [Out.mov, Wg, Wh, Wj, D.mov, HO.mov, okM, Wi, We, zz, okA, Qr, Qq, hOf, Qe, Qt, Out.fgt, D.fgt, D.fgts])
  have l1 := g1.le
  have hx1 := hp1.head1 hcs g1
  have ah1 : Qu Tryz.prog glob 106 [.box 0 0, Qx p] (Xa (f - 1) l) (fun o hc => o.fgt = .ret (Qx x) /\ hc = Xa f1 l) := ah1 _ g1
  have hq1 := hq.le (show f1 + 1 <= f by omega)
  have ah2 := fun r h => ahead_spec (r := r) hcs l1.1 (by omega) hq.1 (hq.le (show f1 <= f by omega)).2 h
  have hEx := Qd x
  unfold Xa Cs at ca
  unfold Xa Cs at ah1
  rw [hEp, hEx] at ah1
  rcases hrest with ⟨g2, rfl⟩ | ⟨y, f2, g2, hR⟩
  ·have ah2 : Qu Tryz.prog glob 106 [.box 0 0, Qx q] (Xa f1 l) (fun o hc => o = .pan Xo /\ hc = [.dead]) := ah2 _ g2
   rw [Xt]
   unfold Xa Cs Xo at ah2
   unfold Xa Cs Xo
   rw [hEq] at ah2
   rw [hEp, hEq]
   refine Qu.movd Qf (Qp Wc Tryz.func64 rfl (Qw _ _ Tryz.func64 rfl (by decide)) rfl rfl ?_)
   (refine sR fun K hK => ?_; ((repeat (rw [Qa]; simp)); (try simp only [zs])); refine hK _ _ _ ?_; clear hK K)
   (refine sR fun K hK => ?_; ((repeat (rw [Qa]; simp)); (try simp only [zs])))
   refine cXo [0] false (ca) ?_
   (rintro o hc ⟨rfl, rfl⟩; refine ⟨false, ?_⟩; simp [zz, okA, Qr, Qq, hOf, Qe, Out.ren, told, Out.fgt, upO, Qi, Qj])
   ((try simp only [Qb, Qc, Qn, Qi, Qj]); (repeat (rw [Qa]; simp)); (try simp only [zs]))
   (refine hK _ _ _ ?_; clear hK K)
   refine Qg fun K1 hK1 => ?_
   (refine sR fun K hK => ?_; ((repeat (rw [Qa]; simp)); (try simp only [zs])))
   refine cXp (sm) ?_
   ((try simp only [Qb, Qc, Qn, Qi, Qj]); (repeat (rw [Qa]; simp)); (try simp only [zs]))
   (refine hK _ _ _ ?_; clear hK K)
   refine pF rfl ?_
   refine Qs (hK1 _ _ _ ?_)
   (refine sR fun K hK => ?_; ((repeat (rw [Qa]; simp)); (try simp only [zs])))
   refine cXo [0] true (ah1) ?_
   (rintro o hc ⟨ho, rfl⟩; refine ⟨true, ?_⟩; rw [show told true o = _ from ho]; clear ho; simp [zz, okA, Qr, Qq, hOf, Qe, Out.ren, told, Out.fgt, upO, Qi, Qj])
   ((try simp only [Qb, Qc, Qn, Qi, Qj]); (repeat (rw [Qa]; simp)); (try simp only [zs]))
   (refine hK _ _ _ ?_; clear hK K)
   (refine Qg fun K hK => ?_; refine dR fun KT hKT => ?_; ((repeat (rw [Qh]; simp)); (try simp only [Qk])))
   refine cYo [0] true false (ah2) (fun o h e => e) ?_; simp [zz, okA, Qr, Qq, hOf, Qe, Out.ren, upO, Qq, rdO]
   ((try simp only [Ql, Qm, Qn, Qi, Qj]); (repeat (refine wpT_late _ _ _ _ (by kernel_rfl) ?_; simp only [Qn, List.set, List.nil_append, List.cons_append, Nat.reduceAdd])); (try simp only [Qk]))
   (refine hKT _ _ _ _ (by kernel_rfl) ?_; clear hKT KT; (try simp only [zs]))
   simp [killHl]
   ((try simp only [zs]); refine Wa.pan (.inr ⟨[], by decide, by simp, ?_⟩); simp [Out.mov, Wg, Wh, Wj, D.mov, HO.mov, okM, Wi, We, zz, okA, Qr, Qq, hOf, Qe, Qt, Out.fgt, D.fgt, D.fgts])
  have l2 := g2.le
  have hy1 := hq1.head1 hcs g2
  have ah2 : Qu Tryz.prog glob 106 [.box 0 0, Qx q] (Xa f1 l) (fun o hc => o.fgt = .ret (Qx y) /\ hc = Xa f2 l) := ah2 _ g2
  have hh := heads_spec H l2.1 (by omega) (hx1.le (by omega)) hy1 hR
  have hEy := Qd y
  unfold Xa Cs at ah2
  rw [hEq, hEy] at ah2
  rw [hEx, hEy] at hh
  clear hR
  cases o with
  | none =>
   rw [Xt] at hh ⊢
   unfold Xa Cs Xo at hh
   unfold Xa Cs Xo
   rw [hEp, hEq]
   refine Qu.movd Qf (Qp Wc Tryz.func64 rfl (Qw _ _ Tryz.func64 rfl (by decide)) rfl rfl ?_)
   (refine sR fun K hK => ?_; ((repeat (rw [Qa]; simp)); (try simp only [zs])); refine hK _ _ _ ?_; clear hK K)
   (refine sR fun K hK => ?_; ((repeat (rw [Qa]; simp)); (try simp only [zs])))
   refine cXo [0] false (ca) ?_
   (rintro o hc ⟨rfl, rfl⟩; refine ⟨false, ?_⟩; simp [zz, okA, Qr, Qq, hOf, Qe, Out.ren, told, Out.fgt, upO, Qi, Qj])
   ((try simp only [Qb, Qc, Qn, Qi, Qj]); (repeat (rw [Qa]; simp)); (try simp only [zs]))
   (refine hK _ _ _ ?_; clear hK K)
   refine Qg fun K1 hK1 => ?_
   (refine sR fun K hK => ?_; ((repeat (rw [Qa]; simp)); (try simp only [zs])))
   refine cXp (sm) ?_
   ((try simp only [Qb, Qc, Qn, Qi, Qj]); (repeat (rw [Qa]; simp)); (try simp only [zs]))
   (refine hK _ _ _ ?_; clear hK K)
   refine pF rfl ?_
   refine Qs (hK1 _ _ _ ?_)
   (refine sR fun K hK => ?_; ((repeat (rw [Qa]; simp)); (try simp only [zs])))
   refine cXo [0] true (ah1) ?_
   (rintro o hc ⟨ho, rfl⟩; refine ⟨true, ?_⟩; rw [show told true o = _ from ho]; clear ho; simp [zz, okA, Qr, Qq, hOf, Qe, Out.ren, told, Out.fgt, upO, Qi, Qj])
   ((try simp only [Qb, Qc, Qn, Qi, Qj]); (repeat (rw [Qa]; simp)); (try simp only [zs]))
   (refine hK _ _ _ ?_; clear hK K)
   (refine Qg fun K hK => ?_; refine dR fun KT hKT => ?_; ((repeat (rw [Qh]; simp)); (try simp only [Qk])))
   refine cYo [0] true true (ah2) (fun o h e => e) ?_; simp [zz, okA, Qr, Qq, hOf, Qe, Out.ren, upO, Qq, rdO]
   ((try simp only [Ql, Qm, Qn, Qi, Qj]); (repeat (rw [Qh]; simp)); (try simp only [Qk]))
   refine cYo [0] true false (hh) (fun o h e => e) ?_; simp [zz, okA, Qr, Qq, hOf, Qe, Out.ren, upO, Qq, rdO]
   ((try simp only [Ql, Qm, Qn, Qi, Qj]); (repeat (refine wpT_late _ _ _ _ (by kernel_rfl) ?_; simp only [Qn, List.set, List.nil_append, List.cons_append, Nat.reduceAdd])); (try simp only [Qk]))
   (refine hKT _ _ _ _ (by kernel_rfl) ?_; clear hKT KT; (try simp only [zs]))
   simp [killHl]
   ((try simp only [zs]); refine Wa.pan (.inr ⟨[], by decide, by simp, ?_⟩); simp [Out.mov, Wg, Wh, Wj, D.mov, HO.mov, okM, Wi, We, zz, okA, Qr, Qq, hOf, Qe, Qt, Out.fgt, D.fgt, D.fgts])
  | some v =>
   obtain ⟨b, g⟩ := v
   rw [Xl] at hh ⊢
   unfold Xa Cs at hh ⊢
   rw [hEp, hEq]
   refine Qu.movd Qf (Qp Wc Tryz.func64 rfl (Qw _ _ Tryz.func64 rfl (by decide)) rfl rfl ?_)
   (refine sR fun K hK => ?_; ((repeat (rw [Qa]; simp)); (try simp only [zs])); refine hK _ _ _ ?_; clear hK K)
   (refine sR fun K hK => ?_; ((repeat (rw [Qa]; simp)); (try simp only [zs])))
   refine cXo [0] false (ca) ?_
   (rintro o hc ⟨rfl, rfl⟩; refine ⟨false, ?_⟩; simp [zz, okA, Qr, Qq, hOf, Qe, Out.ren, told, Out.fgt, upO, Qi, Qj])
   ((try simp only [Qb, Qc, Qn, Qi, Qj]); (repeat (rw [Qa]; simp)); (try simp only [zs]))
   (refine hK _ _ _ ?_; clear hK K)
   refine Qg fun K1 hK1 => ?_
   (refine sR fun K hK => ?_; ((repeat (rw [Qa]; simp)); (try simp only [zs])))
   refine cXp (sm) ?_
   ((try simp only [Qb, Qc, Qn, Qi, Qj]); (repeat (rw [Qa]; simp)); (try simp only [zs]))
   (refine hK _ _ _ ?_; clear hK K)
   refine pF rfl ?_
   refine Qs (hK1 _ _ _ ?_)
   (refine sR fun K hK => ?_; ((repeat (rw [Qa]; simp)); (try simp only [zs])))
   refine cXo [0] true (ah1) ?_
   (rintro o hc ⟨ho, rfl⟩; refine ⟨true, ?_⟩; rw [show told true o = _ from ho]; clear ho; simp [zz, okA, Qr, Qq, hOf, Qe, Out.ren, told, Out.fgt, upO, Qi, Qj])
   ((try simp only [Qb, Qc, Qn, Qi, Qj]); (repeat (rw [Qa]; simp)); (try simp only [zs]))
   (refine hK _ _ _ ?_; clear hK K)
   (refine Qg fun K hK => ?_; refine dR fun KT hKT => ?_; ((repeat (rw [Qh]; simp)); (try simp only [Qk])))
   refine cYo [0] true true (ah2) (fun o h e => e) ?_; simp [zz, okA, Qr, Qq, hOf, Qe, Out.ren, upO, Qq, rdO]
   ((try simp only [Ql, Qm, Qn, Qi, Qj]); (repeat (rw [Qh]; simp)); (try simp only [Qk]))
   refine cYo [0] true true (hh) (fun o h e => e) ?_; simp [zz, okA, Qr, Qq, hOf, Qe, Out.ren, upO, Qq, rdO]
   ((try simp only [Ql, Qm, Qn, Qi, Qj]); (repeat (rw [Qh]; simp)); (try simp only [Qk]))
   (refine hKT _ _ _ _ (by kernel_rfl) ?_; clear hKT KT; (try simp only [zs]))
   (refine hK _ _ _ ?_; clear hK K)
   (refine Qo ?_; (try simp only [zs]); refine Wa.ret rfl (.inr ⟨[], by decide, by simp, ?_⟩); simp [Out.mov, Wg, Wh, Wj, D.mov, HO.mov, okM, Wi, We, zz, okA, Qr, Qq, hOf, Qe, Qt, Out.fgt, D.fgt, D.fgts])
theorem one_all {l : List C} (hcs : okCs l) : ∀ h, OneSpec l h
 | 0 => fun p q f o _ _ _ _ hcr => by cases hcr
 | h + 1 => aone_spec hcs (one_all hcs h)
theorem both_spec (k : Int) (x y : T) : Qu Tryz.prog glob 108 [.int .i64 k, .ref (Qx x), .ref (Qx y)] [] (fun o _ => o.fgt = .ret (.bool (decide (x.k = k) && decide (y.k = k)))) := by
 rw [Qd x, Qd y]
 by_cases h1 : x.k = k
 ·by_cases h2 : y.k = k
  ·refine Qu.movd Qf (Qp Wc Tryz.func108 rfl (Qw _ _ Tryz.func108 rfl (by decide)) rfl rfl ?_)
   (refine sR fun K hK => ?_; ((repeat (rw [Qa]; simp)); (try simp only [zs])); refine hK _ _ _ ?_; clear hK K)
   (refine sR fun K hK => ?_; ((repeat (rw [Qa]; simp [h1, h2])); (try simp only [zs])); refine hK _ _ _ ?_; clear hK K)
   (refine Qo ?_; (try simp only [zs]); refine Wa.ret rfl (.inl ?_); simp [Qt, Out.fgt, D.fgt, D.fgts])
   simp [h1, h2]
  ·refine Qu.movd Qf (Qp Wc Tryz.func108 rfl (Qw _ _ Tryz.func108 rfl (by decide)) rfl rfl ?_)
   (refine sR fun K hK => ?_; ((repeat (rw [Qa]; simp)); (try simp only [zs])); refine hK _ _ _ ?_; clear hK K)
   (refine sR fun K hK => ?_; ((repeat (rw [Qa]; simp [h1, h2])); (try simp only [zs])); refine hK _ _ _ ?_; clear hK K)
   (refine Qo ?_; (try simp only [zs]); refine Wa.ret rfl (.inl ?_); simp [Qt, Out.fgt, D.fgt, D.fgts])
   simp [h1, h2]
 ·refine Qu.movd Qf (Qp Wc Tryz.func108 rfl (Qw _ _ Tryz.func108 rfl (by decide)) rfl rfl ?_)
  (refine sR fun K hK => ?_; ((repeat (rw [Qa]; simp)); (try simp only [zs])); refine hK _ _ _ ?_; clear hK K)
  (refine sR fun K hK => ?_; ((repeat (rw [Qa]; simp [h1])); (try simp only [zs])); refine hK _ _ _ ?_; clear hK K)
  (refine Qo ?_; (try simp only [zs]); refine Wa.ret rfl (.inl ?_); simp [Qt, Out.fgt, D.fgt, D.fgts])
  simp [h1]
set_option maxHeartbeats 8000000 in
theorem most_spec {l : List C} (hcs : okCs l) {h : Nat} {p q : T} {f : Int} {o : Option (Bool × Int)} (L : LR l h p q f o) : 0 <= f -> f <= 1073741824 -> okP f p -> okP f q -> Qu Tryz.prog glob 66 [.box 0 0, Qx p, Qx q] (Xa f l) (AnsP l o) := by
 induction L with
 | @out p q =>
  intro h0 h1 hp hq
  have ca := call_no l
  rw [Xt]
  unfold Xa Cs Xo at ca
  unfold Xa Cs Xo
  rw [Qd p, Qd q]
  refine Qu.movd Qf (Qp Wc Tryz.func66 rfl (Qw _ _ Tryz.func66 rfl (by decide)) rfl rfl ?_)
  (refine sR fun K hK => ?_; ((repeat (rw [Qa]; simp)); (try simp only [zs])); refine hK _ _ _ ?_; clear hK K)
  (refine sR fun K hK => ?_; ((repeat (rw [Qa]; simp)); (try simp only [zs])))
  refine cXo [0] false (ca) ?_
  (rintro o hc ⟨rfl, rfl⟩; refine ⟨false, ?_⟩; simp [zz, okA, Qr, Qq, hOf, Qe, Out.ren, told, Out.fgt, upO, Qi, Qj])
  ((try simp only [zs]); refine Wa.pan (.inr ⟨[], by decide, by simp, ?_⟩); simp [Out.mov, Wg, Wh, Wj, D.mov, HO.mov, okM, Wi, We, zz, okA, Qr, Qq, hOf, Qe, Qt, Out.fgt, D.fgt, D.fgts])
 | @same p q f hf hs =>
  intro h0 h1 hp hq
  have ca := call_ok f l hf (by omega)
  have sm := sameT_spec p q hp.1 hq.1
  rw [hs, Qd p, Qd q] at sm
  rw [Xl]
  unfold Xa Cs at ca ⊢
  rw [Qd p, Qd q]
  refine Qu.movd Qf (Qp Wc Tryz.func66 rfl (Qw _ _ Tryz.func66 rfl (by decide)) rfl rfl ?_)
  (refine sR fun K hK => ?_; ((repeat (rw [Qa]; simp)); (try simp only [zs])); refine hK _ _ _ ?_; clear hK K)
  (refine sR fun K hK => ?_; ((repeat (rw [Qa]; simp)); (try simp only [zs])))
  refine cXo [0] false (ca) ?_
  (rintro o hc ⟨rfl, rfl⟩; refine ⟨false, ?_⟩; simp [zz, okA, Qr, Qq, hOf, Qe, Out.ren, told, Out.fgt, upO, Qi, Qj])
  ((try simp only [Qb, Qc, Qn, Qi, Qj]); (repeat (rw [Qa]; simp)); (try simp only [zs]))
  (refine hK _ _ _ ?_; clear hK K)
  refine Qg fun K1 hK1 => ?_
  (refine sR fun K hK => ?_; ((repeat (rw [Qa]; simp)); (try simp only [zs])))
  refine cXp (sm) ?_
  ((try simp only [Qb, Qc, Qn, Qi, Qj]); (repeat (rw [Qa]; simp)); (try simp only [zs]))
  (refine hK _ _ _ ?_; clear hK K)
  refine pT rfl ?_
  (refine sR fun K hK => ?_; ((repeat (rw [Qa]; simp)); (try simp only [zs])); refine hK _ _ _ ?_; clear hK K)
  (refine Qo ?_; (try simp only [zs]); refine Wa.ret rfl (.inr ⟨[], by decide, by simp, ?_⟩); simp [Out.mov, Wg, Wh, Wj, D.mov, HO.mov, okM, Wi, We, zz, okA, Qr, Qq, hOf, Qe, Qt, Out.fgt, D.fgt, D.fgts])
 | @gone1 p q f hf hs g1 =>
  intro h0 h1 hp hq
  have ca := call_ok f l hf (by omega)
  have sm := sameT_spec p q hp.1 hq.1
  rw [hs, Qd p, Qd q] at sm
  have ah1 : Qu Tryz.prog glob 106 [.box 0 0, Qx p] (Xa (f - 1) l) (fun o hc => o = .pan Xo /\ hc = [.dead]) := ahead_spec hcs (by omega) (by omega) hp.1 (hp.le (show f - 1 <= f by omega)).2 g1
  rw [Xt]
  unfold Xa Cs at ca
  unfold Xa Cs Xo at ah1
  unfold Xa Cs Xo
  rw [Qd p] at ah1
  rw [Qd p, Qd q]
  refine Qu.movd Qf (Qp Wc Tryz.func66 rfl (Qw _ _ Tryz.func66 rfl (by decide)) rfl rfl ?_)
  (refine sR fun K hK => ?_; ((repeat (rw [Qa]; simp)); (try simp only [zs])); refine hK _ _ _ ?_; clear hK K)
  (refine sR fun K hK => ?_; ((repeat (rw [Qa]; simp)); (try simp only [zs])))
  refine cXo [0] false (ca) ?_
  (rintro o hc ⟨rfl, rfl⟩; refine ⟨false, ?_⟩; simp [zz, okA, Qr, Qq, hOf, Qe, Out.ren, told, Out.fgt, upO, Qi, Qj])
  ((try simp only [Qb, Qc, Qn, Qi, Qj]); (repeat (rw [Qa]; simp)); (try simp only [zs]))
  (refine hK _ _ _ ?_; clear hK K)
  refine Qg fun K1 hK1 => ?_
  (refine sR fun K hK => ?_; ((repeat (rw [Qa]; simp)); (try simp only [zs])))
  refine cXp (sm) ?_
  ((try simp only [Qb, Qc, Qn, Qi, Qj]); (repeat (rw [Qa]; simp)); (try simp only [zs]))
  (refine hK _ _ _ ?_; clear hK K)
  refine pF rfl ?_
  refine Qs (hK1 _ _ _ ?_)
  clear hK1 K1 sm
  (refine sR fun K hK => ?_; ((repeat (rw [Qa]; simp)); (try simp only [zs])))
  refine cXo [0] false (ah1) ?_
  (rintro o hc ⟨rfl, rfl⟩; refine ⟨false, ?_⟩; simp [zz, okA, Qr, Qq, hOf, Qe, Out.ren, told, Out.fgt, upO, Qi, Qj])
  ((try simp only [zs]); refine Wa.pan (.inr ⟨[], by decide, by simp, ?_⟩); simp [Out.mov, Wg, Wh, Wj, D.mov, HO.mov, okM, Wi, We, zz, okA, Qr, Qq, hOf, Qe, Qt, Out.fgt, D.fgt, D.fgts])
 | @gone2 p q x f f1 hf hs g1 g2 =>
  intro h0 h1 hp hq
  have ca := call_ok f l hf (by omega)
  have sm := sameT_spec p q hp.1 hq.1
  rw [hs, Qd p, Qd q] at sm
  have l1 := g1.le
  have ah1 : Qu Tryz.prog glob 106 [.box 0 0, Qx p] (Xa (f - 1) l) (fun o hc => o.fgt = .ret (Qx x) /\ hc = Xa f1 l) := ahead_spec hcs (by omega) (by omega) hp.1 (hp.le (show f - 1 <= f by omega)).2 g1
  have ah2 : Qu Tryz.prog glob 106 [.box 0 0, Qx q] (Xa f1 l) (fun o hc => o = .pan Xo /\ hc = [.dead]) := ahead_spec hcs l1.1 (by omega) hq.1 (hq.le (show f1 <= f by omega)).2 g2
  rw [Xt]
  unfold Xa Cs at ca
  unfold Xa Cs at ah1
  unfold Xa Cs Xo at ah2
  unfold Xa Cs Xo
  rw [Qd p, Qd x] at ah1
  rw [Qd q] at ah2
  rw [Qd p, Qd q]
  refine Qu.movd Qf (Qp Wc Tryz.func66 rfl (Qw _ _ Tryz.func66 rfl (by decide)) rfl rfl ?_)
  (refine sR fun K hK => ?_; ((repeat (rw [Qa]; simp)); (try simp only [zs])); refine hK _ _ _ ?_; clear hK K)
  (refine sR fun K hK => ?_; ((repeat (rw [Qa]; simp)); (try simp only [zs])))
  refine cXo [0] false (ca) ?_
  (rintro o hc ⟨rfl, rfl⟩; refine ⟨false, ?_⟩; simp [zz, okA, Qr, Qq, hOf, Qe, Out.ren, told, Out.fgt, upO, Qi, Qj])
  ((try simp only [Qb, Qc, Qn, Qi, Qj]); (repeat (rw [Qa]; simp)); (try simp only [zs]))
  (refine hK _ _ _ ?_; clear hK K)
  refine Qg fun K1 hK1 => ?_
  (refine sR fun K hK => ?_; ((repeat (rw [Qa]; simp)); (try simp only [zs])))
  refine cXp (sm) ?_
  ((try simp only [Qb, Qc, Qn, Qi, Qj]); (repeat (rw [Qa]; simp)); (try simp only [zs]))
  (refine hK _ _ _ ?_; clear hK K)
  refine pF rfl ?_
  refine Qs (hK1 _ _ _ ?_)
  clear hK1 K1 sm
  (refine sR fun K hK => ?_; ((repeat (rw [Qa]; simp)); (try simp only [zs])))
  refine cXo [0] true (ah1) ?_
  (rintro o hc ⟨ho, rfl⟩; refine ⟨true, ?_⟩; rw [show told true o = _ from ho]; clear ho; simp [zz, okA, Qr, Qq, hOf, Qe, Out.ren, told, Out.fgt, upO, Qi, Qj])
  ((try simp only [Qb, Qc, Qn, Qi, Qj]); (repeat (rw [Qa]; simp)); (try simp only [zs]))
  (refine hK _ _ _ ?_; clear hK K)
  (refine sR fun K hK => ?_; ((repeat (rw [Qa]; simp)); (try simp only [zs])))
  refine cXo [0] false (ah2) ?_
  (rintro o hc ⟨rfl, rfl⟩; refine ⟨false, ?_⟩; simp [zz, okA, Qr, Qq, hOf, Qe, Out.ren, told, Out.fgt, upO, Qi, Qj])
  ((try simp only [zs]); refine Wa.pan (.inr ⟨[], by decide, by simp, ?_⟩); simp [Out.mov, Wg, Wh, Wj, D.mov, HO.mov, okM, Wi, We, zz, okA, Qr, Qq, hOf, Qe, Qt, Out.fgt, D.fgt, D.fgts])
 | @sort p q x y a b f f1 f2 hf hs g1 g2 hx hy =>
  intro h0 h1 hp hq
  have ca := call_ok f l hf (by omega)
  have sm := sameT_spec p q hp.1 hq.1
  rw [hs, Qd p, Qd q] at sm
  have l1 := g1.le
  have l2 := g2.le
  have ah1 : Qu Tryz.prog glob 106 [.box 0 0, Qx p] (Xa (f - 1) l) (fun o hc => o.fgt = .ret (Qx x) /\ hc = Xa f1 l) := ahead_spec hcs (by omega) (by omega) hp.1 (hp.le (show f - 1 <= f by omega)).2 g1
  have ah2 : Qu Tryz.prog glob 106 [.box 0 0, Qx q] (Xa f1 l) (fun o hc => o.fgt = .ret (Qx y) /\ hc = Xa f2 l) := ahead_spec hcs l1.1 (by omega) hq.1 (hq.le (show f1 <= f by omega)).2 g2
  have hox : okP f2 x := ((hp.le (show f - 1 <= f by omega)).head hcs g1).le l2.2
  have hoy : okP f2 y := (hq.le (show f1 <= f by omega)).head hcs g2
  have b2 := both_spec 2 x y
  have b4 := both_spec 4 x y
  have hEx := Qd x
  have hEy := Qd y
  unfold Xa Cs at ca ah1 ah2
  rw [Qd p, hEx] at ah1
  rw [Qd q, hEy] at ah2
  rw [hEx, hEy] at b2 b4
  have hal : okL a := hox.1.ls a (by rw [hx.2]; exact List.mem_singleton.2 rfl)
  have hbl : okL b := hoy.1.ls b (by rw [hy.2]; exact List.mem_singleton.2 rfl)
  have le := leq_spec a b hal.1 hbl.1
  generalize leqM a b = v at le ⊢
  rw [hx.1, hy.1] at b2
  simp only [hx.1, hy.1, hx.2, hy.2] at ah1 ah2 b2
  simp at b2
  have hLa : Wm a = .agg [.slice (a.map Xp) .any] := rfl
  have hLb : Wm b = .agg [.slice (b.map Xp) .any] := rfl
  simp only [List.map_cons, List.map_nil, hLa, hLb] at ah1 ah2 b2
  rw [hLa, hLb] at le
  rw [Xl]
  unfold Xa Cs
  rw [Qd p, Qd q]
  refine Qu.movd Qf (Qp Wc Tryz.func66 rfl (Qw _ _ Tryz.func66 rfl (by decide)) rfl rfl ?_)
  (refine sR fun K hK => ?_; ((repeat (rw [Qa]; simp)); (try simp only [zs])); refine hK _ _ _ ?_; clear hK K)
  (refine sR fun K hK => ?_; ((repeat (rw [Qa]; simp)); (try simp only [zs])))
  refine cXo [0] false (ca) ?_
  (rintro o hc ⟨rfl, rfl⟩; refine ⟨false, ?_⟩; simp [zz, okA, Qr, Qq, hOf, Qe, Out.ren, told, Out.fgt, upO, Qi, Qj])
  ((try simp only [Qb, Qc, Qn, Qi, Qj]); (repeat (rw [Qa]; simp)); (try simp only [zs]))
  (refine hK _ _ _ ?_; clear hK K)
  refine Qg fun K1 hK1 => ?_
  (refine sR fun K hK => ?_; ((repeat (rw [Qa]; simp)); (try simp only [zs])))
  refine cXp (sm) ?_
  ((try simp only [Qb, Qc, Qn, Qi, Qj]); (repeat (rw [Qa]; simp)); (try simp only [zs]))
  (refine hK _ _ _ ?_; clear hK K)
  refine pF rfl ?_
  refine Qs (hK1 _ _ _ ?_)
  clear hK1 K1 sm
  (refine sR fun K hK => ?_; ((repeat (rw [Qa]; simp)); (try simp only [zs])))
  refine cXo [0] true (ah1) ?_
  (rintro o hc ⟨ho, rfl⟩; refine ⟨true, ?_⟩; rw [show told true o = _ from ho]; clear ho; simp [zz, okA, Qr, Qq, hOf, Qe, Out.ren, told, Out.fgt, upO, Qi, Qj])
  ((try simp only [Qb, Qc, Qn, Qi, Qj]); (repeat (rw [Qa]; simp)); (try simp only [zs]))
  (refine hK _ _ _ ?_; clear hK K)
  (refine sR fun K hK => ?_; ((repeat (rw [Qa]; simp)); (try simp only [zs])))
  refine cXo [0] true (ah2) ?_
  (rintro o hc ⟨ho, rfl⟩; refine ⟨true, ?_⟩; rw [show told true o = _ from ho]; clear ho; simp [zz, okA, Qr, Qq, hOf, Qe, Out.ren, told, Out.fgt, upO, Qi, Qj])
  ((try simp only [Qb, Qc, Qn, Qi, Qj]); (repeat (rw [Qa]; simp)); (try simp only [zs]))
  (refine hK _ _ _ ?_; clear hK K)
  clear ca ah1 ah2
  (refine Xq (T := Wb) 3 (ty := 27) (ds := [.int .i64 2, .int .i64 x.n, .int .i64 x.a, .slice [.agg [.slice (a.map Xp) .any]] .any, .slice (x.ks.map Qx) .any]) rfl rfl (by first | exact ⟨rfl, .inr ⟨_, rfl, rfl⟩⟩ | exact ⟨rfl, .inl rfl⟩) ?_; simp [D.frzs, D.frz, HO.frz, dfFrz, refOf, TK.isAgg, FK.isB, FK.isM, FK.isO, D.isLen])
  (refine Xq (T := Wb) 4 (ty := 27) (ds := [.int .i64 2, .int .i64 y.n, .int .i64 y.a, .slice [.agg [.slice (b.map Xp) .any]] .any, .slice (y.ks.map Qx) .any]) rfl rfl (by first | exact ⟨rfl, .inr ⟨_, rfl, rfl⟩⟩ | exact ⟨rfl, .inl rfl⟩) ?_; simp [D.frzs, D.frz, HO.frz, dfFrz, refOf, TK.isAgg, FK.isB, FK.isM, FK.isO, D.isLen])
  (refine sR fun K hK => ?_; ((repeat (rw [Qa]; simp)); (try simp only [zs])); refine hK _ _ _ ?_; clear hK K)
  refine Qg fun K1 hK1 => ?_
  refine Wy ?_
  (refine sR fun K hK => ?_; ((repeat (rw [Qa]; simp)); (try simp only [zs])))
  refine cXp (b2) ?_
  ((try simp only [Qb, Qc, Qn, Qi, Qj]); (repeat (rw [Qa]; simp)); (try simp only [zs]))
  (refine hK _ _ _ ?_; clear hK K)
  refine pT rfl ?_
  (refine Qg fun K hK => ?_; refine dR fun KT hKT => ?_; ((repeat (rw [Qh]; simp)); (try simp only [Qk])))
  refine cYp (le) ?_
  ((try simp only [Ql, Qm, Qn, Qi, Qj]); (repeat (rw [Qh]; simp)); (try simp only [Qk]))
  (refine hKT _ _ _ _ (by kernel_rfl) ?_; clear hKT KT; (try simp only [zs]))
  (refine hK _ _ _ ?_; clear hK K)
  (refine Qo ?_; (try simp only [zs]); refine Wa.ret rfl (.inr ⟨[], by decide, by simp, ?_⟩); simp [Out.mov, Wg, Wh, Wj, D.mov, HO.mov, okM, Wi, We, zz, okA, Qr, Qq, hOf, Qe, Qt, Out.fgt, D.fgt, D.fgts])
 | @pino p q x y f f1 f2 o hf hs g1 g2 hx hy hk hn =>
  intro h0 h1 hp hq
  have ca := call_ok f l hf (by omega)
  have sm := sameT_spec p q hp.1 hq.1
  rw [hs, Qd p, Qd q] at sm
  have l1 := g1.le
  have l2 := g2.le
  have ah1 : Qu Tryz.prog glob 106 [.box 0 0, Qx p] (Xa (f - 1) l) (fun o hc => o.fgt = .ret (Qx x) /\ hc = Xa f1 l) := ahead_spec hcs (by omega) (by omega) hp.1 (hp.le (show f - 1 <= f by omega)).2 g1
  have ah2 : Qu Tryz.prog glob 106 [.box 0 0, Qx q] (Xa f1 l) (fun o hc => o.fgt = .ret (Qx y) /\ hc = Xa f2 l) := ahead_spec hcs l1.1 (by omega) hq.1 (hq.le (show f1 <= f by omega)).2 g2
  have hox : okP f2 x := ((hp.le (show f - 1 <= f by omega)).head hcs g1).le l2.2
  have hoy : okP f2 y := (hq.le (show f1 <= f by omega)).head hcs g2
  have b2 := both_spec 2 x y
  have b4 := both_spec 4 x y
  have hEx := Qd x
  have hEy := Qd y
  unfold Xa Cs at ca ah1 ah2
  rw [Qd p, hEx] at ah1
  rw [Qd q, hEy] at ah2
  rw [hEx, hEy] at b2 b4
  have k0x := kids_spec x hox.1 [0] (by unfold Wd; simp) (by simp)
  have k0y := kids_spec y hoy.1 [0] (by unfold Wd; simp) (by simp)
  have k1x := kids_spec x hox.1 [1] (by unfold Wd; simp) (by simp)
  have k1y := kids_spec y hoy.1 [1] (by unfold Wd; simp) (by simp)
  unfold Ints Ts at k0x k0y k1x k1y
  simp only [List.map_cons, List.map_nil] at k0x k0y k1x k1y
  rw [show kidI x 0 = x.kid 0 from rfl] at k0x
  rw [show kidI y 0 = y.kid 0 from rfl] at k0y
  rw [show kidI x 1 = x.kid 1 from rfl] at k1x
  rw [show kidI y 1 = y.kid 1 from rfl] at k1y
  have al := all_spec (one_all hcs h) (ps := [x.kid 0]) (qs := [y.kid 0]) rfl (by unfold Wd; simp) l2.1 (by omega) (fun p' hm => by rw [List.mem_singleton.1 hm]; exact ⟨kid_ok hox.1 0, Nat.le_trans (Nat.add_le_add_right (kid_pot x 0) _) hox.2⟩) (fun p' hm => by rw [List.mem_singleton.1 hm]; exact ⟨kid_ok hoy.1 0, Nat.le_trans (Nat.add_le_add_right (kid_pot y 0) _) hoy.2⟩) hk
  unfold Ts at al
  simp only [List.map_cons, List.map_nil] at al
  rw [hEx] at k0x k1x
  rw [hEy] at k0y k1y
  simp only [hx, hy] at ah1 ah2 b2 b4 k0x k0y k1x k1y
  simp at b2 b4
  clear k1x k1y
  generalize x.kid 0 = kx at k0x al
  generalize y.kid 0 = ky at k0y al
  have hEkx := Qd kx
  have hEky := Qd ky
  rw [hEkx] at k0x al
  rw [hEky] at k0y al
  clear hk
  cases o with
  | none =>
   rw [Xt] at al ⊢
   unfold Xa Cs Xo at al
   unfold Xa Cs Xo
   rw [Qd p, Qd q]
   refine Qu.movd Qf (Qp Wc Tryz.func66 rfl (Qw _ _ Tryz.func66 rfl (by decide)) rfl rfl ?_)
   (refine sR fun K hK => ?_; ((repeat (rw [Qa]; simp)); (try simp only [zs])); refine hK _ _ _ ?_; clear hK K)
   (refine sR fun K hK => ?_; ((repeat (rw [Qa]; simp)); (try simp only [zs])))
   refine cXo [0] false (ca) ?_
   (rintro o hc ⟨rfl, rfl⟩; refine ⟨false, ?_⟩; simp [zz, okA, Qr, Qq, hOf, Qe, Out.ren, told, Out.fgt, upO, Qi, Qj])
   ((try simp only [Qb, Qc, Qn, Qi, Qj]); (repeat (rw [Qa]; simp)); (try simp only [zs]))
   (refine hK _ _ _ ?_; clear hK K)
   refine Qg fun K1 hK1 => ?_
   (refine sR fun K hK => ?_; ((repeat (rw [Qa]; simp)); (try simp only [zs])))
   refine cXp (sm) ?_
   ((try simp only [Qb, Qc, Qn, Qi, Qj]); (repeat (rw [Qa]; simp)); (try simp only [zs]))
   (refine hK _ _ _ ?_; clear hK K)
   refine pF rfl ?_
   refine Qs (hK1 _ _ _ ?_)
   clear hK1 K1 sm
   (refine sR fun K hK => ?_; ((repeat (rw [Qa]; simp)); (try simp only [zs])))
   refine cXo [0] true (ah1) ?_
   (rintro o hc ⟨ho, rfl⟩; refine ⟨true, ?_⟩; rw [show told true o = _ from ho]; clear ho; simp [zz, okA, Qr, Qq, hOf, Qe, Out.ren, told, Out.fgt, upO, Qi, Qj])
   ((try simp only [Qb, Qc, Qn, Qi, Qj]); (repeat (rw [Qa]; simp)); (try simp only [zs]))
   (refine hK _ _ _ ?_; clear hK K)
   (refine sR fun K hK => ?_; ((repeat (rw [Qa]; simp)); (try simp only [zs])))
   refine cXo [0] true (ah2) ?_
   (rintro o hc ⟨ho, rfl⟩; refine ⟨true, ?_⟩; rw [show told true o = _ from ho]; clear ho; simp [zz, okA, Qr, Qq, hOf, Qe, Out.ren, told, Out.fgt, upO, Qi, Qj])
   ((try simp only [Qb, Qc, Qn, Qi, Qj]); (repeat (rw [Qa]; simp)); (try simp only [zs]))
   (refine hK _ _ _ ?_; clear hK K)
   clear ca ah1 ah2
   (refine Xq (T := Wb) 3 (ty := 27) (ds := [.int .i64 4, .int .i64 x.n, .int .i64 x.a, .slice (x.ls.map Wm) .any, .slice (x.ks.map Qx) .any]) rfl rfl (by first | exact ⟨rfl, .inr ⟨_, rfl, rfl⟩⟩ | exact ⟨rfl, .inl rfl⟩) ?_; simp [D.frzs, D.frz, HO.frz, dfFrz, refOf, TK.isAgg, FK.isB, FK.isM, FK.isO, D.isLen])
   (refine Xq (T := Wb) 4 (ty := 27) (ds := [.int .i64 4, .int .i64 y.n, .int .i64 y.a, .slice (y.ls.map Wm) .any, .slice (y.ks.map Qx) .any]) rfl rfl (by first | exact ⟨rfl, .inr ⟨_, rfl, rfl⟩⟩ | exact ⟨rfl, .inl rfl⟩) ?_; simp [D.frzs, D.frz, HO.frz, dfFrz, refOf, TK.isAgg, FK.isB, FK.isM, FK.isO, D.isLen])
   (refine sR fun K hK => ?_; ((repeat (rw [Qa]; simp)); (try simp only [zs])); refine hK _ _ _ ?_; clear hK K)
   refine Qg fun K1 hK1 => ?_
   refine Wy ?_
   (refine sR fun K hK => ?_; ((repeat (rw [Qa]; simp)); (try simp only [zs])))
   refine cXp (b2) ?_
   ((try simp only [Qb, Qc, Qn, Qi, Qj]); (repeat (rw [Qa]; simp)); (try simp only [zs]))
   (refine hK _ _ _ ?_; clear hK K)
   refine pF rfl ?_
   (refine sR fun K hK => ?_; ((repeat (rw [Qa]; simp)); (try simp only [zs])))
   refine cXp (b4) ?_
   ((try simp only [Qb, Qc, Qn, Qi, Qj]); (repeat (rw [Qa]; simp)); (try simp only [zs]))
   (refine hK _ _ _ ?_; clear hK K)
   refine pT rfl ?_
   refine Qg fun K2 hK2 => ?_
   (refine Qg fun K hK => ?_; refine dR fun KT hKT => ?_; ((repeat (rw [Qh]; simp)); (try simp only [Qk])))
   refine cYp (k0x) ?_
   ((try simp only [Ql, Qm, Qn, Qi, Qj]); (repeat (rw [Qh]; simp)); (try simp only [Qk]))
   refine cYp (k0y) ?_
   ((try simp only [Ql, Qm, Qn, Qi, Qj]); (repeat (rw [Qh]; simp)); (try simp only [Qk]))
   refine cYo [0] true false (al) (fun o h e => e) ?_; simp [zz, okA, Qr, Qq, hOf, Qe, Out.ren, upO, Qq, rdO]
   ((try simp only [Ql, Qm, Qn, Qi, Qj]); (repeat (refine wpT_late _ _ _ _ (by kernel_rfl) ?_; simp only [Qn, List.set, List.nil_append, List.cons_append, Nat.reduceAdd])); (try simp only [Qk]))
   (refine hKT _ _ _ _ (by kernel_rfl) ?_; clear hKT KT; (try simp only [zs]))
   simp [killHl]
   ((try simp only [zs]); refine Wa.pan (.inr ⟨[], by decide, by simp, ?_⟩); simp [Out.mov, Wg, Wh, Wj, D.mov, HO.mov, okM, Wi, We, zz, okA, Qr, Qq, hOf, Qe, Qt, Out.fgt, D.fgt, D.fgts])
  | some v =>
   obtain ⟨b, g⟩ := v
   cases b with
   | true => exact absurd rfl (hn g)
   | false =>
   rw [Xl] at al ⊢
   unfold Xa Cs at al ⊢
   rw [Qd p, Qd q]
   refine Qu.movd Qf (Qp Wc Tryz.func66 rfl (Qw _ _ Tryz.func66 rfl (by decide)) rfl rfl ?_)
   (refine sR fun K hK => ?_; ((repeat (rw [Qa]; simp)); (try simp only [zs])); refine hK _ _ _ ?_; clear hK K)
   (refine sR fun K hK => ?_; ((repeat (rw [Qa]; simp)); (try simp only [zs])))
   refine cXo [0] false (ca) ?_
   (rintro o hc ⟨rfl, rfl⟩; refine ⟨false, ?_⟩; simp [zz, okA, Qr, Qq, hOf, Qe, Out.ren, told, Out.fgt, upO, Qi, Qj])
   ((try simp only [Qb, Qc, Qn, Qi, Qj]); (repeat (rw [Qa]; simp)); (try simp only [zs]))
   (refine hK _ _ _ ?_; clear hK K)
   refine Qg fun K1 hK1 => ?_
   (refine sR fun K hK => ?_; ((repeat (rw [Qa]; simp)); (try simp only [zs])))
   refine cXp (sm) ?_
   ((try simp only [Qb, Qc, Qn, Qi, Qj]); (repeat (rw [Qa]; simp)); (try simp only [zs]))
   (refine hK _ _ _ ?_; clear hK K)
   refine pF rfl ?_
   refine Qs (hK1 _ _ _ ?_)
   clear hK1 K1 sm
   (refine sR fun K hK => ?_; ((repeat (rw [Qa]; simp)); (try simp only [zs])))
   refine cXo [0] true (ah1) ?_
   (rintro o hc ⟨ho, rfl⟩; refine ⟨true, ?_⟩; rw [show told true o = _ from ho]; clear ho; simp [zz, okA, Qr, Qq, hOf, Qe, Out.ren, told, Out.fgt, upO, Qi, Qj])
   ((try simp only [Qb, Qc, Qn, Qi, Qj]); (repeat (rw [Qa]; simp)); (try simp only [zs]))
   (refine hK _ _ _ ?_; clear hK K)
   (refine sR fun K hK => ?_; ((repeat (rw [Qa]; simp)); (try simp only [zs])))
   refine cXo [0] true (ah2) ?_
   (rintro o hc ⟨ho, rfl⟩; refine ⟨true, ?_⟩; rw [show told true o = _ from ho]; clear ho; simp [zz, okA, Qr, Qq, hOf, Qe, Out.ren, told, Out.fgt, upO, Qi, Qj])
   ((try simp only [Qb, Qc, Qn, Qi, Qj]); (repeat (rw [Qa]; simp)); (try simp only [zs]))
   (refine hK _ _ _ ?_; clear hK K)
   clear ca ah1 ah2
   (refine Xq (T := Wb) 3 (ty := 27) (ds := [.int .i64 4, .int .i64 x.n, .int .i64 x.a, .slice (x.ls.map Wm) .any, .slice (x.ks.map Qx) .any]) rfl rfl (by first | exact ⟨rfl, .inr ⟨_, rfl, rfl⟩⟩ | exact ⟨rfl, .inl rfl⟩) ?_; simp [D.frzs, D.frz, HO.frz, dfFrz, refOf, TK.isAgg, FK.isB, FK.isM, FK.isO, D.isLen])
   (refine Xq (T := Wb) 4 (ty := 27) (ds := [.int .i64 4, .int .i64 y.n, .int .i64 y.a, .slice (y.ls.map Wm) .any, .slice (y.ks.map Qx) .any]) rfl rfl (by first | exact ⟨rfl, .inr ⟨_, rfl, rfl⟩⟩ | exact ⟨rfl, .inl rfl⟩) ?_; simp [D.frzs, D.frz, HO.frz, dfFrz, refOf, TK.isAgg, FK.isB, FK.isM, FK.isO, D.isLen])
   (refine sR fun K hK => ?_; ((repeat (rw [Qa]; simp)); (try simp only [zs])); refine hK _ _ _ ?_; clear hK K)
   refine Qg fun K1 hK1 => ?_
   refine Wy ?_
   (refine sR fun K hK => ?_; ((repeat (rw [Qa]; simp)); (try simp only [zs])))
   refine cXp (b2) ?_
   ((try simp only [Qb, Qc, Qn, Qi, Qj]); (repeat (rw [Qa]; simp)); (try simp only [zs]))
   (refine hK _ _ _ ?_; clear hK K)
   refine pF rfl ?_
   (refine sR fun K hK => ?_; ((repeat (rw [Qa]; simp)); (try simp only [zs])))
   refine cXp (b4) ?_
   ((try simp only [Qb, Qc, Qn, Qi, Qj]); (repeat (rw [Qa]; simp)); (try simp only [zs]))
   (refine hK _ _ _ ?_; clear hK K)
   refine pT rfl ?_
   refine Qg fun K2 hK2 => ?_
   (refine Qg fun K hK => ?_; refine dR fun KT hKT => ?_; ((repeat (rw [Qh]; simp)); (try simp only [Qk])))
   refine cYp (k0x) ?_
   ((try simp only [Ql, Qm, Qn, Qi, Qj]); (repeat (rw [Qh]; simp)); (try simp only [Qk]))
   refine cYp (k0y) ?_
   ((try simp only [Ql, Qm, Qn, Qi, Qj]); (repeat (rw [Qh]; simp)); (try simp only [Qk]))
   refine cYo [0] true true (al) (fun o h e => e) ?_; simp [zz, okA, Qr, Qq, hOf, Qe, Out.ren, upO, Qq, rdO]
   ((try simp only [Ql, Qm, Qn, Qi, Qj]); (repeat (rw [Qh]; simp)); (try simp only [Qk]))
   (refine hKT _ _ _ _ (by kernel_rfl) ?_; clear hKT KT; (try simp only [zs]))
   (refine hK _ _ _ ?_; clear hK K)
   refine pT rfl ?_
   (refine sR fun K hK => ?_; ((repeat (rw [Qa]; simp)); (try simp only [zs])); refine hK _ _ _ ?_; clear hK K)
   (refine Qo ?_; (try simp only [zs]); refine Wa.ret rfl (.inr ⟨[], by decide, by simp, ?_⟩); simp [Out.mov, Wg, Wh, Wj, D.mov, HO.mov, okM, Wi, We, zz, okA, Qr, Qq, hOf, Qe, Qt, Out.fgt, D.fgt, D.fgts])
 | @pi p q x y f f1 f2 g o hf hs g1 g2 hx hy hk hr ih =>
  intro h0 h1 hp hq
  have ca := call_ok f l hf (by omega)
  have sm := sameT_spec p q hp.1 hq.1
  rw [hs, Qd p, Qd q] at sm
  have l1 := g1.le
  have l2 := g2.le
  have ah1 : Qu Tryz.prog glob 106 [.box 0 0, Qx p] (Xa (f - 1) l) (fun o hc => o.fgt = .ret (Qx x) /\ hc = Xa f1 l) := ahead_spec hcs (by omega) (by omega) hp.1 (hp.le (show f - 1 <= f by omega)).2 g1
  have ah2 : Qu Tryz.prog glob 106 [.box 0 0, Qx q] (Xa f1 l) (fun o hc => o.fgt = .ret (Qx y) /\ hc = Xa f2 l) := ahead_spec hcs l1.1 (by omega) hq.1 (hq.le (show f1 <= f by omega)).2 g2
  have hox : okP f2 x := ((hp.le (show f - 1 <= f by omega)).head hcs g1).le l2.2
  have hoy : okP f2 y := (hq.le (show f1 <= f by omega)).head hcs g2
  have b2 := both_spec 2 x y
  have b4 := both_spec 4 x y
  have hEx := Qd x
  have hEy := Qd y
  unfold Xa Cs at ca ah1 ah2
  rw [Qd p, hEx] at ah1
  rw [Qd q, hEy] at ah2
  rw [hEx, hEy] at b2 b4
  have k0x := kids_spec x hox.1 [0] (by unfold Wd; simp) (by simp)
  have k0y := kids_spec y hoy.1 [0] (by unfold Wd; simp) (by simp)
  have k1x := kids_spec x hox.1 [1] (by unfold Wd; simp) (by simp)
  have k1y := kids_spec y hoy.1 [1] (by unfold Wd; simp) (by simp)
  unfold Ints Ts at k0x k0y k1x k1y
  simp only [List.map_cons, List.map_nil] at k0x k0y k1x k1y
  rw [show kidI x 0 = x.kid 0 from rfl] at k0x
  rw [show kidI y 0 = y.kid 0 from rfl] at k0y
  rw [show kidI x 1 = x.kid 1 from rfl] at k1x
  rw [show kidI y 1 = y.kid 1 from rfl] at k1y
  have al := all_spec (one_all hcs h) (ps := [x.kid 0]) (qs := [y.kid 0]) rfl (by unfold Wd; simp) l2.1 (by omega) (fun p' hm => by rw [List.mem_singleton.1 hm]; exact ⟨kid_ok hox.1 0, Nat.le_trans (Nat.add_le_add_right (kid_pot x 0) _) hox.2⟩) (fun p' hm => by rw [List.mem_singleton.1 hm]; exact ⟨kid_ok hoy.1 0, Nat.le_trans (Nat.add_le_add_right (kid_pot y 0) _) hoy.2⟩) hk
  unfold Ts at al
  simp only [List.map_cons, List.map_nil] at al
  rw [hEx] at k0x k1x
  rw [hEy] at k0y k1y
  simp only [hx, hy] at ah1 ah2 b2 b4 k0x k0y k1x k1y
  simp at b2 b4
  have l3 := hk.le l2.1 _ _ rfl
  have mo := ih l3.1 (by omega) (⟨kid_ok hox.1 1, Nat.le_trans (Nat.add_le_add_right (kid_pot x 1) _) (hox.le l3.2).2⟩) (⟨kid_ok hoy.1 1, Nat.le_trans (Nat.add_le_add_right (kid_pot y 1) _) (hoy.le l3.2).2⟩)
  clear ih hr hk
  generalize x.kid 0 = kx at k0x al
  generalize y.kid 0 = ky at k0y al
  generalize x.kid 1 = mx at k1x mo
  generalize y.kid 1 = my at k1y mo
  have hEkx := Qd kx
  have hEky := Qd ky
  have hEmx := Qd mx
  have hEmy := Qd my
  rw [hEkx] at k0x al
  rw [hEky] at k0y al
  rw [hEmx] at k1x mo
  rw [hEmy] at k1y mo
  rw [Xl] at al
  unfold Xa Cs at al
  cases o with
  | none =>
   rw [Xt] at mo ⊢
   unfold Xa Cs Xo at mo
   unfold Xa Cs Xo
   rw [Qd p, Qd q]
   refine Qu.movd Qf (Qp Wc Tryz.func66 rfl (Qw _ _ Tryz.func66 rfl (by decide)) rfl rfl ?_)
   (refine sR fun K hK => ?_; ((repeat (rw [Qa]; simp)); (try simp only [zs])); refine hK _ _ _ ?_; clear hK K)
   (refine sR fun K hK => ?_; ((repeat (rw [Qa]; simp)); (try simp only [zs])))
   refine cXo [0] false (ca) ?_
   (rintro o hc ⟨rfl, rfl⟩; refine ⟨false, ?_⟩; simp [zz, okA, Qr, Qq, hOf, Qe, Out.ren, told, Out.fgt, upO, Qi, Qj])
   ((try simp only [Qb, Qc, Qn, Qi, Qj]); (repeat (rw [Qa]; simp)); (try simp only [zs]))
   (refine hK _ _ _ ?_; clear hK K)
   refine Qg fun K1 hK1 => ?_
   (refine sR fun K hK => ?_; ((repeat (rw [Qa]; simp)); (try simp only [zs])))
   refine cXp (sm) ?_
   ((try simp only [Qb, Qc, Qn, Qi, Qj]); (repeat (rw [Qa]; simp)); (try simp only [zs]))
   (refine hK _ _ _ ?_; clear hK K)
   refine pF rfl ?_
   refine Qs (hK1 _ _ _ ?_)
   clear hK1 K1 sm
   (refine sR fun K hK => ?_; ((repeat (rw [Qa]; simp)); (try simp only [zs])))
   refine cXo [0] true (ah1) ?_
   (rintro o hc ⟨ho, rfl⟩; refine ⟨true, ?_⟩; rw [show told true o = _ from ho]; clear ho; simp [zz, okA, Qr, Qq, hOf, Qe, Out.ren, told, Out.fgt, upO, Qi, Qj])
   ((try simp only [Qb, Qc, Qn, Qi, Qj]); (repeat (rw [Qa]; simp)); (try simp only [zs]))
   (refine hK _ _ _ ?_; clear hK K)
   (refine sR fun K hK => ?_; ((repeat (rw [Qa]; simp)); (try simp only [zs])))
   refine cXo [0] true (ah2) ?_
   (rintro o hc ⟨ho, rfl⟩; refine ⟨true, ?_⟩; rw [show told true o = _ from ho]; clear ho; simp [zz, okA, Qr, Qq, hOf, Qe, Out.ren, told, Out.fgt, upO, Qi, Qj])
   ((try simp only [Qb, Qc, Qn, Qi, Qj]); (repeat (rw [Qa]; simp)); (try simp only [zs]))
   (refine hK _ _ _ ?_; clear hK K)
   clear ca ah1 ah2
   (refine Xq (T := Wb) 3 (ty := 27) (ds := [.int .i64 4, .int .i64 x.n, .int .i64 x.a, .slice (x.ls.map Wm) .any, .slice (x.ks.map Qx) .any]) rfl rfl (by first | exact ⟨rfl, .inr ⟨_, rfl, rfl⟩⟩ | exact ⟨rfl, .inl rfl⟩) ?_; simp [D.frzs, D.frz, HO.frz, dfFrz, refOf, TK.isAgg, FK.isB, FK.isM, FK.isO, D.isLen])
   (refine Xq (T := Wb) 4 (ty := 27) (ds := [.int .i64 4, .int .i64 y.n, .int .i64 y.a, .slice (y.ls.map Wm) .any, .slice (y.ks.map Qx) .any]) rfl rfl (by first | exact ⟨rfl, .inr ⟨_, rfl, rfl⟩⟩ | exact ⟨rfl, .inl rfl⟩) ?_; simp [D.frzs, D.frz, HO.frz, dfFrz, refOf, TK.isAgg, FK.isB, FK.isM, FK.isO, D.isLen])
   (refine sR fun K hK => ?_; ((repeat (rw [Qa]; simp)); (try simp only [zs])); refine hK _ _ _ ?_; clear hK K)
   refine Qg fun K1 hK1 => ?_
   refine Wy ?_
   (refine sR fun K hK => ?_; ((repeat (rw [Qa]; simp)); (try simp only [zs])))
   refine cXp (b2) ?_
   ((try simp only [Qb, Qc, Qn, Qi, Qj]); (repeat (rw [Qa]; simp)); (try simp only [zs]))
   (refine hK _ _ _ ?_; clear hK K)
   refine pF rfl ?_
   (refine sR fun K hK => ?_; ((repeat (rw [Qa]; simp)); (try simp only [zs])))
   refine cXp (b4) ?_
   ((try simp only [Qb, Qc, Qn, Qi, Qj]); (repeat (rw [Qa]; simp)); (try simp only [zs]))
   (refine hK _ _ _ ?_; clear hK K)
   refine pT rfl ?_
   refine Qg fun K2 hK2 => ?_
   (refine Qg fun K hK => ?_; refine dR fun KT hKT => ?_; ((repeat (rw [Qh]; simp)); (try simp only [Qk])))
   refine cYp (k0x) ?_
   ((try simp only [Ql, Qm, Qn, Qi, Qj]); (repeat (rw [Qh]; simp)); (try simp only [Qk]))
   refine cYp (k0y) ?_
   ((try simp only [Ql, Qm, Qn, Qi, Qj]); (repeat (rw [Qh]; simp)); (try simp only [Qk]))
   refine cYo [0] true true (al) (fun o h e => e) ?_; simp [zz, okA, Qr, Qq, hOf, Qe, Out.ren, upO, Qq, rdO]
   ((try simp only [Ql, Qm, Qn, Qi, Qj]); (repeat (rw [Qh]; simp)); (try simp only [Qk]))
   (refine hKT _ _ _ _ (by kernel_rfl) ?_; clear hKT KT; (try simp only [zs]))
   (refine hK _ _ _ ?_; clear hK K)
   refine pF rfl ?_
   refine Qs (hK2 _ _ _ ?_)
   (refine Qg fun K hK => ?_; refine dR fun KT hKT => ?_; ((repeat (rw [Qh]; simp)); (try simp only [Qk])))
   refine cYp (k1x) ?_
   ((try simp only [Ql, Qm, Qn, Qi, Qj]); (repeat (rw [Qh]; simp)); (try simp only [Qk]))
   refine cYp (k1y) ?_
   ((try simp only [Ql, Qm, Qn, Qi, Qj]); (repeat (rw [Qh]; simp)); (try simp only [Qk]))
   refine cYo [0] true false (mo) (fun o h e => e) ?_; simp [zz, okA, Qr, Qq, hOf, Qe, Out.ren, upO, Qq, rdO]
   ((try simp only [Ql, Qm, Qn, Qi, Qj]); (repeat (refine wpT_late _ _ _ _ (by kernel_rfl) ?_; simp only [Qn, List.set, List.nil_append, List.cons_append, Nat.reduceAdd])); (try simp only [Qk]))
   (refine hKT _ _ _ _ (by kernel_rfl) ?_; clear hKT KT; (try simp only [zs]))
   simp [killHl]
   ((try simp only [zs]); refine Wa.pan (.inr ⟨[], by decide, by simp, ?_⟩); simp [Out.mov, Wg, Wh, Wj, D.mov, HO.mov, okM, Wi, We, zz, okA, Qr, Qq, hOf, Qe, Qt, Out.fgt, D.fgt, D.fgts])
  | some v =>
   obtain ⟨b, g'⟩ := v
   rw [Xl] at mo ⊢
   unfold Xa Cs at mo ⊢
   rw [Qd p, Qd q]
   refine Qu.movd Qf (Qp Wc Tryz.func66 rfl (Qw _ _ Tryz.func66 rfl (by decide)) rfl rfl ?_)
   (refine sR fun K hK => ?_; ((repeat (rw [Qa]; simp)); (try simp only [zs])); refine hK _ _ _ ?_; clear hK K)
   (refine sR fun K hK => ?_; ((repeat (rw [Qa]; simp)); (try simp only [zs])))
   refine cXo [0] false (ca) ?_
   (rintro o hc ⟨rfl, rfl⟩; refine ⟨false, ?_⟩; simp [zz, okA, Qr, Qq, hOf, Qe, Out.ren, told, Out.fgt, upO, Qi, Qj])
   ((try simp only [Qb, Qc, Qn, Qi, Qj]); (repeat (rw [Qa]; simp)); (try simp only [zs]))
   (refine hK _ _ _ ?_; clear hK K)
   refine Qg fun K1 hK1 => ?_
   (refine sR fun K hK => ?_; ((repeat (rw [Qa]; simp)); (try simp only [zs])))
   refine cXp (sm) ?_
   ((try simp only [Qb, Qc, Qn, Qi, Qj]); (repeat (rw [Qa]; simp)); (try simp only [zs]))
   (refine hK _ _ _ ?_; clear hK K)
   refine pF rfl ?_
   refine Qs (hK1 _ _ _ ?_)
   clear hK1 K1 sm
   (refine sR fun K hK => ?_; ((repeat (rw [Qa]; simp)); (try simp only [zs])))
   refine cXo [0] true (ah1) ?_
   (rintro o hc ⟨ho, rfl⟩; refine ⟨true, ?_⟩; rw [show told true o = _ from ho]; clear ho; simp [zz, okA, Qr, Qq, hOf, Qe, Out.ren, told, Out.fgt, upO, Qi, Qj])
   ((try simp only [Qb, Qc, Qn, Qi, Qj]); (repeat (rw [Qa]; simp)); (try simp only [zs]))
   (refine hK _ _ _ ?_; clear hK K)
   (refine sR fun K hK => ?_; ((repeat (rw [Qa]; simp)); (try simp only [zs])))
   refine cXo [0] true (ah2) ?_
   (rintro o hc ⟨ho, rfl⟩; refine ⟨true, ?_⟩; rw [show told true o = _ from ho]; clear ho; simp [zz, okA, Qr, Qq, hOf, Qe, Out.ren, told, Out.fgt, upO, Qi, Qj])
   ((try simp only [Qb, Qc, Qn, Qi, Qj]); (repeat (rw [Qa]; simp)); (try simp only [zs]))
   (refine hK _ _ _ ?_; clear hK K)
   clear ca ah1 ah2
   (refine Xq (T := Wb) 3 (ty := 27) (ds := [.int .i64 4, .int .i64 x.n, .int .i64 x.a, .slice (x.ls.map Wm) .any, .slice (x.ks.map Qx) .any]) rfl rfl (by first | exact ⟨rfl, .inr ⟨_, rfl, rfl⟩⟩ | exact ⟨rfl, .inl rfl⟩) ?_; simp [D.frzs, D.frz, HO.frz, dfFrz, refOf, TK.isAgg, FK.isB, FK.isM, FK.isO, D.isLen])
   (refine Xq (T := Wb) 4 (ty := 27) (ds := [.int .i64 4, .int .i64 y.n, .int .i64 y.a, .slice (y.ls.map Wm) .any, .slice (y.ks.map Qx) .any]) rfl rfl (by first | exact ⟨rfl, .inr ⟨_, rfl, rfl⟩⟩ | exact ⟨rfl, .inl rfl⟩) ?_; simp [D.frzs, D.frz, HO.frz, dfFrz, refOf, TK.isAgg, FK.isB, FK.isM, FK.isO, D.isLen])
   (refine sR fun K hK => ?_; ((repeat (rw [Qa]; simp)); (try simp only [zs])); refine hK _ _ _ ?_; clear hK K)
   refine Qg fun K1 hK1 => ?_
   refine Wy ?_
   (refine sR fun K hK => ?_; ((repeat (rw [Qa]; simp)); (try simp only [zs])))
   refine cXp (b2) ?_
   ((try simp only [Qb, Qc, Qn, Qi, Qj]); (repeat (rw [Qa]; simp)); (try simp only [zs]))
   (refine hK _ _ _ ?_; clear hK K)
   refine pF rfl ?_
   (refine sR fun K hK => ?_; ((repeat (rw [Qa]; simp)); (try simp only [zs])))
   refine cXp (b4) ?_
   ((try simp only [Qb, Qc, Qn, Qi, Qj]); (repeat (rw [Qa]; simp)); (try simp only [zs]))
   (refine hK _ _ _ ?_; clear hK K)
   refine pT rfl ?_
   refine Qg fun K2 hK2 => ?_
   (refine Qg fun K hK => ?_; refine dR fun KT hKT => ?_; ((repeat (rw [Qh]; simp)); (try simp only [Qk])))
   refine cYp (k0x) ?_
   ((try simp only [Ql, Qm, Qn, Qi, Qj]); (repeat (rw [Qh]; simp)); (try simp only [Qk]))
   refine cYp (k0y) ?_
   ((try simp only [Ql, Qm, Qn, Qi, Qj]); (repeat (rw [Qh]; simp)); (try simp only [Qk]))
   refine cYo [0] true true (al) (fun o h e => e) ?_; simp [zz, okA, Qr, Qq, hOf, Qe, Out.ren, upO, Qq, rdO]
   ((try simp only [Ql, Qm, Qn, Qi, Qj]); (repeat (rw [Qh]; simp)); (try simp only [Qk]))
   (refine hKT _ _ _ _ (by kernel_rfl) ?_; clear hKT KT; (try simp only [zs]))
   (refine hK _ _ _ ?_; clear hK K)
   refine pF rfl ?_
   refine Qs (hK2 _ _ _ ?_)
   (refine Qg fun K hK => ?_; refine dR fun KT hKT => ?_; ((repeat (rw [Qh]; simp)); (try simp only [Qk])))
   refine cYp (k1x) ?_
   ((try simp only [Ql, Qm, Qn, Qi, Qj]); (repeat (rw [Qh]; simp)); (try simp only [Qk]))
   refine cYp (k1y) ?_
   ((try simp only [Ql, Qm, Qn, Qi, Qj]); (repeat (rw [Qh]; simp)); (try simp only [Qk]))
   refine cYo [0] true true (mo) (fun o h e => e) ?_; simp [zz, okA, Qr, Qq, hOf, Qe, Out.ren, upO, Qq, rdO]
   ((try simp only [Ql, Qm, Qn, Qi, Qj]); (repeat (rw [Qh]; simp)); (try simp only [Qk]))
   (refine hKT _ _ _ _ (by kernel_rfl) ?_; clear hKT KT; (try simp only [zs]))
   (refine hK _ _ _ ?_; clear hK K)
   (refine Qo ?_; (try simp only [zs]); refine Wa.ret rfl (.inr ⟨[], by decide, by simp, ?_⟩); simp [Out.mov, Wg, Wh, Wj, D.mov, HO.mov, okM, Wi, We, zz, okA, Qr, Qq, hOf, Qe, Qt, Out.fgt, D.fgt, D.fgts])
 | @one p q x y f f1 f2 o hf hs g1 g2 hn hn2 hr =>
  intro h0 h1 hp hq
  have ca := call_ok f l hf (by omega)
  have sm := sameT_spec p q hp.1 hq.1
  rw [hs, Qd p, Qd q] at sm
  have l1 := g1.le
  have l2 := g2.le
  have ah1 : Qu Tryz.prog glob 106 [.box 0 0, Qx p] (Xa (f - 1) l) (fun o hc => o.fgt = .ret (Qx x) /\ hc = Xa f1 l) := ahead_spec hcs (by omega) (by omega) hp.1 (hp.le (show f - 1 <= f by omega)).2 g1
  have ah2 : Qu Tryz.prog glob 106 [.box 0 0, Qx q] (Xa f1 l) (fun o hc => o.fgt = .ret (Qx y) /\ hc = Xa f2 l) := ahead_spec hcs l1.1 (by omega) hq.1 (hq.le (show f1 <= f by omega)).2 g2
  have hox : okP f2 x := ((hp.le (show f - 1 <= f by omega)).head hcs g1).le l2.2
  have hoy : okP f2 y := (hq.le (show f1 <= f by omega)).head hcs g2
  have b2 := both_spec 2 x y
  have b4 := both_spec 4 x y
  have hEx := Qd x
  have hEy := Qd y
  unfold Xa Cs at ca ah1 ah2
  rw [Qd p, hEx] at ah1
  rw [Qd q, hEy] at ah2
  rw [hEx, hEy] at b2 b4
  have on := one_all hcs h x y f2 o l2.1 (by omega) hox hoy hr
  rw [hEx, hEy] at on
  have hlx : x.ls.length <= Wd := hox.1.ll
  have hly : y.ls.length <= Wd := hoy.1.ll
  rw [show (decide (x.k = 4) && decide (y.k = 4)) = false from by
   rw [Bool.eq_false_iff]; intro h; simp at h; exact hn2 h] at b4
  unfold Xa Cs at on
  rw [Qd p, Qd q]
  clear hr
  obtain ⟨G1, hG1⟩ : ∃ G, G = (decide (x.k = 2) && decide (y.k = 2)) := ⟨_, rfl⟩
  rw [<- hG1] at b2
  obtain ⟨K, hK⟩ : ∃ K : List HO -> Prop, K = K := ⟨fun _ => True, rfl⟩
  clear hK K
  cases o with
  | none =>
   rw [Xt] at on ⊢
   unfold Xo at on
   unfold Xa Cs Xo
   refine Qu.movd Qf (Qp Wc Tryz.func66 rfl (Qw _ _ Tryz.func66 rfl (by decide)) rfl rfl ?_)
   (refine sR fun K hK => ?_; ((repeat (rw [Qa]; simp)); (try simp only [zs])); refine hK _ _ _ ?_; clear hK K)
   (refine sR fun K hK => ?_; ((repeat (rw [Qa]; simp)); (try simp only [zs])))
   refine cXo [0] false (ca) ?_
   (rintro o hc ⟨rfl, rfl⟩; refine ⟨false, ?_⟩; simp [zz, okA, Qr, Qq, hOf, Qe, Out.ren, told, Out.fgt, upO, Qi, Qj])
   ((try simp only [Qb, Qc, Qn, Qi, Qj]); (repeat (rw [Qa]; simp)); (try simp only [zs]))
   (refine hK _ _ _ ?_; clear hK K)
   refine Qg fun K1 hK1 => ?_
   (refine sR fun K hK => ?_; ((repeat (rw [Qa]; simp)); (try simp only [zs])))
   refine cXp (sm) ?_
   ((try simp only [Qb, Qc, Qn, Qi, Qj]); (repeat (rw [Qa]; simp)); (try simp only [zs]))
   (refine hK _ _ _ ?_; clear hK K)
   refine pF rfl ?_
   refine Qs (hK1 _ _ _ ?_)
   clear hK1 K1 sm
   (refine sR fun K hK => ?_; ((repeat (rw [Qa]; simp)); (try simp only [zs])))
   refine cXo [0] true (ah1) ?_
   (rintro o hc ⟨ho, rfl⟩; refine ⟨true, ?_⟩; rw [show told true o = _ from ho]; clear ho; simp [zz, okA, Qr, Qq, hOf, Qe, Out.ren, told, Out.fgt, upO, Qi, Qj])
   ((try simp only [Qb, Qc, Qn, Qi, Qj]); (repeat (rw [Qa]; simp)); (try simp only [zs]))
   (refine hK _ _ _ ?_; clear hK K)
   (refine sR fun K hK => ?_; ((repeat (rw [Qa]; simp)); (try simp only [zs])))
   refine cXo [0] true (ah2) ?_
   (rintro o hc ⟨ho, rfl⟩; refine ⟨true, ?_⟩; rw [show told true o = _ from ho]; clear ho; simp [zz, okA, Qr, Qq, hOf, Qe, Out.ren, told, Out.fgt, upO, Qi, Qj])
   ((try simp only [Qb, Qc, Qn, Qi, Qj]); (repeat (rw [Qa]; simp)); (try simp only [zs]))
   (refine hK _ _ _ ?_; clear hK K)
   clear ca ah1 ah2
   (refine Xq (T := Wb) 3 (ty := 27) (ds := [.int .i64 x.k, .int .i64 x.n, .int .i64 x.a, .slice (x.ls.map Wm) .any, .slice (x.ks.map Qx) .any]) rfl rfl (by first | exact ⟨rfl, .inr ⟨_, rfl, rfl⟩⟩ | exact ⟨rfl, .inl rfl⟩) ?_; simp [D.frzs, D.frz, HO.frz, dfFrz, refOf, TK.isAgg, FK.isB, FK.isM, FK.isO, D.isLen])
   (refine Xq (T := Wb) 4 (ty := 27) (ds := [.int .i64 y.k, .int .i64 y.n, .int .i64 y.a, .slice (y.ls.map Wm) .any, .slice (y.ks.map Qx) .any]) rfl rfl (by first | exact ⟨rfl, .inr ⟨_, rfl, rfl⟩⟩ | exact ⟨rfl, .inl rfl⟩) ?_; simp [D.frzs, D.frz, HO.frz, dfFrz, refOf, TK.isAgg, FK.isB, FK.isM, FK.isO, D.isLen])
   (refine sR fun K hK => ?_; ((repeat (rw [Qa]; simp)); (try simp only [zs])); refine hK _ _ _ ?_; clear hK K)
   refine Qg fun K1 hK1 => ?_
   refine Wy ?_
   cases G1 with
   | false =>
    (refine sR fun K hK => ?_; ((repeat (rw [Qa]; simp)); (try simp only [zs])))
    refine cXp (b2) ?_
    ((try simp only [Qb, Qc, Qn, Qi, Qj]); (repeat (rw [Qa]; simp)); (try simp only [zs]))
    (refine hK _ _ _ ?_; clear hK K)
    refine pF rfl ?_
    (refine sR fun K hK => ?_; ((repeat (rw [Qa]; simp)); (try simp only [zs])))
    refine cXp (b4) ?_
    ((try simp only [Qb, Qc, Qn, Qi, Qj]); (repeat (rw [Qa]; simp)); (try simp only [zs]))
    (refine hK _ _ _ ?_; clear hK K)
    refine pF rfl ?_
    refine Qs (hK1 _ _ _ ?_)
    (refine sR fun K hK => ?_; ((repeat (rw [Qa]; simp)); (try simp only [zs])))
    refine cXo [0] false (on) ?_
    (rintro o hc ⟨rfl, rfl⟩; refine ⟨false, ?_⟩; simp [zz, okA, Qr, Qq, hOf, Qe, Out.ren, told, Out.fgt, upO, Qi, Qj])
    ((try simp only [zs]); refine Wa.pan (.inr ⟨[], by decide, by simp, ?_⟩); simp [Out.mov, Wg, Wh, Wj, D.mov, HO.mov, okM, Wi, We, zz, okA, Qr, Qq, hOf, Qe, Qt, Out.fgt, D.fgt, D.fgts])
   | true =>
    have hn' : ¬ (x.ls.length = 1 /\ y.ls.length = 1) := fun hh => by simp at hG1; exact hn ⟨hG1.1, hG1.2, hh.1, hh.2⟩
    by_cases e1 : x.ls.length = 1
    ·have e2 : ¬ y.ls.length = 1 := fun e2 => hn' ⟨e1, e2⟩
     have e1' : (x.ls.length : Int) = 1 := by omega
     have e2' : ¬ (y.ls.length : Int) = 1 := by omega
     (refine sR fun K hK => ?_; ((repeat (rw [Qa]; simp [e1, e1', e2, e2'])); (try simp only [zs])))
     refine cXp (b2) ?_
     ((try simp only [Qb, Qc, Qn, Qi, Qj]); (repeat (rw [Qa]; simp [e1, e1', e2, e2'])); (try simp only [zs]))
     (refine hK _ _ _ ?_; clear hK K)
     refine pF rfl ?_
     (refine sR fun K hK => ?_; ((repeat (rw [Qa]; simp)); (try simp only [zs])))
     refine cXp (b4) ?_
     ((try simp only [Qb, Qc, Qn, Qi, Qj]); (repeat (rw [Qa]; simp)); (try simp only [zs]))
     (refine hK _ _ _ ?_; clear hK K)
     refine pF rfl ?_
     refine Qs (hK1 _ _ _ ?_)
     (refine sR fun K hK => ?_; ((repeat (rw [Qa]; simp)); (try simp only [zs])))
     refine cXo [0] false (on) ?_
     (rintro o hc ⟨rfl, rfl⟩; refine ⟨false, ?_⟩; simp [zz, okA, Qr, Qq, hOf, Qe, Out.ren, told, Out.fgt, upO, Qi, Qj])
     ((try simp only [zs]); refine Wa.pan (.inr ⟨[], by decide, by simp, ?_⟩); simp [Out.mov, Wg, Wh, Wj, D.mov, HO.mov, okM, Wi, We, zz, okA, Qr, Qq, hOf, Qe, Qt, Out.fgt, D.fgt, D.fgts])
    ·have e1' : ¬ (x.ls.length : Int) = 1 := by omega
     (refine sR fun K hK => ?_; ((repeat (rw [Qa]; simp [e1, e1'])); (try simp only [zs])))
     refine cXp (b2) ?_
     ((try simp only [Qb, Qc, Qn, Qi, Qj]); (repeat (rw [Qa]; simp [e1, e1'])); (try simp only [zs]))
     (refine hK _ _ _ ?_; clear hK K)
     refine pF rfl ?_
     (refine sR fun K hK => ?_; ((repeat (rw [Qa]; simp)); (try simp only [zs])))
     refine cXp (b4) ?_
     ((try simp only [Qb, Qc, Qn, Qi, Qj]); (repeat (rw [Qa]; simp)); (try simp only [zs]))
     (refine hK _ _ _ ?_; clear hK K)
     refine pF rfl ?_
     refine Qs (hK1 _ _ _ ?_)
     (refine sR fun K hK => ?_; ((repeat (rw [Qa]; simp)); (try simp only [zs])))
     refine cXo [0] false (on) ?_
     (rintro o hc ⟨rfl, rfl⟩; refine ⟨false, ?_⟩; simp [zz, okA, Qr, Qq, hOf, Qe, Out.ren, told, Out.fgt, upO, Qi, Qj])
     ((try simp only [zs]); refine Wa.pan (.inr ⟨[], by decide, by simp, ?_⟩); simp [Out.mov, Wg, Wh, Wj, D.mov, HO.mov, okM, Wi, We, zz, okA, Qr, Qq, hOf, Qe, Qt, Out.fgt, D.fgt, D.fgts])
  | some v =>
   obtain ⟨b, g⟩ := v
   rw [Xl] at on ⊢
   unfold Xa Cs at on ⊢
   refine Qu.movd Qf (Qp Wc Tryz.func66 rfl (Qw _ _ Tryz.func66 rfl (by decide)) rfl rfl ?_)
   (refine sR fun K hK => ?_; ((repeat (rw [Qa]; simp)); (try simp only [zs])); refine hK _ _ _ ?_; clear hK K)
   (refine sR fun K hK => ?_; ((repeat (rw [Qa]; simp)); (try simp only [zs])))
   refine cXo [0] false (ca) ?_
   (rintro o hc ⟨rfl, rfl⟩; refine ⟨false, ?_⟩; simp [zz, okA, Qr, Qq, hOf, Qe, Out.ren, told, Out.fgt, upO, Qi, Qj])
   ((try simp only [Qb, Qc, Qn, Qi, Qj]); (repeat (rw [Qa]; simp)); (try simp only [zs]))
   (refine hK _ _ _ ?_; clear hK K)
   refine Qg fun K1 hK1 => ?_
   (refine sR fun K hK => ?_; ((repeat (rw [Qa]; simp)); (try simp only [zs])))
   refine cXp (sm) ?_
   ((try simp only [Qb, Qc, Qn, Qi, Qj]); (repeat (rw [Qa]; simp)); (try simp only [zs]))
   (refine hK _ _ _ ?_; clear hK K)
   refine pF rfl ?_
   refine Qs (hK1 _ _ _ ?_)
   clear hK1 K1 sm
   (refine sR fun K hK => ?_; ((repeat (rw [Qa]; simp)); (try simp only [zs])))
   refine cXo [0] true (ah1) ?_
   (rintro o hc ⟨ho, rfl⟩; refine ⟨true, ?_⟩; rw [show told true o = _ from ho]; clear ho; simp [zz, okA, Qr, Qq, hOf, Qe, Out.ren, told, Out.fgt, upO, Qi, Qj])
   ((try simp only [Qb, Qc, Qn, Qi, Qj]); (repeat (rw [Qa]; simp)); (try simp only [zs]))
   (refine hK _ _ _ ?_; clear hK K)
   (refine sR fun K hK => ?_; ((repeat (rw [Qa]; simp)); (try simp only [zs])))
   refine cXo [0] true (ah2) ?_
   (rintro o hc ⟨ho, rfl⟩; refine ⟨true, ?_⟩; rw [show told true o = _ from ho]; clear ho; simp [zz, okA, Qr, Qq, hOf, Qe, Out.ren, told, Out.fgt, upO, Qi, Qj])
   ((try simp only [Qb, Qc, Qn, Qi, Qj]); (repeat (rw [Qa]; simp)); (try simp only [zs]))
   (refine hK _ _ _ ?_; clear hK K)
   clear ca ah1 ah2
   (refine Xq (T := Wb) 3 (ty := 27) (ds := [.int .i64 x.k, .int .i64 x.n, .int .i64 x.a, .slice (x.ls.map Wm) .any, .slice (x.ks.map Qx) .any]) rfl rfl (by first | exact ⟨rfl, .inr ⟨_, rfl, rfl⟩⟩ | exact ⟨rfl, .inl rfl⟩) ?_; simp [D.frzs, D.frz, HO.frz, dfFrz, refOf, TK.isAgg, FK.isB, FK.isM, FK.isO, D.isLen])
   (refine Xq (T := Wb) 4 (ty := 27) (ds := [.int .i64 y.k, .int .i64 y.n, .int .i64 y.a, .slice (y.ls.map Wm) .any, .slice (y.ks.map Qx) .any]) rfl rfl (by first | exact ⟨rfl, .inr ⟨_, rfl, rfl⟩⟩ | exact ⟨rfl, .inl rfl⟩) ?_; simp [D.frzs, D.frz, HO.frz, dfFrz, refOf, TK.isAgg, FK.isB, FK.isM, FK.isO, D.isLen])
   (refine sR fun K hK => ?_; ((repeat (rw [Qa]; simp)); (try simp only [zs])); refine hK _ _ _ ?_; clear hK K)
   refine Qg fun K1 hK1 => ?_
   refine Wy ?_
   cases G1 with
   | false =>
    (refine sR fun K hK => ?_; ((repeat (rw [Qa]; simp)); (try simp only [zs])))
    refine cXp (b2) ?_
    ((try simp only [Qb, Qc, Qn, Qi, Qj]); (repeat (rw [Qa]; simp)); (try simp only [zs]))
    (refine hK _ _ _ ?_; clear hK K)
    refine pF rfl ?_
    (refine sR fun K hK => ?_; ((repeat (rw [Qa]; simp)); (try simp only [zs])))
    refine cXp (b4) ?_
    ((try simp only [Qb, Qc, Qn, Qi, Qj]); (repeat (rw [Qa]; simp)); (try simp only [zs]))
    (refine hK _ _ _ ?_; clear hK K)
    refine pF rfl ?_
    refine Qs (hK1 _ _ _ ?_)
    (refine sR fun K hK => ?_; ((repeat (rw [Qa]; simp)); (try simp only [zs])))
    refine cXo [0] true (on) ?_
    (rintro o hc ⟨ho, rfl⟩; refine ⟨true, ?_⟩; rw [show told true o = _ from ho]; clear ho; simp [zz, okA, Qr, Qq, hOf, Qe, Out.ren, told, Out.fgt, upO, Qi, Qj])
    ((try simp only [Qb, Qc, Qn, Qi, Qj]); (repeat (rw [Qa]; simp)); (try simp only [zs]))
    (refine hK _ _ _ ?_; clear hK K)
    (refine Qo ?_; (try simp only [zs]); refine Wa.ret rfl (.inr ⟨[], by decide, by simp, ?_⟩); simp [Out.mov, Wg, Wh, Wj, D.mov, HO.mov, okM, Wi, We, zz, okA, Qr, Qq, hOf, Qe, Qt, Out.fgt, D.fgt, D.fgts])
   | true =>
    have hn' : ¬ (x.ls.length = 1 /\ y.ls.length = 1) := fun hh => by simp at hG1; exact hn ⟨hG1.1, hG1.2, hh.1, hh.2⟩
    by_cases e1 : x.ls.length = 1
    ·have e2 : ¬ y.ls.length = 1 := fun e2 => hn' ⟨e1, e2⟩
     have e1' : (x.ls.length : Int) = 1 := by omega
     have e2' : ¬ (y.ls.length : Int) = 1 := by omega
     (refine sR fun K hK => ?_; ((repeat (rw [Qa]; simp [e1, e1', e2, e2'])); (try simp only [zs])))
     refine cXp (b2) ?_
     ((try simp only [Qb, Qc, Qn, Qi, Qj]); (repeat (rw [Qa]; simp [e1, e1', e2, e2'])); (try simp only [zs]))
     (refine hK _ _ _ ?_; clear hK K)
     refine pF rfl ?_
     (refine sR fun K hK => ?_; ((repeat (rw [Qa]; simp)); (try simp only [zs])))
     refine cXp (b4) ?_
     ((try simp only [Qb, Qc, Qn, Qi, Qj]); (repeat (rw [Qa]; simp)); (try simp only [zs]))
     (refine hK _ _ _ ?_; clear hK K)
     refine pF rfl ?_
     refine Qs (hK1 _ _ _ ?_)
     (refine sR fun K hK => ?_; ((repeat (rw [Qa]; simp)); (try simp only [zs])))
     refine cXo [0] true (on) ?_
     (rintro o hc ⟨ho, rfl⟩; refine ⟨true, ?_⟩; rw [show told true o = _ from ho]; clear ho; simp [zz, okA, Qr, Qq, hOf, Qe, Out.ren, told, Out.fgt, upO, Qi, Qj])
     ((try simp only [Qb, Qc, Qn, Qi, Qj]); (repeat (rw [Qa]; simp)); (try simp only [zs]))
     (refine hK _ _ _ ?_; clear hK K)
     (refine Qo ?_; (try simp only [zs]); refine Wa.ret rfl (.inr ⟨[], by decide, by simp, ?_⟩); simp [Out.mov, Wg, Wh, Wj, D.mov, HO.mov, okM, Wi, We, zz, okA, Qr, Qq, hOf, Qe, Qt, Out.fgt, D.fgt, D.fgts])
    ·have e1' : ¬ (x.ls.length : Int) = 1 := by omega
     (refine sR fun K hK => ?_; ((repeat (rw [Qa]; simp [e1, e1'])); (try simp only [zs])))
     refine cXp (b2) ?_
     ((try simp only [Qb, Qc, Qn, Qi, Qj]); (repeat (rw [Qa]; simp [e1, e1'])); (try simp only [zs]))
     (refine hK _ _ _ ?_; clear hK K)
     refine pF rfl ?_
     (refine sR fun K hK => ?_; ((repeat (rw [Qa]; simp)); (try simp only [zs])))
     refine cXp (b4) ?_
     ((try simp only [Qb, Qc, Qn, Qi, Qj]); (repeat (rw [Qa]; simp)); (try simp only [zs]))
     (refine hK _ _ _ ?_; clear hK K)
     refine pF rfl ?_
     refine Qs (hK1 _ _ _ ?_)
     (refine sR fun K hK => ?_; ((repeat (rw [Qa]; simp)); (try simp only [zs])))
     refine cXo [0] true (on) ?_
     (rintro o hc ⟨ho, rfl⟩; refine ⟨true, ?_⟩; rw [show told true o = _ from ho]; clear ho; simp [zz, okA, Qr, Qq, hOf, Qe, Out.ren, told, Out.fgt, upO, Qi, Qj])
     ((try simp only [Qb, Qc, Qn, Qi, Qj]); (repeat (rw [Qa]; simp)); (try simp only [zs]))
     (refine hK _ _ _ ?_; clear hK K)
     (refine Qo ?_; (try simp only [zs]); refine Wa.ret rfl (.inr ⟨[], by decide, by simp, ?_⟩); simp [Out.mov, Wg, Wh, Wj, D.mov, HO.mov, okM, Wi, We, zz, okA, Qr, Qq, hOf, Qe, Qt, Out.fgt, D.fgt, D.fgts])
def ansD : Option (Bool × Int) -> D
 | some (b, g) => .tuple [.bool b, .int .i64 g, .int .i64 0]
 | none => .tuple [.bool false, .int .i64 0, .int .i64 5]
theorem tcatch_idle (b : Bool) (x y : Int) : SpecD Tryz.prog glob 104 [.box 0 0, .box 1 0, .box 2 0] [.cells 33 [.int .i64 y], .cells 4 [.bool b], .cells 3 [.int .i64 x]] none
  (fun hc => hc = [.cells 33 [.int .i64 y], .cells 4 [.bool b], .cells 3 [.int .i64 x]]) := by
 refine wpD_specd Wc Tryz.func104 rfl rfl (fun a w => rfl) rfl (Qw _ _ Tryz.func104 rfl (by decide)) rfl rfl ?_
 ((try simp only [Qb, Qc, Qn, Qi, Qj]); (repeat (rw [Qa]; simp)); (try simp only [zs]))
 (refine sR fun K hK => ?_; ((repeat (rw [Qa]; simp)); (try simp only [zs])); refine hK _ _ _ ?_; clear hK K)
 refine pF rfl ?_
 refine Qs ?_
 refine Wa.nrm rfl ?_
 simp [Qi]
theorem tcatch_gone (b : Bool) (x y : Int) : SpecD Tryz.prog glob 104 [.box 0 0, .box 1 0, .box 2 0] [.cells 33 [.int .i64 y], .cells 4 [.bool b], .cells 3 [.int .i64 x]] (some Xo)
  (fun hc => hc = [.cells 33 [.int .i64 5], .cells 4 [.bool false], .cells 3 [.int .i64 0]]) := by
 refine wpD_specd Wc Tryz.func104 rfl rfl (fun a w => rfl) rfl (Qw _ _ Tryz.func104 rfl (by decide)) rfl rfl ?_
 unfold Xo
 ((try simp only [Qb, Qc, Qn, Qi, Qj]); (repeat (rw [Qa]; simp)); (try simp only [zs]))
 (refine sR fun K hK => ?_; ((repeat (rw [Qa]; simp)); (try simp only [zs])); refine hK _ _ _ ?_; clear hK K)
 refine pT rfl ?_
 (refine sR fun K hK => ?_; ((repeat (rw [Qa]; simp)); (try simp only [zs])); refine hK _ _ _ ?_; clear hK K)
 refine Qg fun K1 hK1 => ?_
 (refine sR fun K hK => ?_; ((repeat (rw [Qa]; simp)); (try simp only [zs])); refine hK _ _ _ ?_; clear hK K)
 (refine sR fun K hK => ?_; ((repeat (rw [Qa]; simp)); (try simp only [zs])); refine hK _ _ _ ?_; clear hK K)
 refine pF rfl ?_
 refine Qs (hK1 _ _ _ ?_)
 (refine Qz Wc ?_; ((repeat (rw [Qa]; simp)); (try simp only [zs])))
 refine Wa.nrm rfl ?_
 simp
theorem told_spec {l : List C} (g : FuncId) (a b : T) {f : Int} (h0 : 0 <= f) (h1 : f <= 1073741824) {r : Option (Bool × Int)} (hsp : Qu Tryz.prog glob g [.box 0 0, .ref (Qx a), .ref (Qx b)] (Xa f l) (AnsP l r)) :
  Qu Tryz.prog glob 62 [Cs l, .int .i64 f, .fn (.func g) [] [.ref (Qx a), .ref (Qx b)]] [] (fun o _ => o.fgt = .ret (ansD r)) := by
 have h0' : ¬ f < 0 := by omega
 have h1' : ¬ 1073741824 < f := by omega
 have hEa := Qd a
 have hEb := Qd b
 rw [hEa, hEb] at hsp
 rw [hEa, hEb]
 cases r with
 | none =>
  rw [Xt] at hsp
  unfold Xa Cs Xo at hsp
  unfold Cs ansD
  have hcg := tcatch_gone false 0 0
  unfold Xo at hcg
  refine Qu.movd Qf (wpD_specD Wc Tryz.func62 rfl (Qw _ _ Tryz.func62 rfl (by decide)) rfl rfl ?_)
  (refine sR fun K hK => ?_; ((repeat (rw [Qa]; simp)); (try simp only [zs])); refine hK _ _ _ ?_; clear hK K)
  refine Qg fun K1 hK1 => ?_
  (refine sR fun K hK => ?_; ((repeat (rw [Qa]; simp [h0', h1'])); (try simp only [zs])); refine hK _ _ _ ?_; clear hK K)
  refine pF rfl ?_
  refine Qs (hK1 _ _ _ ?_)
  (refine sR fun K hK => ?_; ((repeat (rw [Qa]; simp)); (try simp only [zs])); refine hK _ _ _ ?_; clear hK K)
  (refine sR fun K hK => ?_; ((repeat (rw [Qa]; simp)); (try simp only [zs])); refine hK _ _ _ ?_; clear hK K)
  (refine sR fun K hK => ?_; ((repeat (rw [Qa]; simp)); (try simp only [zs])))
  refine cXo [3] false (hsp) ?_
  (rintro o hc ⟨rfl, rfl⟩; refine ⟨false, ?_⟩; simp [zz, okA, Qr, Qq, hOf, Qe, Out.ren, told, Out.fgt, upO, Qi, Qj])
  (try simp only [zs])
  refine DefX.objs Qf [2, 0, 1] hcg ?_ ?_ (fun d h => by cases h; rfl) (by decide) (by simp) (by simp [zz, okA, Qr, Qq, hOf, Qe]) (by simp [zz, okA, Qr, Qq, hOf, Qe]) (by simp [zz, okA, Qr, Qq, hOf, Qe]) (by simp [zz, okA, Qr, Qq, hOf, Qe])
  ·rintro hc rfl
   simp [zz, okA, Qr, Qq, hOf, Qe, upO, Qi, Qj]
   refine endD.intro rfl (.inr ⟨[], by decide, by simp, ?_⟩)
   simp [Out.mov, Wg, Wh, Wj, D.mov, HO.mov, okM, Wi, We, zz, okA, Qr, Qq, hOf, Qe]
   try simp [Out.fgt, D.fgt, D.fgts]
  ·rintro hc rfl
   simp
 | some v =>
  obtain ⟨bb, gg⟩ := v
  rw [Xl] at hsp
  unfold Xa Cs at hsp
  unfold Cs ansD
  refine Qu.movd Qf (wpD_specD Wc Tryz.func62 rfl (Qw _ _ Tryz.func62 rfl (by decide)) rfl rfl ?_)
  (refine sR fun K hK => ?_; ((repeat (rw [Qa]; simp)); (try simp only [zs])); refine hK _ _ _ ?_; clear hK K)
  refine Qg fun K1 hK1 => ?_
  (refine sR fun K hK => ?_; ((repeat (rw [Qa]; simp [h0', h1'])); (try simp only [zs])); refine hK _ _ _ ?_; clear hK K)
  refine pF rfl ?_
  refine Qs (hK1 _ _ _ ?_)
  (refine sR fun K hK => ?_; ((repeat (rw [Qa]; simp)); (try simp only [zs])); refine hK _ _ _ ?_; clear hK K)
  (refine sR fun K hK => ?_; ((repeat (rw [Qa]; simp)); (try simp only [zs])); refine hK _ _ _ ?_; clear hK K)
  (refine sR fun K hK => ?_; ((repeat (rw [Qa]; simp)); (try simp only [zs])))
  refine cXo [3] true (hsp) ?_
  (rintro o hc ⟨ho, rfl⟩; refine ⟨true, ?_⟩; rw [show told true o = _ from ho]; clear ho; simp [zz, okA, Qr, Qq, hOf, Qe, Out.ren, told, Out.fgt, upO, Qi, Qj])
  ((try simp only [Qb, Qc, Qn, Qi, Qj]); (repeat (rw [Qa]; simp)); (try simp only [zs]))
  (refine hK _ _ _ ?_; clear hK K)
  (refine Qg fun K hK => ?_; refine dR fun KT hKT => ?_; ((repeat (rw [Qh]; simp)); (try simp only [Qk])))
  (refine hKT _ _ _ _ (by kernel_rfl) ?_; clear hKT KT; (try simp only [zs]))
  (refine hK _ _ _ ?_; clear hK K)
  refine Qo ?_
  refine DefX.objs Qf [2, 0, 1] (tcatch_idle bb gg 0) ?_ ?_ (fun d h => by cases h) (by decide) (by simp) (by simp [zz, okA, Qr, Qq, hOf, Qe]) (by simp [zz, okA, Qr, Qq, hOf, Qe]) (by simp [zz, okA, Qr, Qq, hOf, Qe]) (by simp [zz, okA, Qr, Qq, hOf, Qe])
  ·rintro hc rfl
   simp [zz, okA, Qr, Qq, hOf, Qe, upO, Qi, Qj]
   refine endD.intro rfl (.inr ⟨[], by decide, by simp, ?_⟩)
   simp [Out.mov, Wg, Wh, Wj, D.mov, HO.mov, okM, Wi, We, zz, okA, Qr, Qq, hOf, Qe]
   try simp [Out.fgt, D.fgt, D.fgts]
  ·rintro hc rfl
   simp
theorem conv1_spec {l : List C} (a b : T) {f : Int} {r : Option (Bool × Int)} (on : Qu Tryz.prog glob 64 [.box 0 0, Qx a, Qx b] (Xa f l) (AnsP l r)) :
  Qu Tryz.prog glob 63 [.box 0 0, .ref (Qx a), .ref (Qx b)] (Xa f l) (AnsP l r) := by
 have hEa := Qd a
 have hEb := Qd b
 rw [hEa, hEb] at on
 rw [hEa, hEb]
 cases r with
 | none =>
  rw [Xt] at on ⊢
  unfold Xa Cs Xo at on
  unfold Xa Cs Xo
  refine Qu.movd Qf (Qp Wc Tryz.func63 rfl (Qw _ _ Tryz.func63 rfl (by decide)) rfl rfl ?_)
  (refine sR fun K hK => ?_; ((repeat (rw [Qa]; simp)); (try simp only [zs])); refine hK _ _ _ ?_; clear hK K)
  (refine sR fun K hK => ?_; ((repeat (rw [Qa]; simp)); (try simp only [zs])))
  refine cXo [0] false (on) ?_
  (rintro o hc ⟨rfl, rfl⟩; refine ⟨false, ?_⟩; simp [zz, okA, Qr, Qq, hOf, Qe, Out.ren, told, Out.fgt, upO, Qi, Qj])
  ((try simp only [zs]); refine Wa.pan (.inr ⟨[], by decide, by simp, ?_⟩); simp [Out.mov, Wg, Wh, Wj, D.mov, HO.mov, okM, Wi, We, zz, okA, Qr, Qq, hOf, Qe, Qt, Out.fgt, D.fgt, D.fgts])
 | some v =>
  obtain ⟨bb, gg⟩ := v
  rw [Xl] at on ⊢
  unfold Xa Cs at on ⊢
  refine Qu.movd Qf (Qp Wc Tryz.func63 rfl (Qw _ _ Tryz.func63 rfl (by decide)) rfl rfl ?_)
  (refine sR fun K hK => ?_; ((repeat (rw [Qa]; simp)); (try simp only [zs])); refine hK _ _ _ ?_; clear hK K)
  (refine sR fun K hK => ?_; ((repeat (rw [Qa]; simp)); (try simp only [zs])))
  refine cXo [0] true (on) ?_
  (rintro o hc ⟨ho, rfl⟩; refine ⟨true, ?_⟩; rw [show told true o = _ from ho]; clear ho; simp [zz, okA, Qr, Qq, hOf, Qe, Out.ren, told, Out.fgt, upO, Qi, Qj])
  ((try simp only [Qb, Qc, Qn, Qi, Qj]); (repeat (rw [Qa]; simp)); (try simp only [zs]))
  (refine hK _ _ _ ?_; clear hK K)
  (refine Qo ?_; (try simp only [zs]); refine Wa.ret rfl (.inr ⟨[], by decide, by simp, ?_⟩); simp [Out.mov, Wg, Wh, Wj, D.mov, HO.mov, okM, Wi, We, zz, okA, Qr, Qq, hOf, Qe, Qt, Out.fgt, D.fgt, D.fgts])
theorem leq1c_spec {l : List C} (a b : T) {f : Int} {r : Option (Bool × Int)} (on : Qu Tryz.prog glob 66 [.box 0 0, Qx a, Qx b] (Xa f l) (AnsP l r)) :
  Qu Tryz.prog glob 65 [.box 0 0, .ref (Qx a), .ref (Qx b)] (Xa f l) (AnsP l r) := by
 have hEa := Qd a
 have hEb := Qd b
 rw [hEa, hEb] at on
 rw [hEa, hEb]
 cases r with
 | none =>
  rw [Xt] at on ⊢
  unfold Xa Cs Xo at on
  unfold Xa Cs Xo
  refine Qu.movd Qf (Qp Wc Tryz.func65 rfl (Qw _ _ Tryz.func65 rfl (by decide)) rfl rfl ?_)
  (refine sR fun K hK => ?_; ((repeat (rw [Qa]; simp)); (try simp only [zs])); refine hK _ _ _ ?_; clear hK K)
  (refine sR fun K hK => ?_; ((repeat (rw [Qa]; simp)); (try simp only [zs])))
  refine cXo [0] false (on) ?_
  (rintro o hc ⟨rfl, rfl⟩; refine ⟨false, ?_⟩; simp [zz, okA, Qr, Qq, hOf, Qe, Out.ren, told, Out.fgt, upO, Qi, Qj])
  ((try simp only [zs]); refine Wa.pan (.inr ⟨[], by decide, by simp, ?_⟩); simp [Out.mov, Wg, Wh, Wj, D.mov, HO.mov, okM, Wi, We, zz, okA, Qr, Qq, hOf, Qe, Qt, Out.fgt, D.fgt, D.fgts])
 | some v =>
  obtain ⟨bb, gg⟩ := v
  rw [Xl] at on ⊢
  unfold Xa Cs at on ⊢
  refine Qu.movd Qf (Qp Wc Tryz.func65 rfl (Qw _ _ Tryz.func65 rfl (by decide)) rfl rfl ?_)
  (refine sR fun K hK => ?_; ((repeat (rw [Qa]; simp)); (try simp only [zs])); refine hK _ _ _ ?_; clear hK K)
  (refine sR fun K hK => ?_; ((repeat (rw [Qa]; simp)); (try simp only [zs])))
  refine cXo [0] true (on) ?_
  (rintro o hc ⟨ho, rfl⟩; refine ⟨true, ?_⟩; rw [show told true o = _ from ho]; clear ho; simp [zz, okA, Qr, Qq, hOf, Qe, Out.ren, told, Out.fgt, upO, Qi, Qj])
  ((try simp only [Qb, Qc, Qn, Qi, Qj]); (repeat (rw [Qa]; simp)); (try simp only [zs]))
  (refine hK _ _ _ ?_; clear hK K)
  (refine Qo ?_; (try simp only [zs]); refine Wa.ret rfl (.inr ⟨[], by decide, by simp, ?_⟩); simp [Out.mov, Wg, Wh, Wj, D.mov, HO.mov, okM, Wi, We, zz, okA, Qr, Qq, hOf, Qe, Qt, Out.fgt, D.fgt, D.fgts])
theorem ansD_pure (r : Option (Bool × Int)) : ∃ b g e, ansD r = .tuple [.bool b, .int .i64 g, .int .i64 e] := by
 cases r with
 | none => exact ⟨_, _, _, rfl⟩
 | some v => exact ⟨_, _, _, rfl⟩
theorem conv_spec {l : List C} (hcs : okCs l) {a b : T} {f : Int} {h : Nat} {r : Option (Bool × Int)} (h0 : 0 <= f) (h1 : f <= 1073741824) (ha : okP f a) (hb : okP f b) (hr : CR l h [a] [b] f r) :
  Qu Tryz.prog glob 26 [Cs l, Qx a, Qx b, .int .i64 f] [] (fun o _ => o.fgt = .ret (ansD r)) := by
 have to := told_spec 63 a b h0 h1 (conv1_spec a b (one_all hcs h a b f r h0 h1 ha hb hr))
 obtain ⟨bb, gg, ee, e⟩ := ansD_pure r
 rw [e] at to ⊢
 rw [Qd a, Qd b] at to ⊢
 unfold Cs at to ⊢
 refine Qu.movd Qf (Qp Wc Tryz.func26 rfl (Qw _ _ Tryz.func26 rfl (by decide)) rfl rfl ?_)
 (refine sR fun K hK => ?_; ((repeat (rw [Qa]; simp)); (try simp only [zs])); refine hK _ _ _ ?_; clear hK K)
 (refine Xq (T := Wb) 0 (ty := 27) (ds := [.int .i64 a.k, .int .i64 a.n, .int .i64 a.a, .slice (a.ls.map Wm) .any, .slice (a.ks.map Qx) .any]) rfl rfl (by first | exact ⟨rfl, .inr ⟨_, rfl, rfl⟩⟩ | exact ⟨rfl, .inl rfl⟩) ?_; simp [D.frzs, D.frz, HO.frz, dfFrz, refOf, TK.isAgg, FK.isB, FK.isM, FK.isO, D.isLen])
 (refine Xq (T := Wb) 1 (ty := 27) (ds := [.int .i64 b.k, .int .i64 b.n, .int .i64 b.a, .slice (b.ls.map Wm) .any, .slice (b.ks.map Qx) .any]) rfl rfl (by first | exact ⟨rfl, .inr ⟨_, rfl, rfl⟩⟩ | exact ⟨rfl, .inl rfl⟩) ?_; simp [D.frzs, D.frz, HO.frz, dfFrz, refOf, TK.isAgg, FK.isB, FK.isM, FK.isO, D.isLen])
 (refine sR fun K hK => ?_; ((repeat (rw [Qa]; simp)); (try simp only [zs])))
 refine cXp (to) ?_
 ((try simp only [Qb, Qc, Qn, Qi, Qj]); (repeat (rw [Qa]; simp)); (try simp only [zs]))
 (refine hK _ _ _ ?_; clear hK K)
 (refine Qo ?_; (try simp only [zs]); refine Wa.ret rfl (.inl ?_); simp [Qt, Out.fgt, D.fgt, D.fgts])
theorem convLeq_spec {l : List C} (hcs : okCs l) {a b : T} {f : Int} {h : Nat} {r : Option (Bool × Int)} (h0 : 0 <= f) (h1 : f <= 1073741824) (ha : okP f a) (hb : okP f b) (hr : LR l h a b f r) :
  Qu Tryz.prog glob 27 [Cs l, Qx a, Qx b, .int .i64 f] [] (fun o _ => o.fgt = .ret (ansD r)) := by
 have to := told_spec 65 a b h0 h1 (leq1c_spec a b (most_spec hcs hr h0 h1 ha hb))
 obtain ⟨bb, gg, ee, e⟩ := ansD_pure r
 rw [e] at to ⊢
 rw [Qd a, Qd b] at to ⊢
 unfold Cs at to ⊢
 refine Qu.movd Qf (Qp Wc Tryz.func27 rfl (Qw _ _ Tryz.func27 rfl (by decide)) rfl rfl ?_)
 (refine sR fun K hK => ?_; ((repeat (rw [Qa]; simp)); (try simp only [zs])); refine hK _ _ _ ?_; clear hK K)
 (refine Xq (T := Wb) 0 (ty := 27) (ds := [.int .i64 a.k, .int .i64 a.n, .int .i64 a.a, .slice (a.ls.map Wm) .any, .slice (a.ks.map Qx) .any]) rfl rfl (by first | exact ⟨rfl, .inr ⟨_, rfl, rfl⟩⟩ | exact ⟨rfl, .inl rfl⟩) ?_; simp [D.frzs, D.frz, HO.frz, dfFrz, refOf, TK.isAgg, FK.isB, FK.isM, FK.isO, D.isLen])
 (refine Xq (T := Wb) 1 (ty := 27) (ds := [.int .i64 b.k, .int .i64 b.n, .int .i64 b.a, .slice (b.ls.map Wm) .any, .slice (b.ks.map Qx) .any]) rfl rfl (by first | exact ⟨rfl, .inr ⟨_, rfl, rfl⟩⟩ | exact ⟨rfl, .inl rfl⟩) ?_; simp [D.frzs, D.frz, HO.frz, dfFrz, refOf, TK.isAgg, FK.isB, FK.isM, FK.isO, D.isLen])
 (refine sR fun K hK => ?_; ((repeat (rw [Qa]; simp)); (try simp only [zs])))
 refine cXp (to) ?_
 ((try simp only [Qb, Qc, Qn, Qi, Qj]); (repeat (rw [Qa]; simp)); (try simp only [zs]))
 (refine hK _ _ _ ?_; clear hK K)
 (refine Qo ?_; (try simp only [zs]); refine Wa.ret rfl (.inl ?_); simp [Qt, Out.fgt, D.fgt, D.fgts])
end Go.Proofs.YtebmlojhdnldgaaGreatDoor
