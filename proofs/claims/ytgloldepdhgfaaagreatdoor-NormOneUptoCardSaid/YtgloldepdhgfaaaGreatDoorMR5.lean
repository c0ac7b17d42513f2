/-
  MR5: the texts Hb Hc Cva Cvb Cvc Cvf Cvg Cvh Nra Nrb Ccm Ccw Ccr Kse Trt Tct Kct Tl2 Tl3 C5 Hvp Htf Hg Hv Hri Cvi Nrc Cfg Dopen Dcard, one behind the other.
-/
import Derived.Test.YtgloldepdhgfaaaGreatDoorRows
import Derived.ProofKit
import Derived.OpenShut
import Derived.Carry
import Derived.Below
import Derived.Test.YtgloldepdhgfaaaGreatDoorMR4
namespace Go.Proofs.YtgloldepdhgfaaaGreatDoor
set_option linter.unusedSimpArgs false
set_option linter.unusedVariables false
set_option maxHeartbeats 10000000
set_option maxRecDepth 20000
open Go.RowKit
attribute [local simp] Qb Qc Xd Xm opD Qp Ql Qi Qk hOf Wz Xn Xk TK.isAgg TK.known Xf Xe Wt Qr D.ofV inB Wm Xc binX binD binE Xl bndD capB IntKind.min IntKind.max IntKind.signed IntKind.bits Wx late
theorem wcatch_idle (k n a x y : Int) (ls ks : D) : SpecD Tryz.prog glob 84 [.box 0 0, .box 1 0, .box 2 0] [.cells 27 [.int .i64 k, .int .i64 n, .int .i64 a, ls, ks], .cells 3 [.int .i64 x], .cells 33 [.int .i64 y]] none
  (fun hc => hc = [.cells 27 [.int .i64 k, .int .i64 n, .int .i64 a, ls, ks], .cells 3 [.int .i64 x], .cells 33 [.int .i64 y]]) := by
 refine wpD_specd Wb Tryz.func84 rfl rfl (fun a w => rfl) rfl (Qy _ _ Tryz.func84 rfl (by decide)) rfl rfl ?_
 ((try simp only [Qb, Qc, Ql, Qi, Qk]); (repeat (rw [Qa]; simp)); (try simp only [zs]))
 (refine sR fun K hK => ?_; ((repeat (rw [Qa]; simp)); (try simp only [zs])); refine hK _ _ _ ?_; clear hK K)
 refine pF rfl ?_
 refine Qs ?_
 refine Wc.nrm rfl ?_
 simp [Qi]
theorem wcatch_gone (x y : Int) : SpecD Tryz.prog glob 84 [.box 0 0, .box 1 0, .box 2 0] [.cells 27 [.int .i64 0, .int .i64 0, .int .i64 0, .slice [] .full, .slice [] .full], .cells 3 [.int .i64 x], .cells 33 [.int .i64 y]] (some goneD)
  (fun hc => hc = [.cells 27 [.int .i64 0, .int .i64 0, .int .i64 0, .slice [] .full, .slice [] .full], .cells 3 [.int .i64 0], .cells 33 [.int .i64 5], .cells 129 []]) := by
 refine wpD_specd Wb Tryz.func84 rfl rfl (fun a w => rfl) rfl (Qy _ _ Tryz.func84 rfl (by decide)) rfl rfl ?_
 unfold goneD
 ((try simp only [Qb, Qc, Ql, Qi, Qk]); (repeat (rw [Qa]; simp)); (try simp only [zs]))
 (refine sR fun K hK => ?_; ((repeat (rw [Qa]; simp)); (try simp only [zs])); refine hK _ _ _ ?_; clear hK K)
 refine pT rfl ?_
 refine Qf fun K1 hK1 => ?_
 (refine sR fun K hK => ?_; ((repeat (rw [Qa]; simp)); (try simp only [zs])); refine hK _ _ _ ?_; clear hK K)
 refine Qf fun K2 hK2 => ?_
 (refine Qz Wb ?_; ((repeat (rw [Qa]; simp)); (try simp only [zs])))
 refine hK2 _ _ _ ?_
 refine pF rfl ?_
 refine Qs (hK1 _ _ _ ?_)
 (refine Qz Wb ?_; ((repeat (rw [Qa]; simp)); (try simp only [zs])))
 refine Wc.nrm rfl ?_
 simp
theorem whnf_fin {l : List C} (hcs : okCs l) {t u : T} {f : Int} {n : Nat} (h0 : 0 <= f) (h1 : f <= 1073741824) (ht : okT t) (hp : t.pot + 7 * f.toNat <= PM) (h : Hd l t n u) (hn : (n : Int) <= f) :
  Qt Tryz.prog glob 36 [Cs l, Qv t, .int .i64 f] [] (fun o _ => o.fgt = .ret (.tuple [Qv u, .int .i64 (f - n), .int .i64 0])) := by
 have hat := hat_spec l f
 have hre := head_spec hcs _ _ t f false _ h0 rfl rfl ht hp (.fin h hn)
 have huo := h.ok hcs.ok ht
 have hup := h.pot
 have hud : u.deep <= DM := by have := u.deep_nsz; have := nsz_pot u; unfold PM at hp; unfold DM; omega
 have hli := lift_spec u 0 0 hud huo
 rw [show u.lift 0 0 0 = u from lift_zero huo 0] at hli
 have h0' : ¬ f < 0 := by omega
 have h1' : ¬ 1073741824 < f := by omega
 generalize (false || decide (0 < n)) = d at hre
 unfold RetP Wf headD Cs Wj at hre
 unfold Wf headD Cs Wj at hat
 rw [Qd t, Qd u] at hre
 rw [Qd u] at hli
 rw [Qd t]
 unfold Cs
 refine Qt.movd Qe (wpD_specD Wb Tryz.func36 rfl (Qy _ _ Tryz.func36 rfl (by decide)) rfl rfl ?_)
 (refine sR fun K hK => ?_; ((repeat (rw [Qa]; simp)); (try simp only [zs])); refine hK _ _ _ ?_; clear hK K)
 refine Qf fun K1 hK1 => ?_
 (refine sR fun K hK => ?_; ((repeat (rw [Qa]; simp [h0', h1'])); (try simp only [zs])); refine hK _ _ _ ?_; clear hK K)
 refine pF rfl ?_
 refine Qs (hK1 _ _ _ ?_)
 (refine sR fun K hK => ?_; ((repeat (rw [Qa]; simp)); (try simp only [zs])); refine hK _ _ _ ?_; clear hK K)
 (refine sR fun K hK => ?_; ((repeat (rw [Qa]; simp)); (try simp only [zs])))
 refine cXo [] true (hat) ?_
 (rintro o hc ⟨rfl, rfl⟩; refine ⟨false, ?_⟩; simp [zz, okA, Qx, Qu, hOf, Qg, Out.ren, told, Out.fgt, upO, Qi, Qk])
 ((try simp only [Qb, Qc, Ql, Qi, Qk]); (repeat (rw [Qa]; simp)); (try simp only [zs]))
 (refine hK _ _ _ ?_; clear hK K)
 (refine sR fun K hK => ?_; ((repeat (rw [Qa]; simp)); (try simp only [zs])))
 refine cXo [4, 5] true (hre) ?_
 (rintro o hc ⟨ho, rfl⟩; refine ⟨true, ?_⟩; rw [show told true o = _ from ho]; clear ho; simp [zz, okA, Qx, Qu, hOf, Qg, Out.ren, told, Out.fgt, upO, Qi, Qk])
 ((try simp only [Qb, Qc, Ql, Qi, Qk]); (repeat (rw [Qa]; simp)); (try simp only [zs]))
 refine cXp (hli) ?_
 ((try simp only [Qb, Qc, Ql, Qi, Qk]); (repeat (rw [Qa]; simp)); (try simp only [zs]))
 (refine hK _ _ _ ?_; clear hK K)
 (refine Qf fun K hK => ?_; refine dR fun KT hKT => ?_; ((repeat (rw [Qh]; simp)); (try simp only [Qm])))
 (refine hKT _ _ _ _ (by kernel_rfl) ?_; clear hKT KT; (try simp only [zs]))
 (refine hK _ _ _ ?_; clear hK K)
 refine Qj ?_
 refine DefX.objs Qe [1, 2, 3] (wcatch_idle u.k u.n u.a (f - n) 0 (.slice (u.ls.map Wp) .any) (.slice (u.ks.map Qv) .any)) ?_ ?_ (fun d h => by cases h) (by decide) (by simp) (by simp [zz, okA, Qx, Qu, hOf, Qg]) (by simp [zz, okA, Qx, Qu, hOf, Qg]) (by simp [zz, okA, Qx, Qu, hOf, Qg]) (by simp [zz, okA, Qx, Qu, hOf, Qg])
 ·rintro hc rfl
  simp [zz, okA, Qx, Qu, hOf, Qg, upO, Qi, Qk]
  refine endD.intro rfl (.inr ⟨[], by decide, by simp, ?_⟩)
  simp [Out.mov, Wk, Wl, Wr, D.mov, HO.mov, okM, Wn, Wg, zz, okA, Qx, Qu, hOf, Qg]
  simp [Out.fgt, Qd u, D.fgt, D.fgts]
 ·rintro hc rfl
  simp
theorem whnf_gone {l : List C} (hcs : okCs l) {t : T} {f q : Int} (h0 : 0 <= f) (h1 : f <= 1073741824) (ht : okT t) (hp : t.pot + 7 * f.toNat <= PM) (h : GoneAt l t f q) :
  Qt Tryz.prog glob 36 [Cs l, Qv t, .int .i64 f] [] (fun o _ => o.fgt = .ret (.tuple [Qv Wh, .int .i64 0, .int .i64 5])) := by
 have hat := hat_spec l f
 have hre := head_spec hcs _ _ t f false _ h0 rfl rfl ht hp (.gone h)
 have h0' : ¬ f < 0 := by omega
 have h1' : ¬ 1073741824 < f := by omega
 unfold GoneP Wf headD Cs Wj goneD at hre
 unfold Wf headD Cs Wj at hat
 rw [Qd t] at hre
 rw [Qd t, encZ]
 unfold Cs
 have hcg := wcatch_gone 0 0
 unfold goneD at hcg
 refine Qt.movd Qe (wpD_specD Wb Tryz.func36 rfl (Qy _ _ Tryz.func36 rfl (by decide)) rfl rfl ?_)
 (refine sR fun K hK => ?_; ((repeat (rw [Qa]; simp)); (try simp only [zs])); refine hK _ _ _ ?_; clear hK K)
 refine Qf fun K1 hK1 => ?_
 (refine sR fun K hK => ?_; ((repeat (rw [Qa]; simp [h0', h1'])); (try simp only [zs])); refine hK _ _ _ ?_; clear hK K)
 refine pF rfl ?_
 refine Qs (hK1 _ _ _ ?_)
 (refine sR fun K hK => ?_; ((repeat (rw [Qa]; simp)); (try simp only [zs])); refine hK _ _ _ ?_; clear hK K)
 (refine sR fun K hK => ?_; ((repeat (rw [Qa]; simp)); (try simp only [zs])))
 refine cXo [] true (hat) ?_
 (rintro o hc ⟨rfl, rfl⟩; refine ⟨false, ?_⟩; simp [zz, okA, Qx, Qu, hOf, Qg, Out.ren, told, Out.fgt, upO, Qi, Qk])
 ((try simp only [Qb, Qc, Ql, Qi, Qk]); (repeat (rw [Qa]; simp)); (try simp only [zs]))
 (refine hK _ _ _ ?_; clear hK K)
 (refine sR fun K hK => ?_; ((repeat (rw [Qa]; simp)); (try simp only [zs])))
 refine cXo [4, 5] true (hre) ?_
 (rintro o hc ⟨rfl, rfl⟩; refine ⟨false, ?_⟩; simp [zz, okA, Qx, Qu, hOf, Qg, Out.ren, told, Out.fgt, upO, Qi, Qk])
 (try simp only [zs])
 refine DefX.objs Qe [1, 2, 3] hcg ?_ ?_ (fun d h => by cases h; rfl) (by decide) (by simp) (by simp [zz, okA, Qx, Qu, hOf, Qg]) (by simp [zz, okA, Qx, Qu, hOf, Qg]) (by simp [zz, okA, Qx, Qu, hOf, Qg]) (by simp [zz, okA, Qx, Qu, hOf, Qg])
 ·rintro hc rfl
  simp [zz, okA, Qx, Qu, hOf, Qg, upO, Qi, Qk]
  refine endD.intro rfl (.inr ⟨[], by decide, by simp, ?_⟩)
  simp [Out.mov, Wk, Wl, Wr, D.mov, HO.mov, okM, Wn, Wg, zz, okA, Qx, Qu, hOf, Qg]
 ·rintro hc rfl
  simp
theorem hstep_fin {l : List C} (hcs : okCs l) {t : T} (ht : okS t) (h : Wo l t = none) : Qt Tryz.prog glob 16 [Cs l, Qv t] [] (fun o _ => o.fgt = .ret (.tuple [Qv t, .int .i64 0, .bool false])) := by
 have hat := hat_spec l 9223372036854775807
 have hre := headO_spec hcs 9223372036854775807 (by omega) _ t rfl ht
 rw [OneP_none h] at hre
 have hli := lift_spec t 0 0 ht.deep ht.1
 rw [lift_zero ht.1 0] at hli
 generalize t.trunc = v at hre
 unfold Wf headD Cs Wj at hre
 unfold Wf headD Cs Wj at hat
 rw [Qd t, Qd v] at hre
 rw [Qd t] at hli
 rw [Qd t]
 unfold Cs
 refine Qt.movd Qe (Qq Wb Tryz.func16 rfl (Qy _ _ Tryz.func16 rfl (by decide)) rfl rfl ?_)
 (refine sR fun K hK => ?_; ((repeat (rw [Qa]; simp)); (try simp only [zs])); refine hK _ _ _ ?_; clear hK K)
 (refine sR fun K hK => ?_; ((repeat (rw [Qa]; simp)); (try simp only [zs])))
 refine cXo [] true (hat) ?_
 (rintro o hc ⟨rfl, rfl⟩; refine ⟨false, ?_⟩; simp [zz, okA, Qx, Qu, hOf, Qg, Out.ren, told, Out.fgt, upO, Qi, Qk])
 ((try simp only [Qb, Qc, Ql, Qi, Qk]); (repeat (rw [Qa]; simp)); (try simp only [zs]))
 (refine hK _ _ _ ?_; clear hK K)
 (refine sR fun K hK => ?_; ((repeat (rw [Qa]; simp)); (try simp only [zs])); refine hK _ _ _ ?_; clear hK K)
 (refine sR fun K hK => ?_; ((repeat (rw [Qa]; simp)); (try simp only [zs])))
 refine cXo [2, 3] true (hre) ?_
 (rintro o hc ⟨ho, rfl⟩; refine ⟨true, ?_⟩; rw [show told true o = _ from ho]; clear ho; simp [zz, okA, Qx, Qu, hOf, Qg, Out.ren, told, Out.fgt, upO, Qi, Qk])
 ((try simp only [Qb, Qc, Ql, Qi, Qk]); (repeat (rw [Qa]; simp)); (try simp only [zs]))
 (refine hK _ _ _ ?_; clear hK K)
 refine Qf fun K1 hK1 => ?_
 (refine sR fun K hK => ?_; ((repeat (rw [Qa]; simp)); (try simp only [zs])); refine hK _ _ _ ?_; clear hK K)
 refine pT rfl ?_
 (refine sR fun K hK => ?_; ((repeat (rw [Qa]; simp)); (try simp only [zs])))
 refine cXp (hli) ?_
 ((try simp only [Qb, Qc, Ql, Qi, Qk]); (repeat (rw [Qa]; simp)); (try simp only [zs]))
 (refine hK _ _ _ ?_; clear hK K)
 (refine Qj ?_; (try simp only [zs]); refine Wc.ret rfl (.inl ?_); simp [Qp, Out.fgt, D.fgt, D.fgts])
theorem hstep_more {l : List C} (hcs : okCs l) {t u : T} {c : Nat} (ht : okS t) (h : Wo l t = some (u, c)) (hd : t.pot + 7 * c <= DM) : Qt Tryz.prog glob 16 [Cs l, Qv t] [] (fun o _ => o.fgt = .ret (.tuple [Qv u, .int .i64 c, .bool true])) := by
 have hat := hat_spec l 9223372036854775807
 have hre := headO_spec hcs 9223372036854775807 (by omega) _ t rfl ht
 have hc : (c : Int) <= 9223372036854775807 := by unfold DM at hd; omega
 rw [OneP_some h hc] at hre
 have hup := hstep_pot t h
 have huo := hstep_ok hcs.ok t ht.1 h
 have hli := lift_spec u 0 0 (by have := u.deep_nsz; have := nsz_pot u; omega) huo
 rw [lift_zero huo 0] at hli
 have hw : IntKind.i64.wrap (9223372036854775807 - (9223372036854775807 - (c : Int))) = c := by rw [i64w (by omega) (by omega)]; omega
 unfold Wf headD Cs Wj at hre
 unfold Wf headD Cs Wj at hat
 rw [Qd t, Qd u] at hre
 rw [Qd u] at hli
 rw [Qd t, Qd u]
 unfold Cs
 refine Qt.movd Qe (Qq Wb Tryz.func16 rfl (Qy _ _ Tryz.func16 rfl (by decide)) rfl rfl ?_)
 (refine sR fun K hK => ?_; ((repeat (rw [Qa]; simp)); (try simp only [zs])); refine hK _ _ _ ?_; clear hK K)
 (refine sR fun K hK => ?_; ((repeat (rw [Qa]; simp)); (try simp only [zs])))
 refine cXo [] true (hat) ?_
 (rintro o hc ⟨rfl, rfl⟩; refine ⟨false, ?_⟩; simp [zz, okA, Qx, Qu, hOf, Qg, Out.ren, told, Out.fgt, upO, Qi, Qk])
 ((try simp only [Qb, Qc, Ql, Qi, Qk]); (repeat (rw [Qa]; simp)); (try simp only [zs]))
 (refine hK _ _ _ ?_; clear hK K)
 (refine sR fun K hK => ?_; ((repeat (rw [Qa]; simp)); (try simp only [zs])); refine hK _ _ _ ?_; clear hK K)
 (refine sR fun K hK => ?_; ((repeat (rw [Qa]; simp)); (try simp only [zs])))
 refine cXo [2, 3] true (hre) ?_
 (rintro o hc ⟨ho, rfl⟩; refine ⟨true, ?_⟩; rw [show told true o = _ from ho]; clear ho; simp [zz, okA, Qx, Qu, hOf, Qg, Out.ren, told, Out.fgt, upO, Qi, Qk])
 ((try simp only [Qb, Qc, Ql, Qi, Qk]); (repeat (rw [Qa]; simp)); (try simp only [zs]))
 (refine hK _ _ _ ?_; clear hK K)
 refine Qf fun K1 hK1 => ?_
 (refine sR fun K hK => ?_; ((repeat (rw [Qa]; simp)); (try simp only [zs])); refine hK _ _ _ ?_; clear hK K)
 refine pF rfl ?_
 refine Qs (hK1 _ _ _ ?_)
 (refine Qf fun K hK => ?_; refine dR fun KT hKT => ?_; ((repeat (rw [Qh]; simp)); (try simp only [Qm])))
 refine cYp (hli) ?_
 ((try simp only [Qn, Qo, Ql, Qi, Qk]); (repeat (rw [Qh]; simp [hw])); (try simp only [Qm]))
 (refine hKT _ _ _ _ (by kernel_rfl) ?_; clear hKT KT; (try simp only [zs]))
 (refine hK _ _ _ ?_; clear hK K)
 (refine Qj ?_; (try simp only [zs]); refine Wc.ret rfl (.inl ?_); simp [Qp, Out.fgt, D.fgt, D.fgts])
def fuelE : D := .iface 33 (.int .i64 5)
def okP (f : Int) (t : T) : Prop := okT t /\ t.pot + 7 * f.toNat <= PM
theorem okP.le {f g : Int} {t : T} (h : okP f t) (hg : g <= f) : okP g t := ⟨h.1, by have := h.2; omega⟩
theorem okP.head {l : List C} (hcs : okCs l) {f g : Int} {t u : T} (h : okP f t) (hd : HdO l t f (some (u, g))) : okP g u := by
 obtain ⟨m, h1, h2, h3⟩ := hd.cost
 have := h1.pot
 have := h.2
 exact ⟨h1.ok hcs.ok h.1, by omega⟩
mutual
theorem pot_lift (n fr : Int) : ∀ (t : T) (d : Int), (T.walk (liftTurn n fr) t d).pot = t.pot
 | .mk k m a ls ks, d => by rw [walk_lift, T.pot, T.pot, pots_lift n fr k ks 0 d, T.walks_length]
theorem pots_lift (n fr k : Int) : ∀ (ks : List T) (i : Nat) (d : Int), T.pots (T.walks (liftTurn n fr) k ks i d) = T.pots ks
 | [], _, _ => by rw [T.walks]
 | t :: r, i, d => by rw [T.walks, T.pots, T.pots, pot_lift n fr t, pots_lift n fr k r]
end
inductive HeadsR (l : List C) (h : Nat) (x y : T) (f : Int) : Option (Bool × Int) -> Prop where
 | mis (hp : prs x y = none) : HeadsR l h x y f (some (false, f))
 | kids {ds bs : List T} {o : Option (Bool × Int)} (hp : prs x y = some (ds, bs)) (hk : CR l h ds bs f o) : HeadsR l h x y f o
inductive NmR (l : List C) (h : Nat) (ts : List T) (f : Int) : Option (List T × Int) -> Prop where
 | fin {n : Nat} {xs : List T} (H : Nms l h ts n xs) (hn : (n : Int) <= f) : NmR l h ts f (some (xs, f - n))
 | gone (H : NsGone l h ts f) : NmR l h ts f none
def glueN (es : List T) : Option (List T × Int) -> Option (List T × Int)
 | some (xs, g) => some (es ++ xs, g)
 | none => none
theorem glueN_glue (a b : List T) (o : Option (List T × Int)) : glueN a (glueN b o) = glueN (a ++ b) o := by
 cases o with
 | none => rfl
 | some v => unfold glueN; simp
theorem NmR.split {l : List C} {h : Nat} {t : T} {r : List T} {f : Int} {o : Option (List T × Int)} (H : NmR l h (t :: r) f o) :
  ∃ h', h = h' + 1 /\ ((∃ q, GoneAt l t f q /\ o = none) \/ ∃ (u : T) (m : Nat), Hd l t m u /\ (m : Int) <= f /\ ((NmR l h' u.ks (f - m) none /\ o = none) \/
   ∃ ks g o', NmR l h' u.ks (f - m) (some (ks, g)) /\ NmR l h r g o' /\ o = glueN [u.withKs ks] o')) := by
 cases H with
 | fin H hn =>
  cases H with
  | @cons h' _ u _ ks xs m n p hd hk hr =>
   refine ⟨h', rfl, .inr ⟨u, m, hd, by omega, .inr ⟨ks, f - m - n, _, .fin hk (by omega), .fin hr (by omega), ?_⟩⟩⟩
   unfold glueN
   simp
   omega
 | gone H =>
  cases H with
  | @head h' _ _ _ q g => exact ⟨h', rfl, .inl ⟨q, g, rfl⟩⟩
  | @kids h' _ u _ m _ hd hm g => exact ⟨h', rfl, .inr ⟨u, m, hd, hm, .inl ⟨.gone g, rfl⟩⟩⟩
  | @rest h' _ u _ ks m n _ hd hk hm g =>
   refine ⟨h', rfl, .inr ⟨u, m, hd, by omega, .inr ⟨ks, f - m - n, none, .fin hk (by omega), ?_, rfl⟩⟩⟩
   rw [show f - (m : Int) - n = f - (m + n) by omega]
   exact .gone g
theorem NmR.le {l : List C} {h : Nat} {ts xs : List T} {f g : Int} (H : NmR l h ts f (some (xs, g))) : 0 <= g /\ g <= f := by
 generalize ho : some (xs, g) = o at H
 cases H with
 | fin H hn => cases ho; omega
 | gone H => cases ho
theorem nmR_total (l : List C) (t : T) (f : Int) (h0 : 0 <= f) : ∃ h o, NmR l h [t] f o := by
 rcases nm_or l f.toNat t.pot t f h0 (by omega) (Nat.le_refl _) with ⟨h, n, x, H, hn⟩ | ⟨h, H⟩
 ·exact ⟨h, _, .fin H hn⟩
 ·exact ⟨h, _, .gone H⟩
def walkO (left : Int) (l : List C) : List HO := [.cells 80 [.int .i64 left, Cs l]]
theorem use_ok (left g : Int) (l : List C) : Qt Tryz.prog glob 86 [.box 0 0, .int .i64 g, .int .i64 0] (walkO left l) (fun o hc => o = .ret (.tuple []) /\ hc = walkO g l) := by
 unfold walkO Cs
 refine Qt.movd Qe (Qq Wb Tryz.func86 rfl (Qy _ _ Tryz.func86 rfl (by decide)) rfl rfl ?_)
 refine Qf fun K1 hK1 => ?_
 (refine sR fun K hK => ?_; ((repeat (rw [Qa]; simp)); (try simp only [zs])); refine hK _ _ _ ?_; clear hK K)
 refine pF rfl ?_
 refine Qs (hK1 _ _ _ ?_)
 (refine Qz Wb ?_; ((repeat (rw [Qa]; simp)); (try simp only [zs])))
 ((try simp only [zs]); refine Wc.nrm rfl (.inr ⟨[], by decide, by simp, ?_⟩); simp [Out.mov, Wk, Wl, Wr, D.mov, HO.mov, okM, Wn, Wg, zz, okA, Qx, Qu, hOf, Qg, Qp, Out.fgt, D.fgt, D.fgts])
theorem use_no (left g : Int) (l : List C) : Qt Tryz.prog glob 86 [.box 0 0, .int .i64 g, .int .i64 5] (walkO left l) (fun o hc => o = .pan fuelE /\ hc = [.dead]) := by
 refine Qt.dead (Post := fun o hc => o = .pan fuelE /\ hc = walkO left l) ?_ fun o hc hp => ⟨[.dead], fun r => by
  rw [hp.2]
  match r with
  | 0 => exact .inr rfl
  | r + 1 => exact .inl rfl, hp.1, rfl⟩
 unfold walkO Cs fuelE
 refine Qt.movd Qe (Qq Wb Tryz.func86 rfl (Qy _ _ Tryz.func86 rfl (by decide)) rfl rfl ?_)
 refine Qf fun K1 hK1 => ?_
 (refine sR fun K hK => ?_; ((repeat (rw [Qa]; simp)); (try simp only [zs])); refine hK _ _ _ ?_; clear hK K)
 refine pT rfl ?_
 (refine Qz Wb ?_; ((repeat (rw [Qa]; simp)); (try simp only [zs])))
 ((try simp only [zs]); refine Wc.pan (.inr ⟨[], by decide, by simp, ?_⟩); simp [Out.mov, Wk, Wl, Wr, D.mov, HO.mov, okM, Wn, Wg, zz, okA, Qx, Qu, hOf, Qg, Qp, Out.fgt, D.fgt, D.fgts])
def NP (l : List C) : Option (List T × Int) -> Out -> List HO -> Prop
 | some (xs, g) => fun o hc => o.fgt = .ret (Ts xs) /\ hc = walkO g l
 | none => fun o hc => o = .pan fuelE /\ hc = [.dead]
theorem NP_some {l : List C} {xs : List T} {g : Int} : NP l (some (xs, g)) = fun o hc => o.fgt = .ret (Ts xs) /\ hc = walkO g l := rfl
theorem NP_none {l : List C} : NP l none = fun o hc => o = .pan fuelE /\ hc = [.dead] := rfl
theorem ks_okP {f : Int} {t a : T} (ht : okP f t) (h : a ∈ t.ks) : okP f a := by
 refine ⟨ht.1.ks a h, ?_⟩
 have := ks_pot h
 have := ht.2
 omega
set_option maxHeartbeats 8000000 in
theorem nall_spec {l : List C} (hcs : okCs l) : ∀ (h : Nat) (ts : List T) (f : Int) (o : Option (List T × Int)), ts.length <= Wd -> 0 <= f -> f <= 1073741824 -> (∀ t, t ∈ ts -> okP f t) -> NmR l h ts f o ->
  Qt Tryz.prog glob 44 [.box 0 0, Ts ts] (walkO f l) (NP l o) := by
 intro h
 induction h with
 | zero =>
  intro ts f o hl h0 h1 hp H
  have hts : ts = [] := by
   cases ts with
   | nil => rfl
   | cons t r => obtain ⟨h', e, -⟩ := H.split; cases e
  have ho : o = some ([], f) := by
   rw [hts] at H
   cases H with
   | fin H hn => cases H; simp
   | gone H => cases H
  subst ho
  have hn0 : ts.length = 0 := by rw [hts]; rfl
  rw [NP_some]
  unfold Ts walkO Cs
  refine Qt.movd Qe (Qq Wb Tryz.func44 rfl (Qy _ _ Tryz.func44 rfl (by decide)) rfl rfl ?_)
  (refine sR fun K hK => ?_; ((repeat (rw [Qa]; simp)); (try simp only [zs])); refine hK _ _ _ ?_; clear hK K)
  refine Qf fun K1 hK1 => ?_
  (refine sR fun K hK => ?_; ((repeat (rw [Qa]; simp)); (try simp only [zs])); refine hK _ _ _ ?_; clear hK K)
  refine wpD_rangeJ Wb Qe (ti := 3) (tk := 12) (tn := 11) (td := 13) (ts := 46) [6, 7, 8, 9, 12, 13, 14, 15, 16, 17, 18, 19, 20, 21, 22, 23, 24, 25, 26, 27, 28, 29, 30, 31, 32, 33, 34, 35, 36, 37, 38, 39, 40, 41, 42, 43, 44, 45, 46] [4] (ts.length) (fun k ys hl => ys = [.slice [] .full] /\ hl = [.cells 80 [.int .i64 f, .slice (l.map encC) .any]]) rfl rfl rfl rfl rfl rfl rfl rfl rfl rfl rfl rfl (by simp) (by decide) rfl (by first | assumption | omega | (unfold Wd; omega)) rfl (by kernel_rfl) (by decide) ?_ ?_ ?_
  ·exact ⟨rfl, rfl⟩
  ·rintro i ys hl A hi ⟨rfl, rfl⟩ hA hA2
   exact absurd hi (by omega)
  ·rintro ys hl tl' ⟨rfl, rfl⟩ htl
   refine hK1 _ _ _ (wpD_weakL htl ?_)
   simp only [Qr, List.set, List.map_cons, List.map_nil, List.cons_append, List.nil_append]
   (refine sR fun K hK => ?_; ((repeat (rw [Qa]; simp)); (try simp only [zs])); refine hK _ _ _ ?_; clear hK K)
   (refine Qj ?_; (try simp only [zs]); refine Wc.ret rfl (.inr ⟨[], by decide, by simp, ?_⟩); simp [Out.mov, Wk, Wl, Wr, D.mov, HO.mov, okM, Wn, Wg, zz, okA, Qx, Qu, hOf, Qg, Qp, Out.fgt, D.fgt, D.fgts])
 | succ h ih =>
  intro ts f o hl h0 h1 hp H
  have hl0 := hl
  unfold Wd at hl0
  unfold Ts walkO Cs
  refine Qt.movd Qe (Qq Wb Tryz.func44 rfl (Qy _ _ Tryz.func44 rfl (by decide)) rfl rfl ?_)
  (refine sR fun K hK => ?_; ((repeat (rw [Qa]; simp)); (try simp only [zs])); refine hK _ _ _ ?_; clear hK K)
  refine wpD_tokT 4 ?_
  simp [D.tokd]
  refine Qf fun K1 hK1 => ?_
  (refine sR fun K hK => ?_; ((repeat (rw [Qa]; simp)); (try simp only [zs])); refine hK _ _ _ ?_; clear hK K)
  refine wpD_rangeJ Wb Qe (ti := 3) (tk := 12) (tn := 11) (td := 13) (ts := 46) [6, 7, 8, 9, 12, 13, 14, 15, 16, 17, 18, 19, 20, 21, 22, 23, 24, 25, 26, 27, 28, 29, 30, 31, 32, 33, 34, 35, 36, 37, 38, 39, 40, 41, 42, 43, 44, 45, 46] [4] (ts.length) (fun k ys hl => ∃ (g : Int) (es : List T) (o' : Option (List T × Int)), ys = [.slice (es.map Qv) (.tok 1)] /\ NmR l (h + 1) (ts.drop k) g o' /\ o = glueN es o' /\ es.length = k /\ 0 <= g /\ g <= f /\ hl = [.cells 80 [.int .i64 g, .slice (l.map encC) .any], .tok]) rfl rfl rfl rfl rfl rfl rfl rfl rfl rfl rfl rfl (by simp) (by decide) rfl (by first | assumption | omega | (unfold Wd; omega)) rfl (by kernel_rfl) (by decide) ?_ ?_ ?_
  ·exact ⟨f, [], o, rfl, H, (by cases o with | none => rfl | some v => rfl), rfl, h0, Int.le_refl _, rfl⟩
  ·rintro i ys hl A hi ⟨g, es, o', rfl, hg, ho, hes, hg0, hg1, rfl⟩ hA hA2
   simp only [Qr, List.set, List.map_cons, List.map_nil, List.cons_append, List.nil_append]
   have hi' : (i : Int) < ts.length := by omega
   rw [List.drop_eq_getElem_cons hi] at hg
   have hpo := (hp _ (List.getElem_mem hi)).le hg1
   obtain ⟨t, ht⟩ : ∃ t, ts[i] = t := ⟨_, rfl⟩
   rw [ht] at hg hpo
   have hEt := Qd t
   have hel : es.length + 1 <= Wd := by unfold Wd; omega
   obtain ⟨h', e, hc⟩ := hg.split
   cases e
   rcases hc with ⟨q, gn, rfl⟩ | ⟨u, m, hd, hm, hc⟩
   ·have wh := whnf_gone hcs hg0 (by omega) hpo.1 hpo.2 gn
    have us := use_no g 0 l
    have ho : o = none := ho
    subst ho
    rw [hEt, encZ] at wh
    unfold Cs at wh
    unfold walkO Cs fuelE at us
    rw [NP_none]
    unfold fuelE
    (refine sR fun K hK => ?_; ((repeat (rw [Qa]; simp [hi, hi', ht, hEt])); (try simp only [zs])); refine hK _ _ _ ?_; clear hK K)
    (refine Qf fun K hK => ?_; refine dR fun KT hKT => ?_; ((repeat (rw [Qh]; simp)); (try simp only [Qm])))
    refine cYp (wh) ?_
    ((try simp only [Qn, Qo, Ql, Qi, Qk]); (repeat (rw [Qh]; simp)); (try simp only [Qm]))
    (refine hKT _ _ _ _ (by kernel_rfl) ?_; clear hKT KT; (try simp only [zs]))
    (refine hK _ _ _ ?_; clear hK K)
    (refine sR fun K hK => ?_; ((repeat (rw [Qa]; simp)); (try simp only [zs])))
    refine cXo [0] false (us) ?_
    (rintro o hc ⟨rfl, rfl⟩; refine ⟨false, ?_⟩; simp [zz, okA, Qx, Qu, hOf, Qg, Out.ren, told, Out.fgt, upO, Qi, Qk])
    ((try simp only [zs]); refine Wc.pan (.inr ⟨[], by decide, by simp, ?_⟩); simp [Out.mov, Wk, Wl, Wr, D.mov, HO.mov, okM, Wn, Wg, zz, okA, Qx, Qu, hOf, Qg, Qp, Out.fgt, D.fgt, D.fgts])
   have wh := whnf_fin hcs hg0 (by omega) hpo.1 hpo.2 hd hm
   have us := use_ok g (g - m) l
   have hou : okP (g - m) u := hpo.head hcs (.fin hd hm)
   have hks := fun o'' hh => ih u.ks (g - m) o'' hou.1.kl (by omega) (by omega) (fun a ha => ks_okP hou ha) hh
   have hEu := Qd u
   have hlt1 : g - (m : Int) <= g := by omega
   generalize g - (m : Int) = g1 at wh us hks hc hlt1
   rw [hEt, hEu] at wh
   unfold Cs at wh
   unfold walkO Cs at us
   unfold Ts walkO Cs at hks
   rcases hc with ⟨c1, rfl⟩ | ⟨ks, g2, o2, c1, c2, rfl⟩
   ·have hal := hks _ c1
    rw [NP_none] at hal
    have ho : o = none := ho
    subst ho
    unfold fuelE at hal
    rw [NP_none]
    unfold fuelE
    (refine sR fun K hK => ?_; ((repeat (rw [Qa]; simp [hi, hi', ht, hEt])); (try simp only [zs])); refine hK _ _ _ ?_; clear hK K)
    (refine Qf fun K hK => ?_; refine dR fun KT hKT => ?_; ((repeat (rw [Qh]; simp)); (try simp only [Qm])))
    refine cYp (wh) ?_
    ((try simp only [Qn, Qo, Ql, Qi, Qk]); (repeat (rw [Qh]; simp)); (try simp only [Qm]))
    (refine hKT _ _ _ _ (by kernel_rfl) ?_; clear hKT KT; (try simp only [zs]))
    (refine hK _ _ _ ?_; clear hK K)
    (refine sR fun K hK => ?_; ((repeat (rw [Qa]; simp)); (try simp only [zs])))
    refine cXo [0] false (us) ?_
    (rintro o hc ⟨rfl, rfl⟩; refine ⟨false, ?_⟩; simp [zz, okA, Qx, Qu, hOf, Qg, Out.ren, told, Out.fgt, upO, Qi, Qk])
    ((try simp only [Qb, Qc, Ql, Qi, Qk]); (repeat (rw [Qa]; simp)); (try simp only [zs]))
    (refine hK _ _ _ ?_; clear hK K)
    (refine sR fun K hK => ?_; ((repeat (rw [Qa]; simp)); (try simp only [zs])))
    refine cXo [0] true (hal) ?_
    (rintro o hc ⟨rfl, rfl⟩; refine ⟨false, ?_⟩; simp [zz, okA, Qx, Qu, hOf, Qg, Out.ren, told, Out.fgt, upO, Qi, Qk])
    ((try simp only [zs]); refine Wc.pan (.inr ⟨[], by decide, by simp, ?_⟩); simp [Out.mov, Wk, Wl, Wr, D.mov, HO.mov, okM, Wn, Wg, zz, okA, Qx, Qu, hOf, Qg, Qp, Out.fgt, D.fgt, D.fgts])
   ·have hal := hks _ c1
    have hle := c1.le
    rw [NP_some] at hal
    unfold Ts walkO Cs at hal
    (refine sR fun K hK => ?_; ((repeat (rw [Qa]; simp [hi, hi', ht, hEt])); (try simp only [zs])); refine hK _ _ _ ?_; clear hK K)
    (refine Qf fun K hK => ?_; refine dR fun KT hKT => ?_; ((repeat (rw [Qh]; simp)); (try simp only [Qm])))
    refine cYp (wh) ?_
    ((try simp only [Qn, Qo, Ql, Qi, Qk]); (repeat (rw [Qh]; simp)); (try simp only [Qm]))
    (refine hKT _ _ _ _ (by kernel_rfl) ?_; clear hKT KT; (try simp only [zs]))
    (refine hK _ _ _ ?_; clear hK K)
    (refine sR fun K hK => ?_; ((repeat (rw [Qa]; simp)); (try simp only [zs])))
    refine cXo [0] false (us) ?_
    (rintro o hc ⟨rfl, rfl⟩; refine ⟨false, ?_⟩; simp [zz, okA, Qx, Qu, hOf, Qg, Out.ren, told, Out.fgt, upO, Qi, Qk])
    ((try simp only [Qb, Qc, Ql, Qi, Qk]); (repeat (rw [Qa]; simp)); (try simp only [zs]))
    (refine hK _ _ _ ?_; clear hK K)
    (refine sR fun K hK => ?_; ((repeat (rw [Qa]; simp)); (try simp only [zs])))
    refine cXo [0] true (hal) ?_
    (rintro o hc ⟨ho, rfl⟩; refine ⟨true, ?_⟩; rw [show told true o = _ from ho]; clear ho; simp [zz, okA, Qx, Qu, hOf, Qg, Out.ren, told, Out.fgt, upO, Qi, Qk])
    ((try simp only [Qb, Qc, Ql, Qi, Qk]); (repeat (rw [Qa]; simp)); (try simp only [zs]))
    (refine hK _ _ _ ?_; clear hK K)
    (refine Qz Wb ?_; ((repeat (rw [Qa]; simp [hel])); (try simp only [zs])))
    (refine hA2 ([4]) _ _ _ (LeT.refl _) (by decide) (by simp) (by simp [Wk, Wl, Wr, D.mov, HO.mov, okM, Wn, Wg, zz, okA, Qx, Qu, hOf, Qg, Qr]) ?_ rfl; simp [Wk, Wl, Wr, D.mov, HO.mov, okM, Wn, Wg, zz, okA, Qx, Qu, hOf, Qg])
    refine ⟨g2, es ++ [u.withKs ks], ?_, o2, c2, by rw [ho, glueN_glue], by simp [hes], hle.1, by omega, rfl⟩
    have e : (es ++ [u.withKs ks]).map Qv = es.map Qv ++ [D.agg [.int .i64 u.k, .int .i64 u.n, .int .i64 u.a, .slice (u.ls.map Wp) .any, .slice (ks.map Qv) .any]] := by
     rw [List.map_append, List.map_cons, List.map_nil]
     unfold T.withKs
     rw [encT_mk']
    rw [<- e, mapT_ren]
  ·rintro ys hl tl' ⟨g, es, o', rfl, hg, ho, hes, hg0, hg1, rfl⟩ htl
   refine hK1 _ _ _ (wpD_weakL htl ?_)
   rw [List.drop_length] at hg
   have ho' : o' = some ([], g) := by
    cases hg with
    | fin H hn => cases H; simp
    | gone H => cases H
   subst ho'
   have ho : o = some (es, g) := by rw [ho]; unfold glueN; simp
   subst ho
   rw [NP_some]
   unfold Ts walkO Cs
   simp only [Qr, List.set, List.map_cons, List.map_nil, List.cons_append, List.nil_append]
   refine wpD_fgtT 4 ?_
   simp [D.fgt]
   (refine sR fun K hK => ?_; ((repeat (rw [Qa]; simp)); (try simp only [zs])); refine hK _ _ _ ?_; clear hK K)
   (refine Qj ?_; (try simp only [zs]); refine Wc.ret rfl (.inr ⟨[], by decide, by simp, ?_⟩); simp [Out.mov, Wk, Wl, Wr, D.mov, HO.mov, okM, Wn, Wg, zz, okA, Qx, Qu, hOf, Qg, Qp, Out.fgt, D.fgt, D.fgts])
theorem ncatch_idle (k n a x y : Int) (ls ks : D) : SpecD Tryz.prog glob 43 [.box 0 0, .box 1 0, .box 2 0] [.cells 33 [.int .i64 y], .cells 27 [.int .i64 k, .int .i64 n, .int .i64 a, ls, ks], .cells 3 [.int .i64 x]] none
  (fun hc => hc = [.cells 33 [.int .i64 y], .cells 27 [.int .i64 k, .int .i64 n, .int .i64 a, ls, ks], .cells 3 [.int .i64 x]]) := by
 refine wpD_specd Wb Tryz.func43 rfl rfl (fun a w => rfl) rfl (Qy _ _ Tryz.func43 rfl (by decide)) rfl rfl ?_
 ((try simp only [Qb, Qc, Ql, Qi, Qk]); (repeat (rw [Qa]; simp)); (try simp only [zs]))
 (refine sR fun K hK => ?_; ((repeat (rw [Qa]; simp)); (try simp only [zs])); refine hK _ _ _ ?_; clear hK K)
 refine pF rfl ?_
 refine Qs ?_
 refine Wc.nrm rfl ?_
 simp [Qi]
theorem ncatch_gone (x y : Int) : SpecD Tryz.prog glob 43 [.box 0 0, .box 1 0, .box 2 0] [.cells 33 [.int .i64 y], .cells 27 [.int .i64 0, .int .i64 0, .int .i64 0, .slice [] .full, .slice [] .full], .cells 3 [.int .i64 x]] (some fuelE)
  (fun hc => hc = [.cells 33 [.int .i64 5], .cells 27 [.int .i64 0, .int .i64 0, .int .i64 0, .slice [] .full, .slice [] .full], .cells 3 [.int .i64 0]]) := by
 refine wpD_specd Wb Tryz.func43 rfl rfl (fun a w => rfl) rfl (Qy _ _ Tryz.func43 rfl (by decide)) rfl rfl ?_
 unfold fuelE
 ((try simp only [Qb, Qc, Ql, Qi, Qk]); (repeat (rw [Qa]; simp)); (try simp only [zs]))
 (refine sR fun K hK => ?_; ((repeat (rw [Qa]; simp)); (try simp only [zs])); refine hK _ _ _ ?_; clear hK K)
 refine pT rfl ?_
 (refine sR fun K hK => ?_; ((repeat (rw [Qa]; simp)); (try simp only [zs])); refine hK _ _ _ ?_; clear hK K)
 refine Qf fun K1 hK1 => ?_
 (refine sR fun K hK => ?_; ((repeat (rw [Qa]; simp)); (try simp only [zs])); refine hK _ _ _ ?_; clear hK K)
 (refine sR fun K hK => ?_; ((repeat (rw [Qa]; simp)); (try simp only [zs])); refine hK _ _ _ ?_; clear hK K)
 refine pF rfl ?_
 refine Qs (hK1 _ _ _ ?_)
 (refine Qz Wb ?_; ((repeat (rw [Qa]; simp)); (try simp only [zs])))
 refine Wc.nrm rfl ?_
 simp
def normD : Option (List T × Int) -> D
 | some (x :: _, g) => .tuple [Qv x, .int .i64 g, .int .i64 0]
 | _ => .tuple [Qv Wh, .int .i64 0, .int .i64 5]
theorem normT_spec {l : List C} (hcs : okCs l) {h : Nat} {t : T} {f : Int} {r : Option (List T × Int)} (h0 : 0 <= f) (h1 : f <= 1073741824) (ht : okP f t) (hr : NmR l h [t] f r) :
  Qt Tryz.prog glob 13 [Cs l, Qv t, .int .i64 f] [] (fun o _ => o.fgt = .ret (normD r)) := by
 have al := nall_spec hcs h [t] f r (by unfold Wd; simp) h0 h1 (fun x hx => by rw [List.mem_singleton.1 hx]; exact ht) hr
 have hEt := Qd t
 unfold Ts at al
 simp only [List.map_cons, List.map_nil] at al
 cases r with
 | none =>
  rw [NP_none] at al
  unfold walkO Cs fuelE at al
  unfold normD Cs
  have hcg := ncatch_gone 0 0
  unfold fuelE at hcg
  rw [hEt] at al
  rw [hEt, encZ]
  refine Qt.movd Qe (wpD_specD Wb Tryz.func13 rfl (Qy _ _ Tryz.func13 rfl (by decide)) rfl rfl ?_)
  (refine sR fun K hK => ?_; ((repeat (rw [Qa]; simp)); (try simp only [zs])); refine hK _ _ _ ?_; clear hK K)
  (refine sR fun K hK => ?_; ((repeat (rw [Qa]; simp)); (try simp only [zs])); refine hK _ _ _ ?_; clear hK K)
  (refine sR fun K hK => ?_; ((repeat (rw [Qa]; simp)); (try simp only [zs])); refine hK _ _ _ ?_; clear hK K)
  (refine sR fun K hK => ?_; ((repeat (rw [Qa]; simp)); (try simp only [zs])))
  refine cXo [4] true (al) ?_
  (rintro o hc ⟨rfl, rfl⟩; refine ⟨false, ?_⟩; simp [zz, okA, Qx, Qu, hOf, Qg, Out.ren, told, Out.fgt, upO, Qi, Qk])
  (try simp only [zs])
  refine DefX.objs Qe [3, 1, 2] hcg ?_ ?_ (fun d h => by cases h; rfl) (by decide) (by simp) (by simp [zz, okA, Qx, Qu, hOf, Qg]) (by simp [zz, okA, Qx, Qu, hOf, Qg]) (by simp [zz, okA, Qx, Qu, hOf, Qg]) (by simp [zz, okA, Qx, Qu, hOf, Qg])
  ·rintro hc rfl
   simp [zz, okA, Qx, Qu, hOf, Qg, upO, Qi, Qk]
   refine endD.intro rfl (.inr ⟨[], by decide, by simp, ?_⟩)
   simp [Out.mov, Wk, Wl, Wr, D.mov, HO.mov, okM, Wn, Wg, zz, okA, Qx, Qu, hOf, Qg]
   try simp [Out.fgt, D.fgt, D.fgts]
  ·rintro hc rfl
   simp
 | some v =>
  obtain ⟨xs, g⟩ := v
  obtain ⟨x, rfl⟩ : ∃ x, xs = [x] := by
   generalize ho : some (xs, g) = o at hr
   cases hr with
   | fin H hn => cases ho; exact List.length_eq_one_iff.1 H.len
   | gone H => cases ho
  rw [NP_some] at al
  unfold Ts walkO Cs at al
  simp only [List.map_cons, List.map_nil] at al
  unfold normD Cs
  have hEx := Qd x
  rw [hEt, hEx] at al
  rw [hEt]
  refine Qt.movd Qe (wpD_specD Wb Tryz.func13 rfl (Qy _ _ Tryz.func13 rfl (by decide)) rfl rfl ?_)
  (refine sR fun K hK => ?_; ((repeat (rw [Qa]; simp)); (try simp only [zs])); refine hK _ _ _ ?_; clear hK K)
  (refine sR fun K hK => ?_; ((repeat (rw [Qa]; simp)); (try simp only [zs])); refine hK _ _ _ ?_; clear hK K)
  (refine sR fun K hK => ?_; ((repeat (rw [Qa]; simp)); (try simp only [zs])); refine hK _ _ _ ?_; clear hK K)
  (refine sR fun K hK => ?_; ((repeat (rw [Qa]; simp)); (try simp only [zs])))
  refine cXo [4] true (al) ?_
  (rintro o hc ⟨ho, rfl⟩; refine ⟨true, ?_⟩; rw [show told true o = _ from ho]; clear ho; simp [zz, okA, Qx, Qu, hOf, Qg, Out.ren, told, Out.fgt, upO, Qi, Qk])
  ((try simp only [Qb, Qc, Ql, Qi, Qk]); (repeat (rw [Qa]; simp)); (try simp only [zs]))
  (refine hK _ _ _ ?_; clear hK K)
  (refine Qf fun K hK => ?_; refine dR fun KT hKT => ?_; ((repeat (rw [Qh]; simp)); (try simp only [Qm])))
  (refine hKT _ _ _ _ (by kernel_rfl) ?_; clear hKT KT; (try simp only [zs]))
  (refine hK _ _ _ ?_; clear hK K)
  refine Qj ?_
  refine DefX.objs Qe [3, 1, 2] (ncatch_idle x.k x.n x.a g 0 (.slice (x.ls.map Wp) .any) (.slice (x.ks.map Qv) .any)) ?_ ?_ (fun d h => by cases h) (by decide) (by simp) (by simp [zz, okA, Qx, Qu, hOf, Qg]) (by simp [zz, okA, Qx, Qu, hOf, Qg]) (by simp [zz, okA, Qx, Qu, hOf, Qg]) (by simp [zz, okA, Qx, Qu, hOf, Qg])
  ·rintro hc rfl
   simp [zz, okA, Qx, Qu, hOf, Qg, upO, Qi, Qk]
   refine endD.intro rfl (.inr ⟨[], by decide, by simp, ?_⟩)
   simp [Out.mov, Wk, Wl, Wr, D.mov, HO.mov, okM, Wn, Wg, zz, okA, Qx, Qu, hOf, Qg]
   simp [Out.fgt, Qd x, D.fgt, D.fgts]
  ·rintro hc rfl
   simp
def idxOf (b : Bool) : List Bool -> Int -> Int
 | [], _ => -1
 | x :: r, i => if b = x then i else idxOf b r (i + 1)
theorem idxOf_at {b : Bool} {l : List Bool} {k : Nat} (h : k < l.length) : idxOf b (l.drop k) k = if b = l[k] then (k : Int) else idxOf b (l.drop (k + 1)) ((k + 1 : Nat) : Int) := by
 rw [List.drop_eq_getElem_cons h, idxOf]; simp
theorem indexB_spec (l : List Bool) (b : Bool) (hl : l.length <= Wd) : Qt Tryz.prog glob 196 [Xb l, .bool b] [] (fun o _ => o.fgt = .ret (.int .i64 (idxOf b l 0))) := by
 obtain ⟨R, hR⟩ : ∃ R, R = idxOf b l 0 := ⟨_, rfl⟩
 rw [<- hR]
 refine Qt.movd Qe (Qq Wb Tryz.func196 rfl (Qy _ _ Tryz.func196 rfl (by decide)) rfl rfl ?_)
 unfold Xb
 (refine sR fun K hK => ?_; ((repeat (rw [Qa]; simp)); (try simp only [zs])); refine hK _ _ _ ?_; clear hK K)
 refine Qf fun K1 hK1 => ?_
 (refine sR fun K hK => ?_; ((repeat (rw [Qa]; simp)); (try simp only [zs])); refine hK _ _ _ ?_; clear hK K)
 refine wpD_rangeJ Wb Qe (ti := 3) (tk := 8) (tn := 7) (td := 9) (ts := 18) [4, 5, 8, 9, 10, 11, 12, 13, 14, 15, 16, 17, 18] [] (l.length) (fun k ys hl => ys = [] /\ R = idxOf b (l.drop k) k /\ hl = []) rfl rfl rfl rfl rfl rfl rfl rfl rfl rfl rfl rfl (by simp) (by decide) rfl (by first | assumption | omega | (unfold Wd; omega)) rfl (by kernel_rfl) (by decide) ?_ ?_ ?_
 ·exact ⟨rfl, hR, rfl⟩
 ·rintro i ys hl A hi ⟨rfl, hF, rfl⟩ hA hA2
  simp only [Qr, List.set, List.map_cons, List.map_nil, List.cons_append, List.nil_append]
  have hi' : (i : Int) < l.length := by omega
  rw [idxOf_at hi] at hF
  obtain ⟨x, hx⟩ : ∃ x, l[i] = x := ⟨_, rfl⟩
  rw [hx] at hF
  (refine sR fun K hK => ?_; ((repeat (rw [Qa]; simp)); (try simp only [zs])); refine hK _ _ _ ?_; clear hK K)
  (refine sR fun K hK => ?_; ((repeat (rw [Qa]; simp [hi, hi', hx, pairX])); (try simp only [zs])); refine hK _ _ _ ?_; clear hK K)
  by_cases hb : b = x
  ·rw [if_pos hb] at hF
   subst hb
   refine wpD_part rfl (fun _ => ?_) (fun h => absurd h (by simp))
   (refine sR fun K hK => ?_; ((repeat (rw [Qa]; simp)); (try simp only [zs])); refine hK _ _ _ ?_; clear hK K)
   (refine Qj ?_; (try simp only [zs]); refine Wc.ret rfl (.inl ?_); simp [Qp, Out.fgt, D.fgt, D.fgts])
   exact hF.symm
  ·rw [if_neg hb] at hF
   refine wpD_part rfl (fun h => absurd (by simpa using h) hb) (fun _ => ?_)
   refine Qs ?_
   (refine hA2 ([]) _ _ _ (LeT.refl _) (by decide) (by simp) (by simp [Wk, Wl, Wr, D.mov, HO.mov, okM, Wn, Wg, zz, okA, Qx, Qu, hOf, Qg, Qr]) ?_ rfl; simp [Wk, Wl, Wr, D.mov, HO.mov, okM, Wn, Wg, zz, okA, Qx, Qu, hOf, Qg])
   exact hF
 ·rintro ys hl tl' ⟨rfl, hF, rfl⟩ htl
  refine hK1 _ _ _ (wpD_weakL htl ?_)
  simp only [Qr, List.set, List.map_cons, List.map_nil, List.cons_append, List.nil_append]
  rw [List.drop_length, idxOf] at hF
  subst hF
  (refine sR fun K hK => ?_; ((repeat (rw [Qa]; simp)); (try simp only [zs])); refine hK _ _ _ ?_; clear hK K)
  (refine Qj ?_; (try simp only [zs]); refine Wc.ret rfl (.inl ?_); simp [Qp, Out.fgt, D.fgt, D.fgts])
theorem idx_mem : ∀ (l : List Bool) (b : Bool) (i : Int), 0 <= i -> (0 <= idxOf b l i ↔ b ∈ l)
 | [], b, i, h => by simp [idxOf]
 | x :: r, b, i, h => by
  rw [idxOf]
  by_cases hx : b = x
  ·simp [hx, h]
  ·rw [if_neg hx, idx_mem r b (i + 1) (by omega)]; simp [hx]
theorem containsB_spec (l : List Bool) (b : Bool) (hl : l.length <= Wd) : Qt Tryz.prog glob 150 [Xb l, .bool b] [] (fun o _ => o.fgt = .ret (.bool (decide (b ∈ l)))) := by
 refine Qt.movd Qe (Qq Wb Tryz.func150 rfl (Qy _ _ Tryz.func150 rfl (by decide)) rfl rfl ?_)
 unfold Xb
 (refine sR fun K hK => ?_; ((repeat (rw [Qa]; simp)); (try simp only [zs])); refine hK _ _ _ ?_; clear hK K)
 (refine sR fun K hK => ?_; ((repeat (rw [Qa]; simp)); (try simp only [zs])))
 refine Xi.pure Qe (indexB_spec l b hl) ?_ (by simp [D.fgts, D.fgt, Xb]) (by simp [D.pures, D.pure, Cp.free, D.pures_map, Xb]) (by simp [Out.pure, D.pure, D.pures, Cp.free, D.pures_map, Xb])
 ((try simp only [Qb, Qc, Ql, Qi, Qk]); (repeat (rw [Qa]; simp)); (try simp only [zs]))
 (refine hK _ _ _ ?_; clear hK K)
 (refine Qj ?_; (try simp only [zs]); refine Wc.ret rfl (.inl ?_); simp [Qp, Out.fgt, D.fgt, D.fgts])
 exact idx_mem l b 0 (by omega)
def Wi : D := .iface 146 (.agg [])
theorem must_spec (l : List Bool) (hl : l.length <= Wd) : Qt Tryz.prog glob 104 [Xb l] [] (fun o _ => o.fgt = if false ∈ l then .pan Wi else .ret (.tuple [])) := by
 refine Qt.movd Qe (Qq Wb Tryz.func104 rfl (Qy _ _ Tryz.func104 rfl (by decide)) rfl rfl ?_)
 unfold Xb
 (refine sR fun K hK => ?_; ((repeat (rw [Qa]; simp)); (try simp only [zs])))
 refine Xi.pure Qe (containsB_spec l false hl) ?_ (by simp [D.fgts, D.fgt, Xb]) (by simp [D.pures, D.pure, Cp.free, D.pures_map, Xb]) (by simp [Out.pure, D.pure, D.pures, Cp.free, D.pures_map, Xb])
 ((try simp only [Qb, Qc, Ql, Qi, Qk]); (repeat (rw [Qa]; simp)); (try simp only [zs]))
 (refine hK _ _ _ ?_; clear hK K)
 refine wpD_part rfl (fun h => ?_) (fun h => ?_)
 ·replace h : false ∈ l := by simpa using h
  (refine Qz Wb ?_; ((repeat (rw [Qa]; simp)); (try simp only [zs])))
  ((try simp only [zs]); refine Wc.pan (.inl ?_); simp [Out.fgt, D.fgt, D.fgts])
  simp [h, Wi]
 ·replace h : ¬ false ∈ l := by simpa using h
  refine Qs ?_
  ((try simp only [zs]); refine Wc.nrm rfl (.inl ?_); simp [Qp, Out.fgt, D.fgt, D.fgts])
  simp [h]
theorem must_ok (l : List Bool) (h : l.all id = true) (hl : l.length <= Wd := by simp [Wd]) : Qt Tryz.prog glob 104 [Xb l] [] (fun o _ => o.fgt = .ret (.tuple [])) := by
 have := must_spec l hl
 rw [if_neg (by simpa using h)] at this
 exact this
theorem must_no (l : List Bool) (h : l.all id = false) (hl : l.length <= Wd := by simp [Wd]) : Qt Tryz.prog glob 104 [Xb l] [] (fun o _ => o.fgt = .pan Wi) := by
 have := must_spec l hl
 rw [if_pos (by simpa using h)] at this
 exact this
def Xp (b : Bool) (d : D) : Out := if b then .ret d else .pan Wi
theorem bare_spec (t : T) : Qt Tryz.prog glob 198 [Qv t] [] (fun o _ => o.fgt = Xp (bareB t) (.tuple [])) := by
 refine Qt.movd Qe (Qq Wb Tryz.func198 rfl (Qy _ _ Tryz.func198 rfl (by decide)) rfl rfl ?_)
 (refine sR fun K hK => ?_; ((repeat (rw [Qa]; simp)); (try simp only [zs])); refine hK _ _ _ ?_; clear hK K)
 cases hb : bareB t with
 | true =>
  (refine Qz Wb ?_; ((repeat (rw [Qa]; simp)); (try simp only [zs])))
  refine Xi.pure Qe (must_ok [decide (t.n = 0), decide (t.a = 0), decide (t.ls = [])] (by simpa [bareB, and_assoc] using hb)) ?_ (by simp [D.fgts, D.fgt, Xb]) (by simp [D.pures, D.pure, Cp.free, D.pures_map, Xb]) (by simp [Out.pure, D.pure, D.pures, Cp.free, D.pures_map, Xb])
  ((try simp only [Qb, Qc, Ql, Qi, Qk]); (repeat (rw [Qa]; simp)); (try simp only [zs]))
  ((try simp only [zs]); refine Wc.nrm rfl (.inl ?_); simp [Qp, Out.fgt, D.fgt, D.fgts])
  rfl
 | false =>
  (refine Qz Wb ?_; ((repeat (rw [Qa]; simp)); (try simp only [zs])))
  refine Xi.pure Qe (must_no [decide (t.n = 0), decide (t.a = 0), decide (t.ls = [])] (by simpa [bareB, -Bool.and_eq_false_imp, Bool.and_assoc] using hb)) ?_ (by simp [D.fgts, D.fgt, Xb, Wi]) (by simp [D.pures, D.pure, Cp.free, D.pures_map, Xb, Wi]) (by simp [Out.pure, D.pure, D.pures, Cp.free, D.pures_map, Xb, Wi])
  ((try simp only [Qb, Qc, Ql, Qi, Qk]); (repeat (rw [Qa]; simp)); (try simp only [zs]))
  ((try simp only [zs]); refine Wc.pan (.inl ?_); simp [Out.fgt, D.fgt, D.fgts])
  rfl
def scopeD (n sc : Int) : D := .agg [.int .i64 n, .int .i64 sc]
theorem sbelow_spec (n sc m : Int) : Qt Tryz.prog glob 164 [scopeD n sc, .int .i64 m] [] (fun o _ => o.fgt = .ret (scopeD n (IntKind.i64.wrap (sc + m)))) := by
 refine Qt.movd Qe (Qq Wb Tryz.func164 rfl (Qy _ _ Tryz.func164 rfl (by decide)) rfl rfl ?_)
 unfold scopeD
 (refine sR fun K hK => ?_; ((repeat (rw [Qa]; simp)); (try simp only [zs])); refine hK _ _ _ ?_; clear hK K)
 (refine sR fun K hK => ?_; ((repeat (rw [Qa]; simp)); (try simp only [zs])); refine hK _ _ _ ?_; clear hK K)
 (refine Qj ?_; (try simp only [zs]); refine Wc.ret rfl (.inl ?_); simp [Qp, Out.fgt, D.fgt, D.fgts])
def coreAsk : List (Int × FuncId) := [(1, 151), (2, 152), (3, 153), (4, 154), (5, 154), (6, 154), (7, 155),
 (12, 154), (13, 154), (14, 156), (15, 156), (16, 154), (17, 154), (18, 157), (19, 155),
 (20, 158), (21, 159), (22, 160), (23, 161), (24, 162)]
def coreKeys : List D := coreAsk.map fun p => .int .i64 p.1
def coreVals : List D := coreAsk.map fun p => .fn (.func p.2) [] []
def coreMap : D := .mapc coreKeys coreVals
@[simp high] theorem coreMap_fgt : coreMap.fgt = coreMap := rfl
@[simp high] theorem coreMap_pure : coreMap.pure = true := by kernel_rfl
@[simp high] theorem coreMap_one : coreMap.one = true := rfl
@[simp high] theorem coreMap_cells : coreMap.cells = [coreMap] := rfl
@[simp high] theorem coreMap_size : coreMap.size = 1 := rfl
@[simp high] theorem coreMap_frz (bx : FK) (i : Nat) (x : D) : D.frz bx i x coreMap = coreMap := D.frz_pure bx i x _ coreMap_pure
@[simp high] theorem coreMap_low (m : Nat) : coreMap.low m = true := D.low_pure m _ coreMap_pure
@[simp high] theorem coreKeys_pure : D.pures coreKeys = true := by kernel_rfl
@[simp high] theorem coreVals_pure : D.pures coreVals = true := by kernel_rfl
@[simp high] theorem coreKeys_okN (p : Nat -> Bool) : D.okNs p coreKeys = true := D.okNs_pure p _ coreKeys_pure
@[simp high] theorem coreVals_okN (p : Nat -> Bool) : D.okNs p coreVals = true := D.okNs_pure p _ coreVals_pure
@[simp high] theorem coreKeys_ren (σ : Nat -> Nat) : D.rens σ coreKeys = coreKeys := D.rens_pure σ _ coreKeys_pure
@[simp high] theorem coreVals_ren (σ : Nat -> Nat) : D.rens σ coreVals = coreVals := D.rens_pure σ _ coreVals_pure
@[simp high] theorem coreMap_okN (p : Nat -> Bool) : D.okN p coreMap = true := D.okN_pure p _ coreMap_pure
@[simp high] theorem coreMap_ren (σ : Nat -> Nat) : D.ren σ coreMap = coreMap := D.ren_pure σ _ coreMap_pure
def walkD (n sc : Int) (cs : List Int) : D := .agg [.int .i64 n, .int .i64 sc, Ints cs, coreMap]
theorem two_spec (n sc : Int) (cs : List Int) (t : T) : Qt Tryz.prog glob 154 [walkD n sc cs, Qv t] [] (fun o _ => o.fgt = Xp (bareB t) (.int .i64 2)) := by
 refine Qt.movd Qe (Qq Wb Tryz.func154 rfl (Qy _ _ Tryz.func154 rfl (by decide)) rfl rfl ?_)
 unfold walkD Ints
 (refine sR fun K hK => ?_; ((repeat (rw [Qa]; simp)); (try simp only [zs])); refine hK _ _ _ ?_; clear hK K)
 have hb := bare_spec t
 cases h : bareB t with
 | true =>
  simp only [h, Xp, if_true, if_false, Bool.false_eq_true] at hb
  (refine sR fun K hK => ?_; ((repeat (rw [Qa]; simp)); (try simp only [zs])))
  refine Xi.pure Qe (hb) ?_ (by simp [D.fgts, D.fgt, Qd t]) (by simp [D.pures, D.pure, Cp.free, D.pures_map, Qd t]) (by simp [Out.pure, D.pure, D.pures, Cp.free, D.pures_map, Qd t])
  ((try simp only [Qb, Qc, Ql, Qi, Qk]); (repeat (rw [Qa]; simp)); (try simp only [zs]))
  (refine hK _ _ _ ?_; clear hK K)
  (refine sR fun K hK => ?_; ((repeat (rw [Qa]; simp)); (try simp only [zs])); refine hK _ _ _ ?_; clear hK K)
  (refine Qj ?_; (try simp only [zs]); refine Wc.ret rfl (.inl ?_); simp [Qp, Out.fgt, D.fgt, D.fgts])
  rfl
 | false =>
  simp only [h, Xp, if_true, if_false, Bool.false_eq_true] at hb
  (refine sR fun K hK => ?_; ((repeat (rw [Qa]; simp)); (try simp only [zs])))
  refine Xi.pure Qe (hb) ?_ (by simp [D.fgts, D.fgt, Qd t, Wi]) (by simp [D.pures, D.pure, Cp.free, D.pures_map, Qd t, Wi]) (by simp [Out.pure, D.pure, D.pures, Cp.free, D.pures_map, Qd t, Wi])
  ((try simp only [Qb, Qc, Ql, Qi, Qk]); (repeat (rw [Qa]; simp)); (try simp only [zs]))
  ((try simp only [zs]); refine Wc.pan (.inl ?_); simp [Out.fgt, D.fgt, D.fgts])
  rfl
theorem three_spec (n sc : Int) (cs : List Int) (t : T) : Qt Tryz.prog glob 155 [walkD n sc cs, Qv t] [] (fun o _ => o.fgt = Xp (bareB t) (.int .i64 3)) := by
 refine Qt.movd Qe (Qq Wb Tryz.func155 rfl (Qy _ _ Tryz.func155 rfl (by decide)) rfl rfl ?_)
 unfold walkD Ints
 (refine sR fun K hK => ?_; ((repeat (rw [Qa]; simp)); (try simp only [zs])); refine hK _ _ _ ?_; clear hK K)
 have hb := bare_spec t
 cases h : bareB t with
 | true =>
  simp only [h, Xp, if_true, if_false, Bool.false_eq_true] at hb
  (refine sR fun K hK => ?_; ((repeat (rw [Qa]; simp)); (try simp only [zs])))
  refine Xi.pure Qe (hb) ?_ (by simp [D.fgts, D.fgt, Qd t]) (by simp [D.pures, D.pure, Cp.free, D.pures_map, Qd t]) (by simp [Out.pure, D.pure, D.pures, Cp.free, D.pures_map, Qd t])
  ((try simp only [Qb, Qc, Ql, Qi, Qk]); (repeat (rw [Qa]; simp)); (try simp only [zs]))
  (refine hK _ _ _ ?_; clear hK K)
  (refine sR fun K hK => ?_; ((repeat (rw [Qa]; simp)); (try simp only [zs])); refine hK _ _ _ ?_; clear hK K)
  (refine Qj ?_; (try simp only [zs]); refine Wc.ret rfl (.inl ?_); simp [Qp, Out.fgt, D.fgt, D.fgts])
  rfl
 | false =>
  simp only [h, Xp, if_true, if_false, Bool.false_eq_true] at hb
  (refine sR fun K hK => ?_; ((repeat (rw [Qa]; simp)); (try simp only [zs])))
  refine Xi.pure Qe (hb) ?_ (by simp [D.fgts, D.fgt, Qd t, Wi]) (by simp [D.pures, D.pure, Cp.free, D.pures_map, Qd t, Wi]) (by simp [Out.pure, D.pure, D.pures, Cp.free, D.pures_map, Qd t, Wi])
  ((try simp only [Qb, Qc, Ql, Qi, Qk]); (repeat (rw [Qa]; simp)); (try simp only [zs]))
  ((try simp only [zs]); refine Wc.pan (.inl ?_); simp [Out.fgt, D.fgt, D.fgts])
  rfl
theorem one_spec (n sc : Int) (cs : List Int) (t : T) : Qt Tryz.prog glob 156 [walkD n sc cs, Qv t] [] (fun o _ => o.fgt = Xp (bareB t) (.int .i64 1)) := by
 refine Qt.movd Qe (Qq Wb Tryz.func156 rfl (Qy _ _ Tryz.func156 rfl (by decide)) rfl rfl ?_)
 unfold walkD Ints
 (refine sR fun K hK => ?_; ((repeat (rw [Qa]; simp)); (try simp only [zs])); refine hK _ _ _ ?_; clear hK K)
 have hb := bare_spec t
 cases h : bareB t with
 | true =>
  simp only [h, Xp, if_true, if_false, Bool.false_eq_true] at hb
  (refine sR fun K hK => ?_; ((repeat (rw [Qa]; simp)); (try simp only [zs])))
  refine Xi.pure Qe (hb) ?_ (by simp [D.fgts, D.fgt, Qd t]) (by simp [D.pures, D.pure, Cp.free, D.pures_map, Qd t]) (by simp [Out.pure, D.pure, D.pures, Cp.free, D.pures_map, Qd t])
  ((try simp only [Qb, Qc, Ql, Qi, Qk]); (repeat (rw [Qa]; simp)); (try simp only [zs]))
  (refine hK _ _ _ ?_; clear hK K)
  (refine sR fun K hK => ?_; ((repeat (rw [Qa]; simp)); (try simp only [zs])); refine hK _ _ _ ?_; clear hK K)
  (refine Qj ?_; (try simp only [zs]); refine Wc.ret rfl (.inl ?_); simp [Qp, Out.fgt, D.fgt, D.fgts])
  rfl
 | false =>
  simp only [h, Xp, if_true, if_false, Bool.false_eq_true] at hb
  (refine sR fun K hK => ?_; ((repeat (rw [Qa]; simp)); (try simp only [zs])))
  refine Xi.pure Qe (hb) ?_ (by simp [D.fgts, D.fgt, Qd t, Wi]) (by simp [D.pures, D.pure, Cp.free, D.pures_map, Qd t, Wi]) (by simp [Out.pure, D.pure, D.pures, Cp.free, D.pures_map, Qd t, Wi])
  ((try simp only [Qb, Qc, Ql, Qi, Qk]); (repeat (rw [Qa]; simp)); (try simp only [zs]))
  ((try simp only [zs]); refine Wc.pan (.inl ?_); simp [Out.fgt, D.fgt, D.fgts])
  rfl
theorem five_spec (n sc : Int) (cs : List Int) (t : T) : Qt Tryz.prog glob 157 [walkD n sc cs, Qv t] [] (fun o _ => o.fgt = Xp (bareB t) (.int .i64 5)) := by
 refine Qt.movd Qe (Qq Wb Tryz.func157 rfl (Qy _ _ Tryz.func157 rfl (by decide)) rfl rfl ?_)
 unfold walkD Ints
 (refine sR fun K hK => ?_; ((repeat (rw [Qa]; simp)); (try simp only [zs])); refine hK _ _ _ ?_; clear hK K)
 have hb := bare_spec t
 cases h : bareB t with
 | true =>
  simp only [h, Xp, if_true, if_false, Bool.false_eq_true] at hb
  (refine sR fun K hK => ?_; ((repeat (rw [Qa]; simp)); (try simp only [zs])))
  refine Xi.pure Qe (hb) ?_ (by simp [D.fgts, D.fgt, Qd t]) (by simp [D.pures, D.pure, Cp.free, D.pures_map, Qd t]) (by simp [Out.pure, D.pure, D.pures, Cp.free, D.pures_map, Qd t])
  ((try simp only [Qb, Qc, Ql, Qi, Qk]); (repeat (rw [Qa]; simp)); (try simp only [zs]))
  (refine hK _ _ _ ?_; clear hK K)
  (refine sR fun K hK => ?_; ((repeat (rw [Qa]; simp)); (try simp only [zs])); refine hK _ _ _ ?_; clear hK K)
  (refine Qj ?_; (try simp only [zs]); refine Wc.ret rfl (.inl ?_); simp [Qp, Out.fgt, D.fgt, D.fgts])
  rfl
 | false =>
  simp only [h, Xp, if_true, if_false, Bool.false_eq_true] at hb
  (refine sR fun K hK => ?_; ((repeat (rw [Qa]; simp)); (try simp only [zs])))
  refine Xi.pure Qe (hb) ?_ (by simp [D.fgts, D.fgt, Qd t, Wi]) (by simp [D.pures, D.pure, Cp.free, D.pures_map, Qd t, Wi]) (by simp [Out.pure, D.pure, D.pures, Cp.free, D.pures_map, Qd t, Wi])
  ((try simp only [Qb, Qc, Ql, Qi, Qk]); (repeat (rw [Qa]; simp)); (try simp only [zs]))
  ((try simp only [zs]); refine Wc.pan (.inl ?_); simp [Out.fgt, D.fgt, D.fgts])
  rfl
theorem leaf_spec (n sc : Int) (cs : List Int) (t : T) : Qt Tryz.prog glob 158 [walkD n sc cs, Qv t] [] (fun o _ => o.fgt = Xp (bareB t) (.int .i64 0)) := by
 refine Qt.movd Qe (Qq Wb Tryz.func158 rfl (Qy _ _ Tryz.func158 rfl (by decide)) rfl rfl ?_)
 unfold walkD Ints
 (refine sR fun K hK => ?_; ((repeat (rw [Qa]; simp)); (try simp only [zs])); refine hK _ _ _ ?_; clear hK K)
 have hb := bare_spec t
 cases h : bareB t with
 | true =>
  simp only [h, Xp, if_true, if_false, Bool.false_eq_true] at hb
  (refine sR fun K hK => ?_; ((repeat (rw [Qa]; simp)); (try simp only [zs])))
  refine Xi.pure Qe (hb) ?_ (by simp [D.fgts, D.fgt, Qd t]) (by simp [D.pures, D.pure, Cp.free, D.pures_map, Qd t]) (by simp [Out.pure, D.pure, D.pures, Cp.free, D.pures_map, Qd t])
  ((try simp only [Qb, Qc, Ql, Qi, Qk]); (repeat (rw [Qa]; simp)); (try simp only [zs]))
  (refine hK _ _ _ ?_; clear hK K)
  (refine sR fun K hK => ?_; ((repeat (rw [Qa]; simp)); (try simp only [zs])); refine hK _ _ _ ?_; clear hK K)
  (refine Qj ?_; (try simp only [zs]); refine Wc.ret rfl (.inl ?_); simp [Qp, Out.fgt, D.fgt, D.fgts])
  rfl
 | false =>
  simp only [h, Xp, if_true, if_false, Bool.false_eq_true] at hb
  (refine sR fun K hK => ?_; ((repeat (rw [Qa]; simp)); (try simp only [zs])))
  refine Xi.pure Qe (hb) ?_ (by simp [D.fgts, D.fgt, Qd t, Wi]) (by simp [D.pures, D.pure, Cp.free, D.pures_map, Qd t, Wi]) (by simp [Out.pure, D.pure, D.pures, Cp.free, D.pures_map, Qd t, Wi])
  ((try simp only [Qb, Qc, Ql, Qi, Qk]); (repeat (rw [Qa]; simp)); (try simp only [zs]))
  ((try simp only [zs]); refine Wc.pan (.inl ?_); simp [Out.fgt, D.fgt, D.fgts])
  rfl
theorem six_spec (n sc : Int) (cs : List Int) (t : T) : Qt Tryz.prog glob 159 [walkD n sc cs, Qv t] [] (fun o _ => o.fgt = Xp (bareB t) (.int .i64 6)) := by
 refine Qt.movd Qe (Qq Wb Tryz.func159 rfl (Qy _ _ Tryz.func159 rfl (by decide)) rfl rfl ?_)
 unfold walkD Ints
 (refine sR fun K hK => ?_; ((repeat (rw [Qa]; simp)); (try simp only [zs])); refine hK _ _ _ ?_; clear hK K)
 have hb := bare_spec t
 cases h : bareB t with
 | true =>
  simp only [h, Xp, if_true, if_false, Bool.false_eq_true] at hb
  (refine sR fun K hK => ?_; ((repeat (rw [Qa]; simp)); (try simp only [zs])))
  refine Xi.pure Qe (hb) ?_ (by simp [D.fgts, D.fgt, Qd t]) (by simp [D.pures, D.pure, Cp.free, D.pures_map, Qd t]) (by simp [Out.pure, D.pure, D.pures, Cp.free, D.pures_map, Qd t])
  ((try simp only [Qb, Qc, Ql, Qi, Qk]); (repeat (rw [Qa]; simp)); (try simp only [zs]))
  (refine hK _ _ _ ?_; clear hK K)
  (refine sR fun K hK => ?_; ((repeat (rw [Qa]; simp)); (try simp only [zs])); refine hK _ _ _ ?_; clear hK K)
  (refine Qj ?_; (try simp only [zs]); refine Wc.ret rfl (.inl ?_); simp [Qp, Out.fgt, D.fgt, D.fgts])
  rfl
 | false =>
  simp only [h, Xp, if_true, if_false, Bool.false_eq_true] at hb
  (refine sR fun K hK => ?_; ((repeat (rw [Qa]; simp)); (try simp only [zs])))
  refine Xi.pure Qe (hb) ?_ (by simp [D.fgts, D.fgt, Qd t, Wi]) (by simp [D.pures, D.pure, Cp.free, D.pures_map, Qd t, Wi]) (by simp [Out.pure, D.pure, D.pures, Cp.free, D.pures_map, Qd t, Wi])
  ((try simp only [Qb, Qc, Ql, Qi, Qk]); (repeat (rw [Qa]; simp)); (try simp only [zs]))
  ((try simp only [zs]); refine Wc.pan (.inl ?_); simp [Out.fgt, D.fgt, D.fgts])
  rfl
theorem variable_spec (n sc : Int) (cs : List Int) (t : T) : Qt Tryz.prog glob 151 [walkD n sc cs, Qv t] [] (fun o _ => o.fgt = Xp (variableB sc t) (.int .i64 0)) := by
 refine Qt.movd Qe (Qq Wb Tryz.func151 rfl (Qy _ _ Tryz.func151 rfl (by decide)) rfl rfl ?_)
 unfold walkD Ints
 (refine sR fun K hK => ?_; ((repeat (rw [Qa]; simp)); (try simp only [zs])); refine hK _ _ _ ?_; clear hK K)
 cases h : variableB sc t with
 | true =>
  (refine sR fun K hK => ?_; ((repeat (rw [Qa]; simp)); (try simp only [zs])))
  refine Xi.pure Qe (must_ok [decide (0 <= t.n), decide (t.n < sc), decide (t.a = 0), decide (t.ls = [])] (by simpa [variableB, and_assoc] using h)) ?_ (by simp [D.fgts, D.fgt, Xb]) (by simp [D.pures, D.pure, Cp.free, D.pures_map, Xb]) (by simp [Out.pure, D.pure, D.pures, Cp.free, D.pures_map, Xb])
  ((try simp only [Qb, Qc, Ql, Qi, Qk]); (repeat (rw [Qa]; simp)); (try simp only [zs]))
  (refine hK _ _ _ ?_; clear hK K)
  (refine sR fun K hK => ?_; ((repeat (rw [Qa]; simp)); (try simp only [zs])); refine hK _ _ _ ?_; clear hK K)
  (refine Qj ?_; (try simp only [zs]); refine Wc.ret rfl (.inl ?_); simp [Qp, Out.fgt, D.fgt, D.fgts])
  rfl
 | false =>
  (refine sR fun K hK => ?_; ((repeat (rw [Qa]; simp)); (try simp only [zs])))
  refine Xi.pure Qe (must_no [decide (0 <= t.n), decide (t.n < sc), decide (t.a = 0), decide (t.ls = [])] (by simpa [variableB, -Bool.and_eq_false_imp, Bool.and_assoc] using h)) ?_ (by simp [D.fgts, D.fgt, Xb, Wi]) (by simp [D.pures, D.pure, Cp.free, D.pures_map, Xb, Wi]) (by simp [Out.pure, D.pure, D.pures, Cp.free, D.pures_map, Xb, Wi])
  ((try simp only [Qb, Qc, Ql, Qi, Qk]); (repeat (rw [Qa]; simp)); (try simp only [zs]))
  ((try simp only [zs]); refine Wc.pan (.inl ?_); simp [Out.fgt, D.fgt, D.fgts])
  rfl
theorem fin_spec (n sc : Int) (cs : List Int) (t : T) : Qt Tryz.prog glob 160 [walkD n sc cs, Qv t] [] (fun o _ => o.fgt = Xp (finB t) (.int .i64 0)) := by
 refine Qt.movd Qe (Qq Wb Tryz.func160 rfl (Qy _ _ Tryz.func160 rfl (by decide)) rfl rfl ?_)
 unfold walkD Ints
 (refine sR fun K hK => ?_; ((repeat (rw [Qa]; simp)); (try simp only [zs])); refine hK _ _ _ ?_; clear hK K)
 cases h : finB t with
 | true =>
  (refine sR fun K hK => ?_; ((repeat (rw [Qa]; simp)); (try simp only [zs])))
  refine Xi.pure Qe (must_ok [decide (0 <= t.n), decide (t.a = 0), decide (t.ls = [])] (by simpa [finB, and_assoc] using h)) ?_ (by simp [D.fgts, D.fgt, Xb]) (by simp [D.pures, D.pure, Cp.free, D.pures_map, Xb]) (by simp [Out.pure, D.pure, D.pures, Cp.free, D.pures_map, Xb])
  ((try simp only [Qb, Qc, Ql, Qi, Qk]); (repeat (rw [Qa]; simp)); (try simp only [zs]))
  (refine hK _ _ _ ?_; clear hK K)
  (refine sR fun K hK => ?_; ((repeat (rw [Qa]; simp)); (try simp only [zs])); refine hK _ _ _ ?_; clear hK K)
  (refine Qj ?_; (try simp only [zs]); refine Wc.ret rfl (.inl ?_); simp [Qp, Out.fgt, D.fgt, D.fgts])
  rfl
 | false =>
  (refine sR fun K hK => ?_; ((repeat (rw [Qa]; simp)); (try simp only [zs])))
  refine Xi.pure Qe (must_no [decide (0 <= t.n), decide (t.a = 0), decide (t.ls = [])] (by simpa [finB, -Bool.and_eq_false_imp, Bool.and_assoc] using h)) ?_ (by simp [D.fgts, D.fgt, Xb, Wi]) (by simp [D.pures, D.pure, Cp.free, D.pures_map, Xb, Wi]) (by simp [Out.pure, D.pure, D.pures, Cp.free, D.pures_map, Xb, Wi])
  ((try simp only [Qb, Qc, Ql, Qi, Qk]); (repeat (rw [Qa]; simp)); (try simp only [zs]))
  ((try simp only [zs]); refine Wc.pan (.inl ?_); simp [Out.fgt, D.fgt, D.fgts])
  rfl
theorem elem_spec (n sc : Int) (cs : List Int) (t : T) : Qt Tryz.prog glob 161 [walkD n sc cs, Qv t] [] (fun o _ => o.fgt = Xp (elemB t) (.int .i64 0)) := by
 refine Qt.movd Qe (Qq Wb Tryz.func161 rfl (Qy _ _ Tryz.func161 rfl (by decide)) rfl rfl ?_)
 unfold walkD Ints
 (refine sR fun K hK => ?_; ((repeat (rw [Qa]; simp)); (try simp only [zs])); refine hK _ _ _ ?_; clear hK K)
 cases h : elemB t with
 | true =>
  (refine sR fun K hK => ?_; ((repeat (rw [Qa]; simp)); (try simp only [zs])))
  refine Xi.pure Qe (must_ok [decide (0 <= t.n), decide (t.n < t.a), decide (t.ls = [])] (by simpa [elemB, and_assoc] using h)) ?_ (by simp [D.fgts, D.fgt, Xb]) (by simp [D.pures, D.pure, Cp.free, D.pures_map, Xb]) (by simp [Out.pure, D.pure, D.pures, Cp.free, D.pures_map, Xb])
  ((try simp only [Qb, Qc, Ql, Qi, Qk]); (repeat (rw [Qa]; simp)); (try simp only [zs]))
  (refine hK _ _ _ ?_; clear hK K)
  (refine sR fun K hK => ?_; ((repeat (rw [Qa]; simp)); (try simp only [zs])); refine hK _ _ _ ?_; clear hK K)
  (refine Qj ?_; (try simp only [zs]); refine Wc.ret rfl (.inl ?_); simp [Qp, Out.fgt, D.fgt, D.fgts])
  rfl
 | false =>
  (refine sR fun K hK => ?_; ((repeat (rw [Qa]; simp)); (try simp only [zs])))
  refine Xi.pure Qe (must_no [decide (0 <= t.n), decide (t.n < t.a), decide (t.ls = [])] (by simpa [elemB, -Bool.and_eq_false_imp, Bool.and_assoc] using h)) ?_ (by simp [D.fgts, D.fgt, Xb, Wi]) (by simp [D.pures, D.pure, Cp.free, D.pures_map, Xb, Wi]) (by simp [Out.pure, D.pure, D.pures, Cp.free, D.pures_map, Xb, Wi])
  ((try simp only [Qb, Qc, Ql, Qi, Qk]); (repeat (rw [Qa]; simp)); (try simp only [zs]))
  ((try simp only [zs]); refine Wc.pan (.inl ?_); simp [Out.fgt, D.fgt, D.fgts])
  rfl
theorem branches_spec (n sc : Int) (cs : List Int) (t : T) : Qt Tryz.prog glob 162 [walkD n sc cs, Qv t] [] (fun o _ => o.fgt = Xp (branchesB t) (.int .i64 (IntKind.i64.wrap (t.a + 2)))) := by
 refine Qt.movd Qe (Qq Wb Tryz.func162 rfl (Qy _ _ Tryz.func162 rfl (by decide)) rfl rfl ?_)
 unfold walkD Ints
 (refine sR fun K hK => ?_; ((repeat (rw [Qa]; simp)); (try simp only [zs])); refine hK _ _ _ ?_; clear hK K)
 cases h : branchesB t with
 | true =>
  (refine sR fun K hK => ?_; ((repeat (rw [Qa]; simp)); (try simp only [zs])))
  refine Xi.pure Qe (must_ok [decide (t.n = 0), decide (0 <= t.a), decide (t.ls = [])] (by simpa [branchesB, and_assoc] using h)) ?_ (by simp [D.fgts, D.fgt, Xb]) (by simp [D.pures, D.pure, Cp.free, D.pures_map, Xb]) (by simp [Out.pure, D.pure, D.pures, Cp.free, D.pures_map, Xb])
  ((try simp only [Qb, Qc, Ql, Qi, Qk]); (repeat (rw [Qa]; simp)); (try simp only [zs]))
  (refine hK _ _ _ ?_; clear hK K)
  (refine sR fun K hK => ?_; ((repeat (rw [Qa]; simp)); (try simp only [zs])); refine hK _ _ _ ?_; clear hK K)
  (refine Qj ?_; (try simp only [zs]); refine Wc.ret rfl (.inl ?_); simp [Qp, Out.fgt, D.fgt, D.fgts])
  rfl
 | false =>
  (refine sR fun K hK => ?_; ((repeat (rw [Qa]; simp)); (try simp only [zs])))
  refine Xi.pure Qe (must_no [decide (t.n = 0), decide (0 <= t.a), decide (t.ls = [])] (by simpa [branchesB, -Bool.and_eq_false_imp, Bool.and_assoc] using h)) ?_ (by simp [D.fgts, D.fgt, Xb, Wi]) (by simp [D.pures, D.pure, Cp.free, D.pures_map, Xb, Wi]) (by simp [Out.pure, D.pure, D.pures, Cp.free, D.pures_map, Xb, Wi])
  ((try simp only [Qb, Qc, Ql, Qi, Qk]); (repeat (rw [Qa]; simp)); (try simp only [zs]))
  ((try simp only [zs]); refine Wc.pan (.inl ?_); simp [Out.fgt, D.fgt, D.fgts])
  rfl
theorem scopeRight_spec (n sc : Int) (ls : List LV) (hl : ls.length <= Wd) (hls : ∀ l, l ∈ ls -> l.length <= Wd) : Qt Tryz.prog glob 197 [scopeD n sc, Lvs ls] [] (fun o _ => o.fgt = Xp (ls.all fun l => levelRight l n) (.tuple [])) := by
 obtain ⟨R, hR⟩ : ∃ R, R = ls.all fun l => levelRight l n := ⟨_, rfl⟩
 rw [<- hR]
 refine Qt.movd Qe (Qq Wb Tryz.func197 rfl (Qy _ _ Tryz.func197 rfl (by decide)) rfl rfl ?_)
 unfold scopeD Lvs
 (refine sR fun K hK => ?_; ((repeat (rw [Qa]; simp)); (try simp only [zs])); refine hK _ _ _ ?_; clear hK K)
 (refine sR fun K hK => ?_; ((repeat (rw [Qa]; simp)); (try simp only [zs])); refine hK _ _ _ ?_; clear hK K)
 refine wpD_rangeJ Wb Qe (ti := 3) (tk := 8) (tn := 7) (td := 9) (ts := 18) [5, 8, 9, 10, 11, 12, 13, 14, 15, 16, 17, 18] [] (ls.length) (fun k ys hl => ys = [] /\ R = ((ls.drop k).all fun l => levelRight l n) /\ hl = [.cells 150 [.int .i64 n, .int .i64 sc]]) rfl rfl rfl rfl rfl rfl rfl rfl rfl rfl rfl rfl (by simp) (by decide) rfl (by first | assumption | omega | (unfold Wd; omega)) rfl (by kernel_rfl) (by decide) ?_ ?_ ?_
 ·exact ⟨rfl, hR, rfl⟩
 ·rintro i ys hl A hi ⟨rfl, hF, rfl⟩ hA hA2
  simp only [Qr, List.set, List.map_cons, List.map_nil, List.cons_append, List.nil_append]
  have hi' : (i : Int) < ls.length := by omega
  rw [List.drop_eq_getElem_cons hi, List.all_cons] at hF
  have hlr := levelRight_spec ls[i] n (hls _ (List.getElem_mem hi))
  obtain ⟨x, hx⟩ : ∃ x, ls[i] = x := ⟨_, rfl⟩
  rw [hx] at hF hlr
  unfold Wp at hlr
  generalize levelRight x n = B at hF hlr
  (refine sR fun K hK => ?_; ((repeat (rw [Qa]; simp [hi, hi', hx, Wp])); (try simp only [zs])); refine hK _ _ _ ?_; clear hK K)
  cases B with
  | true =>
   (refine Qz Wb ?_; ((repeat (rw [Qa]; simp)); (try simp only [zs])))
   refine cXp (hlr) ?_
   ((try simp only [Qb, Qc, Ql, Qi, Qk]); (repeat (rw [Qa]; simp)); (try simp only [zs]))
   refine Xi.pure Qe (must_ok [true] rfl) ?_ (by simp [D.fgts, D.fgt, Xb]) (by simp [D.pures, D.pure, Cp.free, D.pures_map, Xb]) (by simp [Out.pure, D.pure, D.pures, Cp.free, D.pures_map, Xb])
   ((try simp only [Qb, Qc, Ql, Qi, Qk]); (repeat (rw [Qa]; simp)); (try simp only [zs]))
   (refine hA2 ([0]) _ _ _ (LeT.refl _) (by decide) (by simp) (by simp [Wk, Wl, Wr, D.mov, HO.mov, okM, Wn, Wg, zz, okA, Qx, Qu, hOf, Qg, Qr]) ?_ rfl; simp [Wk, Wl, Wr, D.mov, HO.mov, okM, Wn, Wg, zz, okA, Qx, Qu, hOf, Qg])
   simpa using hF
  | false =>
   (refine Qz Wb ?_; ((repeat (rw [Qa]; simp)); (try simp only [zs])))
   refine cXp (hlr) ?_
   ((try simp only [Qb, Qc, Ql, Qi, Qk]); (repeat (rw [Qa]; simp)); (try simp only [zs]))
   refine Xi.pure Qe (must_no [false] rfl) ?_ (by simp [D.fgts, D.fgt, Xb, Wi]) (by simp [D.pures, D.pure, Cp.free, D.pures_map, Xb, Wi]) (by simp [Out.pure, D.pure, D.pures, Cp.free, D.pures_map, Xb, Wi])
   ((try simp only [Qb, Qc, Ql, Qi, Qk]); (repeat (rw [Qa]; simp)); (try simp only [zs]))
   ((try simp only [zs]); refine Wc.pan (.inl ?_); simp [Out.fgt, D.fgt, D.fgts])
   rw [hF]; rfl
 ·rintro ys hl tl' ⟨rfl, hF, rfl⟩ htl
  rw [List.drop_length] at hF
  subst hF
  ((try simp only [zs]); refine Wc.nrm rfl (.inl ?_); simp [Qp, Out.fgt, D.fgt, D.fgts])
  rfl
theorem scopeRight_ok (n sc : Int) (ls : List LV) (hl : ls.length <= Wd) (hls : ∀ l, l ∈ ls -> l.length <= Wd) (h : (ls.all fun l => levelRight l n) = true) : Qt Tryz.prog glob 197 [scopeD n sc, Lvs ls] [] (fun o _ => o.fgt = .ret (.tuple [])) := by
 have := scopeRight_spec n sc ls hl hls
 rw [h] at this
 exact this
theorem scopeRight_no (n sc : Int) (ls : List LV) (hl : ls.length <= Wd) (hls : ∀ l, l ∈ ls -> l.length <= Wd) (h : (ls.all fun l => levelRight l n) = false) : Qt Tryz.prog glob 197 [scopeD n sc, Lvs ls] [] (fun o _ => o.fgt = .pan Wi) := by
 have := scopeRight_spec n sc ls hl hls
 rw [h] at this
 exact this
theorem sort_spec (n sc : Int) (cs : List Int) (t : T) (hl : t.ls.length <= Wd) (hls : ∀ l, l ∈ t.ls -> l.length <= Wd) : Qt Tryz.prog glob 152 [walkD n sc cs, Qv t] [] (fun o _ => o.fgt = Xp (sortB n t) (.int .i64 0)) := by
 refine Qt.movd Qe (Qq Wb Tryz.func152 rfl (Qy _ _ Tryz.func152 rfl (by decide)) rfl rfl ?_)
 unfold walkD Ints
 (refine sR fun K hK => ?_; ((repeat (rw [Qa]; simp)); (try simp only [zs])); refine hK _ _ _ ?_; clear hK K)
 have e1 : decide ((t.ls.length : Int) = 1) = decide (t.ls.length = 1) := by congr 1; exact propext (by omega)
 cases h : decide (t.n = 0) && decide (t.a = 0) && decide (t.ls.length = 1) with
 | false =>
  (refine sR fun K hK => ?_; ((repeat (rw [Qa]; simp [e1])); (try simp only [zs])))
  refine Xi.pure Qe (must_no [decide (t.n = 0), decide (t.a = 0), decide (t.ls.length = 1)] (by simpa [-Bool.and_eq_false_imp, Bool.and_assoc] using h)) ?_ (by simp [D.fgts, D.fgt, Xb, Wi, e1]) (by simp [D.pures, D.pure, Cp.free, D.pures_map, Xb, Wi, e1]) (by simp [Out.pure, D.pure, D.pures, Cp.free, D.pures_map, Xb, Wi, e1])
  ((try simp only [Qb, Qc, Ql, Qi, Qk]); (repeat (rw [Qa]; simp)); (try simp only [zs]))
  ((try simp only [zs]); refine Wc.pan (.inl ?_); simp [Out.fgt, D.fgt, D.fgts])
  simp [sortB, h, Xp, Wi]; rfl
 | true =>
  (refine sR fun K hK => ?_; ((repeat (rw [Qa]; simp [e1])); (try simp only [zs])))
  refine Xi.pure Qe (must_ok [decide (t.n = 0), decide (t.a = 0), decide (t.ls.length = 1)] (by simpa [and_assoc] using h)) ?_ (by simp [D.fgts, D.fgt, Xb, e1]) (by simp [D.pures, D.pure, Cp.free, D.pures_map, Xb, e1]) (by simp [Out.pure, D.pure, D.pures, Cp.free, D.pures_map, Xb, e1])
  ((try simp only [Qb, Qc, Ql, Qi, Qk]); (repeat (rw [Qa]; simp)); (try simp only [zs]))
  (refine hK _ _ _ ?_; clear hK K)
  cases h2 : t.ls.all fun l => levelRight l n with
  | false =>
   (refine sR fun K hK => ?_; ((repeat (rw [Qa]; simp)); (try simp only [zs])))
   refine Xi.pure Qe (scopeRight_no n sc t.ls hl hls h2) ?_ (by simp [D.fgts, D.fgt, scopeD, Lvs, Wi]) (by simp [D.pures, D.pure, Cp.free, D.pures_map, scopeD, Lvs, Wi]) (by simp [Out.pure, D.pure, D.pures, Cp.free, D.pures_map, scopeD, Lvs, Wi])
   ((try simp only [Qb, Qc, Ql, Qi, Qk]); (repeat (rw [Qa]; simp)); (try simp only [zs]))
   ((try simp only [zs]); refine Wc.pan (.inl ?_); simp [Out.fgt, D.fgt, D.fgts])
   simp [sortB, h, h2, Xp, Wi]; rfl
  | true =>
   (refine sR fun K hK => ?_; ((repeat (rw [Qa]; simp)); (try simp only [zs])))
   refine Xi.pure Qe (scopeRight_ok n sc t.ls hl hls h2) ?_ (by simp [D.fgts, D.fgt, scopeD, Lvs]) (by simp [D.pures, D.pure, Cp.free, D.pures_map, scopeD, Lvs]) (by simp [Out.pure, D.pure, D.pures, Cp.free, D.pures_map, scopeD, Lvs])
   ((try simp only [Qb, Qc, Ql, Qi, Qk]); (repeat (rw [Qa]; simp)); (try simp only [zs]))
   (refine hK _ _ _ ?_; clear hK K)
   (refine sR fun K hK => ?_; ((repeat (rw [Qa]; simp)); (try simp only [zs])); refine hK _ _ _ ?_; clear hK K)
   (refine Qj ?_; (try simp only [zs]); refine Wc.ret rfl (.inl ?_); simp [Qp, Out.fgt, D.fgt, D.fgts])
   simp only [sortB, h, h2]; rfl
theorem constant_spec (n sc : Int) (cs : List Int) (t : T) (hcs : cs.length <= Wd) (hl : t.ls.length <= Wd) (hls : ∀ l, l ∈ t.ls -> l.length <= Wd) : Qt Tryz.prog glob 153 [walkD n sc cs, Qv t] [] (fun o _ => o.fgt = Xp (constB n cs t) (.int .i64 0)) := by
 refine Qt.movd Qe (Qq Wb Tryz.func153 rfl (Qy _ _ Tryz.func153 rfl (by decide)) rfl rfl ?_)
 unfold walkD Ints
 (refine sR fun K hK => ?_; ((repeat (rw [Qa]; simp)); (try simp only [zs])); refine hK _ _ _ ?_; clear hK K)
 cases h : decide (0 <= t.n) && decide (t.n < cs.length) && decide (t.a = 0) with
 | false =>
  (refine sR fun K hK => ?_; ((repeat (rw [Qa]; simp)); (try simp only [zs])))
  refine Xi.pure Qe (must_no [decide (0 <= t.n), decide (t.n < cs.length), decide (t.a = 0)] (by simpa [-Bool.and_eq_false_imp, Bool.and_assoc] using h)) ?_ (by simp [D.fgts, D.fgt, Xb, Wi]) (by simp [D.pures, D.pure, Cp.free, D.pures_map, Xb, Wi]) (by simp [Out.pure, D.pure, D.pures, Cp.free, D.pures_map, Xb, Wi])
  ((try simp only [Qb, Qc, Ql, Qi, Qk]); (repeat (rw [Qa]; simp)); (try simp only [zs]))
  ((try simp only [zs]); refine Wc.pan (.inl ?_); simp [Out.fgt, D.fgt, D.fgts])
  simp [constB, h, Xp, Wi]; rfl
 | true =>
  (refine sR fun K hK => ?_; ((repeat (rw [Qa]; simp)); (try simp only [zs])))
  refine Xi.pure Qe (must_ok [decide (0 <= t.n), decide (t.n < cs.length), decide (t.a = 0)] (by simpa [and_assoc] using h)) ?_ (by simp [D.fgts, D.fgt, Xb]) (by simp [D.pures, D.pure, Cp.free, D.pures_map, Xb]) (by simp [Out.pure, D.pure, D.pures, Cp.free, D.pures_map, Xb])
  ((try simp only [Qb, Qc, Ql, Qi, Qk]); (repeat (rw [Qa]; simp)); (try simp only [zs]))
  (refine hK _ _ _ ?_; clear hK K)
  have h0 := h
  simp only [Bool.and_eq_true, decide_eq_true_eq] at h0
  obtain ⟨⟨k1, k2⟩, k3⟩ := h0
  have k4 : t.n.toNat < cs.length := by omega
  have k5 : cs.getD t.n.toNat 0 = cs[t.n.toNat] := by rw [List.getD_eq_getElem?_getD, List.getElem?_eq_getElem k4]; rfl
  cases h1 : decide ((t.ls.length : Int) = cs[t.n.toNat]) with
  | false =>
   (refine Qf fun K hK => ?_; refine dR fun KT hKT => ?_; ((repeat (rw [Qh]; simp [k1, k4])); (try simp only [Qm])))
   refine CallY.pure Qe (must_no [decide ((t.ls.length : Int) = cs[t.n.toNat])] (by simp [h1])) ?_ (by simp [D.fgts, D.fgt, Xb, Wi]) (by simp [D.pures, D.pure, Cp.free, D.pures_map, Xb, Wi]) (by simp [Out.pure, D.pure, D.pures, Cp.free, D.pures_map, Xb, Wi])
   ((try simp only [Qn, Qo, Ql, Qi, Qk]); (repeat (rw [Qh]; simp)); (try simp only [Qm]))
   (refine hKT _ _ _ _ (by kernel_rfl) ?_; clear hKT KT; (try simp only [zs]))
   simp
   ((try simp only [zs]); refine Wc.pan (.inl ?_); simp [Out.fgt, D.fgt, D.fgts])
   simp only [constB, h, k5, h1]; rfl
  | true =>
   (refine Qf fun K hK => ?_; refine dR fun KT hKT => ?_; ((repeat (rw [Qh]; simp [k1, k4])); (try simp only [Qm])))
   refine CallY.pure Qe (must_ok [decide ((t.ls.length : Int) = cs[t.n.toNat])] (by simp [h1])) ?_ (by simp [D.fgts, D.fgt, Xb]) (by simp [D.pures, D.pure, Cp.free, D.pures_map, Xb]) (by simp [Out.pure, D.pure, D.pures, Cp.free, D.pures_map, Xb])
   ((try simp only [Qn, Qo, Ql, Qi, Qk]); (repeat (rw [Qh]; simp)); (try simp only [Qm]))
   (refine hKT _ _ _ _ (by kernel_rfl) ?_; clear hKT KT; (try simp only [zs]))
   (refine hK _ _ _ ?_; clear hK K)
   cases h2 : t.ls.all fun l => levelRight l n with
   | false =>
    (refine sR fun K hK => ?_; ((repeat (rw [Qa]; simp)); (try simp only [zs])))
    refine Xi.pure Qe (scopeRight_no n sc t.ls hl hls h2) ?_ (by simp [D.fgts, D.fgt, scopeD, Lvs, Wi]) (by simp [D.pures, D.pure, Cp.free, D.pures_map, scopeD, Lvs, Wi]) (by simp [Out.pure, D.pure, D.pures, Cp.free, D.pures_map, scopeD, Lvs, Wi])
    ((try simp only [Qb, Qc, Ql, Qi, Qk]); (repeat (rw [Qa]; simp)); (try simp only [zs]))
    ((try simp only [zs]); refine Wc.pan (.inl ?_); simp [Out.fgt, D.fgt, D.fgts])
    simp only [constB, h, k5, h1, h2]; rfl
   | true =>
    (refine sR fun K hK => ?_; ((repeat (rw [Qa]; simp)); (try simp only [zs])))
    refine Xi.pure Qe (scopeRight_ok n sc t.ls hl hls h2) ?_ (by simp [D.fgts, D.fgt, scopeD, Lvs]) (by simp [D.pures, D.pure, Cp.free, D.pures_map, scopeD, Lvs]) (by simp [Out.pure, D.pure, D.pures, Cp.free, D.pures_map, scopeD, Lvs])
    ((try simp only [Qb, Qc, Ql, Qi, Qk]); (repeat (rw [Qa]; simp)); (try simp only [zs]))
    (refine hK _ _ _ ?_; clear hK K)
    (refine sR fun K hK => ?_; ((repeat (rw [Qa]; simp)); (try simp only [zs])); refine hK _ _ _ ?_; clear hK K)
    (refine Qj ?_; (try simp only [zs]); refine Wc.ret rfl (.inl ?_); simp [Qp, Out.fgt, D.fgt, D.fgts])
    simp only [constB, h, k5, h1, h2]; rfl
theorem kinds_spec : Qt Tryz.prog glob 105 [] [] (fun o _ => o.fgt = .ret coreMap) := by
 refine Qt.movd Qe (Qq Wb Tryz.func105 rfl (Qy _ _ Tryz.func105 rfl (by decide)) rfl rfl ?_)
 (refine sR fun K hK => ?_; ((repeat (rw [Qa]; simp)); (try simp only [zs])); refine hK _ _ _ ?_; clear hK K)
 (refine sR fun K hK => ?_; ((repeat (rw [Qa]; simp)); (try simp only [zs])); refine hK _ _ _ ?_; clear hK K)
 refine wpD_staym 0 (es := coreAsk.map fun p => (.int .i64 p.1, .fn (.func p.2) [] [])) rfl ?_
 simp [D.frzs, D.frz, HO.frz, dfFrz]
 (refine Qj ?_; (try simp only [zs]); refine Wc.ret rfl (.inl ?_); simp [Qp, Out.fgt, D.fgt, D.fgts])
 rfl
def lookAsk (k : Int) : Option FuncId := (coreAsk.find? fun p => decide (k = p.1)).map (·.2)
theorem look_small : ∀ j : Fin 25, (lookAsk (j.1 : Int)).isSome = inCore (j.1 : Int) := by decide
theorem look_in (k : Int) : (lookAsk k).isSome = inCore k := by
 by_cases h : 0 <= k /\ k < 25
 ·obtain ⟨j, rfl⟩ : ∃ j : Nat, k = j := ⟨k.toNat, by omega⟩
  exact look_small ⟨j, by omega⟩
 ·have h1 : inCore k = false := by unfold inCore; simp; omega
  rw [h1]
  unfold lookAsk
  rw [Option.isSome_map, Option.isSome_eq_false_iff, Option.isNone_iff_eq_none, List.find?_eq_none]
  intro p hp
  simp only [coreAsk, List.mem_cons, List.not_mem_nil, or_false] at hp
  rcases hp with rfl | rfl | rfl | rfl | rfl | rfl | rfl | rfl | rfl | rfl | rfl | rfl | rfl | rfl | rfl | rfl | rfl | rfl | rfl | rfl <;> simp <;> omega
theorem ask_spec (n sc : Int) (cs : List Int) (t : T) (hcs : cs.length <= Wd) (ht : okT t) (f : FuncId) (hf : lookAsk t.k = some f) :
  Qt Tryz.prog glob f [walkD n sc cs, Qv t] [] (fun o _ => o.fgt = Xp (askC n sc cs t) (.int .i64 (askN t.k t.a))) := by
 have hl := ht.ll
 have hls : ∀ l, l ∈ t.ls -> l.length <= Wd := fun l h => (ht.ls l h).1
 have key : (t.k, f) ∈ coreAsk := by
  unfold lookAsk at hf
  cases h : coreAsk.find? (fun p => decide (t.k = p.1)) with
  | none => rw [h] at hf; cases hf
  | some p =>
   rw [h] at hf
   cases hf
   have h1 := List.find?_some h
   have h2 := List.mem_of_find?_eq_some h
   simp only [decide_eq_true_eq] at h1
   rw [h1]; exact h2
 simp only [coreAsk, List.mem_cons, Prod.mk.injEq, List.not_mem_nil, or_false] at key
 rcases key with ⟨h, rfl⟩ | ⟨h, rfl⟩ | ⟨h, rfl⟩ | ⟨h, rfl⟩ | ⟨h, rfl⟩ | ⟨h, rfl⟩ | ⟨h, rfl⟩ | ⟨h, rfl⟩ | ⟨h, rfl⟩ | ⟨h, rfl⟩ | ⟨h, rfl⟩ | ⟨h, rfl⟩ | ⟨h, rfl⟩ | ⟨h, rfl⟩ | ⟨h, rfl⟩ | ⟨h, rfl⟩ | ⟨h, rfl⟩ | ⟨h, rfl⟩ | ⟨h, rfl⟩ | ⟨h, rfl⟩ <;> simp only [askC, askN, h] <;> simp
 ·exact variable_spec n sc cs t
 ·exact sort_spec n sc cs t hl hls
 ·exact constant_spec n sc cs t hcs hl hls
 all_goals first | exact two_spec n sc cs t | exact three_spec n sc cs t | exact one_spec n sc cs t | exact five_spec n sc cs t | exact leaf_spec n sc cs t | exact six_spec n sc cs t | exact fin_spec n sc cs t | exact elem_spec n sc cs t | exact branches_spec n sc cs t
theorem core_len : coreKeys.length = coreVals.length := by kernel_rfl
theorem core_all : ((coreKeys.zip coreVals).all fun p => isIntK IntKind.i64 p.1) = true := by kernel_rfl
theorem find_ask (a : Int) : ∀ l : List (Int × FuncId), findD (.int .i64 a) ((l.map fun p => (.int .i64 p.1 : D)).zip (l.map fun p => (.fn (.func p.2) [] [] : D))) = ((l.find? fun p => decide (a = p.1)).map (·.2)).map fun f => .fn (.func f) [] []
 | [] => rfl
 | p :: r => by
  rw [List.map_cons, List.map_cons, List.zip_cons_cons, findD, List.find?_cons]
  by_cases h : a = p.1
  ·simp [keyEq, h]
  ·simp [keyEq, h]; simpa using find_ask a r
theorem core_find (a : Int) : findD (.int .i64 a) (coreKeys.zip coreVals) = (lookAsk a).map fun f => .fn (.func f) [] [] := find_ask a coreAsk
def ksC (n : Int) (cs : List Int) (k sc : Int) (ks : List T) (j : Nat) : Bool := coreKs n cs (ks.drop j) k j sc
theorem ksC_at {n : Int} {cs : List Int} {k sc : Int} {ks : List T} {j : Nat} (h : j < ks.length) : ksC n cs k sc ks j = (coreB n cs ks[j] (Xu sc k j) && ksC n cs k sc ks (j + 1)) := by
 unfold ksC
 rw [List.drop_eq_getElem_cons h, coreKs]
theorem ksC_end {n : Int} {cs : List Int} {k sc : Int} {ks : List T} : ksC n cs k sc ks ks.length = true := by
 unfold ksC
 rw [List.drop_length, coreKs]
theorem cwalk_spec (n : Int) (cs : List Int) (hcs : cs.length <= Wd) (t : T) : ∀ sc, okT t -> Qt Tryz.prog glob 106 [walkD n sc cs, Qv t] [] (fun o _ => o.fgt = Xp (coreB n cs t sc) (.tuple [])) := by
 induction t using T.ind with
 | h kk m a ls ks ih =>
  intro sc ht
  have hkl : ks.length <= Wd := ht.kl
  have hks := ht.ks
  simp only [T.ks_mk] at hks
  have ha0 := fun f hf => ask_spec n sc cs _ hcs ht f hf
  simp only [T.k_mk, T.a_mk] at ha0
  have hC : coreB n cs (.mk kk m a ls ks) sc = (inCore kk && askC n sc cs (.mk kk m a ls ks) && decide ((ks.length : Int) = askN kk a) && ksC n cs kk sc ks 0) := by
   rw [coreB]; rfl
  generalize coreB n cs (.mk kk m a ls ks) sc = R at hC ⊢
  generalize askC n sc cs (.mk kk m a ls ks) = B at hC ha0
  generalize askN kk a = q at hC ha0
  have hin := look_in kk
  generalize inCore kk = I at hin hC
  rw [Qd] at ha0 ⊢
  simp only [T.k_mk, T.n_mk, T.a_mk, T.ls_mk, T.ks_mk] at ha0 ⊢
  unfold walkD Ints at ha0 ⊢
  refine Qt.movd Qe (Qq Wb Tryz.func106 rfl (Qy _ _ Tryz.func106 rfl (by decide)) rfl rfl ?_)
  (refine sR fun K hK => ?_; ((repeat (rw [Qa]; simp)); (try simp only [zs])); refine hK _ _ _ ?_; clear hK K)
  cases hf : lookAsk kk with
  | none =>
   rw [hf] at hin
   have hI : I = false := hin.symm
   subst hI
   (refine sR fun K hK => ?_; ((repeat (rw [Qa]; simp [coreMap, core_len, core_all, core_find, hf])); (try simp only [zs])); refine hK _ _ _ ?_; clear hK K)
   (refine sR fun K hK => ?_; ((repeat (rw [Qa]; simp)); (try simp only [zs])))
   refine Xi.pure Qe (must_no [false] rfl) ?_ (by simp [D.fgts, D.fgt, Xb, Wi]) (by simp [D.pures, D.pure, Cp.free, D.pures_map, Xb, Wi]) (by simp [Out.pure, D.pure, D.pures, Cp.free, D.pures_map, Xb, Wi])
   ((try simp only [Qb, Qc, Ql, Qi, Qk]); (repeat (rw [Qa]; simp)); (try simp only [zs]))
   ((try simp only [zs]); refine Wc.pan (.inl ?_); simp [Out.fgt, D.fgt, D.fgts])
   rw [hC]; simp [Xp, Wi, D.fgt, D.fgts]
  | some f =>
   rw [hf] at hin
   have hI : I = true := hin.symm
   subst hI
   have ha := ha0 f hf
   clear ha0
   (refine sR fun K hK => ?_; ((repeat (rw [Qa]; simp [coreMap, core_len, core_all, core_find, hf])); (try simp only [zs])); refine hK _ _ _ ?_; clear hK K)
   (refine sR fun K hK => ?_; ((repeat (rw [Qa]; simp)); (try simp only [zs])))
   refine Xi.pure Qe (must_ok [true] rfl) ?_ (by simp [D.fgts, D.fgt, Xb]) (by simp [D.pures, D.pure, Cp.free, D.pures_map, Xb]) (by simp [Out.pure, D.pure, D.pures, Cp.free, D.pures_map, Xb])
   ((try simp only [Qb, Qc, Ql, Qi, Qk]); (repeat (rw [Qa]; simp)); (try simp only [zs]))
   (refine hK _ _ _ ?_; clear hK K)
   cases B with
   | false =>
    simp only [Xp, if_false, Bool.false_eq_true] at ha
    (refine Qf fun K hK => ?_; refine dR fun KT hKT => ?_; ((repeat (rw [Qh]; simp)); (try simp only [Qm])))
    refine CallY.pure Qe ha ?_ (by simp [D.fgts, D.fgt, coreMap]) (by simp [D.pures, D.pure, Cp.free, D.pures_map]) (by simp [Out.pure, D.pure, D.pures, Wi])
    (try simp only [Qn, Qo, Ql, Qi, Qk])
    ((try simp only [Qn, Qo, Ql, Qi, Qk]); (repeat (refine wpT_late _ _ _ _ (by kernel_rfl) ?_; simp only [Ql, List.set, List.nil_append, List.cons_append, Nat.reduceAdd])); (try simp only [Qm]))
    (refine hKT _ _ _ _ (by kernel_rfl) ?_; clear hKT KT; (try simp only [zs]))
    simp
    ((try simp only [zs]); refine Wc.pan (.inl ?_); simp [Out.fgt, D.fgt, D.fgts])
    rw [hC]; simp [Xp, Wi, D.fgt, D.fgts]
   | true =>
    simp only [Xp, if_true] at ha
    cases hm : decide ((ks.length : Int) = q) with
    | false =>
     (refine Qf fun K hK => ?_; refine dR fun KT hKT => ?_; ((repeat (rw [Qh]; simp)); (try simp only [Qm])))
     refine CallY.pure Qe ha ?_ (by simp [D.fgts, D.fgt, coreMap]) (by simp [D.pures, D.pure, Cp.free, D.pures_map]) (by simp [Out.pure, D.pure, D.pures])
     ((try simp only [Qn, Qo, Ql, Qi, Qk]); (repeat (rw [Qh]; simp)); (try simp only [Qm]))
     refine CallY.pure Qe (must_no [decide ((ks.length : Int) = q)] (by simp [hm])) ?_ (by simp [D.fgts, D.fgt, Xb, Wi]) (by simp [D.pures, D.pure, Cp.free, D.pures_map, Xb, Wi]) (by simp [Out.pure, D.pure, D.pures, Cp.free, D.pures_map, Xb, Wi])
     ((try simp only [Qn, Qo, Ql, Qi, Qk]); (repeat (refine wpT_late _ _ _ _ (by kernel_rfl) ?_; simp only [Ql, List.set, List.nil_append, List.cons_append, Nat.reduceAdd])); (try simp only [Qm]))
     (refine hKT _ _ _ _ (by kernel_rfl) ?_; clear hKT KT; (try simp only [zs]))
     simp
     ((try simp only [zs]); refine Wc.pan (.inl ?_); simp [Out.fgt, D.fgt, D.fgts])
     rw [hC, hm]; simp [Xp, Wi, D.fgt, D.fgts]
    | true =>
     rw [hm] at hC
     simp only [Bool.true_and] at hC
     (refine Qf fun K hK => ?_; refine dR fun KT hKT => ?_; ((repeat (rw [Qh]; simp)); (try simp only [Qm])))
     refine CallY.pure Qe ha ?_ (by simp [D.fgts, D.fgt, coreMap]) (by simp [D.pures, D.pure, Cp.free, D.pures_map]) (by simp [Out.pure, D.pure, D.pures])
     ((try simp only [Qn, Qo, Ql, Qi, Qk]); (repeat (rw [Qh]; simp)); (try simp only [Qm]))
     refine CallY.pure Qe (must_ok [decide ((ks.length : Int) = q)] (by simp [hm])) ?_ (by simp [D.fgts, D.fgt, Xb]) (by simp [D.pures, D.pure, Cp.free, D.pures_map, Xb]) (by simp [Out.pure, D.pure, D.pures, Cp.free, D.pures_map, Xb])
     ((try simp only [Qn, Qo, Ql, Qi, Qk]); (repeat (rw [Qh]; simp)); (try simp only [Qm]))
     (refine hKT _ _ _ _ (by kernel_rfl) ?_; clear hKT KT; (try simp only [zs]))
     (refine hK _ _ _ ?_; clear hK K)
     clear ha hm
     (refine sR fun K hK => ?_; ((repeat (rw [Qa]; simp)); (try simp only [zs])); refine hK _ _ _ ?_; clear hK K)
     refine wpD_rangeJ Wb Qe (ti := 3) (tk := 33) (tn := 32) (td := 34) (ts := 50) [6, 7, 8, 33, 34, 35, 36, 37, 38, 39, 40, 41, 42, 43, 44, 45, 46, 47, 48, 49, 50] [] (ks.length) (fun k ys hl => ys = [] /\ R = ksC n cs kk sc ks k /\ hl = [.cells 154 [.int .i64 n, .int .i64 sc, .slice (cs.map (.int .i64)) .any, coreMap], .cells 27 [.int .i64 kk, .int .i64 m, .int .i64 a, .slice (ls.map Wp) .any, .slice (ks.map Qv) .any]]) rfl rfl rfl rfl rfl rfl rfl rfl rfl rfl rfl rfl (by simp) (by decide) rfl (by first | assumption | omega | (unfold Wd; omega)) rfl (by kernel_rfl) (by decide) ?_ ?_ ?_
     ·exact ⟨rfl, hC, rfl⟩
     ·rintro i ys hl A hi ⟨rfl, hF, rfl⟩ hA hA2
      simp only [Qr, List.set, List.map_cons, List.map_nil, List.cons_append, List.nil_append]
      have hi' : (i : Int) < ks.length := by omega
      rw [ksC_at hi] at hF
      have hrec := ih ks[i] (List.getElem_mem hi) (Xu sc kk i) (hks _ (List.getElem_mem hi))
      have hbi := binds_spec kk i
      have hbl := sbelow_spec n sc 1
      have hbd : Xu sc kk i = if Ww kk i then IntKind.i64.wrap (sc + 1) else sc := rfl
      unfold walkD Ints at hrec
      unfold scopeD at hbl
      obtain ⟨x, hx⟩ : ∃ x, ks[i] = x := ⟨_, rfl⟩
      have hEx := Qd x
      rw [hx] at hrec hF
      rw [hEx] at hrec
      generalize coreB n cs x (Xu sc kk i) = Bx at hrec hF
      generalize Xu sc kk i = sc' at hrec hbd
      generalize Ww kk i = bb at hbi hbd
      (refine sR fun K hK => ?_; ((repeat (rw [Qa]; simp [hi, hi', hx, hEx])); (try simp only [zs])); refine hK _ _ _ ?_; clear hK K)
      (refine sR fun K hK => ?_; ((repeat (rw [Qa]; simp)); (try simp only [zs])); refine hK _ _ _ ?_; clear hK K)
      refine Qf fun K2 hK2 => ?_
      cases bb with
      | true =>
       rw [if_pos rfl] at hbd
       subst hbd
       (refine sR fun K hK => ?_; ((repeat (rw [Qa]; simp)); (try simp only [zs])))
       refine cXp (hbi) ?_
       ((try simp only [Qb, Qc, Ql, Qi, Qk]); (repeat (rw [Qa]; simp)); (try simp only [zs]))
       (refine hK _ _ _ ?_; clear hK K)
       refine pT rfl ?_
       (refine Qz Wb ?_; ((repeat (rw [Qa]; simp)); (try simp only [zs])))
       refine cXp (hbl) ?_
       ((try simp only [Qb, Qc, Ql, Qi, Qk]); (repeat (rw [Qa]; simp)); (try simp only [zs]))
       refine hK2 _ _ _ ?_
       cases Bx with
       | true =>
        simp only [Xp, if_true] at hrec
        (refine Qz Wb ?_; ((repeat (rw [Qa]; simp)); (try simp only [zs])))
        refine cXp (hrec) ?_
        ((try simp only [Qb, Qc, Ql, Qi, Qk]); (repeat (rw [Qa]; simp)); (try simp only [zs]))
        (refine hA2 ([0, 1]) _ _ _ (LeT.refl _) (by decide) (by simp) (by simp [Wk, Wl, Wr, D.mov, HO.mov, okM, Wn, Wg, zz, okA, Qx, Qu, hOf, Qg, Qr]) ?_ rfl; simp [Wk, Wl, Wr, D.mov, HO.mov, okM, Wn, Wg, zz, okA, Qx, Qu, hOf, Qg])
        simpa using hF
       | false =>
        simp only [Xp, if_false, Bool.false_eq_true] at hrec
        (refine Qz Wb ?_; ((repeat (rw [Qa]; simp)); (try simp only [zs])))
        refine Xi.pure Qe (hrec) ?_ (by simp [D.fgts, D.fgt, Wi]) (by simp [D.pures, D.pure, Cp.free, D.pures_map, Wi]) (by simp [Out.pure, D.pure, D.pures, Cp.free, D.pures_map, Wi])
        ((try simp only [Qb, Qc, Ql, Qi, Qk]); (repeat (rw [Qa]; simp)); (try simp only [zs]))
        ((try simp only [zs]); refine Wc.pan (.inl ?_); simp [Out.fgt, D.fgt, D.fgts])
        rw [hF]; simp [Xp, Wi, D.fgt, D.fgts]
      | false =>
       rw [if_neg Bool.false_ne_true] at hbd
       subst hbd
       (refine sR fun K hK => ?_; ((repeat (rw [Qa]; simp)); (try simp only [zs])))
       refine cXp (hbi) ?_
       ((try simp only [Qb, Qc, Ql, Qi, Qk]); (repeat (rw [Qa]; simp)); (try simp only [zs]))
       (refine hK _ _ _ ?_; clear hK K)
       refine pF rfl ?_
       refine Qs (hK2 _ _ _ ?_)
       cases Bx with
       | true =>
        simp only [Xp, if_true] at hrec
        (refine Qz Wb ?_; ((repeat (rw [Qa]; simp)); (try simp only [zs])))
        refine cXp (hrec) ?_
        ((try simp only [Qb, Qc, Ql, Qi, Qk]); (repeat (rw [Qa]; simp)); (try simp only [zs]))
        (refine hA2 ([0, 1]) _ _ _ (LeT.refl _) (by decide) (by simp) (by simp [Wk, Wl, Wr, D.mov, HO.mov, okM, Wn, Wg, zz, okA, Qx, Qu, hOf, Qg, Qr]) ?_ rfl; simp [Wk, Wl, Wr, D.mov, HO.mov, okM, Wn, Wg, zz, okA, Qx, Qu, hOf, Qg])
        simpa using hF
       | false =>
        simp only [Xp, if_false, Bool.false_eq_true] at hrec
        (refine Qz Wb ?_; ((repeat (rw [Qa]; simp)); (try simp only [zs])))
        refine Xi.pure Qe (hrec) ?_ (by simp [D.fgts, D.fgt, Wi]) (by simp [D.pures, D.pure, Cp.free, D.pures_map, Wi]) (by simp [Out.pure, D.pure, D.pures, Cp.free, D.pures_map, Wi])
        ((try simp only [Qb, Qc, Ql, Qi, Qk]); (repeat (rw [Qa]; simp)); (try simp only [zs]))
        ((try simp only [zs]); refine Wc.pan (.inl ?_); simp [Out.fgt, D.fgt, D.fgts])
        rw [hF]; simp [Xp, Wi, D.fgt, D.fgts]
     ·rintro ys hl tl' ⟨rfl, hF, rfl⟩ htl
      rw [ksC_end] at hF
      subst hF
      ((try simp only [zs]); refine Wc.nrm rfl (.inl ?_); simp [Qp, Out.fgt, D.fgt, D.fgts])
      simp [Xp]
theorem catchR_idle (b : Bool) : SpecD Tryz.prog glob 103 [.box 0 0] [.cells 4 [.bool b]] none (fun hc => hc = [.cells 4 [.bool b]]) := by
 refine wpD_specd Wb Tryz.func103 rfl rfl (fun a w => rfl) rfl (Qy _ _ Tryz.func103 rfl (by decide)) rfl rfl ?_
 ((try simp only [Qb, Qc, Ql, Qi, Qk]); (repeat (rw [Qa]; simp)); (try simp only [zs]))
 (refine sR fun K hK => ?_; ((repeat (rw [Qa]; simp)); (try simp only [zs])); refine hK _ _ _ ?_; clear hK K)
 refine pF rfl ?_
 refine Qs ?_
 refine Wc.nrm rfl ?_
 simp [Qi]
theorem catchR_wrong (b : Bool) : SpecD Tryz.prog glob 103 [.box 0 0] [.cells 4 [.bool b]] (some Wi) (fun hc => hc = [.cells 4 [.bool false], .cells 146 []]) := by
 refine wpD_specd Wb Tryz.func103 rfl rfl (fun a w => rfl) rfl (Qy _ _ Tryz.func103 rfl (by decide)) rfl rfl ?_
 unfold Wi
 ((try simp only [Qb, Qc, Ql, Qi, Qk]); (repeat (rw [Qa]; simp)); (try simp only [zs]))
 (refine sR fun K hK => ?_; ((repeat (rw [Qa]; simp)); (try simp only [zs])); refine hK _ _ _ ?_; clear hK K)
 refine pT rfl ?_
 refine Qf fun K1 hK1 => ?_
 (refine sR fun K hK => ?_; ((repeat (rw [Qa]; simp)); (try simp only [zs])); refine hK _ _ _ ?_; clear hK K)
 (refine sR fun K hK => ?_; ((repeat (rw [Qa]; simp)); (try simp only [zs])); refine hK _ _ _ ?_; clear hK K)
 refine pF rfl ?_
 refine Qs (hK1 _ _ _ ?_)
 (refine Qz Wb ?_; ((repeat (rw [Qa]; simp)); (try simp only [zs])))
 refine Wc.nrm rfl ?_
 simp
theorem coreRight_spec (n sc : Int) (cs : List Int) (t : T) (hcs : cs.length <= Wd) (ht : okT t) : Qt Tryz.prog glob 52 [.int .i64 n, .int .i64 sc, Ints cs, Qv t] [] (fun o _ => o.fgt = .ret (.bool (rightB n sc cs t))) := by
 have hw := cwalk_spec n cs hcs t sc ht
 have hR : rightB n sc cs t = (decide (0 <= n) && decide (0 <= sc) && coreB n cs t sc) := rfl
 generalize rightB n sc cs t = R at hR ⊢
 generalize coreB n cs t sc = B at hR hw
 unfold walkD at hw
 rw [Qd t] at hw ⊢
 unfold Ints at hw ⊢
 have hk := kinds_spec
 refine Qt.movd Qe (wpD_specD Wb Tryz.func52 rfl (Qy _ _ Tryz.func52 rfl (by decide)) rfl rfl ?_)
 (refine sR fun K hK => ?_; ((repeat (rw [Qa]; simp)); (try simp only [zs])); refine hK _ _ _ ?_; clear hK K)
 (refine sR fun K hK => ?_; ((repeat (rw [Qa]; simp)); (try simp only [zs])); refine hK _ _ _ ?_; clear hK K)
 cases hm : decide (0 <= n) && decide (0 <= sc) with
 | false =>
  rw [hm, Bool.false_and] at hR
  subst hR
  (refine sR fun K hK => ?_; ((repeat (rw [Qa]; simp)); (try simp only [zs])))
  refine Xi.pure Qe (must_no [decide (0 <= n), decide (0 <= sc)] (by simpa [-Bool.and_eq_false_imp] using hm)) ?_ (by simp [D.fgts, D.fgt, Xb, Wi]) (by simp [D.pures, D.pure, Cp.free, D.pures_map, Xb, Wi]) (by simp [Out.pure, D.pure, D.pures, Cp.free, D.pures_map, Xb, Wi])
  ((try simp only [Qb, Qc, Ql, Qi, Qk]); (repeat (rw [Qa]; simp)); (try simp only [zs]))
  (try simp only [zs])
  refine DefX.objs Qe [1] (catchR_wrong false) ?_ ?_ (fun d h => by cases h; rfl) (by decide) (by simp) (by simp [zz, okA, Qx, Qu, hOf, Qg]) (by simp [zz, okA, Qx, Qu, hOf, Qg]) (by simp [zz, okA, Qx, Qu, hOf, Qg]) (by simp [zz, okA, Qx, Qu, hOf, Qg, Wi])
  ·rintro hc rfl
   simp [zz, okA, Qx, Qu, hOf, Qg, upO, Qi, Qk]
   refine endD.intro rfl (.inr ⟨[], by decide, by simp, ?_⟩)
   simp [Out.mov, Wk, Wl, Wr, D.mov, HO.mov, okM, Wn, Wg, zz, okA, Qx, Qu, hOf, Qg, Out.fgt, D.fgt]
  ·rintro hc rfl
   simp
 | true =>
  rw [hm, Bool.true_and] at hR
  subst hR
  (refine sR fun K hK => ?_; ((repeat (rw [Qa]; simp)); (try simp only [zs])))
  refine Xi.pure Qe (must_ok [decide (0 <= n), decide (0 <= sc)] (by simpa using hm)) ?_ (by simp [D.fgts, D.fgt, Xb]) (by simp [D.pures, D.pure, Cp.free, D.pures_map, Xb]) (by simp [Out.pure, D.pure, D.pures, Cp.free, D.pures_map, Xb])
  ((try simp only [Qb, Qc, Ql, Qi, Qk]); (repeat (rw [Qa]; simp)); (try simp only [zs]))
  (refine hK _ _ _ ?_; clear hK K)
  cases R with
  | true =>
   simp only [Xp, if_true] at hw
   (refine Qf fun K hK => ?_; refine dR fun KT hKT => ?_; ((repeat (rw [Qh]; simp)); (try simp only [Qm])))
   refine cYp (hk) ?_
   ((try simp only [Qn, Qo, Ql, Qi, Qk]); (repeat (rw [Qh]; simp)); (try simp only [Qm]))
   refine cYp (hw) ?_
   ((try simp only [Qn, Qo, Ql, Qi, Qk]); (repeat (rw [Qh]; simp)); (try simp only [Qm]))
   (refine hKT _ _ _ _ (by kernel_rfl) ?_; clear hKT KT; (try simp only [zs]))
   (refine hK _ _ _ ?_; clear hK K)
   (refine sR fun K hK => ?_; ((repeat (rw [Qa]; simp)); (try simp only [zs])); refine hK _ _ _ ?_; clear hK K)
   refine Qj ?_
   refine DefX.objs Qe [1] (catchR_idle true) ?_ ?_ (fun d h => by cases h) (by decide) (by simp) (by simp [zz, okA, Qx, Qu, hOf, Qg]) (by simp [zz, okA, Qx, Qu, hOf, Qg]) (by simp [zz, okA, Qx, Qu, hOf, Qg]) (by simp [zz, okA, Qx, Qu, hOf, Qg])
   ·rintro hc rfl
    simp [zz, okA, Qx, Qu, hOf, Qg, upO, Qi, Qk]
    refine endD.intro rfl (.inr ⟨[], by decide, by simp, ?_⟩)
    simp [Out.mov, Wk, Wl, Wr, D.mov, HO.mov, okM, Wn, Wg, zz, okA, Qx, Qu, hOf, Qg, Out.fgt, D.fgt]
   ·rintro hc rfl
    simp
  | false =>
   simp only [Xp, if_false, Bool.false_eq_true] at hw
   (refine Qf fun K hK => ?_; refine dR fun KT hKT => ?_; ((repeat (rw [Qh]; simp)); (try simp only [Qm])))
   refine cYp (hk) ?_
   ((try simp only [Qn, Qo, Ql, Qi, Qk]); (repeat (rw [Qh]; simp)); (try simp only [Qm]))
   refine CallY.pure Qe (hw) ?_ (by simp [D.fgts, D.fgt, Wi]) (by simp [D.pures, D.pure, Cp.free, D.pures_map, Wi]) (by simp [Out.pure, D.pure, D.pures, Cp.free, D.pures_map, Wi])
   ((try simp only [Qn, Qo, Ql, Qi, Qk]); (repeat (refine wpT_late _ _ _ _ (by kernel_rfl) ?_; simp only [Ql, List.set, List.nil_append, List.cons_append, Nat.reduceAdd])); (try simp only [Qm]))
   (refine hKT _ _ _ _ (by kernel_rfl) ?_; clear hKT KT; (try simp only [zs]))
   simp
   refine DefX.objs Qe [1] (catchR_wrong false) ?_ ?_ (fun d h => by cases h; rfl) (by decide) (by simp [killHl]) (by simp [zz, okA, Qx, Qu, hOf, Qg, killHl]) (by simp [zz, okA, Qx, Qu, hOf, Qg, killHl]) (by simp [zz, okA, Qx, Qu, hOf, Qg]) (by simp [zz, okA, Qx, Qu, hOf, Qg, Wi])
   ·rintro hc rfl
    simp [zz, okA, Qx, Qu, hOf, Qg, upO, Qi, Qk, killHl, killTl]
    refine endD.intro rfl (.inr ⟨[], by decide, by simp, ?_⟩)
    simp [Out.mov, Wk, Wl, Wr, D.mov, HO.mov, okM, Wn, Wg, zz, okA, Qx, Qu, hOf, Qg, Out.fgt, D.fgt]
   ·rintro hc rfl
    simp
theorem sameLevels_gen (p : LV -> LV -> Bool) (l m : List (LV)) (hl : l.length <= Wd) (hm : m.length <= Wd) (hg : ∀ x y, x ∈ l -> y ∈ m -> Qt Tryz.prog glob 35 [Wp x, Wp y] [] (fun o _ => o.fgt = .ret (.bool (p x y)))) :
  Qt Tryz.prog glob 45 [.slice (l.map Wp) .any, .slice (m.map Wp) .any] [] (fun o _ => o.fgt = .ret (.bool (eqAll p l m))) := by
 obtain ⟨R, hR⟩ : ∃ R, R = eqAll p l m := ⟨_, rfl⟩
 rw [<- hR]
 have hl0 := hl
 unfold Wd at hl0
 refine Qt.movd Qe (Qq Wb Tryz.func45 rfl (Qy _ _ Tryz.func45 rfl (by decide)) rfl rfl ?_)
 (refine sR fun K hK => ?_; ((repeat (rw [Qa]; simp)); (try simp only [zs])); refine hK _ _ _ ?_; clear hK K)
 refine Qf fun K1 hK1 => ?_
 by_cases hlen : l.length = m.length
 ·have hlen' : (l.length : Int) = m.length := by omega
  (refine sR fun K hK => ?_; ((repeat (rw [Qa]; simp [hlen, hlen'])); (try simp only [zs])); refine hK _ _ _ ?_; clear hK K)
  refine pF rfl ?_
  refine Qs (hK1 _ _ _ ?_)
  clear hK1 K1
  refine Qf fun K1 hK1 => ?_
  (refine sR fun K hK => ?_; ((repeat (rw [Qa]; simp)); (try simp only [zs])); refine hK _ _ _ ?_; clear hK K)
  refine Xh ?_
  refine wpD_loopWJ [4, 11, 12, 13, 14, 15, 16, 17, 18, 19, 20, 21, 22, 23, 24, 25, 26] [5] (fun n ys hl => ∃ (k : Nat), ys = [.int .i64 k] /\ n + k = l.length /\ R = eqAll p (l.drop k) (m.drop k) /\ hl = []) (l.length) (by kernel_rfl) ?_ ?_
  ·exact ⟨0, rfl, rfl, hR, rfl⟩
  ·rintro n ys hl A hA ⟨i, rfl, hn, hF, rfl⟩
   simp only [Qr, List.set, List.map_cons, List.map_nil, List.cons_append, List.nil_append]
   refine Qf fun K2 hK2 => ?_
   by_cases hi : i < l.length
   ·have hi2 : i < m.length := by omega
    have hi' : (i : Int) < l.length := by omega
    have hi2' : (i : Int) < m.length := by omega
    (refine sR fun K hK => ?_; ((repeat (rw [Qa]; simp [hi, hi'])); (try simp only [zs])); refine hK _ _ _ ?_; clear hK K)
    refine pT rfl ?_
    refine Qs (hK2 _ _ _ ?_)
    clear hK2 K2
    refine Qf fun K3 hK3 => ?_
    refine Xh ?_
    rw [eqAll_drop hi hi2] at hF
    have hrec := hg l[i] m[i] (List.getElem_mem hi) (List.getElem_mem hi2)
    obtain ⟨x, hx⟩ : ∃ x, l[i] = x := ⟨_, rfl⟩
    obtain ⟨y, hy⟩ : ∃ y, m[i] = y := ⟨_, rfl⟩
    rw [hx, hy] at hrec hF
    have hEx : Wp x = .agg [.slice (x.map Xq) .any] := rfl
    have hEy : Wp y = .agg [.slice (y.map Xq) .any] := rfl
    rw [hEx, hEy] at hrec
    generalize p x y = B at hrec hF
    (refine Qf fun K hK => ?_; refine dR fun KT hKT => ?_; ((repeat (rw [Qh]; simp [hi, hi', hx, hi2, hi2', hy, hEx, hEy])); (try simp only [Qm])))
    refine cYp (hrec) ?_
    ((try simp only [Qn, Qo, Ql, Qi, Qk]); (repeat (rw [Qh]; simp)); (try simp only [Qm]))
    (refine hKT _ _ _ _ (by kernel_rfl) ?_; clear hKT KT; (try simp only [zs]))
    (refine hK _ _ _ ?_; clear hK K)
    cases B with
    | true =>
     refine pF rfl ?_
     refine Qs (hK3 _ _ _ ?_)
     clear hK3 K3
     have hw1 : IntKind.i64.wrap ((i : Int) + 1) = (i : Int) + 1 := i64w (by omega) (by omega)
     (refine Qz Wb ?_; ((repeat (rw [Qa]; simp [hw1])); (try simp only [zs])))
     refine hA (n - 1) _ _ _ (LeT.refl _) (by omega) (by kernel_rfl) ?_
     exact ⟨i + 1, rfl, by omega, by simpa using hF, rfl⟩
    | false =>
     refine pT rfl ?_
     (refine sR fun K hK => ?_; ((repeat (rw [Qa]; simp)); (try simp only [zs])); refine hK _ _ _ ?_; clear hK K)
     (refine Qj ?_; (try simp only [zs]); refine Wc.ret rfl (.inl ?_); simp [Qp, Out.fgt, D.fgt, D.fgts])
     simpa using hF
   ·have hi' : ¬ (i : Int) < l.length := by omega
    (refine sR fun K hK => ?_; ((repeat (rw [Qa]; simp [hi, hi'])); (try simp only [zs])); refine hK _ _ _ ?_; clear hK K)
    refine pF rfl ?_
    refine wpD_exit ?_
    refine hK1 _ _ _ ?_
    rw [List.drop_of_length_le (by omega), List.drop_of_length_le (by omega)] at hF
    have hF' : R = true := hF
    subst hF'
    (refine sR fun K hK => ?_; ((repeat (rw [Qa]; simp)); (try simp only [zs])); refine hK _ _ _ ?_; clear hK K)
    (refine Qj ?_; (try simp only [zs]); refine Wc.ret rfl (.inl ?_); simp [Qp, Out.fgt, D.fgt, D.fgts])
 ·have hlen' : ¬ (l.length : Int) = m.length := by omega
  (refine sR fun K hK => ?_; ((repeat (rw [Qa]; simp [hlen, hlen'])); (try simp only [zs])); refine hK _ _ _ ?_; clear hK K)
  refine pT rfl ?_
  (refine sR fun K hK => ?_; ((repeat (rw [Qa]; simp)); (try simp only [zs])); refine hK _ _ _ ?_; clear hK K)
  (refine Qj ?_; (try simp only [zs]); refine Wc.ret rfl (.inl ?_); simp [Qp, Out.fgt, D.fgt, D.fgts])
  rw [hR]; exact eqAll_len hlen
theorem sameTerms_gen (p : T -> T -> Bool) (l m : List (T)) (hl : l.length <= Wd) (hm : m.length <= Wd) (hg : ∀ x y, x ∈ l -> y ∈ m -> Qt Tryz.prog glob 14 [Qv x, Qv y] [] (fun o _ => o.fgt = .ret (.bool (p x y)))) :
  Qt Tryz.prog glob 46 [.slice (l.map Qv) .any, .slice (m.map Qv) .any] [] (fun o _ => o.fgt = .ret (.bool (eqAll p l m))) := by
 obtain ⟨R, hR⟩ : ∃ R, R = eqAll p l m := ⟨_, rfl⟩
 rw [<- hR]
 have hl0 := hl
 unfold Wd at hl0
 refine Qt.movd Qe (Qq Wb Tryz.func46 rfl (Qy _ _ Tryz.func46 rfl (by decide)) rfl rfl ?_)
 (refine sR fun K hK => ?_; ((repeat (rw [Qa]; simp)); (try simp only [zs])); refine hK _ _ _ ?_; clear hK K)
 refine Qf fun K1 hK1 => ?_
 by_cases hlen : l.length = m.length
 ·have hlen' : (l.length : Int) = m.length := by omega
  (refine sR fun K hK => ?_; ((repeat (rw [Qa]; simp [hlen, hlen'])); (try simp only [zs])); refine hK _ _ _ ?_; clear hK K)
  refine pF rfl ?_
  refine Qs (hK1 _ _ _ ?_)
  clear hK1 K1
  refine Qf fun K1 hK1 => ?_
  (refine sR fun K hK => ?_; ((repeat (rw [Qa]; simp)); (try simp only [zs])); refine hK _ _ _ ?_; clear hK K)
  refine Xh ?_
  refine wpD_loopWJ [4, 11, 12, 13, 14, 15, 16, 17, 18, 19, 20, 21, 22, 23, 24, 25, 26] [5] (fun n ys hl => ∃ (k : Nat), ys = [.int .i64 k] /\ n + k = l.length /\ R = eqAll p (l.drop k) (m.drop k) /\ hl = []) (l.length) (by kernel_rfl) ?_ ?_
  ·exact ⟨0, rfl, rfl, hR, rfl⟩
  ·rintro n ys hl A hA ⟨i, rfl, hn, hF, rfl⟩
   simp only [Qr, List.set, List.map_cons, List.map_nil, List.cons_append, List.nil_append]
   refine Qf fun K2 hK2 => ?_
   by_cases hi : i < l.length
   ·have hi2 : i < m.length := by omega
    have hi' : (i : Int) < l.length := by omega
    have hi2' : (i : Int) < m.length := by omega
    (refine sR fun K hK => ?_; ((repeat (rw [Qa]; simp [hi, hi'])); (try simp only [zs])); refine hK _ _ _ ?_; clear hK K)
    refine pT rfl ?_
    refine Qs (hK2 _ _ _ ?_)
    clear hK2 K2
    refine Qf fun K3 hK3 => ?_
    refine Xh ?_
    rw [eqAll_drop hi hi2] at hF
    have hrec := hg l[i] m[i] (List.getElem_mem hi) (List.getElem_mem hi2)
    obtain ⟨x, hx⟩ : ∃ x, l[i] = x := ⟨_, rfl⟩
    obtain ⟨y, hy⟩ : ∃ y, m[i] = y := ⟨_, rfl⟩
    rw [hx, hy] at hrec hF
    have hEx := Qd x
    have hEy := Qd y
    rw [hEx, hEy] at hrec
    generalize p x y = B at hrec hF
    (refine Qf fun K hK => ?_; refine dR fun KT hKT => ?_; ((repeat (rw [Qh]; simp [hi, hi', hx, hi2, hi2', hy, hEx, hEy])); (try simp only [Qm])))
    refine cYp (hrec) ?_
    ((try simp only [Qn, Qo, Ql, Qi, Qk]); (repeat (rw [Qh]; simp)); (try simp only [Qm]))
    (refine hKT _ _ _ _ (by kernel_rfl) ?_; clear hKT KT; (try simp only [zs]))
    (refine hK _ _ _ ?_; clear hK K)
    cases B with
    | true =>
     refine pF rfl ?_
     refine Qs (hK3 _ _ _ ?_)
     clear hK3 K3
     have hw1 : IntKind.i64.wrap ((i : Int) + 1) = (i : Int) + 1 := i64w (by omega) (by omega)
     (refine Qz Wb ?_; ((repeat (rw [Qa]; simp [hw1])); (try simp only [zs])))
     refine hA (n - 1) _ _ _ (LeT.refl _) (by omega) (by kernel_rfl) ?_
     exact ⟨i + 1, rfl, by omega, by simpa using hF, rfl⟩
    | false =>
     refine pT rfl ?_
     (refine sR fun K hK => ?_; ((repeat (rw [Qa]; simp)); (try simp only [zs])); refine hK _ _ _ ?_; clear hK K)
     (refine Qj ?_; (try simp only [zs]); refine Wc.ret rfl (.inl ?_); simp [Qp, Out.fgt, D.fgt, D.fgts])
     simpa using hF
   ·have hi' : ¬ (i : Int) < l.length := by omega
    (refine sR fun K hK => ?_; ((repeat (rw [Qa]; simp [hi, hi'])); (try simp only [zs])); refine hK _ _ _ ?_; clear hK K)
    refine pF rfl ?_
    refine wpD_exit ?_
    refine hK1 _ _ _ ?_
    rw [List.drop_of_length_le (by omega), List.drop_of_length_le (by omega)] at hF
    have hF' : R = true := hF
    subst hF'
    (refine sR fun K hK => ?_; ((repeat (rw [Qa]; simp)); (try simp only [zs])); refine hK _ _ _ ?_; clear hK K)
    (refine Qj ?_; (try simp only [zs]); refine Wc.ret rfl (.inl ?_); simp [Qp, Out.fgt, D.fgt, D.fgts])
 ·have hlen' : ¬ (l.length : Int) = m.length := by omega
  (refine sR fun K hK => ?_; ((repeat (rw [Qa]; simp [hlen, hlen'])); (try simp only [zs])); refine hK _ _ _ ?_; clear hK K)
  refine pT rfl ?_
  (refine sR fun K hK => ?_; ((repeat (rw [Qa]; simp)); (try simp only [zs])); refine hK _ _ _ ?_; clear hK K)
  (refine Qj ?_; (try simp only [zs]); refine Wc.ret rfl (.inl ?_); simp [Qp, Out.fgt, D.fgt, D.fgts])
  rw [hR]; exact eqAll_len hlen
theorem eqAll_eq {α : Type} [DecidableEq α] : ∀ l m : List α, eqAll (fun x y => decide (x = y)) l m = decide (l = m)
 | [], [] => by simp [eqAll]
 | [], _ :: _ => by simp [eqAll]
 | _ :: _, [] => by simp [eqAll]
 | a :: r, b :: s => by rw [eqAll, eqAll_eq r s]; by_cases h : a = b <;> simp [h]
mutual
def T.eqB : T -> T -> Bool
 | .mk k n a ls ks, .mk k' n' a' ls' ks' => decide (k = k') && decide (n = n') && decide (a = a') && decide (ls = ls') && T.eqsB ks ks'
def T.eqsB : List T -> List T -> Bool
 | [], [] => true
 | a :: r, b :: s => T.eqB a b && T.eqsB r s
 | [], _ :: _ => false
 | _ :: _, [] => false
end
mutual
theorem T.eqB_iff : ∀ t u : T, T.eqB t u = true ↔ t = u
 | .mk k n a ls ks, .mk k' n' a' ls' ks' => by rw [T.eqB]; simp [T.eqsB_iff ks ks', and_assoc]
theorem T.eqsB_iff : ∀ l m : List T, T.eqsB l m = true ↔ l = m
 | [], [] => by rw [T.eqsB]; simp
 | a :: r, b :: s => by rw [T.eqsB]; simp [T.eqB_iff a b, T.eqsB_iff r s]
 | [], _ :: _ => by rw [T.eqsB]; simp
 | _ :: _, [] => by rw [T.eqsB]; simp
end
theorem eqs_all : ∀ l m : List T, T.eqsB l m = eqAll T.eqB l m
 | [], [] => by rw [T.eqsB]; rfl
 | a :: r, b :: s => by rw [T.eqsB, eqs_all r s]; rfl
 | [], _ :: _ => by rw [T.eqsB]; rfl
 | _ :: _, [] => by rw [T.eqsB]; rfl
theorem sameLevels_spec (l m : List LV) (hl : l.length <= Wd) (hm : m.length <= Wd) (hls : ∀ x, x ∈ l -> x.length <= Wd) (hms : ∀ x, x ∈ m -> x.length <= Wd) :
  Qt Tryz.prog glob 45 [.slice (l.map Wp) .any, .slice (m.map Wp) .any] [] (fun o _ => o.fgt = .ret (.bool (decide (l = m)))) := by
 rw [<- eqAll_eq]
 exact sameLevels_gen _ l m hl hm fun x y hx hy => sameLevel_spec x y (hls x hx) (hms y hy)
theorem eqT_spec (t : T) : ∀ u, okT t -> okT u -> Qt Tryz.prog glob 14 [Qv t, Qv u] [] (fun o _ => o.fgt = .ret (.bool (t.eqB u))) := by
 induction t using T.ind with
 | h k n a ls ks ih =>
  rintro ⟨k', n', a', ls', ks'⟩ ht hu
  have hls := ht.ls
  have hls' := hu.ls
  have hks := ht.ks
  have hks' := hu.ks
  simp only [T.ls_mk, T.ks_mk] at hls hls' hks hks'
  have hL := sameLevels_spec ls ls' ht.ll hu.ll (fun x hx => (hls x hx).1) (fun x hx => (hls' x hx).1)
  have hT := sameTerms_gen T.eqB ks ks' ht.kl hu.kl (fun x y hx hy => ih x hx y (hks x hx) (hks' y hy))
  have hF : (T.mk k n a ls ks).eqB (.mk k' n' a' ls' ks') = (decide (k = k') && decide (n = n') && decide (a = a') && decide (ls = ls') && T.eqsB ks ks') := by rw [T.eqB]
  rw [hF, eqs_all]
  generalize eqAll T.eqB ks ks' = B2 at hT ⊢
  generalize decide (ls = ls') = B1 at hL ⊢
  clear hF ih hls hls' hks hks' ht hu
  rw [Qd, Qd]
  simp only [T.k_mk, T.n_mk, T.a_mk, T.ls_mk, T.ks_mk]
  refine Qt.movd Qe (Qq Wb Tryz.func14 rfl (Qy _ _ Tryz.func14 rfl (by decide)) rfl rfl ?_)
  (refine sR fun K hK => ?_; ((repeat (rw [Qa]; simp)); (try simp only [zs])); refine hK _ _ _ ?_; clear hK K)
  by_cases h1 : k = k'
  ·subst h1
   by_cases h2 : n = n'
   ·subst h2
    by_cases h3 : a = a'
    ·subst h3
     cases B1 with
     | true =>
      (refine sR fun K hK => ?_; ((repeat (rw [Qa]; simp)); (try simp only [zs])))
      refine cXp (hL) ?_
      ((try simp only [Qb, Qc, Ql, Qi, Qk]); (repeat (rw [Qa]; simp)); (try simp only [zs]))
      refine cXp (hT) ?_
      ((try simp only [Qb, Qc, Ql, Qi, Qk]); (repeat (rw [Qa]; simp)); (try simp only [zs]))
      (refine hK _ _ _ ?_; clear hK K)
      (refine Qj ?_; (try simp only [zs]); refine Wc.ret rfl (.inl ?_); simp [Qp, Out.fgt, D.fgt, D.fgts])
     | false =>
      (refine sR fun K hK => ?_; ((repeat (rw [Qa]; simp)); (try simp only [zs])))
      refine cXp (hL) ?_
      ((try simp only [Qb, Qc, Ql, Qi, Qk]); (repeat (rw [Qa]; simp)); (try simp only [zs]))
      (refine hK _ _ _ ?_; clear hK K)
      (refine Qj ?_; (try simp only [zs]); refine Wc.ret rfl (.inl ?_); simp [Qp, Out.fgt, D.fgt, D.fgts])
    ·(refine sR fun K hK => ?_; ((repeat (rw [Qa]; simp [h3])); (try simp only [zs])); refine hK _ _ _ ?_; clear hK K)
     (refine Qj ?_; (try simp only [zs]); refine Wc.ret rfl (.inl ?_); simp [Qp, Out.fgt, D.fgt, D.fgts])
     simp [h3]
   ·(refine sR fun K hK => ?_; ((repeat (rw [Qa]; simp [h2])); (try simp only [zs])); refine hK _ _ _ ?_; clear hK K)
    (refine Qj ?_; (try simp only [zs]); refine Wc.ret rfl (.inl ?_); simp [Qp, Out.fgt, D.fgt, D.fgts])
    simp [h2]
  ·(refine sR fun K hK => ?_; ((repeat (rw [Qa]; simp [h1])); (try simp only [zs])); refine hK _ _ _ ?_; clear hK K)
   (refine Qj ?_; (try simp only [zs]); refine Wc.ret rfl (.inl ?_); simp [Qp, Out.fgt, D.fgt, D.fgts])
   simp [h1]
def outNum (n : Int) : Bool := decide (n < 0) || decide (1048576 < n)
def nodeKids (k a : Int) : Int := if k = 24 then IntKind.i64.wrap ((kindAt k).2.2.2.1 + a) else (kindAt k).2.2.2.1
def nodeMost (k : Int) : Int := if k = 10 then 10 else 8
def nodeIn (k n a : Int) : Bool := decide (1 <= k) && decide (k <= 24) && !(outNum n || outNum a)
def nodeHas (k n a : Int) (ls : List LV) (len : Nat) : Bool :=
 decide ((len : Int) = nodeKids k a) && (decide (n = 0) || (kindAt k).1) && (decide (a = 0) || (kindAt k).2.1) && (decide ((kindAt k).2.2.1 < 0) || decide ((ls.length : Int) = (kindAt k).2.2.1)) && decide ((ls.length : Int) <= nodeMost k)
def nodeT (t : T) : Bool := nodeIn t.k t.n t.a && nodeHas t.k t.n t.a t.ls t.ks.length && !(t.ls.any fun l => !levelRight l 9)
mutual
def T.cnt : T -> Int -> Int -> Bool × Int
 | .mk k n a ls ks, deep, c =>
  let c1 := IntKind.i64.wrap (c + 1)
  if deep <= 400 /\ c1 <= 20000 /\ nodeT (.mk k n a ls ks) = true then T.cnts ks (IntKind.i64.wrap (deep + 1)) c1 else (false, c1)
def T.cnts : List T -> Int -> Int -> Bool × Int
 | [], _, c => (true, c)
 | t :: r, deep, c => if (T.cnt t deep c).1 = true then T.cnts r deep (T.cnt t deep c).2 else (false, (T.cnt t deep c).2)
end
def cntF {α : Type} (step : α -> Int -> Int) (q : Int) : List α -> Int -> Int
 | [], n => n
 | x :: r, n => if n <= q then cntF step q r (step x n) else n
def lvOf (q : Int) (l : LV) : Int := min (IntKind.i64.wrap (1 + (l.length : Int))) (IntKind.i64.wrap (q + 1))
theorem lvOf_spec (l : LV) (q : Int) : Qt Tryz.prog glob 137 [Wp l, .int .i64 q] [] (fun o _ => o.fgt = .ret (.int .i64 (lvOf q l))) := by
 refine Qt.movd Qe (Qq Wb Tryz.func137 rfl (Qy _ _ Tryz.func137 rfl (by decide)) rfl rfl ?_)
 unfold Wp
 (refine sR fun K hK => ?_; ((repeat (rw [Qa]; simp)); (try simp only [zs])); refine hK _ _ _ ?_; clear hK K)
 (refine sR fun K hK => ?_; ((repeat (rw [Qa]; simp)); (try simp only [zs])); refine hK _ _ _ ?_; clear hK K)
 (refine Qj ?_; (try simp only [zs]); refine Wc.ret rfl (.inl ?_); simp [Qp, Out.fgt, D.fgt, D.fgts])
 rfl
theorem lvsOf_gen (l : List (LV)) (q : Int) (step : LV -> Int -> Int) (hl : l.length <= Wd) (hst : ∀ x s, step x s = IntKind.i64.wrap (s + lvOf q x)) (hg : ∀ x, x ∈ l -> ∀ s : Int, Qt Tryz.prog glob 137 [Wp x, .int .i64 q] [] (fun o _ => o.fgt = .ret (.int .i64 (lvOf q x)))) :
  Qt Tryz.prog glob 85 [.slice (l.map Wp) .any, .int .i64 q] [] (fun o _ => o.fgt = .ret (.int .i64 (cntF step q l 0))) := by
 obtain ⟨R, hR⟩ : ∃ R, R = cntF step q l 0 := ⟨_, rfl⟩
 rw [<- hR]
 have hl0 := hl
 unfold Wd at hl0
 refine Qt.movd Qe (Qq Wb Tryz.func85 rfl (Qy _ _ Tryz.func85 rfl (by decide)) rfl rfl ?_)
 (refine sR fun K hK => ?_; ((repeat (rw [Qa]; simp)); (try simp only [zs])); refine hK _ _ _ ?_; clear hK K)
 (refine sR fun K hK => ?_; ((repeat (rw [Qa]; simp)); (try simp only [zs])); refine hK _ _ _ ?_; clear hK K)
 refine Qf fun K1 hK1 => ?_
 (refine sR fun K hK => ?_; ((repeat (rw [Qa]; simp)); (try simp only [zs])); refine hK _ _ _ ?_; clear hK K)
 refine Xh ?_
 refine wpD_loopWJ [7, 8, 9, 10, 11, 12, 13, 14, 15, 16, 17, 18, 19, 20, 21, 22, 23, 24, 25] [5, 6] (fun n ys hl => ∃ (k : Nat) (s : Int), ys = [.int .i64 s, .int .i64 k] /\ n + k = l.length /\ R = cntF step q (l.drop k) s /\ hl = []) (l.length) (by kernel_rfl) ?_ ?_
 ·exact ⟨0, 0, rfl, rfl, hR, rfl⟩
 ·rintro n ys hl A hA ⟨i, s, rfl, hn, hF, rfl⟩
  simp only [Qr, List.set, List.map_cons, List.map_nil, List.cons_append, List.nil_append]
  refine Qf fun K2 hK2 => ?_
  by_cases hi : i < l.length
  ·have hi' : (i : Int) < l.length := by omega
   by_cases hs : s <= q
   ·(refine sR fun K hK => ?_; ((repeat (rw [Qa]; simp [hi, hi', hs])); (try simp only [zs])); refine hK _ _ _ ?_; clear hK K)
    refine pT rfl ?_
    refine Qs (hK2 _ _ _ ?_)
    clear hK2 K2
    refine Qf fun K3 hK3 => ?_
    refine Xh ?_
    rw [List.drop_eq_getElem_cons hi, cntF, if_pos hs] at hF
    have hrec := hg l[i] (List.getElem_mem hi) s
    obtain ⟨x, hx⟩ : ∃ x, l[i] = x := ⟨_, rfl⟩
    rw [hx] at hrec hF
    unfold Wp at hrec
    obtain ⟨v, hv⟩ : ∃ v, lvOf q x = v := ⟨_, rfl⟩
    rw [hv] at hrec
    rw [hst, hv] at hF
    (refine Qz Wb ?_; ((repeat (rw [Qa]; simp [hi, hi', hx, Wp])); (try simp only [zs])))
    refine cXp (hrec) ?_
    ((try simp only [Qb, Qc, Ql, Qi, Qk]); (repeat (rw [Qa]; simp)); (try simp only [zs]))
    refine hK3 _ _ _ ?_
    clear hK3 K3
    have hw1 : IntKind.i64.wrap ((i : Int) + 1) = (i : Int) + 1 := i64w (by omega) (by omega)
    (refine Qz Wb ?_; ((repeat (rw [Qa]; simp [hw1])); (try simp only [zs])))
    refine hA (n - 1) _ _ _ (LeT.refl _) (by omega) (by kernel_rfl) ?_
    exact ⟨i + 1, _, rfl, by omega, hF, rfl⟩
   ·(refine sR fun K hK => ?_; ((repeat (rw [Qa]; simp [hi, hi', hs])); (try simp only [zs])); refine hK _ _ _ ?_; clear hK K)
    refine pF rfl ?_
    refine wpD_exit ?_
    refine hK1 _ _ _ ?_
    rw [List.drop_eq_getElem_cons hi, cntF, if_neg hs] at hF
    subst hF
    (refine sR fun K hK => ?_; ((repeat (rw [Qa]; simp)); (try simp only [zs])); refine hK _ _ _ ?_; clear hK K)
    (refine Qj ?_; (try simp only [zs]); refine Wc.ret rfl (.inl ?_); simp [Qp, Out.fgt, D.fgt, D.fgts])
  ·have hi' : ¬ (i : Int) < l.length := by omega
   (refine sR fun K hK => ?_; ((repeat (rw [Qa]; simp [hi, hi'])); (try simp only [zs])); refine hK _ _ _ ?_; clear hK K)
   refine pF rfl ?_
   refine wpD_exit ?_
   refine hK1 _ _ _ ?_
   rw [List.drop_of_length_le (by omega), cntF] at hF
   subst hF
   (refine sR fun K hK => ?_; ((repeat (rw [Qa]; simp)); (try simp only [zs])); refine hK _ _ _ ?_; clear hK K)
   (refine Qj ?_; (try simp only [zs]); refine Wc.ret rfl (.inl ?_); simp [Qp, Out.fgt, D.fgt, D.fgts])
def lvsN (q : Int) (ls : List LV) : Int := cntF (fun x s => IntKind.i64.wrap (s + lvOf q x)) q ls 0
theorem lvsN_spec (ls : List LV) (q : Int) (hl : ls.length <= Wd) : Qt Tryz.prog glob 85 [.slice (ls.map Wp) .any, .int .i64 q] [] (fun o _ => o.fgt = .ret (.int .i64 (lvsN q ls))) :=
 lvsOf_gen ls q _ hl (fun _ _ => rfl) (fun x _ _ => lvOf_spec x q)
mutual
def T.tof : T -> Int -> Int
 | .mk _ _ _ ls ks, q => IntKind.i64.wrap (IntKind.i64.wrap (1 + lvsN q ls) + T.tofs ks 0 q)
def T.tofs : List T -> Int -> Int -> Int
 | [], n, _ => n
 | t :: r, n, q => if n <= q then T.tofs r (IntKind.i64.wrap (n + T.tof t (IntKind.i64.wrap (q - n)))) q else n
end
theorem tofs_cnt (q : Int) : ∀ (l : List T) (n : Int), T.tofs l n q = cntF (fun x s => IntKind.i64.wrap (s + T.tof x (IntKind.i64.wrap (q - s)))) q l n
 | [], n => by rw [T.tofs, cntF]
 | t :: r, n => by rw [T.tofs, cntF, tofs_cnt q r]
theorem tofs_gen (l : List (T)) (q : Int) (step : T -> Int -> Int) (hl : l.length <= Wd) (hst : ∀ x s, step x s = IntKind.i64.wrap (s + T.tof x (IntKind.i64.wrap (q - s)))) (hg : ∀ x, x ∈ l -> ∀ s : Int, Qt Tryz.prog glob 42 [Qv x, .int .i64 (IntKind.i64.wrap (q - s))] [] (fun o _ => o.fgt = .ret (.int .i64 (T.tof x (IntKind.i64.wrap (q - s)))))) :
  Qt Tryz.prog glob 74 [.slice (l.map Qv) .any, .int .i64 q] [] (fun o _ => o.fgt = .ret (.int .i64 (cntF step q l 0))) := by
 obtain ⟨R, hR⟩ : ∃ R, R = cntF step q l 0 := ⟨_, rfl⟩
 rw [<- hR]
 have hl0 := hl
 unfold Wd at hl0
 refine Qt.movd Qe (Qq Wb Tryz.func74 rfl (Qy _ _ Tryz.func74 rfl (by decide)) rfl rfl ?_)
 (refine sR fun K hK => ?_; ((repeat (rw [Qa]; simp)); (try simp only [zs])); refine hK _ _ _ ?_; clear hK K)
 (refine sR fun K hK => ?_; ((repeat (rw [Qa]; simp)); (try simp only [zs])); refine hK _ _ _ ?_; clear hK K)
 refine Qf fun K1 hK1 => ?_
 (refine sR fun K hK => ?_; ((repeat (rw [Qa]; simp)); (try simp only [zs])); refine hK _ _ _ ?_; clear hK K)
 refine Xh ?_
 refine wpD_loopWJ [7, 8, 9, 10, 11, 12, 13, 14, 15, 16, 17, 18, 19, 20, 21, 22, 23, 24, 25, 26, 27] [5, 6] (fun n ys hl => ∃ (k : Nat) (s : Int), ys = [.int .i64 s, .int .i64 k] /\ n + k = l.length /\ R = cntF step q (l.drop k) s /\ hl = []) (l.length) (by kernel_rfl) ?_ ?_
 ·exact ⟨0, 0, rfl, rfl, hR, rfl⟩
 ·rintro n ys hl A hA ⟨i, s, rfl, hn, hF, rfl⟩
  simp only [Qr, List.set, List.map_cons, List.map_nil, List.cons_append, List.nil_append]
  refine Qf fun K2 hK2 => ?_
  by_cases hi : i < l.length
  ·have hi' : (i : Int) < l.length := by omega
   by_cases hs : s <= q
   ·(refine sR fun K hK => ?_; ((repeat (rw [Qa]; simp [hi, hi', hs])); (try simp only [zs])); refine hK _ _ _ ?_; clear hK K)
    refine pT rfl ?_
    refine Qs (hK2 _ _ _ ?_)
    clear hK2 K2
    refine Qf fun K3 hK3 => ?_
    refine Xh ?_
    rw [List.drop_eq_getElem_cons hi, cntF, if_pos hs] at hF
    have hrec := hg l[i] (List.getElem_mem hi) s
    obtain ⟨x, hx⟩ : ∃ x, l[i] = x := ⟨_, rfl⟩
    rw [hx] at hrec hF
    have hEx := Qd x
    rw [hEx] at hrec
    rw [hst] at hF
    generalize T.tof x (IntKind.i64.wrap (q - s)) = v at hrec hF
    (refine Qz Wb ?_; ((repeat (rw [Qa]; simp [hi, hi', hx, hEx])); (try simp only [zs])))
    refine cXp (hrec) ?_
    ((try simp only [Qb, Qc, Ql, Qi, Qk]); (repeat (rw [Qa]; simp)); (try simp only [zs]))
    refine hK3 _ _ _ ?_
    clear hK3 K3
    have hw1 : IntKind.i64.wrap ((i : Int) + 1) = (i : Int) + 1 := i64w (by omega) (by omega)
    (refine Qz Wb ?_; ((repeat (rw [Qa]; simp [hw1])); (try simp only [zs])))
    refine hA (n - 1) _ _ _ (LeT.refl _) (by omega) (by kernel_rfl) ?_
    exact ⟨i + 1, _, rfl, by omega, hF, rfl⟩
   ·(refine sR fun K hK => ?_; ((repeat (rw [Qa]; simp [hi, hi', hs])); (try simp only [zs])); refine hK _ _ _ ?_; clear hK K)
    refine pF rfl ?_
    refine wpD_exit ?_
    refine hK1 _ _ _ ?_
    rw [List.drop_eq_getElem_cons hi, cntF, if_neg hs] at hF
    subst hF
    (refine sR fun K hK => ?_; ((repeat (rw [Qa]; simp)); (try simp only [zs])); refine hK _ _ _ ?_; clear hK K)
    (refine Qj ?_; (try simp only [zs]); refine Wc.ret rfl (.inl ?_); simp [Qp, Out.fgt, D.fgt, D.fgts])
  ·have hi' : ¬ (i : Int) < l.length := by omega
   (refine sR fun K hK => ?_; ((repeat (rw [Qa]; simp [hi, hi'])); (try simp only [zs])); refine hK _ _ _ ?_; clear hK K)
   refine pF rfl ?_
   refine wpD_exit ?_
   refine hK1 _ _ _ ?_
   rw [List.drop_of_length_le (by omega), cntF] at hF
   subst hF
   (refine sR fun K hK => ?_; ((repeat (rw [Qa]; simp)); (try simp only [zs])); refine hK _ _ _ ?_; clear hK K)
   (refine Qj ?_; (try simp only [zs]); refine Wc.ret rfl (.inl ?_); simp [Qp, Out.fgt, D.fgt, D.fgts])
theorem tof_spec (t : T) : ∀ q, okT t -> Qt Tryz.prog glob 42 [Qv t, .int .i64 q] [] (fun o _ => o.fgt = .ret (.int .i64 (t.tof q))) := by
 induction t using T.ind with
 | h k n a ls ks ih =>
  intro q ht
  have hks := ht.ks
  simp only [T.ks_mk] at hks
  have hL := lvsN_spec ls q ht.ll
  have hT := tofs_gen ks q _ ht.kl (fun _ _ => rfl) (fun x hx s => ih x hx _ (hks x hx))
  rw [<- tofs_cnt] at hT
  have e : (T.mk k n a ls ks).tof q = IntKind.i64.wrap (IntKind.i64.wrap (1 + lvsN q ls) + T.tofs ks 0 q) := by rw [T.tof]
  rw [e]
  generalize lvsN q ls = v at hL ⊢
  generalize T.tofs ks 0 q = v2 at hT ⊢
  rw [Qd]
  simp only [T.k_mk, T.n_mk, T.a_mk, T.ls_mk, T.ks_mk]
  refine Qt.movd Qe (Qq Wb Tryz.func42 rfl (Qy _ _ Tryz.func42 rfl (by decide)) rfl rfl ?_)
  (refine sR fun K hK => ?_; ((repeat (rw [Qa]; simp)); (try simp only [zs])); refine hK _ _ _ ?_; clear hK K)
  (refine Qf fun K hK => ?_; refine dR fun KT hKT => ?_; ((repeat (rw [Qh]; simp)); (try simp only [Qm])))
  refine cYp (hL) ?_
  ((try simp only [Qn, Qo, Ql, Qi, Qk]); (repeat (rw [Qh]; simp)); (try simp only [Qm]))
  refine cYp (hT) ?_
  ((try simp only [Qn, Qo, Ql, Qi, Qk]); (repeat (rw [Qh]; simp)); (try simp only [Qm]))
  (refine hKT _ _ _ _ (by kernel_rfl) ?_; clear hKT KT; (try simp only [zs]))
  (refine hK _ _ _ ?_; clear hK K)
  (refine Qj ?_; (try simp only [zs]); refine Wc.ret rfl (.inl ?_); simp [Qp, Out.fgt, D.fgt, D.fgts])
def vT (n : Int) : T := .mk 1 n 0 [] []
theorem encT_mk (k n a : Int) (ls : List LV) (ks : List T) : Qv (.mk k n a ls ks) = .agg [.int .i64 k, .int .i64 n, .int .i64 a, .slice (ls.map Wp) .any, .slice (ks.map Qv) .any] := Qd _
theorem ok_leaf {k n a : Int} (h1 : I64 k) (h2 : I64 n) (h3 : I64 a) : okT (.mk k n a [] []) := .mk h1 h2 h3 (by simp) (fun _ h => nomatch h) (by simp) (fun _ h => nomatch h)
theorem ok_two {k n a : Int} {x y : T} (h1 : I64 k) (h2 : I64 n) (h3 : I64 a) (hx : okT x) (hy : okT y) : okT (.mk k n a [] [x, y]) := .mk h1 h2 h3 (by simp) (fun _ h => nomatch h) (by unfold Wd; simp) (fun t h => by
 simp only [List.mem_cons, List.not_mem_nil, or_false] at h
 rcases h with rfl | rfl <;> assumption)
theorem i64c {n : Int} (h : -1000000 <= n /\ n <= 1000000 := by decide) : I64 n := by unfold I64; omega
theorem ok_v {n : Int} (h : -1000000 <= n /\ n <= 1000000 := by decide) : okT (vT n) := ok_leaf (i64c) (i64c h) (i64c)
mutual
def T.dp : T -> Int -> Int
 | .mk _ _ _ _ ks, q => IntKind.i64.wrap ((if 0 < q then T.dps ks (IntKind.i64.wrap (q - 1)) 0 else 0) + 1)
def T.dps : List T -> Int -> Int -> Int
 | [], _, s => s
 | t :: r, q, s => T.dps r q (max s (T.dp t q))
end
theorem deep_spec (t : T) : ∀ q, okT t -> Qt Tryz.prog glob 40 [Qv t, .int .i64 q] [] (fun o _ => o.fgt = .ret (.int .i64 (t.dp q))) := by
 induction t using T.ind with
 | h kk m a ls ks ih =>
 intro q ht
 have hkl : ks.length <= Wd := ht.kl
 have hks := ht.ks
 simp only [T.ks_mk] at hks
 unfold Wd at hkl
 have hR0 : T.dp (.mk kk m a ls ks) q = IntKind.i64.wrap ((if 0 < q then T.dps ks (IntKind.i64.wrap (q - 1)) 0 else 0) + 1) := by rw [T.dp]
 rw [hR0]
 rw [Qd]
 simp only [T.k_mk, T.n_mk, T.a_mk, T.ls_mk, T.ks_mk]
 refine Qt.movd Qe (Qq Wb Tryz.func40 rfl (Qy _ _ Tryz.func40 rfl (by decide)) rfl rfl ?_)
 (refine sR fun K hK => ?_; ((repeat (rw [Qa]; simp)); (try simp only [zs])); refine hK _ _ _ ?_; clear hK K)
 (refine sR fun K hK => ?_; ((repeat (rw [Qa]; simp)); (try simp only [zs])); refine hK _ _ _ ?_; clear hK K)
 by_cases hq : 0 < q
 rotate_left
 ·rw [if_neg hq]
  refine Qf fun K1 hK1 => ?_
  (refine sR fun K hK => ?_; ((repeat (rw [Qa]; simp)); (try simp only [zs])); refine hK _ _ _ ?_; clear hK K)
  refine Xh ?_
  refine wpD_loopWJ [7, 8, 9, 10, 11, 12, 13, 14, 15, 16, 17, 18, 19, 20, 21, 22, 23, 24, 25, 26, 27] [5, 6] (fun n ys hl => ys = [.int .i64 0, .int .i64 0] /\ n = 0 /\ hl = [.cells 27 [.int .i64 kk, .int .i64 m, .int .i64 a, .slice (ls.map Wp) .any, .slice (ks.map Qv) .any]]) (0) (by kernel_rfl) ?_ ?_
  ·exact ⟨rfl, rfl, rfl⟩
  ·rintro n ys hl A hA ⟨rfl, -, rfl⟩
   simp only [Qr, List.set, List.map_cons, List.map_nil, List.cons_append, List.nil_append]
   refine Qf fun K2 hK2 => ?_
   by_cases h0 : 0 < ks.length
   ·have h0' : (0 : Int) < ks.length := by omega
    (refine sR fun K hK => ?_; ((repeat (rw [Qa]; simp [h0, h0', hq])); (try simp only [zs])); refine hK _ _ _ ?_; clear hK K)
    refine pF rfl ?_
    refine wpD_exit ?_
    refine hK1 _ _ _ ?_
    (refine sR fun K hK => ?_; ((repeat (rw [Qa]; simp)); (try simp only [zs])); refine hK _ _ _ ?_; clear hK K)
    (refine Qj ?_; (try simp only [zs]); refine Wc.ret rfl (.inl ?_); simp [Qp, Out.fgt, D.fgt, D.fgts])
   ·have h0' : ¬ (0 : Int) < ks.length := by omega
    (refine sR fun K hK => ?_; ((repeat (rw [Qa]; simp [h0, h0', hq])); (try simp only [zs])); refine hK _ _ _ ?_; clear hK K)
    refine pF rfl ?_
    refine wpD_exit ?_
    refine hK1 _ _ _ ?_
    (refine sR fun K hK => ?_; ((repeat (rw [Qa]; simp)); (try simp only [zs])); refine hK _ _ _ ?_; clear hK K)
    (refine Qj ?_; (try simp only [zs]); refine Wc.ret rfl (.inl ?_); simp [Qp, Out.fgt, D.fgt, D.fgts])
 rw [if_pos hq]
 obtain ⟨R, hR⟩ : ∃ R, R = T.dps ks (IntKind.i64.wrap (q - 1)) 0 := ⟨_, rfl⟩
 rw [<- hR]
 refine Qf fun K1a hK1a => ?_
 (refine sR fun K hK => ?_; ((repeat (rw [Qa]; simp)); (try simp only [zs])); refine hK _ _ _ ?_; clear hK K)
 refine Xh ?_
 refine wpD_loopWJ [7, 8, 9, 10, 11, 12, 13, 14, 15, 16, 17, 18, 19, 20, 21, 22, 23, 24, 25, 26, 27] [5, 6] (fun n ys hl => ∃ (k : Nat) (s : Int), ys = [.int .i64 s, .int .i64 k] /\ n + k = ks.length /\ R = T.dps (ks.drop k) (IntKind.i64.wrap (q - 1)) s /\ hl = [.cells 27 [.int .i64 kk, .int .i64 m, .int .i64 a, .slice (ls.map Wp) .any, .slice (ks.map Qv) .any]]) (ks.length) (by kernel_rfl) ?_ ?_
 ·exact ⟨0, 0, rfl, rfl, hR, rfl⟩
 ·rintro n1 ys hl A1 hA1 ⟨i1, s, rfl, hn, hF, rfl⟩
  have hA := hA1
  simp only [Qr, List.set, List.map_cons, List.map_nil, List.cons_append, List.nil_append]
  refine Qf fun K1b hK1b => ?_
  by_cases hi1 : i1 < ks.length
  ·have hi1' : (i1 : Int) < ks.length := by omega
   rw [List.drop_eq_getElem_cons hi1, T.dps] at hF
   have hrec := ih ks[i1] (List.getElem_mem hi1) (IntKind.i64.wrap (q - 1)) (hks _ (List.getElem_mem hi1))
   obtain ⟨x, hx⟩ : ∃ x, ks[i1] = x := ⟨_, rfl⟩
   rw [hx] at hrec hF
   have hEx := Qd x
   rw [hEx] at hrec
   generalize x.dp (IntKind.i64.wrap (q - 1)) = v at hrec hF
   (refine sR fun K hK => ?_; ((repeat (rw [Qa]; simp [hi1, hi1', hq])); (try simp only [zs])); refine hK _ _ _ ?_; clear hK K)
   refine pT rfl ?_
   refine Qs (hK1b _ _ _ ?_)
   clear hK1b K1b
   refine Qf fun K1c hK1c => ?_
   refine Xh ?_
   (refine Qz Wb ?_; ((repeat (rw [Qa]; simp [hi1, hi1', hx, hEx])); (try simp only [zs])))
   refine cXp (hrec) ?_
   ((try simp only [Qb, Qc, Ql, Qi, Qk]); (repeat (rw [Qa]; simp)); (try simp only [zs]))
   refine hK1c _ _ _ ?_
   clear hK1c K1c
   have hw1 : IntKind.i64.wrap ((i1 : Int) + 1) = (i1 : Int) + 1 := i64w (by omega) (by omega)
   (refine Qz Wb ?_; ((repeat (rw [Qa]; simp [hw1])); (try simp only [zs])))
   refine hA (n1 - 1) _ _ _ (LeT.refl _) (by omega) (by kernel_rfl) ?_
   exact ⟨i1 + 1, _, rfl, by omega, hF, rfl⟩
  ·have hi1' : ¬ (i1 : Int) < ks.length := by omega
   (refine sR fun K hK => ?_; ((repeat (rw [Qa]; simp [hi1, hi1', hq])); (try simp only [zs])); refine hK _ _ _ ?_; clear hK K)
   refine pF rfl ?_
   refine wpD_exit ?_
   refine hK1a _ _ _ ?_
   clear hK1b K1b
   rw [List.drop_of_length_le (by omega), T.dps] at hF
   subst hF
   (refine sR fun K hK => ?_; ((repeat (rw [Qa]; simp)); (try simp only [zs])); refine hK _ _ _ ?_; clear hK K)
   (refine Qj ?_; (try simp only [zs]); refine Wc.ret rfl (.inl ?_); simp [Qp, Out.fgt, D.fgt, D.fgts])
end Go.Proofs.YtgloldepdhgfaaaGreatDoor
namespace Go.Proofs.YtgloldepdhgfaaaGreatDoor
set_option linter.unusedSimpArgs false
set_option linter.unusedVariables false
open Go.RowKit
def finN (n : Int) : T := .mk 22 n 0 [] []
def lam6 : T := .mk 5 0 0 [] [finN 2, vT 0]
theorem okCs_nil : okCs [] := ⟨by unfold Wd; simp, (fun _ h => nomatch h), (fun _ h => nomatch h), (fun _ h => nomatch h)⟩
theorem ok_finN (n : Int) (h : I64 n) : okT (finN n) := ok_leaf i64c h i64c
def lvSz : List LV -> Nat
 | [] => 0
 | l :: r => 1 + l.length + lvSz r
mutual
def T.tsz : T -> Nat
 | .mk _ _ _ ls ks => 1 + lvSz ls + T.tszs ks
def T.tszs : List T -> Nat
 | [] => 0
 | t :: r => T.tsz t + T.tszs r
end
mutual
theorem nsz_tsz : ∀ t : T, t.nsz <= t.tsz
 | .mk _ _ _ ls ks => by rw [T.nsz, T.tsz]; have := nszs_tszs ks; omega
theorem nszs_tszs : ∀ ks : List T, T.nszs ks <= T.tszs ks
 | [] => by rw [T.nszs, T.tszs]; exact Nat.le_refl _
 | t :: r => by rw [T.nszs, T.tszs]; have := nsz_tsz t; have := nszs_tszs r; omega
end
def QB : Int := 4611686018427387904
theorem lvOf_law (l : LV) (q : Int) (hl : (l.length : Int) < QB) (hq : 0 <= q /\ q <= QB) : 1 <= lvOf q l /\ lvOf q l <= 1 + l.length /\ (lvOf q l <= q -> lvOf q l = 1 + l.length) := by
 unfold QB at hl hq
 unfold lvOf
 rw [i64w (by omega) (by omega), i64w (by omega) (by omega)]
 omega
theorem lvs_law (q : Int) (hq : 0 <= q /\ q <= QB) : ∀ (ls : List LV) (s : Int), 0 <= s -> s + (lvSz ls : Int) <= QB ->
  s <= cntF (fun x s => IntKind.i64.wrap (s + lvOf q x)) q ls s /\ cntF (fun x s => IntKind.i64.wrap (s + lvOf q x)) q ls s <= s + (lvSz ls : Int) /\ (cntF (fun x s => IntKind.i64.wrap (s + lvOf q x)) q ls s <= q -> cntF (fun x s => IntKind.i64.wrap (s + lvOf q x)) q ls s = s + (lvSz ls : Int))
 | [], s, h0, h1 => by simp only [cntF, lvSz]; omega
 | l :: r, s, h0, h1 => by
  rw [cntF]
  rw [lvSz] at h1 ⊢
  split
  ·rename_i hs
   have hq2 := hq
   unfold QB at h1 hq2
   obtain ⟨a1, a2, a3⟩ := lvOf_law l q (by unfold QB; omega) hq
   rw [i64w (n := s + lvOf q l) (by omega) (by omega)]
   obtain ⟨b1, b2, b3⟩ := lvs_law q hq r (s + lvOf q l) (by omega) (by unfold QB; omega)
   refine ⟨by omega, by omega, fun h => ?_⟩
   have := b3 h
   have := a3 (by omega)
   omega
  ·omega
mutual
theorem tof_law : ∀ (t : T) (q : Int), (t.tsz : Int) <= QB -> 0 <= q /\ q <= QB -> 1 <= t.tof q /\ t.tof q <= t.tsz /\ (t.tof q <= q -> t.tof q = t.tsz)
 | .mk k n a ls ks, q, ht, hq => by
  rw [T.tsz] at ht
  have ht2 := ht
  have hq2 := hq
  unfold QB at ht2 hq2
  obtain ⟨a1, a2, a3⟩ := lvs_law q hq ls 0 (by omega) (by unfold QB; omega)
  obtain ⟨b1, b2, b3⟩ := tofs_law ks 0 q (by omega) (by unfold QB; omega) hq
  rw [T.tof, T.tsz]
  unfold lvsN
  generalize cntF (fun x s => IntKind.i64.wrap (s + lvOf q x)) q ls 0 = v at a1 a2 a3
  rw [i64w (n := 1 + v) (by omega) (by omega), i64w (by omega) (by omega)]
  refine ⟨by omega, by omega, fun h => ?_⟩
  have := a3 (by omega)
  have := b3 (by omega)
  omega
theorem tofs_law : ∀ (ks : List T) (s q : Int), 0 <= s -> s + (T.tszs ks : Int) <= QB -> 0 <= q /\ q <= QB -> s <= T.tofs ks s q /\ T.tofs ks s q <= s + (T.tszs ks : Int) /\ (T.tofs ks s q <= q -> T.tofs ks s q = s + (T.tszs ks : Int))
 | [], s, q, h0, h1, hq => by rw [T.tofs, T.tszs]; omega
 | t :: r, s, q, h0, h1, hq => by
  rw [T.tofs]
  rw [T.tszs] at h1 ⊢
  split
  ·rename_i hs
   have h2 := h1
   have hq2 := hq
   unfold QB at h2 hq2
   rw [i64w (n := q - s) (by omega) (by omega)]
   obtain ⟨a1, a2, a3⟩ := tof_law t (q - s) (by unfold QB; omega) ⟨by omega, by unfold QB; omega⟩
   rw [i64w (n := s + t.tof (q - s)) (by omega) (by omega)]
   obtain ⟨b1, b2, b3⟩ := tofs_law r (s + t.tof (q - s)) q (by omega) (by unfold QB; omega) hq
   refine ⟨by omega, by omega, fun h => ?_⟩
   have := b3 h
   have := a3 (by omega)
   omega
  ·omega
end
def cosz : List C -> Nat
 | [] => 0
 | c :: r => 1 + c.ty.tsz + c.bo.tsz + cosz r
end Go.Proofs.YtgloldepdhgfaaaGreatDoor
namespace Go.Proofs.YtgloldepdhgfaaaGreatDoor
set_option linter.unusedSimpArgs false
set_option linter.unusedVariables false
set_option maxHeartbeats 10000000
set_option maxRecDepth 20000
open Go.RowKit
attribute [local simp] Qb Qc Xd Xm opD Qp Ql Qi Qk hOf Wz Xn Xk TK.isAgg TK.known Xf Xe Wt Qr D.ofV inB Wm Xc binX binD binE Xl bndD capB IntKind.min IntKind.max IntKind.signed IntKind.bits Wx late
theorem coresOf_gen (l : List (C)) (q : Int) (step : C -> Int -> Int) (hl : l.length <= Wd) (hst : ∀ x s, step x s = IntKind.i64.wrap (IntKind.i64.wrap (IntKind.i64.wrap (s + 1) + x.ty.tof q) + x.bo.tof q)) (hg : ∀ x, x ∈ l -> ∀ s : Int, okC x) :
  Qt Tryz.prog glob 41 [.slice (l.map encC) .any, .int .i64 q] [] (fun o _ => o.fgt = .ret (.int .i64 (cntF step q l 0))) := by
 obtain ⟨R, hR⟩ : ∃ R, R = cntF step q l 0 := ⟨_, rfl⟩
 rw [<- hR]
 have hl0 := hl
 unfold Wd at hl0
 refine Qt.movd Qe (Qq Wb Tryz.func41 rfl (Qy _ _ Tryz.func41 rfl (by decide)) rfl rfl ?_)
 (refine sR fun K hK => ?_; ((repeat (rw [Qa]; simp)); (try simp only [zs])); refine hK _ _ _ ?_; clear hK K)
 (refine sR fun K hK => ?_; ((repeat (rw [Qa]; simp)); (try simp only [zs])); refine hK _ _ _ ?_; clear hK K)
 refine Qf fun K1 hK1 => ?_
 (refine sR fun K hK => ?_; ((repeat (rw [Qa]; simp)); (try simp only [zs])); refine hK _ _ _ ?_; clear hK K)
 refine Xh ?_
 refine wpD_loopWJ [7, 8, 9, 10, 11, 12, 13, 14, 15, 16, 17, 18, 19, 20, 21, 22, 23, 24, 25, 26, 27, 28, 29, 30, 31, 32, 33, 34, 35] [5, 6] (fun n ys hl => ∃ (k : Nat) (s : Int), ys = [.int .i64 s, .int .i64 k] /\ n + k = l.length /\ R = cntF step q (l.drop k) s /\ hl = []) (l.length) (by kernel_rfl) ?_ ?_
 ·exact ⟨0, 0, rfl, rfl, hR, rfl⟩
 ·rintro n ys hl A hA ⟨i, s, rfl, hn, hF, rfl⟩
  simp only [Qr, List.set, List.map_cons, List.map_nil, List.cons_append, List.nil_append]
  refine Qf fun K2 hK2 => ?_
  by_cases hi : i < l.length
  ·have hi' : (i : Int) < l.length := by omega
   by_cases hs : s <= q
   ·(refine sR fun K hK => ?_; ((repeat (rw [Qa]; simp [hi, hi', hs])); (try simp only [zs])); refine hK _ _ _ ?_; clear hK K)
    refine pT rfl ?_
    refine Qs (hK2 _ _ _ ?_)
    clear hK2 K2
    refine Qf fun K3 hK3 => ?_
    refine Xh ?_
    rw [List.drop_eq_getElem_cons hi, cntF, if_pos hs] at hF
    have hrec := hg l[i] (List.getElem_mem hi) s
    obtain ⟨x, hx⟩ : ∃ x, l[i] = x := ⟨_, rfl⟩
    rw [hx] at hrec hF
    have hE := encC_eq x
    have ht1 := tof_spec x.ty q hrec.2.1
    have ht2 := tof_spec x.bo q hrec.2.2
    rw [Qd x.ty] at ht1
    rw [Qd x.bo] at ht2
    rw [hst] at hF
    generalize x.ty.tof q = v1 at ht1 hF
    generalize x.bo.tof q = v2 at ht2 hF
    (refine dR fun KT hKT => ?_; ((repeat (rw [Qh]; simp [hi, hi', hx, hE])); (try simp only [Qm])))
    refine cYp (ht1) ?_
    ((try simp only [Qn, Qo, Ql, Qi, Qk]); (repeat (rw [Qh]; simp [hi, hi', hx, hE])); (try simp only [Qm]))
    refine cYp (ht2) ?_
    ((try simp only [Qn, Qo, Ql, Qi, Qk]); (repeat (rw [Qh]; simp [hi, hi', hx, hE])); (try simp only [Qm]))
    (refine hKT _ _ _ _ (by kernel_rfl) ?_; clear hKT KT; (try simp only [zs]))
    refine hK3 _ _ _ ?_
    clear hK3 K3
    have hw1 : IntKind.i64.wrap ((i : Int) + 1) = (i : Int) + 1 := i64w (by omega) (by omega)
    (refine Qz Wb ?_; ((repeat (rw [Qa]; simp [hw1])); (try simp only [zs])))
    refine hA (n - 1) _ _ _ (LeT.refl _) (by omega) (by kernel_rfl) ?_
    exact ⟨i + 1, _, rfl, by omega, hF, rfl⟩
   ·(refine sR fun K hK => ?_; ((repeat (rw [Qa]; simp [hi, hi', hs])); (try simp only [zs])); refine hK _ _ _ ?_; clear hK K)
    refine pF rfl ?_
    refine wpD_exit ?_
    refine hK1 _ _ _ ?_
    rw [List.drop_eq_getElem_cons hi, cntF, if_neg hs] at hF
    subst hF
    (refine sR fun K hK => ?_; ((repeat (rw [Qa]; simp)); (try simp only [zs])); refine hK _ _ _ ?_; clear hK K)
    (refine Qj ?_; (try simp only [zs]); refine Wc.ret rfl (.inl ?_); simp [Qp, Out.fgt, D.fgt, D.fgts])
  ·have hi' : ¬ (i : Int) < l.length := by omega
   (refine sR fun K hK => ?_; ((repeat (rw [Qa]; simp [hi, hi'])); (try simp only [zs])); refine hK _ _ _ ?_; clear hK K)
   refine pF rfl ?_
   refine wpD_exit ?_
   refine hK1 _ _ _ ?_
   rw [List.drop_of_length_le (by omega), cntF] at hF
   subst hF
   (refine sR fun K hK => ?_; ((repeat (rw [Qa]; simp)); (try simp only [zs])); refine hK _ _ _ ?_; clear hK K)
   (refine Qj ?_; (try simp only [zs]); refine Wc.ret rfl (.inl ?_); simp [Qp, Out.fgt, D.fgt, D.fgts])
def lvC (l : List C) (k : Nat) : List Int := (l.take k).map C.lv
theorem lvC_succ {l : List C} {k : Nat} (h : k < l.length) : lvC l (k + 1) = lvC l k ++ [l[k].lv] := by unfold lvC; rw [List.take_succ_eq_append_getElem h, List.map_append]; rfl
theorem lvC_end (l : List C) : lvC l l.length = l.map C.lv := by unfold lvC; rw [List.take_length]
theorem lvC_len {l : List C} {k : Nat} (h : k <= l.length) : (lvC l k).length = k := by unfold lvC; rw [List.length_map, List.length_take]; omega
theorem ints_ren (σ : Nat -> Nat) (l : List Int) : D.rens σ (l.map (D.int .i64)) = l.map (D.int .i64) := D.rens_pure σ _ (by rw [D.pures_map]; simp [D.pure])
theorem consts_spec (l : List C) (hl : l.length <= Wd) : Qt Tryz.prog glob 51 [Cs l] [] (fun o _ => o.fgt = .ret (Ints (l.map C.lv))) := by
 have hE : ∀ c, encC c = .agg [.int .i64 c.lv, .int .i64 c.ty.k, .int .i64 c.ty.n, .int .i64 c.ty.a, .slice (c.ty.ls.map Wp) .any, .slice (c.ty.ks.map Qv) .any, .bool c.has, .int .i64 c.bo.k, .int .i64 c.bo.n, .int .i64 c.bo.a, .slice (c.bo.ls.map Wp) .any, .slice (c.bo.ks.map Qv) .any] := fun c => encC_eq c
 rw [<- lvC_end]
 unfold Cs Ints
 refine Qt.movd Qe (Qq Wb Tryz.func51 rfl (Qy _ _ Tryz.func51 rfl (by decide)) rfl rfl ?_)
 (refine sR fun K hK => ?_; ((repeat (rw [Qa]; simp)); (try simp only [zs])); refine hK _ _ _ ?_; clear hK K)
 (refine sR fun K hK => ?_; ((repeat (rw [Qa]; simp)); (try simp only [zs])); refine hK _ _ _ ?_; clear hK K)
 refine wpD_tokT 3 ?_
 simp [D.tokd]
 refine Qf fun K1 hK1 => ?_
 (refine sR fun K hK => ?_; ((repeat (rw [Qa]; simp)); (try simp only [zs])); refine hK _ _ _ ?_; clear hK K)
 refine wpD_rangeJ Wb Qe (ti := 3) (tk := 8) (tn := 7) (td := 9) (ts := 17) [5, 8, 9, 10, 11, 12, 13, 14, 15, 16, 17] [3] (l.length) (fun k ys hl => ys = [.slice ((lvC l k).map (D.int .i64)) (.tok 0)] /\ hl = [.tok]) rfl rfl rfl rfl rfl rfl rfl rfl rfl rfl rfl rfl (by simp) (by decide) rfl (by first | assumption | omega | (unfold Wd; omega)) rfl (by kernel_rfl) (by decide) ?_ ?_ ?_
 ·exact ⟨rfl, rfl⟩
 ·rintro i ys hl A hi ⟨rfl, rfl⟩ hA hA2
  simp only [Qr, List.set, List.map_cons, List.map_nil, List.cons_append, List.nil_append]
  have hi' : (i : Int) < l.length := by omega
  have hsn := lvC_succ hi
  have hln := lvC_len (Nat.le_of_lt hi)
  obtain ⟨c, hc⟩ : ∃ c, l[i] = c := ⟨_, rfl⟩
  rw [hc] at hsn
  have hel : (lvC l i).length + 1 <= Wd := by omega
  have hEc := hE c
  generalize lvC l i = es at hsn hln hel ⊢
  (refine sR fun K hK => ?_; ((repeat (rw [Qa]; simp [hi, hi', hc, hEc])); (try simp only [zs])); refine hK _ _ _ ?_; clear hK K)
  (refine Qz Wb ?_; ((repeat (rw [Qa]; simp [hel])); (try simp only [zs])))
  (refine hA2 ([2]) _ _ _ (LeT.refl _) (by decide) (by simp) (by simp [Wk, Wl, Wr, D.mov, HO.mov, okM, Wn, Wg, zz, okA, Qx, Qu, hOf, Qg, Qr]) ?_ rfl; simp [Wk, Wl, Wr, D.mov, HO.mov, okM, Wn, Wg, zz, okA, Qx, Qu, hOf, Qg])
  rw [hsn, show es.map (D.int .i64) ++ [D.int .i64 c.lv] = (es ++ [c.lv]).map (D.int .i64) by simp, ints_ren]
 ·rintro ys hl tl' ⟨rfl, rfl⟩ htl
  refine hK1 _ _ _ (wpD_weakL htl ?_)
  simp only [Qr, List.set, List.map_cons, List.map_nil, List.cons_append, List.nil_append]
  (refine sR fun K hK => ?_; ((repeat (rw [Qa]; simp)); (try simp only [zs])); refine hK _ _ _ ?_; clear hK K)
  (refine Qj ?_; (try simp only [zs]); refine Wc.ret rfl (.inl ?_); simp [Qp, Out.fgt, D.fgt, D.fgts])
def pickN (k : Int) (n : Nat) : Nat := (if k.tmod n < 0 then k.tmod n + n else k.tmod n).toNat
theorem pickN_lt (k : Int) {n : Nat} (h : 1 <= n) : pickN k n < n /\ ((pickN k n : Nat) : Int) = if k.tmod n < 0 then k.tmod n + n else k.tmod n := by
 have h1 := Int.tmod_lt_of_pos k (show (0 : Int) < n by omega)
 have h2 := Int.lt_tmod_of_pos k (show (0 : Int) < n by omega)
 unfold pickN
 split <;> omega
theorem pick_spec (k : Int) (n : Nat) (h : 1 <= n) (hn : n <= 274877906944) : Qt Tryz.prog glob 11 [.int .i64 k, .int .i64 n] [] (fun o _ => o.fgt = .ret (.int .i64 (pickN k n))) := by
 have h1 := Int.tmod_lt_of_pos k (show (0 : Int) < n by omega)
 have h2 := Int.lt_tmod_of_pos k (show (0 : Int) < n by omega)
 rw [(pickN_lt k h).2]
 have hn1 : ¬ (n : Int) < 1 := by omega
 have hn0 : ¬ (n : Int) = 0 := by omega
 have hn00 : ¬ n = 0 := by omega
 have hw : IntKind.i64.wrap (k.tmod n) = k.tmod n := i64w (by omega) (by omega)
 generalize hr : k.tmod n = r at h1 h2 hw ⊢
 refine Qt.movd Qe (Qq Wb Tryz.func11 rfl (Qy _ _ Tryz.func11 rfl (by decide)) rfl rfl ?_)
 (refine sR fun K hK => ?_; ((repeat (rw [Qa]; simp)); (try simp only [zs])); refine hK _ _ _ ?_; clear hK K)
 refine Qf fun K1 hK1 => ?_
 (refine sR fun K hK => ?_; ((repeat (rw [Qa]; simp [hn1])); (try simp only [zs])); refine hK _ _ _ ?_; clear hK K)
 refine pF rfl ?_
 refine Qs (hK1 _ _ _ ?_)
 clear hK1 K1
 (refine sR fun K hK => ?_; ((repeat (rw [Qa]; simp [hn0, hn00, hr, hw])); (try simp only [zs])); refine hK _ _ _ ?_; clear hK K)
 refine Qf fun K1 hK1 => ?_
 by_cases h0 : r < 0
 ·have hw2 : IntKind.i64.wrap (r + n) = r + n := i64w (by omega) (by omega)
  (refine sR fun K hK => ?_; ((repeat (rw [Qa]; simp [h0])); (try simp only [zs])); refine hK _ _ _ ?_; clear hK K)
  refine pT rfl ?_
  (refine Qz Wb ?_; ((repeat (rw [Qa]; simp [hw2])); (try simp only [zs])))
  refine hK1 _ _ _ ?_
  (refine sR fun K hK => ?_; ((repeat (rw [Qa]; simp)); (try simp only [zs])); refine hK _ _ _ ?_; clear hK K)
  (refine Qj ?_; (try simp only [zs]); refine Wc.ret rfl (.inl ?_); simp [Qp, Out.fgt, D.fgt, D.fgts])
  intro h
  omega
 ·(refine sR fun K hK => ?_; ((repeat (rw [Qa]; simp [h0])); (try simp only [zs])); refine hK _ _ _ ?_; clear hK K)
  refine pF rfl ?_
  refine Qs (hK1 _ _ _ ?_)
  (refine sR fun K hK => ?_; ((repeat (rw [Qa]; simp)); (try simp only [zs])); refine hK _ _ _ ?_; clear hK K)
  (refine Qj ?_; (try simp only [zs]); refine Wc.ret rfl (.inl ?_); simp [Qp, Out.fgt, D.fgt, D.fgts])
  intro h
  omega
def conR (cs : List Int) (c : C) : Bool := !(decide (c.lv < 0) || decide (8 < c.lv) || (c.has && !(rightB c.lv 0 cs c.bo)))
def rightL (l : List C) (n sc : Int) (t : T) : Bool := (l.all (conR (l.map C.lv))) && rightB n sc (l.map C.lv) t
def stepH (l : List C) (t : T) : T := match Wo l t with
 | some v => v.1
 | none => t
def T.setK (t : T) (i : Nat) (x : T) : T := .mk t.k t.n t.a t.ls (t.ks.set i x)
def stepW (l : List C) : T -> List Int -> T
 | t, [] => stepH l t
 | t, w :: r => if t.ks = [] then stepH l t else t.setK (pickN w t.ks.length) (stepW l (t.kid (pickN w t.ks.length)) r)
theorem hstepO_spec {l : List C} (hcs : okCs l) {t : T} (ht : okT t) (hn : t.nsz <= 600) : ∃ c b, Qt Tryz.prog glob 16 [Cs l, Qv t] [] (fun o _ => o.fgt = .ret (.tuple [Qv (stepH l t), .int .i64 c, .bool b])) := by
 have hp : t.pot <= 4200 := by have := pot_le t; omega
 have hS : okS t := ⟨ht, by unfold PM; omega⟩
 unfold stepH
 cases hst : Wo l t with
 | none => exact ⟨_, _, hstep_fin hcs hS hst⟩
 | some v =>
  obtain ⟨u, c⟩ := v
  exact ⟨_, _, hstep_more hcs hS hst (by
   have := hstep_bound (B := 1048576) hcs.bo t hp hst
   unfold DM
   omega)⟩
theorem stepW_ok {l : List C} (hcs : okCs l) : ∀ (way : List Int) {t : T}, okT t -> okT (stepW l t way)
 | [], t, ht => by
  unfold stepW stepH
  cases hst : Wo l t with
  | none => exact ht
  | some v => exact hstep_ok hcs.ok t ht hst
 | w :: r, t, ht => by
  rw [stepW]
  split
  ·unfold stepH
   cases hst : Wo l t with
   | none => exact ht
   | some v => exact hstep_ok hcs.ok t ht hst
  ·have hk := stepW_ok hcs r (kid_ok ht (pickN w t.ks.length))
   unfold T.setK
   refine .mk ht.k ht.n ht.a ht.ll ht.ls (by rw [List.length_set]; exact ht.kl) fun x hx => ?_
   rcases List.mem_or_eq_of_mem_set hx with hx | rfl
   ·exact ht.ks x hx
   ·exact hk
theorem reD_term (a b c d e a' b' c' d' e' : D) : reD (.agg [a, b, c, d, e]) [a', b', c', d', e'] = .agg [a', b', c', d', e'] := rfl
end Go.Proofs.YtgloldepdhgfaaaGreatDoor
namespace Go.Proofs.YtgloldepdhgfaaaGreatDoor
set_option linter.unusedSimpArgs false
set_option linter.unusedVariables false
open Go.RowKit
theorem okW_nat {n : Nat} {t : T} (h : okW (n : Int) t) : ∃ sc : Nat, Ws t sc /\ sc + t.pot + 8 * n + 10 <= SB := by
 obtain ⟨sc, h1, h2⟩ := h
 exact ⟨sc, h1, by omega⟩
theorem nms_pars {l : List C} (hB : WsL l) {h n : Nat} {ts xs : List T} (H : Nms l h ts n xs) : (∀ t, t ∈ ts -> okW (n : Int) t) -> ∀ i, i < ts.length -> Pars l (ts.getD i Wh) (xs.getD i Wh) := by
 induction H with
 | nil => intro _ i hi; exact absurd hi (by simp)
 | @cons h t u r ks xs m n p hd hk hr ih1 ih2 =>
  intro ht i hi
  cases i with
  | zero =>
   obtain ⟨sc, w, hb⟩ := okW_nat (ht t (List.mem_cons_self ..))
   obtain ⟨p1, p2⟩ := hd_pars hB hd w (by omega)
   have hp := hd.pot
   have hu : okW (n : Int) u := ⟨sc, p2, by omega⟩
   have hks := ih1 fun x hx => by
    obtain ⟨j, hj, rfl⟩ := List.getElem_of_mem hx
    rw [<- kid_at hj]
    exact kid_okW hu hj
   have hl := hk.len
   show Pars l t (u.withKs ks)
   refine p1.trans ?_
   cases u with
   | mk k n' a ls uks => exact pars_node hl hks
  | succ i =>
   have := ih2 (fun x hx => (ht x (List.mem_cons_of_mem _ hx)).le (by omega)) i (by simpa using hi)
   simpa using this
theorem nms_ok {l : List C} (hl : ∀ c, c ∈ l -> okC c) {h n : Nat} {ts xs : List T} (H : Nms l h ts n xs) : (∀ t, t ∈ ts -> okT t) -> ∀ x, x ∈ xs -> okT x := by
 induction H with
 | nil => intro _ x hx; cases hx
 | @cons h t u r ks xs m n p hd hk hr ih1 ih2 =>
  intro ht x hx
  rcases List.mem_cons.1 hx with rfl | hx
  ·have hu := hd.ok hl (ht t (List.mem_cons_self ..))
   exact .mk hu.k hu.n hu.a hu.ll hu.ls (by rw [hk.len]; exact hu.kl) (ih1 hu.ks)
  ·exact ih2 (fun y hy => ht y (List.mem_cons_of_mem _ hy)) x hx
theorem nmT_ok {l : List C} (hl : ∀ c, c ∈ l -> okC c) {h : Nat} {t x : T} {f g : Int} (ht : okT t) (H : NmR l h [t] f (some ([x], g))) : okT x := by
 generalize ho : some ([x], g) = o at H
 cases H with
 | fin H hn => cases ho; exact nms_ok hl H (fun y hy => by rw [List.mem_singleton.1 hy]; exact ht) x (List.mem_singleton.2 rfl)
 | gone H => cases ho
theorem stepH_pars {l : List C} (hB : WsL l) {t : T} {sc : Nat} (hw : Ws t sc) (hb : sc + 1 + t.deep <= SB) : Pars l t (stepH l t) /\ Ws (stepH l t) sc := by
 unfold stepH
 cases hst : Wo l t with
 | none => exact ⟨.refl _, hw⟩
 | some v =>
  obtain ⟨h1, h2⟩ := hstep_par hB hw hb (u := v.1) (c := v.2) hst
  exact ⟨.step h1 (.refl _), h2⟩
theorem set_getD (ks : List T) (i j : Nat) (x : T) (hi : i < ks.length) : (ks.set i x).getD j Wh = if j = i then x else ks.getD j Wh := by
 rw [List.getD_eq_getElem?_getD, List.getElem?_set, List.getD_eq_getElem?_getD]
 by_cases h : j = i
 ·subst h; simp [hi]
 ·rw [if_neg (fun e => h e.symm), if_neg h]
theorem stepW_pars {l : List C} (hB : WsL l) : ∀ (way : List Int) {t : T} {sc : Nat}, Ws t sc -> sc + 1 + t.deep <= SB -> Pars l t (stepW l t way) /\ Ws (stepW l t way) sc
 | [], t, sc, hw, hb => by rw [stepW]; exact stepH_pars hB hw hb
 | w :: r, t, sc, hw, hb => by
  rw [stepW]
  split
  ·exact stepH_pars hB hw hb
  ·rename_i hne
   have hlen : 1 <= t.ks.length := by
    cases hk : t.ks with
    | nil => exact absurd hk hne
    | cons _ _ => simp
   have hi := (pickN_lt w hlen).1
   generalize pickN w t.ks.length = i at hi
   have hd := kid_deep hi
   have hu : up1 sc t.k i <= sc + 1 := by unfold up1; split <;> omega
   obtain ⟨h1, h2⟩ := stepW_pars hB r (hw.kid hi) (by omega)
   generalize stepW l (t.kid i) r = x at h1 h2
   cases t with
   | mk k n a ls ks =>
    unfold T.setK
    simp only [T.k_mk, T.n_mk, T.a_mk, T.ls_mk, T.ks_mk] at hi h2 ⊢
    refine ⟨pars_node (List.length_set) fun j hj => ?_, .mk (by rw [List.length_set]; exact hw.node) fun j hj => ?_⟩
    ·rw [set_getD _ _ _ _ hi]
     split
     ·rename_i e; subst e; exact h1
     ·exact .refl _
    ·rw [List.length_set] at hj
     rw [set_getD _ _ _ _ hi]
     split
     ·rename_i e; subst e; exact h2
     ·exact hw.kid (show j < (T.mk k n a ls ks).ks.length from hj)
theorem pots_set : ∀ (ks : List T) (i : Nat) (x : T) (hi : i < ks.length), T.pots (ks.set i x) + ks[i].pot = T.pots ks + x.pot
 | [], i, x, hi => absurd hi (by simp)
 | t :: r, 0, x, hi => by simp [T.pots]; omega
 | t :: r, i + 1, x, hi => by
  have := pots_set r i x (by simpa using hi)
  simp only [List.set_cons_succ, T.pots, List.getElem_cons_succ]
  omega
theorem stepW_pot {l : List C} {B A : Nat} (hl : ∀ c, c ∈ l -> c.bo.nsz <= B) : ∀ (way : List Int) {t : T}, t.pot <= A -> (stepW l t way).pot <= t.pot + 7 * (7 + 8 * A + A * A + B) := by
 have hH : ∀ {t : T}, t.pot <= A -> (stepH l t).pot <= t.pot + 7 * (7 + 8 * A + A * A + B) := fun {t} ht => by
  unfold stepH
  cases hst : Wo l t with
  | none => exact Nat.le_add_right _ _
  | some v =>
   have h1 := hstep_pot t (u := v.1) (c := v.2) hst
   have h2 := hstep_bound hl t (u := v.1) (c := v.2) ht hst
   show v.1.pot <= _
   omega
 intro way
 induction way with
 | nil => intro t ht; rw [stepW]; exact hH ht
 | cons w r ih =>
  intro t ht
  rw [stepW]
  split
  ·exact hH ht
  ·rename_i hne
   have hlen : 1 <= t.ks.length := by
    cases hk : t.ks with
    | nil => exact absurd hk hne
    | cons _ _ => simp
   have hi := (pickN_lt w hlen).1
   generalize pickN w t.ks.length = i at hi
   have hkp := ih (t := t.kid i) (Nat.le_trans (kid_pot t i) ht)
   generalize stepW l (t.kid i) r = x at hkp
   have hs := pots_set t.ks i x hi
   rw [<- kid_at hi] at hs
   cases t with
   | mk k n a ls ks =>
    unfold T.setK
    simp only [T.k_mk, T.n_mk, T.a_mk, T.ls_mk, T.ks_mk] at hi hs ⊢
    rw [T.pot, T.pot, List.length_set]
    omega
theorem rightL_ws {l : List C} {n sc : Int} {t : T} (hbo : ∀ c, c ∈ l -> c.bo.nsz <= 1048576) (hs : sc <= 1000) (hn : t.nsz <= 1000000) (h : rightL l n sc t = true) : WsL l /\ ∃ s : Nat, (s : Int) = sc /\ Ws t s := by
 unfold rightL at h
 rw [Bool.and_eq_true, List.all_eq_true] at h
 obtain ⟨h1, h2⟩ := h
 obtain ⟨-, r2, r3⟩ := rightB_iff.1 h2
 refine ⟨wsL_of (cs := l.map C.lv) (fun c hc hh => ?_) (fun c hc => ?_), sc.toNat, by omega, ?_⟩
 ·have := h1 c hc
  unfold conR at this
  rw [hh] at this
  simp at this
  exact (rightB_iff.1 this.2).2.2
 ·have := hbo c hc; have := T.deep_nsz c.bo; omega
 ·have hd := T.deep_nsz t
  refine core_ws (n := n) (cs := l.map C.lv) t sc.toNat (by omega) ?_
  rw [show ((sc.toNat : Nat) : Int) = sc by omega]
  exact r3
theorem bulk_one {H : Type} (d : DataW H) : 1 <= Rows.uptoBulk d := by
 cases d with
 | lit l => cases l <;> simp [Rows.uptoBulk]
 | nil => simp [Rows.uptoBulk]
 | ptr d => simp [Rows.uptoBulk]
 | slice elems spare => simp [Rows.uptoBulk]
 | agg parts => simp [Rows.uptoBulk]
 | iface t d => simp [Rows.uptoBulk]
 | map entries => simp [Rows.uptoBulk]
 | held h => simp [Rows.uptoBulk]
theorem bulk_part {H : Type} {d : DataW H} {l : List (DataW H)} (h : d ∈ l) : Rows.uptoBulk d <= Rows.uptoBulkAll l := by
 induction l with
 | nil => cases h
 | cons x r ih =>
  simp only [Rows.uptoBulkAll]
  cases List.mem_cons.1 h with
  | inl e => subst e; omega
  | inr e => have := ih e; omega
theorem bulk_len {H : Type} (l : List (DataW H)) : l.length <= Rows.uptoBulkAll l := by
 induction l with
 | nil => simp [Rows.uptoBulkAll]
 | cons x r ih => have := bulk_one x; simp only [Rows.uptoBulkAll, List.length_cons]; omega
theorem mapM_some {α β : Type} {f : α -> Option β} : ∀ {l : List α} {xs : List β}, l.mapM f = some xs -> xs.length = l.length /\ ∀ i (h : i < l.length) (h' : i < xs.length), f l[i] = some xs[i] := by
 intro l
 induction l with
 | nil => intro xs h; simp at h; subst h; exact ⟨rfl, fun i h => absurd h (by simp)⟩
 | cons a r ih =>
  intro xs h
  rw [List.mapM_cons] at h
  cases ha : f a with
  | none => rw [ha] at h; simp at h
  | some b =>
   rw [ha] at h
   cases hr : r.mapM f with
   | none => rw [hr] at h; simp at h
   | some ys =>
    rw [hr] at h
    simp at h
    subst h
    obtain ⟨h1, h2⟩ := ih hr
    refine ⟨by simp [h1], fun i hi hi' => ?_⟩
    cases i with
    | zero => simpa using ha
    | succ i => simpa using h2 i (by simpa using hi) (by simpa using hi')
section
variable {H : Type} {enc : TypeId × Value -> H} {P : Program} {w : World} {base : Nat} {sp : Nat -> Bool} {held : Bool}
theorem trod_int {fuel : Nat} {t : TypeId} {cs : List Value} {d : DataW H} {ps : List MemPlace} (ht : P.underlying t = some (.int .i64)) (h : DataW.trod enc P w base sp held fuel t cs = some (d, ps)) : ∃ n, cs = [.int .i64 n] /\ IntKind.i64.min <= n /\ n <= IntKind.i64.max := by
 cases fuel with
 | zero => simp [DataW.trod] at h
 | succ fuel =>
  unfold DataW.trod at h
  rw [ht] at h
  rcases cs with _ | ⟨v, _ | ⟨v2, r⟩⟩
  ·simp at h
  ·cases v <;> simp at h
   rename_i k n
   obtain ⟨⟨rfl, hw⟩, -⟩ := h
   refine ⟨n, rfl, ?_⟩
   simp only [Lit.wf, Bool.and_eq_true, decide_eq_true_eq] at hw
   exact hw
  ·simp at h
theorem cells_at {n : Nat} {a : Addr} {cs : List Value} (h : w.cells? base a n = some cs) (hn : 0 < n) : ∃ b o, a = ⟨b, o, none⟩ /\ b < w.heap.size /\ cs.length = n /\ ∀ i u, cs[i]? = some u -> w.cell? ⟨b, o + i, none⟩ = some u := by
 unfold World.cells? at h
 split at h
 ·obtain ⟨h1, h2⟩ := mapM_some h
  simp only [List.length_range] at h1
  have hall : ∀ i, i < n -> w.cell? (a.add i) = some (cs.getD i undef) := fun i hi => by
   have := h2 i (by simpa using hi) (by omega)
   simp only [List.getElem_range] at this
   rw [this]; simp [show i < cs.length by omega]
  have h0 := hall 0 hn
  rw [show a.add 0 = a from by simp [Addr.add]] at h0
  have hs : a.spot = none := by
   cases hsp : a.spot with
   | none => rfl
   | some x =>
    unfold World.cell? at h0
    rw [hsp] at h0
    split at h0 <;> simp at h0
  obtain ⟨b, o, s⟩ := a
  simp only at hs
  subst hs
  refine ⟨b, o, rfl, World.block_lt_of_cell? w _ h0, h1, fun i u hu => ?_⟩
  have hi : i < cs.length := (List.getElem?_eq_some_iff.1 hu).1
  have := hall i (by omega)
  have hadd : (⟨b, o, none⟩ : Addr).add i = ⟨b, o + i, none⟩ := by unfold Addr.add; split <;> simp_all
  rw [hadd] at this
  rw [this]
  simp [List.getD_eq_getElem?_getD, hu]
 ·cases h
theorem trod_slice {fuel : Nat} {t e : TypeId} {cs : List Value} {d : DataW H} {ps : List MemPlace} (ht : P.underlying t = some (.slice e)) (h : DataW.trod enc P w base sp held fuel t cs = some (d, ps)) :
  cs = [.slice none 0 0] \/ ∃ fuel' a len cap elems rest, fuel = fuel' + 1 /\ cs = [.slice (some a) len cap] /\ len <= cap /\ cap <= maxLen /\ d = .slice elems rest /\ elems.length = len /\
   ∀ i (hi : i < elems.length), ∃ ecs p, w.cells? base (a.add (i * P.cellsOf e)) (P.cellsOf e) = some ecs /\ DataW.trod enc P w base sp held fuel' e ecs = some (elems[i], p) := by
 cases fuel with
 | zero => simp [DataW.trod] at h
 | succ fuel =>
  unfold DataW.trod at h
  rw [ht] at h
  rcases cs with _ | ⟨v, _ | ⟨v2, r⟩⟩
  ·simp at h
  rotate_left
  ·simp at h
  cases v <;> try (simp at h; done)
  rename_i ao len cap
  cases ao with
  | none =>
   left
   rcases len with _ | len
   ·rcases cap with _ | cap
    ·rfl
    ·simp at h
   ·simp at h
  | some a =>
  right
  dsimp only at h
  split at h
  ·rename_i hc
   cases hm : (List.range len).mapM fun i => (w.cells? base (a.add (i * P.cellsOf e)) (P.cellsOf e)).bind (DataW.trod enc P w base sp held fuel e) with
   | none => rw [hm] at h; simp at h
   | some xs =>
    rw [hm] at h
    simp only [Option.bind_some] at h
    obtain ⟨h2, h3⟩ := mapM_some hm
    simp only [List.length_range] at h2
    rw [Option.map_eq_some_iff] at h
    obtain ⟨rest, -, h4⟩ := h
    simp only [Prod.mk.injEq] at h4
    refine ⟨fuel, a, len, cap, xs.map (·.1), rest.map (·.1), rfl, rfl, hc.2.1, hc.2.2, h4.1.symm, by simpa using h2, fun i hi => ?_⟩
    have hi' : i < xs.length := by simpa using hi
    have := h3 i (by simp; omega) hi'
    simp only [List.getElem_range] at this
    rw [Option.bind_eq_some_iff] at this
    obtain ⟨ecs, e1, e2⟩ := this
    exact ⟨ecs, (xs[i]).2, e1, by simpa using e2⟩
  ·cases h
theorem trod_struct {fuel : Nat} {t : TypeId} {fs : Array Field} {cs : List Value} {d : DataW H} {ps : List MemPlace} (ht : P.underlying t = some (.struct fs)) (h : DataW.trod enc P w base sp held fuel t cs = some (d, ps)) :
  ∃ fuel' ds, fuel = fuel' + 1 /\ cs.length = P.cellsOf t /\ d = .agg ds /\ ds.length = fs.toList.length /\ ∀ i (hi : i < fs.toList.length) (hi' : i < ds.length), ∃ p, DataW.trod enc P w base sp held fuel' (fs.toList[i]).type ((cs.drop (fs.toList[i]).offset).take (P.cellsOf (fs.toList[i]).type)) = some (ds[i], p) := by
 cases fuel with
 | zero => simp [DataW.trod] at h
 | succ fuel =>
  unfold DataW.trod at h
  rw [ht] at h
  dsimp only at h
  split at h
  ·rename_i hl
   rw [Option.map_eq_some_iff] at h
   obtain ⟨xs, hm, h4⟩ := h
   simp only [Prod.mk.injEq] at h4
   obtain ⟨h2, h3⟩ := mapM_some hm
   refine ⟨fuel, xs.map (·.1), rfl, hl, h4.1.symm, by simpa using h2, fun i hi hi' => ?_⟩
   have hi2 : i < xs.length := by simpa using hi'
   exact ⟨(xs[i]).2, by simpa using h3 i hi hi2⟩
  ·cases h
end
theorem len1 {l : List Value} (h : l.length = 1) : ∃ a, l = [a] := by
 rcases l with _ | ⟨a, _ | ⟨b, r⟩⟩
 ·cases h
 ·exact ⟨a, rfl⟩
 ·simp at h
theorem len2 {l : List Value} (h : l.length = 2) : ∃ a b, l = [a, b] := by
 rcases l with _ | ⟨a, r⟩
 ·cases h
 ·obtain ⟨b, rfl⟩ := len1 (l := r) (by simpa using h)
  exact ⟨a, b, rfl⟩
theorem len5 {l : List Value} (h : l.length = 5) : ∃ a b c d e, l = [a, b, c, d, e] := by
 rcases l with _ | ⟨a, _ | ⟨b, _ | ⟨c, r⟩⟩⟩
 ·cases h
 ·simp at h
 ·simp at h
 ·obtain ⟨d, e, rfl⟩ := len2 (l := r) (by simpa using h)
  exact ⟨a, b, c, d, e, rfl⟩
theorem trod_fields {H : Type} {enc : TypeId × Value -> H} {P : Program} {w : World} {base : Nat} {sp : Nat -> Bool} {held : Bool} {fuel : Nat} {t : TypeId} {fs : Array Field} {cs : List Value} {d : DataW H} {ps : List MemPlace} {l : List (TypeId × Nat)} (ht : P.underlying t = some (.struct fs)) (hl : fs.toList.map (fun f => (f.type, f.offset)) = l)
  (h : DataW.trod enc P w base sp held fuel t cs = some (d, ps)) :
  cs.length = P.cellsOf t /\ ∀ (i : Nat) ti oi, l[i]? = some (ti, oi) -> ∃ f di p, f < fuel /\ Rows.uptoBulk di < Rows.uptoBulk d /\ DataW.trod enc P w base sp held f ti ((cs.drop oi).take (P.cellsOf ti)) = some (di, p) := by
 obtain ⟨fuel', ds, rfl, h1, rfl, h3, h4⟩ := trod_struct ht h
 refine ⟨h1, fun i ti oi hi => ?_⟩
 rw [<- hl, List.getElem?_map, Option.map_eq_some_iff] at hi
 obtain ⟨f, hf, he⟩ := hi
 obtain ⟨hlt, rfl⟩ := List.getElem?_eq_some_iff.1 hf
 simp only [Prod.mk.injEq] at he
 obtain ⟨rfl, rfl⟩ := he
 obtain ⟨p, hp⟩ := h4 i hlt (by omega)
 refine ⟨fuel', _, p, by omega, ?_, hp⟩
 have := bulk_part (List.getElem_mem (l := ds) (n := i) (by omega))
 simp only [Rows.uptoBulk]; omega
def rho0 : Rho := ⟨fun _ => none, fun _ => none⟩
theorem cellAt0 {w : World} {b o : Nat} {v : Value} (h : w.cell? ⟨b, o, none⟩ = some v) (h1 : v.oneCell' = true) : cellAt rho0 w b o v := ⟨(fun k hk => nomatch hk), h, h1⟩
theorem RpC_mk {w : World} : ∀ {ds : List D} {cs : List Value} {b o : Nat}, RpL rho0 w ds cs -> ds.all D.one = true -> (∀ i u, cs[i]? = some u -> w.cell? ⟨b, o + i, none⟩ = some u) -> RpC rho0 w ds b o
 | [], _, _, _, _, _, _ => by rw [RpC]; trivial
 | d :: r, cs, b, o, h, h1, h2 => by
  rw [RpL] at h
  obtain ⟨v, us, rfl, hv, hr⟩ := h
  rw [List.all_cons, Bool.and_eq_true] at h1
  rw [RpC]
  refine ⟨⟨v, cellAt0 (h2 0 v rfl) (D.one_cell h1.1 hv), hv⟩, RpC_mk hr h1.2 fun i u hu => ?_⟩
  have := h2 (i + 1) u (by simpa using hu)
  rwa [show o + 1 + i = o + (i + 1) by omega]
theorem RpE_mk {w : World} {sz : Nat} : ∀ {els : List D} {b o : Nat}, (∀ e, e ∈ els -> e.size = sz /\ e.cells.all D.one = true) -> (∀ i (hi : i < els.length), ∃ cs, RpL rho0 w els[i].cells cs /\ ∀ j u, cs[j]? = some u -> w.cell? ⟨b, o + i * sz + j, none⟩ = some u) -> RpE rho0 w els b o
 | [], _, _, _, _ => by rw [RpE]; trivial
 | e :: r, b, o, h, hi => by
  obtain ⟨he, ho⟩ := h e (List.mem_cons_self ..)
  obtain ⟨cs, hc, ha⟩ := hi 0 (by simp)
  have hr : RpE rho0 w r b (o + sz) := RpE_mk (fun x hx => h x (List.mem_cons_of_mem _ hx)) fun i hlt => by
   obtain ⟨cs, h1, h2⟩ := hi (i + 1) (by simpa using hlt)
   refine ⟨cs, by simpa using h1, fun j u hu => ?_⟩
   have := h2 j u hu
   rwa [show o + (i + 1) * sz + j = o + sz + i * sz + j by rw [Nat.add_mul]; omega] at this
  have ha' : ∀ j u, cs[j]? = some u -> w.cell? ⟨b, o + j, none⟩ = some u := fun j u hu => by
   have := ha j u hu
   rwa [Nat.zero_mul, Nat.add_zero] at this
  have key : RpC rho0 w e.cells b o := RpC_mk (by simpa using hc) ho ha'
  cases e with
  | agg ds =>
   rw [RpE]
   rw [show o + ds.length = o + sz by rw [<- he]; rfl]
   exact ⟨key, hr⟩
  | _ =>
   rw [RpE]
   ·have h1 : sz = 1 := he.symm
    rw [h1] at hr
    simp only [D.cells] at key
    rw [RpC] at key
    exact ⟨key.1, hr⟩
   ·intro ds hds; cases hds
section
variable {H : Type} {enc : TypeId × Value -> H} {w : World} {base : Nat} {sp : Nat -> Bool} {held : Bool}
theorem open_sl {α : Type} (en : α -> D) {t e : TypeId} {sz : Nat} (ht : Tryz.prog.underlying t = some (.slice e)) (he : Tryz.prog.cellsOf e = sz) (hsz : 0 < sz) (hes : ∀ x, (en x).size = sz /\ (en x).cells.all D.one = true) (M : Nat -> α -> Prop) {fuel : Nat} {cs : List Value} {d : DataW H} {ps : List MemPlace} (hb : Rows.uptoBulk d <= 1048576)
  (hE : ∀ f ecs de p, f < fuel -> Rows.uptoBulk de < Rows.uptoBulk d -> DataW.trod enc Tryz.prog w base sp held f e ecs = some (de, p) -> ∃ x, RpL rho0 w (en x).cells ecs /\ M (Rows.uptoBulk de) x) (hM : ∀ x m n, m <= n -> M m x -> M n x)
  (h : DataW.trod enc Tryz.prog w base sp held fuel t cs = some (d, ps)) : ∃ (v : Value) (xs : List α), cs = [v] /\ Rp rho0 w (.slice (xs.map en) .any) v /\ xs.length < Rows.uptoBulk d + 1 /\ ∀ x, x ∈ xs -> M (Rows.uptoBulk d - 1) x := by
 rcases trod_slice ht h with rfl | ⟨fuel', a, len, cap, elems, rest, rfl, rfl, h1, h2, rfl, h3, h4⟩
 ·refine ⟨_, [], rfl, ?_, by simp, (fun x hx => nomatch hx)⟩
  rw [Rp]
  exact ⟨none, 0, sz, rfl, by simp, by simp, by simp, (fun e he => nomatch he), trivial, fun h => absurd rfl h⟩
 ·have hlen : elems.length + 1 <= Rows.uptoBulk (.slice elems rest) := by
   have := bulk_len elems
   simp only [Rows.uptoBulk]; omega
  have key : ∀ i (hi : i < elems.length), ∃ x ecs, w.cells? base (a.add (i * sz)) sz = some ecs /\ RpL rho0 w (en x).cells ecs /\ M (Rows.uptoBulk (DataW.slice elems rest) - 1) x := fun i hi => by
   obtain ⟨ecs, p, h5, h6⟩ := h4 i hi
   have hlt : Rows.uptoBulk elems[i] < Rows.uptoBulk (.slice elems rest) := by
    have := bulk_part (List.getElem_mem (l := elems) hi)
    simp only [Rows.uptoBulk]; omega
   obtain ⟨x, h7, h8⟩ := hE fuel' ecs elems[i] p (by omega) hlt h6
   exact ⟨x, ecs, by rw [<- he]; exact h5, h7, hM _ _ _ (by omega) h8⟩
  let xs : List α := List.ofFn (n := elems.length) fun i => (key i.1 i.2).choose
  have hxl : xs.length = elems.length := by simp [xs]
  have hget : ∀ i (hi : i < elems.length), xs[i]? = some (key i hi).choose := fun i hi => by simp [xs, List.getElem?_ofFn, hi]
  refine ⟨_, xs, rfl, ?_, by omega, ?_⟩
  ·rw [Rp]
   refine ⟨some a, cap, sz, by rw [List.length_map, hxl, h3], by rw [List.length_map]; omega, h2, by rw [List.length_map]; unfold Wd; omega, fun e he => ?_, trivial, fun hne => ?_⟩
   ·obtain ⟨x, -, rfl⟩ := List.mem_map.1 he
    exact (hes x).1
   ·have h0 : 0 < elems.length := by
     rcases Nat.eq_zero_or_pos elems.length with h | h
     ·exact absurd (List.eq_nil_of_length_eq_zero (by rw [List.length_map]; omega)) hne
     ·exact h
    obtain ⟨ecs0, c0, -⟩ := (key 0 h0).choose_spec
    rw [show a.add (0 * sz) = a from by simp [Addr.add]] at c0
    obtain ⟨b, o, rfl, hlt, -, -⟩ := cells_at c0 hsz
    refine ⟨b, o, rfl, RpE_mk (sz := sz) (fun e he => ?_) fun i hi => ?_⟩
    ·obtain ⟨x, -, rfl⟩ := List.mem_map.1 he
     exact hes x
    ·have hi' : i < elems.length := by rw [List.length_map] at hi; omega
     have hx := hget i hi'
     have hx' : (xs.map en)[i] = en (key i hi').choose := by
      rw [List.getElem_map]
      have := List.getElem?_eq_some_iff.1 hx
      exact congrArg en this.2
     rw [hx']
     obtain ⟨ecs, c1, c2, -⟩ := (key i hi').choose_spec
     have hadd : (⟨b, o, none⟩ : Addr).add (i * sz) = ⟨b, o + i * sz, none⟩ := by unfold Addr.add; split <;> simp_all
     rw [hadd] at c1
     obtain ⟨b', o', e, -, c3, c4⟩ := cells_at c1 hsz
     simp only [Addr.mk.injEq, and_true] at e
     obtain ⟨rfl, rfl⟩ := e
     exact ⟨ecs, c2, c4⟩
  ·intro x hx
   obtain ⟨i, hi, rfl⟩ := List.getElem_of_mem hx
   have hi' : i < elems.length := by rw [<- hxl]; exact hi
   have := hget i hi'
   rw [List.getElem?_eq_getElem hi] at this
   simp only [Option.some.injEq] at this
   rw [this]
   obtain ⟨-, -, -, c⟩ := (key i hi').choose_spec
   exact c
theorem part_under : Tryz.prog.underlying 157 = some (.struct (Tryz.prog.fieldsOf 157)) := by kernel_rfl
theorem level_under : Tryz.prog.underlying 53 = some (.struct (Tryz.prog.fieldsOf 53)) := by kernel_rfl
theorem open_ints {fuel : Nat} {cs : List Value} {d : DataW H} {ps : List MemPlace} (hb : Rows.uptoBulk d <= 1048576) (h : DataW.trod enc Tryz.prog w base sp held fuel 38 cs = some (d, ps)) : ∃ v ns, cs = [v] /\ Rp rho0 w (Ints ns) v /\ ns.length <= 1048576 := by
 obtain ⟨v, xs, k0, hs, hl, hm⟩ := open_sl (D.int .i64) (sz := 1) Tryz.underlying38 (by kernel_rfl) (by omega) (fun x => ⟨rfl, rfl⟩) (fun _ _ => True) hb (fun f ecs de p _ hlt he => by
  obtain ⟨n, rfl, hn⟩ := trod_int Tryz.underlying3 he
  refine ⟨n, ?_, trivial⟩
  show RpL rho0 w [.int .i64 n] _
  simp only [RpL, Rp]
  exact ⟨_, _, rfl, ⟨rfl, hn⟩, rfl⟩) (fun _ _ _ _ h => h) h
 exact ⟨v, xs, k0, hs, by omega⟩
end
end Go.Proofs.YtgloldepdhgfaaaGreatDoor
namespace Go.Proofs.YtgloldepdhgfaaaGreatDoor
set_option linter.unusedSimpArgs false
set_option linter.unusedVariables false
open Go.RowKit Go.WideShapes Go.ChangeShapes
theorem ex_below {w w' : World} {ρ' : Rho} {H : Nat -> HO} (h : Ex rho0 w (hOf []) ρ' w' H) : Below w.heap.size w w' :=
 ⟨h.grow.os, h.grow.tape, h.grow.output, h.grow.size, fun k hk => (h.grow.whole k hk rfl).2⟩
theorem laidOut : laidOutB Tryz.prog = true := by kernel_rfl
section
variable {H : Type} {enc : TypeId × Value -> H} {P : Program}
theorem trodAll_stays (hl : laidOutB P = true) {W W' : World} {sp : Nat -> Bool} (hb : Below W.heap.size W W') : ∀ (ts : List TypeId) (vs : List Value) (ds : List (DataW H)) (ps : List MemPlace), (∀ t, t ∈ ts -> P.readableRec t = true /\ t < P.types.size) ->
  DataW.TrodAll enc P W 0 (fun _ => true) true ts vs ds ps -> (∀ x ∈ ps, x.block < W.heap.size) -> (∀ x ∈ ps, sp x.block = true) -> DataW.TrodAll enc P W' 0 sp true ts vs ds ps
 | [], [], [], ps, _, h, _, _ => h
 | t :: ts, v :: vs, d :: ds, ps, ht, h, hlt, hsp => by
  obtain ⟨p, q, h1, h2, rfl⟩ := h
  obtain ⟨r1, r2⟩ := ht t List.mem_cons_self
  exact ⟨p, q, WideElems.Trod_stays hl r1 r2 h1 (fun x hx => hb.same (hlt x (List.mem_append_left _ hx))) (fun x hx => hsp x (List.mem_append_left _ hx)),
   trodAll_stays hl hb ts vs ds q (fun t h => ht t (List.mem_cons_of_mem _ h)) h2 (fun x hx => hlt x (List.mem_append_right _ hx)) (fun x hx => hsp x (List.mem_append_right _ hx)), rfl⟩
 | [], [], _ :: _, _, _, h, _, _ => h.elim
 | [], _ :: _, _, _, _, h, _, _ => h.elim
 | _ :: _, [], _, _, _, h, _, _ => h.elim
 | _ :: _, _ :: _, [], _, _, h, _, _ => h.elim
theorem post_of_below {f : Func} {s : ChangeSpec} {apart fresh handsOn again : Bool} {W W' : World} {args : Array Value} {v : Value} {ds gs : List (DataW H)} {before pa pv : List MemPlace}
  (hW : DataW.Whole enc P f.params.toList s.vars apart W args.toList ds gs before)
  (hres : ∀ (b : Nat) (sp : Nat -> Bool) (hd : Bool), DataW.TrodAll enc P W' b sp hd f.resultTypes.toList (v.resultList f.resultTypes.size) (s.fn H (ds ++ gs)).results [])
  (hargs : ∀ sp : Nat -> Bool, (∀ p ∈ before, sp p.block = true) -> DataW.TrodAll enc P W' 0 sp true f.params.toList args.toList (s.fn H (ds ++ gs)).args pa)
  (hvars : ∀ sp : Nat -> Bool, (∀ p ∈ before, sp p.block = true) -> DataW.TrodVars enc P W' sp s.vars (s.fn H (ds ++ gs)).vars pv)
  (hps : before = pa ++ pv) (hb : Below W.heap.size W W')
  (hok : ∀ (j : Nat) (t : TypeId) (r : Value), f.resultTypes[j]? = some t -> (v.resultList f.resultTypes.size)[j]? = some r -> Value.okWide P W' .any 0 t r) :
  s.post enc P f apart fresh handsOn again W args v W' := by
 have hlt : ∀ p ∈ before, p.block < W.heap.size := fun p hp => hW.lt p hp
 have hold : ∀ p ∈ before, (fun b => decide (b < W.heap.size)) p.block = true := fun p hp => by simpa using hlt p hp
 refine ⟨ds, gs, before, [], pa, pv, hW, hres _ _ _, hargs _ hold, hvars _ hold, World.keptBut_mono (fun p hp => ⟨hp, ?_⟩) (hb.frame (· ∈ before)), fun _ => ?_⟩
 ·rw [hps, List.mem_append] at hp
  exact Or.inr hp
 ·obtain ⟨_, _, _, _, _, hz, hn⟩ := hW
  refine ⟨hok, _, _, ([] ++ pa) ++ pv, ⟨[] ++ pa, pv, trodAll_append (hargs _ (fun _ _ => rfl)) (hres _ _ _), hvars _ (fun _ _ => rfl), rfl, ?_, ?_⟩, ?_⟩
  ·intro b off hp
   have hin : MemPlace.cell b off ∈ before := by rw [hps]; simpa using hp
   rw [hb.frozen (hlt _ hin)]
   exact hz b off hin
  ·intro ha
   have := hn ha
   rw [hps] at this
   simpa using this
  ·intro p hp _
   rw [hps]
   simpa using hp
theorem post_law {f : Func} {s : ChangeSpec} {apart fresh handsOn again : Bool} {W W' : World} {args : Array Value} {ds gs : List (DataW H)} {before : List MemPlace} {tb : TypeId} (hl : laidOutB P = true) (htb : P.underlying tb = some .bool) (hrt : f.resultTypes = #[tb]) (hsv : s.vars = [])
  (hts : ∀ t, t ∈ f.params.toList -> P.readableRec t = true /\ t < P.types.size) (hW : DataW.Whole enc P f.params.toList s.vars apart W args.toList ds gs before) (hs : gs = [] -> s.fn H (ds ++ gs) = { results := [.lit (.bool true)], args := ds }) (hb : Below W.heap.size W W') :
  s.post enc P f apart fresh handsOn again W args (.bool true) W' := by
 have hW' := hW
 obtain ⟨p, q, hA, hV, hbf, -, -⟩ := hW
 rw [hsv] at hV
 obtain ⟨rfl, rfl⟩ := trodVars_none hV
 have hs' := hs rfl
 have hlt : ∀ x ∈ p, x.block < W.heap.size := fun x hx => hW'.lt x (by rw [hbf]; simpa using hx)
 refine post_of_below (pa := p) (pv := []) hW' (fun b sp hd => ?_) (fun sp hsp => ?_) (fun sp hsp => ?_) (by rw [hbf]) hb ?_
 ·rw [hrt, hs']
  exact trodAll_cons_mk (shut_bool htb _) trodAll_mk0
 ·rw [hs']
  exact trodAll_stays hl hb _ _ _ _ hts hA hlt (fun x hx => hsp x (by rw [hbf]; simpa using hx))
 ·rw [hs', hsv]; rfl
 ·exact ok_one hrt rfl (okWide_bool_mk htb _)
theorem arg_agg {W : World} {base : Nat} {t : TypeId} {v : Value} {fs : Array Field} (ht : P.underlying t = some (.struct fs)) (h : Value.okWide P W .any base t v) : ∃ cs : Array Value, v = .agg cs := by
 unfold Value.okWide at h
 rw [ht] at h
 obtain ⟨cs, h, -⟩ := h
 exact ⟨cs, h⟩
end
section
variable {H : Type} {enc : TypeId × Value -> H} {W : World} {base b0 : Nat} {sp : Nat -> Bool} {held : Bool} {v : Value} {d : DataW H} {p : List MemPlace}
set_option maxRecDepth 100000 in
theorem arg_ints (hk : Rows.uptoBulk d <= 1048576) (hv : Value.okWide Tryz.prog W .any base 38 v) (h : DataW.Trod enc Tryz.prog W b0 sp held 38 v d p) : ∃ ns : List Int, Rp rho0 W (Ints ns) v /\ ns.length <= 1048576 := by
 obtain ⟨a, len, cap, rfl⟩ := okWide_slice Tryz.underlying38 hv
 obtain ⟨fuel, hf⟩ := h
 obtain ⟨v', ns, he, hr, hl⟩ := open_ints hk hf
 have : v' = .slice a len cap := by
  have : ([Value.slice a len cap] : List Value) = [v'] := he
  simpa using this.symm
 subst this
 exact ⟨ns, hr, hl⟩
end
end Go.Proofs.YtgloldepdhgfaaaGreatDoor
