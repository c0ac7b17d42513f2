/-
  MW6: the texts Ho Hw Hx Hy Hz Ha Hb Hc, one behind the other.
-/
import Derived.Test.YtebmlojhdnldgaaGreatDoorMW5
namespace Go.Proofs.YtebmlojhdnldgaaGreatDoor
set_option linter.unusedSimpArgs false
set_option linter.unusedVariables false
set_option maxHeartbeats 10000000
set_option maxRecDepth 20000
open Go.RowKit
attribute [local simp] Qb Qc Xg Xw opD Qt Qn Qi Qj hOf Xd Xz Xu TK.isAgg TK.known Xf Xh Wv Qv D.ofV inB Wr Xj binX binD binE Xv bndD capB IntKind.min IntKind.max IntKind.signed IntKind.bits Xb late
theorem Xy (t : T) (n : Int) (m : Nat) (h : n = m) : Qu Tryz.prog glob 80 [Qx t, .int .i64 n] [] (fun o _ => o.fgt = .ret (Qx (t.kid m))) := by
 subst h
 have := kid_spec t m
 rwa [kidI_nat] at this
def atC (l : List C) (n : Int) (lv : List LV) : Option C := if h : 0 <= n /\ n.toNat < l.length then if (l[n.toNat]'h.2).lv = lv.length then some (l[n.toNat]'h.2) else none else none
theorem atC_low {l : List C} {n : Int} {lv : List LV} (h : ¬ 0 <= n) : atC l n lv = none := by unfold atC; rw [dif_neg (fun h2 => h h2.1)]
theorem atC_in {l : List C} {j : Nat} {lv : List LV} (h : j < l.length) : atC l (j : Int) lv = if l[j].lv = lv.length then some l[j] else none := by unfold atC; rw [dif_pos ⟨by omega, by omega⟩]; rfl
theorem atC_out {l : List C} {j : Nat} {lv : List LV} (h : ¬ j < l.length) : atC l (j : Int) lv = none := by unfold atC; rw [dif_neg (fun h2 => h h2.2)]
theorem body_at (l : List C) (n : Int) (lv : List LV) : bodyC l n lv = match atC l n lv with
  | some c => if c.has = true then some (c.bo.levels lv 0) else none
  | none => none := by
 unfold bodyC atC
 split
 ·rename_i h
  by_cases h1 : (l[n.toNat]'h.2).lv = lv.length
  ·rw [if_pos h1]
   by_cases h2 : (l[n.toNat]'h.2).has = true
   ·rw [if_pos ⟨h1, h2⟩]; simp only; rw [if_pos h2]
   ·rw [if_neg (fun h3 => h2 h3.2)]; simp only; rw [if_neg h2]
  ·rw [if_neg (fun h3 => h1 h3.1), if_neg h1]
 ·rfl
theorem atC_mem {l : List C} {n : Int} {lv : List LV} {c : C} (h : atC l n lv = some c) : c ∈ l := by
 unfold atC at h
 split at h
 ·split at h
  ·cases h; exact List.getElem_mem _
  ·cases h
 ·cases h
theorem encC_eq (c : C) : encC c = .agg [.int .i64 c.lv, .int .i64 c.ty.k, .int .i64 c.ty.n, .int .i64 c.ty.a, .slice (c.ty.ls.map Wm) .any, .slice (c.ty.ks.map Qx) .any, .bool c.has, .int .i64 c.bo.k, .int .i64 c.bo.n, .int .i64 c.bo.a, .slice (c.bo.ls.map Wm) .any, .slice (c.bo.ks.map Qx) .any] := rfl
theorem at_spec (l : List C) (hl : l.length <= Wd) (n : Int) (lv : List LV) : Qu Tryz.prog glob 137 [Cs l, .int .i64 n, .slice (lv.map Wm) .any] [] (fun o _ => o.fgt = .ret (.tuple [encC ((atC l n lv).getD zeroC), .bool (atC l n lv).isSome])) := by
 unfold Wd at hl
 by_cases h0 : 0 <= n
 ·obtain ⟨j, rfl⟩ : ∃ j : Nat, n = j := ⟨n.toNat, by omega⟩
  by_cases hj : j < l.length
  ·have hj' : (j : Int) < l.length := by omega
   rw [atC_in hj]
   obtain ⟨c, hc⟩ : ∃ c, l[j] = c := ⟨_, rfl⟩
   rw [hc]
   have hE := encC_eq c
   by_cases hlv : c.lv = lv.length
   ·rw [if_pos hlv]
    unfold Cs
    refine Qu.movd Qf (Qp Wc Tryz.func137 rfl (Qw _ _ Tryz.func137 rfl (by decide)) rfl rfl ?_)
    (refine sR fun K hK => ?_; ((repeat (rw [Qa]; simp)); (try simp only [zs])); refine hK _ _ _ ?_; clear hK K)
    refine Qg fun K1 hK1 => ?_
    (refine sR fun K hK => ?_; ((repeat (rw [Qa]; simp [h0, hj, hj', hc, hE, hlv])); (try simp only [zs])); refine hK _ _ _ ?_; clear hK K)
    refine pT rfl ?_
    (refine sR fun K hK => ?_; ((repeat (rw [Qa]; simp [h0, hj, hj', hc, hE, hlv])); (try simp only [zs])); refine hK _ _ _ ?_; clear hK K)
    (refine Qo ?_; (try simp only [zs]); refine Wa.ret rfl (.inl ?_); simp [Qt, Out.fgt, D.fgt, D.fgts])
    rw [hE, hlv]
   ·rw [if_neg hlv]
    unfold Cs
    refine Qu.movd Qf (Qp Wc Tryz.func137 rfl (Qw _ _ Tryz.func137 rfl (by decide)) rfl rfl ?_)
    (refine sR fun K hK => ?_; ((repeat (rw [Qa]; simp)); (try simp only [zs])); refine hK _ _ _ ?_; clear hK K)
    refine Qg fun K1 hK1 => ?_
    (refine sR fun K hK => ?_; ((repeat (rw [Qa]; simp [h0, hj, hj', hc, hE, hlv])); (try simp only [zs])); refine hK _ _ _ ?_; clear hK K)
    refine pF rfl ?_
    refine Qs (hK1 _ _ _ ?_)
    (refine sR fun K hK => ?_; ((repeat (rw [Qa]; simp)); (try simp only [zs])); refine hK _ _ _ ?_; clear hK K)
    (refine Qo ?_; (try simp only [zs]); refine Wa.ret rfl (.inl ?_); simp [Qt, Out.fgt, D.fgt, D.fgts])
    rfl
  ·have hj' : ¬ (j : Int) < l.length := by omega
   rw [atC_out hj]
   unfold Cs
   refine Qu.movd Qf (Qp Wc Tryz.func137 rfl (Qw _ _ Tryz.func137 rfl (by decide)) rfl rfl ?_)
   (refine sR fun K hK => ?_; ((repeat (rw [Qa]; simp)); (try simp only [zs])); refine hK _ _ _ ?_; clear hK K)
   refine Qg fun K1 hK1 => ?_
   (refine sR fun K hK => ?_; ((repeat (rw [Qa]; simp [h0, hj, hj'])); (try simp only [zs])); refine hK _ _ _ ?_; clear hK K)
   refine pF rfl ?_
   refine Qs (hK1 _ _ _ ?_)
   (refine sR fun K hK => ?_; ((repeat (rw [Qa]; simp)); (try simp only [zs])); refine hK _ _ _ ?_; clear hK K)
   (refine Qo ?_; (try simp only [zs]); refine Wa.ret rfl (.inl ?_); simp [Qt, Out.fgt, D.fgt, D.fgts])
   rfl
 ·rw [atC_low h0]
  unfold Cs
  refine Qu.movd Qf (Qp Wc Tryz.func137 rfl (Qw _ _ Tryz.func137 rfl (by decide)) rfl rfl ?_)
  (refine sR fun K hK => ?_; ((repeat (rw [Qa]; simp)); (try simp only [zs])); refine hK _ _ _ ?_; clear hK K)
  refine Qg fun K1 hK1 => ?_
  (refine sR fun K hK => ?_; ((repeat (rw [Qa]; simp [h0])); (try simp only [zs])); refine hK _ _ _ ?_; clear hK K)
  refine pF rfl ?_
  refine Qs (hK1 _ _ _ ?_)
  (refine sR fun K hK => ?_; ((repeat (rw [Qa]; simp)); (try simp only [zs])); refine hK _ _ _ ?_; clear hK K)
  (refine Qo ?_; (try simp only [zs]); refine Wa.ret rfl (.inl ?_); simp [Qt, Out.fgt, D.fgt, D.fgts])
  rfl
theorem body_spec (l : List C) (hl : okCs l) (n : Int) (lv : List LV) (hv : lv.length <= Wd) (hvl : ∀ b, b ∈ lv -> b.length <= Wd) : Qu Tryz.prog glob 116 [Cs l, .int .i64 n, .slice (lv.map Wm) .any] [] (fun o _ => o.fgt = .ret (.tuple [Qx ((bodyC l n lv).getD Wl), .bool (bodyC l n lv).isSome])) := by
 have ha := at_spec l hl.len n lv
 rw [body_at]
 cases hc : atC l n lv with
 | none =>
  rw [hc] at ha
  simp only [Option.getD_none, Option.isSome_none] at ha ⊢
  rw [encZ]
  unfold Cs zeroC at ha
  unfold Cs
  refine Qu.movd Qf (Qp Wc Tryz.func116 rfl (Qw _ _ Tryz.func116 rfl (by decide)) rfl rfl ?_)
  (refine sR fun K hK => ?_; ((repeat (rw [Qa]; simp)); (try simp only [zs])); refine hK _ _ _ ?_; clear hK K)
  (refine sR fun K hK => ?_; ((repeat (rw [Qa]; simp)); (try simp only [zs])))
  refine cXp (ha) ?_
  ((try simp only [Qb, Qc, Qn, Qi, Qj]); (repeat (rw [Qa]; simp)); (try simp only [zs]))
  (refine hK _ _ _ ?_; clear hK K)
  refine Qg fun K1 hK1 => ?_
  (refine sR fun K hK => ?_; ((repeat (rw [Qa]; simp)); (try simp only [zs])); refine hK _ _ _ ?_; clear hK K)
  refine pT rfl ?_
  (refine sR fun K hK => ?_; ((repeat (rw [Qa]; simp)); (try simp only [zs])); refine hK _ _ _ ?_; clear hK K)
  (refine Qo ?_; (try simp only [zs]); refine Wa.ret rfl (.inl ?_); simp [Qt, Out.fgt, D.fgt, D.fgts])
 | some c =>
  rw [hc] at ha
  simp only [Option.getD_some, Option.isSome_some] at ha ⊢
  have hm := atC_mem hc
  have hbo := (hl.ok c hm).2.2
  have hd : c.bo.deep <= DM := by have := c.bo.deep_nsz; have := hl.bo c hm; unfold DM; omega
  cases hh : c.has with
  | false =>
   rw [if_neg Bool.false_ne_true]
   simp only [Option.getD_none, Option.isSome_none]
   rw [encZ]
   rw [encC_eq c, hh] at ha
   unfold Cs at ha ⊢
   refine Qu.movd Qf (Qp Wc Tryz.func116 rfl (Qw _ _ Tryz.func116 rfl (by decide)) rfl rfl ?_)
   (refine sR fun K hK => ?_; ((repeat (rw [Qa]; simp)); (try simp only [zs])); refine hK _ _ _ ?_; clear hK K)
   (refine sR fun K hK => ?_; ((repeat (rw [Qa]; simp)); (try simp only [zs])))
   refine cXp (ha) ?_
   ((try simp only [Qb, Qc, Qn, Qi, Qj]); (repeat (rw [Qa]; simp)); (try simp only [zs]))
   (refine hK _ _ _ ?_; clear hK K)
   refine Qg fun K1 hK1 => ?_
   (refine sR fun K hK => ?_; ((repeat (rw [Qa]; simp)); (try simp only [zs])); refine hK _ _ _ ?_; clear hK K)
   refine pT rfl ?_
   (refine sR fun K hK => ?_; ((repeat (rw [Qa]; simp)); (try simp only [zs])); refine hK _ _ _ ?_; clear hK K)
   (refine Qo ?_; (try simp only [zs]); refine Wa.ret rfl (.inl ?_); simp [Qt, Out.fgt, D.fgt, D.fgts])
  | true =>
   rw [if_pos rfl]
   simp only [Option.getD_some, Option.isSome_some]
   have hs := levels_spec c.bo lv hv hvl hd hbo
   rw [encC_eq c, hh] at ha
   rw [Qd c.bo] at hs
   generalize c.bo.levels lv 0 = r at hs ⊢
   have hEr := Qd r
   unfold Lvs at hs
   unfold Cs at ha ⊢
   refine Qu.movd Qf (Qp Wc Tryz.func116 rfl (Qw _ _ Tryz.func116 rfl (by decide)) rfl rfl ?_)
   (refine sR fun K hK => ?_; ((repeat (rw [Qa]; simp)); (try simp only [zs])); refine hK _ _ _ ?_; clear hK K)
   (refine sR fun K hK => ?_; ((repeat (rw [Qa]; simp)); (try simp only [zs])))
   refine cXp (ha) ?_
   ((try simp only [Qb, Qc, Qn, Qi, Qj]); (repeat (rw [Qa]; simp)); (try simp only [zs]))
   (refine hK _ _ _ ?_; clear hK K)
   refine Qg fun K1 hK1 => ?_
   (refine sR fun K hK => ?_; ((repeat (rw [Qa]; simp)); (try simp only [zs])); refine hK _ _ _ ?_; clear hK K)
   refine pF rfl ?_
   refine Qs (hK1 _ _ _ ?_)
   (refine sR fun K hK => ?_; ((repeat (rw [Qa]; simp)); (try simp only [zs])))
   refine cXp (hs) ?_
   ((try simp only [Qb, Qc, Qn, Qi, Qj]); (repeat (rw [Qa]; simp)); (try simp only [zs]))
   (refine hK _ _ _ ?_; clear hK K)
   (refine Qo ?_; (try simp only [zs]); refine Wa.ret rfl (.inl ?_); simp [Qt, Out.fgt, D.fgt, D.fgts])
   exact hEr.symm
theorem happ_spec (left : Int) (l : List C) (once done : Bool) (hl : left <= 9223372036854775807) (t x : T) (ht : okS t) (hx : okS x) (h6 : t.k = 6) : Qu Tryz.prog glob 71 [.box 0 0, Qx t, Qx x] (Wk left l once done) (OwnP left l once done t (ownS l t x)) := by
 have hEt := Qd t
 have hEx := Qd x
 unfold ownS
 rw [if_pos h6]
 by_cases hk : x.k = 5
 ·rw [if_pos hk]
  have k1 := Xy x 1 1 rfl
  have k2 := Xy t 1 1 rfl
  have hp := hput_spec left l once done hl (x.kid 1) (t.kid 1) (hx.kid 1) (ht.kid 1)
  generalize (x.kid 1).sd (t.kid 1).nsz 0 = c at hp ⊢
  generalize (x.kid 1).put [t.kid 1] 0 = r at hp ⊢
  generalize x.kid 1 = a at k1 hp
  generalize t.kid 1 = b at k2 hp
  have hEr := Qd r
  have hEa := Qd a
  have hEb := Qd b
  rw [hEx, hEa, hk] at k1
  rw [hEt, hEb] at k2
  rw [hEa, hEb, hEr] at hp
  rw [hEt, hEx]
  by_cases hc : (c : Int) <= left
  ·rw [Cost_ok hc] at hp
   show Qu _ _ _ _ _ (Cost left l once done c _)
   rw [Cost_ok hc]
   unfold Wk headD Cs Wo at hp ⊢
   refine Qu.movd Qf (Qp Wc Tryz.func71 rfl (Qw _ _ Tryz.func71 rfl (by decide)) rfl rfl ?_)
   (refine sR fun K hK => ?_; ((repeat (rw [Qa]; simp)); (try simp only [zs])); refine hK _ _ _ ?_; clear hK K)
   refine Qg fun K1 hK1 => ?_
   (refine sR fun K hK => ?_; ((repeat (rw [Qa]; simp [hk])); (try simp only [zs])); refine hK _ _ _ ?_; clear hK K)
   refine pF rfl ?_
   refine Qs (hK1 _ _ _ ?_)
   (refine Qg fun K hK => ?_; refine dR fun KT hKT => ?_; ((repeat (rw [Qh]; simp)); (try simp only [Qk])))
   refine cYp (k1) ?_
   ((try simp only [Ql, Qm, Qn, Qi, Qj]); (repeat (rw [Qh]; simp)); (try simp only [Qk]))
   refine cYp (k2) ?_
   ((try simp only [Ql, Qm, Qn, Qi, Qj]); (repeat (rw [Qh]; simp)); (try simp only [Qk]))
   refine cYo [0, 1] true true (hp) (fun o h e => e) ?_; simp [zz, okA, Qr, Qq, hOf, Qe, Out.ren, upO, Qq, rdO]
   ((try simp only [Ql, Qm, Qn, Qi, Qj]); (repeat (rw [Qh]; simp)); (try simp only [Qk]))
   (refine hKT _ _ _ _ (by kernel_rfl) ?_; clear hKT KT; (try simp only [zs]))
   (refine hK _ _ _ ?_; clear hK K)
   (refine Qo ?_; (try simp only [zs]); refine Wa.ret rfl (.inr ⟨[], by decide, by simp, ?_⟩); simp [Out.mov, Wg, Wh, Wj, D.mov, HO.mov, okM, Wi, We, zz, okA, Qr, Qq, hOf, Qe, Qt, Out.fgt, D.fgt, D.fgts])
   first | done | simp [hEr]
  ·rw [Cost_no hc] at hp
   show Qu _ _ _ _ _ (Cost left l once done c _)
   rw [Cost_no hc]
   unfold Wk headD Cs Wo goneD at hp
   unfold Wk headD Cs Wo goneD
   refine Qu.movd Qf (Qp Wc Tryz.func71 rfl (Qw _ _ Tryz.func71 rfl (by decide)) rfl rfl ?_)
   (refine sR fun K hK => ?_; ((repeat (rw [Qa]; simp)); (try simp only [zs])); refine hK _ _ _ ?_; clear hK K)
   refine Qg fun K1 hK1 => ?_
   (refine sR fun K hK => ?_; ((repeat (rw [Qa]; simp [hk])); (try simp only [zs])); refine hK _ _ _ ?_; clear hK K)
   refine pF rfl ?_
   refine Qs (hK1 _ _ _ ?_)
   (refine Qg fun K hK => ?_; refine dR fun KT hKT => ?_; ((repeat (rw [Qh]; simp)); (try simp only [Qk])))
   refine cYp (k1) ?_
   ((try simp only [Ql, Qm, Qn, Qi, Qj]); (repeat (rw [Qh]; simp)); (try simp only [Qk]))
   refine cYp (k2) ?_
   ((try simp only [Ql, Qm, Qn, Qi, Qj]); (repeat (rw [Qh]; simp)); (try simp only [Qk]))
   refine cYo [0, 1] true false (hp) (fun o h e => e) ?_; simp [zz, okA, Qr, Qq, hOf, Qe, Out.ren, upO, Qq, rdO]
   ((try simp only [Ql, Qm, Qn, Qi, Qj]); (repeat (refine wpT_late _ _ _ _ (by kernel_rfl) ?_; simp only [Qn, List.set, List.nil_append, List.cons_append, Nat.reduceAdd])); (try simp only [Qk]))
   (refine hKT _ _ _ _ (by kernel_rfl) ?_; clear hKT KT; (try simp only [zs]))
   simp [killHl]
   ((try simp only [zs]); refine Wa.pan (.inr ⟨[], by decide, by simp, ?_⟩); simp [Out.mov, Wg, Wh, Wj, D.mov, HO.mov, okM, Wi, We, zz, okA, Qr, Qq, hOf, Qe, Qt, Out.fgt, D.fgt, D.fgts])
 ·rw [if_neg hk]
  rw [hEt, hEx]
  unfold OwnP Wk headD Cs Wo
  refine Qu.movd Qf (Qp Wc Tryz.func71 rfl (Qw _ _ Tryz.func71 rfl (by decide)) rfl rfl ?_)
  (refine sR fun K hK => ?_; ((repeat (rw [Qa]; simp)); (try simp only [zs])); refine hK _ _ _ ?_; clear hK K)
  refine Qg fun K1 hK1 => ?_
  (refine sR fun K hK => ?_; ((repeat (rw [Qa]; simp [hk])); (try simp only [zs])); refine hK _ _ _ ?_; clear hK K)
  refine pT rfl ?_
  (refine sR fun K hK => ?_; ((repeat (rw [Qa]; simp)); (try simp only [zs])); refine hK _ _ _ ?_; clear hK K)
  (refine Qo ?_; (try simp only [zs]); refine Wa.ret rfl (.inr ⟨[], by decide, by simp, ?_⟩); simp [Out.mov, Wg, Wh, Wj, D.mov, HO.mov, okM, Wi, We, zz, okA, Qr, Qq, hOf, Qe, Qt, Out.fgt, D.fgt, D.fgts])
  first | done | simp [hEt]
theorem hlet_spec (left : Int) (l : List C) (once done : Bool) (hl : left <= 9223372036854775807) (t x : T) (ht : okS t) (h7 : t.k = 7) : Qu Tryz.prog glob 73 [.box 0 0, Qx t, Qx x] (Wk left l once done) (OwnP left l once done t (ownS l t x)) := by
 have hEt := Qd t
 have hEx := Qd x
 unfold ownS
 rw [if_neg (by omega), if_neg (by omega), if_pos h7]
 have k1 := Xy t 2 2 rfl
 have k2 := Xy t 1 1 rfl
 have hp := hput_spec left l once done hl (t.kid 2) (t.kid 1) (ht.kid 2) (ht.kid 1)
 generalize (t.kid 2).sd (t.kid 1).nsz 0 = c at hp ⊢
 generalize (t.kid 2).put [t.kid 1] 0 = r at hp ⊢
 generalize t.kid 2 = a at k1 hp
 generalize t.kid 1 = b at k2 hp
 have hEr := Qd r
 have hEa := Qd a
 have hEb := Qd b
 rw [hEt, hEa] at k1
 rw [hEt, hEb] at k2
 rw [hEa, hEb, hEr] at hp
 rw [hEt, hEx]
 by_cases hc : (c : Int) <= left
 ·rw [Cost_ok hc] at hp
  show Qu _ _ _ _ _ (Cost left l once done c _)
  rw [Cost_ok hc]
  unfold Wk headD Cs Wo at hp ⊢
  refine Qu.movd Qf (Qp Wc Tryz.func73 rfl (Qw _ _ Tryz.func73 rfl (by decide)) rfl rfl ?_)
  (refine sR fun K hK => ?_; ((repeat (rw [Qa]; simp)); (try simp only [zs])); refine hK _ _ _ ?_; clear hK K)
  (refine Qg fun K hK => ?_; refine dR fun KT hKT => ?_; ((repeat (rw [Qh]; simp)); (try simp only [Qk])))
  refine cYp (k1) ?_
  ((try simp only [Ql, Qm, Qn, Qi, Qj]); (repeat (rw [Qh]; simp)); (try simp only [Qk]))
  refine cYp (k2) ?_
  ((try simp only [Ql, Qm, Qn, Qi, Qj]); (repeat (rw [Qh]; simp)); (try simp only [Qk]))
  refine cYo [0, 1] true true (hp) (fun o h e => e) ?_; simp [zz, okA, Qr, Qq, hOf, Qe, Out.ren, upO, Qq, rdO]
  ((try simp only [Ql, Qm, Qn, Qi, Qj]); (repeat (rw [Qh]; simp)); (try simp only [Qk]))
  (refine hKT _ _ _ _ (by kernel_rfl) ?_; clear hKT KT; (try simp only [zs]))
  (refine hK _ _ _ ?_; clear hK K)
  (refine Qo ?_; (try simp only [zs]); refine Wa.ret rfl (.inr ⟨[], by decide, by simp, ?_⟩); simp [Out.mov, Wg, Wh, Wj, D.mov, HO.mov, okM, Wi, We, zz, okA, Qr, Qq, hOf, Qe, Qt, Out.fgt, D.fgt, D.fgts])
  first | done | simp [hEr]
 ·rw [Cost_no hc] at hp
  show Qu _ _ _ _ _ (Cost left l once done c _)
  rw [Cost_no hc]
  unfold Wk headD Cs Wo goneD at hp
  unfold Wk headD Cs Wo goneD
  refine Qu.movd Qf (Qp Wc Tryz.func73 rfl (Qw _ _ Tryz.func73 rfl (by decide)) rfl rfl ?_)
  (refine sR fun K hK => ?_; ((repeat (rw [Qa]; simp)); (try simp only [zs])); refine hK _ _ _ ?_; clear hK K)
  (refine Qg fun K hK => ?_; refine dR fun KT hKT => ?_; ((repeat (rw [Qh]; simp)); (try simp only [Qk])))
  refine cYp (k1) ?_
  ((try simp only [Ql, Qm, Qn, Qi, Qj]); (repeat (rw [Qh]; simp)); (try simp only [Qk]))
  refine cYp (k2) ?_
  ((try simp only [Ql, Qm, Qn, Qi, Qj]); (repeat (rw [Qh]; simp)); (try simp only [Qk]))
  refine cYo [0, 1] true false (hp) (fun o h e => e) ?_; simp [zz, okA, Qr, Qq, hOf, Qe, Out.ren, upO, Qq, rdO]
  ((try simp only [Ql, Qm, Qn, Qi, Qj]); (repeat (refine wpT_late _ _ _ _ (by kernel_rfl) ?_; simp only [Qn, List.set, List.nil_append, List.cons_append, Nat.reduceAdd])); (try simp only [Qk]))
  (refine hKT _ _ _ _ (by kernel_rfl) ?_; clear hKT KT; (try simp only [zs]))
  simp [killHl]
  ((try simp only [zs]); refine Wa.pan (.inr ⟨[], by decide, by simp, ?_⟩); simp [Out.mov, Wg, Wh, Wj, D.mov, HO.mov, okM, Wi, We, zz, okA, Qr, Qq, hOf, Qe, Qt, Out.fgt, D.fgt, D.fgts])
theorem hhalf_spec (left : Int) (l : List C) (once done : Bool) (hl : left <= 9223372036854775807) (t x : T) (hx : okS x) (h14 : t.k = 14 \/ t.k = 15) : Qu Tryz.prog glob 72 [.box 0 0, Qx t, Qx x] (Wk left l once done) (OwnP left l once done t (ownS l t x)) := by
 have hEt := Qd t
 have hEx := Qd x
 unfold ownS
 rw [if_neg (by omega), if_pos h14]
 by_cases hk : x.k = 13
 ·rw [if_pos hk]
  by_cases h15 : t.k = 15
  ·rw [if_pos h15]
   have k1 := Xy x 1 1 rfl
   have hp := htake_spec left l once done hl (x.kid 1) (hx.kid 1)
   generalize (x.kid 1).nsz = c at hp ⊢
   generalize x.kid 1 = r at k1 hp ⊢
   have hEr := Qd r
   rw [hEx, hEr, hk] at k1
   rw [hEr] at hp
   rw [hEt, hEx]
   by_cases hc : (c : Int) <= left
   ·rw [Cost_ok hc] at hp
    show Qu _ _ _ _ _ (Cost left l once done c _)
    rw [Cost_ok hc]
    unfold Wk headD Cs Wo at hp ⊢
    refine Qu.movd Qf (Qp Wc Tryz.func72 rfl (Qw _ _ Tryz.func72 rfl (by decide)) rfl rfl ?_)
    (refine sR fun K hK => ?_; ((repeat (rw [Qa]; simp)); (try simp only [zs])); refine hK _ _ _ ?_; clear hK K)
    refine Qg fun K1 hK1 => ?_
    (refine sR fun K hK => ?_; ((repeat (rw [Qa]; simp [hk])); (try simp only [zs])); refine hK _ _ _ ?_; clear hK K)
    refine pF rfl ?_
    refine Qs (hK1 _ _ _ ?_)
    (refine sR fun K hK => ?_; ((repeat (rw [Qa]; simp)); (try simp only [zs])); refine hK _ _ _ ?_; clear hK K)
    refine Qg fun K2 hK2 => ?_
    (refine sR fun K hK => ?_; ((repeat (rw [Qa]; simp [h15])); (try simp only [zs])); refine hK _ _ _ ?_; clear hK K)
    refine pT rfl ?_
    (refine Qz Wc ?_; ((repeat (rw [Qa]; simp)); (try simp only [zs])))
    refine hK2 _ _ _ ?_
    (refine sR fun K hK => ?_; ((repeat (rw [Qa]; simp)); (try simp only [zs])))
    refine cXp (k1) ?_
    ((try simp only [Qb, Qc, Qn, Qi, Qj]); (repeat (rw [Qa]; simp)); (try simp only [zs]))
    refine cXo [0, 1] true (hp) ?_
    (rintro o hc ⟨ho, rfl⟩; refine ⟨true, ?_⟩; rw [show told true o = _ from ho]; clear ho; simp [zz, okA, Qr, Qq, hOf, Qe, Out.ren, told, Out.fgt, upO, Qi, Qj])
    ((try simp only [Qb, Qc, Qn, Qi, Qj]); (repeat (rw [Qa]; simp)); (try simp only [zs]))
    (refine hK _ _ _ ?_; clear hK K)
    (refine Qo ?_; (try simp only [zs]); refine Wa.ret rfl (.inr ⟨[], by decide, by simp, ?_⟩); simp [Out.mov, Wg, Wh, Wj, D.mov, HO.mov, okM, Wi, We, zz, okA, Qr, Qq, hOf, Qe, Qt, Out.fgt, D.fgt, D.fgts])
    first | done | simp [hEr]
   ·rw [Cost_no hc] at hp
    show Qu _ _ _ _ _ (Cost left l once done c _)
    rw [Cost_no hc]
    unfold Wk headD Cs Wo goneD at hp
    unfold Wk headD Cs Wo goneD
    refine Qu.movd Qf (Qp Wc Tryz.func72 rfl (Qw _ _ Tryz.func72 rfl (by decide)) rfl rfl ?_)
    (refine sR fun K hK => ?_; ((repeat (rw [Qa]; simp)); (try simp only [zs])); refine hK _ _ _ ?_; clear hK K)
    refine Qg fun K1 hK1 => ?_
    (refine sR fun K hK => ?_; ((repeat (rw [Qa]; simp [hk])); (try simp only [zs])); refine hK _ _ _ ?_; clear hK K)
    refine pF rfl ?_
    refine Qs (hK1 _ _ _ ?_)
    (refine sR fun K hK => ?_; ((repeat (rw [Qa]; simp)); (try simp only [zs])); refine hK _ _ _ ?_; clear hK K)
    refine Qg fun K2 hK2 => ?_
    (refine sR fun K hK => ?_; ((repeat (rw [Qa]; simp [h15])); (try simp only [zs])); refine hK _ _ _ ?_; clear hK K)
    refine pT rfl ?_
    (refine Qz Wc ?_; ((repeat (rw [Qa]; simp)); (try simp only [zs])))
    refine hK2 _ _ _ ?_
    (refine sR fun K hK => ?_; ((repeat (rw [Qa]; simp)); (try simp only [zs])))
    refine cXp (k1) ?_
    ((try simp only [Qb, Qc, Qn, Qi, Qj]); (repeat (rw [Qa]; simp)); (try simp only [zs]))
    refine cXo [0, 1] true (hp) ?_
    (rintro o hc ⟨rfl, rfl⟩; refine ⟨false, ?_⟩; simp [zz, okA, Qr, Qq, hOf, Qe, Out.ren, told, Out.fgt, upO, Qi, Qj])
    ((try simp only [zs]); refine Wa.pan (.inr ⟨[], by decide, by simp, ?_⟩); simp [Out.mov, Wg, Wh, Wj, D.mov, HO.mov, okM, Wi, We, zz, okA, Qr, Qq, hOf, Qe, Qt, Out.fgt, D.fgt, D.fgts])
  ·rw [if_neg h15]
   have k1 := Xy x 0 0 rfl
   have hp := htake_spec left l once done hl (x.kid 0) (hx.kid 0)
   generalize (x.kid 0).nsz = c at hp ⊢
   generalize x.kid 0 = r at k1 hp ⊢
   have hEr := Qd r
   rw [hEx, hEr, hk] at k1
   rw [hEr] at hp
   rw [hEt, hEx]
   by_cases hc : (c : Int) <= left
   ·rw [Cost_ok hc] at hp
    show Qu _ _ _ _ _ (Cost left l once done c _)
    rw [Cost_ok hc]
    unfold Wk headD Cs Wo at hp ⊢
    refine Qu.movd Qf (Qp Wc Tryz.func72 rfl (Qw _ _ Tryz.func72 rfl (by decide)) rfl rfl ?_)
    (refine sR fun K hK => ?_; ((repeat (rw [Qa]; simp)); (try simp only [zs])); refine hK _ _ _ ?_; clear hK K)
    refine Qg fun K1 hK1 => ?_
    (refine sR fun K hK => ?_; ((repeat (rw [Qa]; simp [hk])); (try simp only [zs])); refine hK _ _ _ ?_; clear hK K)
    refine pF rfl ?_
    refine Qs (hK1 _ _ _ ?_)
    (refine sR fun K hK => ?_; ((repeat (rw [Qa]; simp)); (try simp only [zs])); refine hK _ _ _ ?_; clear hK K)
    refine Qg fun K2 hK2 => ?_
    (refine sR fun K hK => ?_; ((repeat (rw [Qa]; simp [h15])); (try simp only [zs])); refine hK _ _ _ ?_; clear hK K)
    refine pF rfl ?_
    refine Qs (hK2 _ _ _ ?_)
    (refine sR fun K hK => ?_; ((repeat (rw [Qa]; simp)); (try simp only [zs])))
    refine cXp (k1) ?_
    ((try simp only [Qb, Qc, Qn, Qi, Qj]); (repeat (rw [Qa]; simp)); (try simp only [zs]))
    refine cXo [0, 1] true (hp) ?_
    (rintro o hc ⟨ho, rfl⟩; refine ⟨true, ?_⟩; rw [show told true o = _ from ho]; clear ho; simp [zz, okA, Qr, Qq, hOf, Qe, Out.ren, told, Out.fgt, upO, Qi, Qj])
    ((try simp only [Qb, Qc, Qn, Qi, Qj]); (repeat (rw [Qa]; simp)); (try simp only [zs]))
    (refine hK _ _ _ ?_; clear hK K)
    (refine Qo ?_; (try simp only [zs]); refine Wa.ret rfl (.inr ⟨[], by decide, by simp, ?_⟩); simp [Out.mov, Wg, Wh, Wj, D.mov, HO.mov, okM, Wi, We, zz, okA, Qr, Qq, hOf, Qe, Qt, Out.fgt, D.fgt, D.fgts])
    first | done | simp [hEr]
   ·rw [Cost_no hc] at hp
    show Qu _ _ _ _ _ (Cost left l once done c _)
    rw [Cost_no hc]
    unfold Wk headD Cs Wo goneD at hp
    unfold Wk headD Cs Wo goneD
    refine Qu.movd Qf (Qp Wc Tryz.func72 rfl (Qw _ _ Tryz.func72 rfl (by decide)) rfl rfl ?_)
    (refine sR fun K hK => ?_; ((repeat (rw [Qa]; simp)); (try simp only [zs])); refine hK _ _ _ ?_; clear hK K)
    refine Qg fun K1 hK1 => ?_
    (refine sR fun K hK => ?_; ((repeat (rw [Qa]; simp [hk])); (try simp only [zs])); refine hK _ _ _ ?_; clear hK K)
    refine pF rfl ?_
    refine Qs (hK1 _ _ _ ?_)
    (refine sR fun K hK => ?_; ((repeat (rw [Qa]; simp)); (try simp only [zs])); refine hK _ _ _ ?_; clear hK K)
    refine Qg fun K2 hK2 => ?_
    (refine sR fun K hK => ?_; ((repeat (rw [Qa]; simp [h15])); (try simp only [zs])); refine hK _ _ _ ?_; clear hK K)
    refine pF rfl ?_
    refine Qs (hK2 _ _ _ ?_)
    (refine sR fun K hK => ?_; ((repeat (rw [Qa]; simp)); (try simp only [zs])))
    refine cXp (k1) ?_
    ((try simp only [Qb, Qc, Qn, Qi, Qj]); (repeat (rw [Qa]; simp)); (try simp only [zs]))
    refine cXo [0, 1] true (hp) ?_
    (rintro o hc ⟨rfl, rfl⟩; refine ⟨false, ?_⟩; simp [zz, okA, Qr, Qq, hOf, Qe, Out.ren, told, Out.fgt, upO, Qi, Qj])
    ((try simp only [zs]); refine Wa.pan (.inr ⟨[], by decide, by simp, ?_⟩); simp [Out.mov, Wg, Wh, Wj, D.mov, HO.mov, okM, Wi, We, zz, okA, Qr, Qq, hOf, Qe, Qt, Out.fgt, D.fgt, D.fgts])
 ·rw [if_neg hk]
  rw [hEt, hEx]
  unfold OwnP Wk headD Cs Wo
  refine Qu.movd Qf (Qp Wc Tryz.func72 rfl (Qw _ _ Tryz.func72 rfl (by decide)) rfl rfl ?_)
  (refine sR fun K hK => ?_; ((repeat (rw [Qa]; simp)); (try simp only [zs])); refine hK _ _ _ ?_; clear hK K)
  refine Qg fun K1 hK1 => ?_
  (refine sR fun K hK => ?_; ((repeat (rw [Qa]; simp [hk])); (try simp only [zs])); refine hK _ _ _ ?_; clear hK K)
  refine pT rfl ?_
  (refine sR fun K hK => ?_; ((repeat (rw [Qa]; simp)); (try simp only [zs])); refine hK _ _ _ ?_; clear hK K)
  (refine Qo ?_; (try simp only [zs]); refine Wa.ret rfl (.inr ⟨[], by decide, by simp, ?_⟩); simp [Out.mov, Wg, Wh, Wj, D.mov, HO.mov, okM, Wi, We, zz, okA, Qr, Qq, hOf, Qe, Qt, Out.fgt, D.fgt, D.fgts])
  first | done | simp [hEt]
theorem hpath_spec (left : Int) (l : List C) (once done : Bool) (hl : left <= 9223372036854775807) (t x : T) (ht : okS t) (h21 : t.k = 21) : Qu Tryz.prog glob 76 [.box 0 0, Qx t, Qx x] (Wk left l once done) (OwnP left l once done t (ownS l t x)) := by
 have hEt := Qd t
 have hEx := Qd x
 unfold ownS
 rw [if_neg (by omega), if_neg (by omega), if_neg (by omega), if_neg (by omega), if_neg (by omega), if_pos h21]
 by_cases hk : x.k = 20
 ·rw [if_pos hk]
  have k1 := Xy t 3 3 rfl
  have hp := htake_spec left l once done hl (t.kid 3) (ht.kid 3)
  generalize (t.kid 3).nsz = c at hp ⊢
  generalize t.kid 3 = r at k1 hp ⊢
  have hEr := Qd r
  rw [hEt, hEr] at k1
  rw [hEr] at hp
  rw [hEt, hEx]
  by_cases hc : (c : Int) <= left
  ·rw [Cost_ok hc] at hp
   show Qu _ _ _ _ _ (Cost left l once done c _)
   rw [Cost_ok hc]
   unfold Wk headD Cs Wo at hp ⊢
   refine Qu.movd Qf (Qp Wc Tryz.func76 rfl (Qw _ _ Tryz.func76 rfl (by decide)) rfl rfl ?_)
   (refine sR fun K hK => ?_; ((repeat (rw [Qa]; simp)); (try simp only [zs])); refine hK _ _ _ ?_; clear hK K)
   refine Qg fun K1 hK1 => ?_
   (refine sR fun K hK => ?_; ((repeat (rw [Qa]; simp [hk])); (try simp only [zs])); refine hK _ _ _ ?_; clear hK K)
   refine pF rfl ?_
   refine Qs (hK1 _ _ _ ?_)
   (refine sR fun K hK => ?_; ((repeat (rw [Qa]; simp)); (try simp only [zs])))
   refine cXp (k1) ?_
   ((try simp only [Qb, Qc, Qn, Qi, Qj]); (repeat (rw [Qa]; simp)); (try simp only [zs]))
   refine cXo [0, 1] true (hp) ?_
   (rintro o hc ⟨ho, rfl⟩; refine ⟨true, ?_⟩; rw [show told true o = _ from ho]; clear ho; simp [zz, okA, Qr, Qq, hOf, Qe, Out.ren, told, Out.fgt, upO, Qi, Qj])
   ((try simp only [Qb, Qc, Qn, Qi, Qj]); (repeat (rw [Qa]; simp)); (try simp only [zs]))
   (refine hK _ _ _ ?_; clear hK K)
   (refine Qo ?_; (try simp only [zs]); refine Wa.ret rfl (.inr ⟨[], by decide, by simp, ?_⟩); simp [Out.mov, Wg, Wh, Wj, D.mov, HO.mov, okM, Wi, We, zz, okA, Qr, Qq, hOf, Qe, Qt, Out.fgt, D.fgt, D.fgts])
   first | done | simp [hEr]
  ·rw [Cost_no hc] at hp
   show Qu _ _ _ _ _ (Cost left l once done c _)
   rw [Cost_no hc]
   unfold Wk headD Cs Wo goneD at hp
   unfold Wk headD Cs Wo goneD
   refine Qu.movd Qf (Qp Wc Tryz.func76 rfl (Qw _ _ Tryz.func76 rfl (by decide)) rfl rfl ?_)
   (refine sR fun K hK => ?_; ((repeat (rw [Qa]; simp)); (try simp only [zs])); refine hK _ _ _ ?_; clear hK K)
   refine Qg fun K1 hK1 => ?_
   (refine sR fun K hK => ?_; ((repeat (rw [Qa]; simp [hk])); (try simp only [zs])); refine hK _ _ _ ?_; clear hK K)
   refine pF rfl ?_
   refine Qs (hK1 _ _ _ ?_)
   (refine sR fun K hK => ?_; ((repeat (rw [Qa]; simp)); (try simp only [zs])))
   refine cXp (k1) ?_
   ((try simp only [Qb, Qc, Qn, Qi, Qj]); (repeat (rw [Qa]; simp)); (try simp only [zs]))
   refine cXo [0, 1] true (hp) ?_
   (rintro o hc ⟨rfl, rfl⟩; refine ⟨false, ?_⟩; simp [zz, okA, Qr, Qq, hOf, Qe, Out.ren, told, Out.fgt, upO, Qi, Qj])
   ((try simp only [zs]); refine Wa.pan (.inr ⟨[], by decide, by simp, ?_⟩); simp [Out.mov, Wg, Wh, Wj, D.mov, HO.mov, okM, Wi, We, zz, okA, Qr, Qq, hOf, Qe, Qt, Out.fgt, D.fgt, D.fgts])
 ·rw [if_neg hk]
  rw [hEt, hEx]
  unfold OwnP Wk headD Cs Wo
  refine Qu.movd Qf (Qp Wc Tryz.func76 rfl (Qw _ _ Tryz.func76 rfl (by decide)) rfl rfl ?_)
  (refine sR fun K hK => ?_; ((repeat (rw [Qa]; simp)); (try simp only [zs])); refine hK _ _ _ ?_; clear hK K)
  refine Qg fun K1 hK1 => ?_
  (refine sR fun K hK => ?_; ((repeat (rw [Qa]; simp [hk])); (try simp only [zs])); refine hK _ _ _ ?_; clear hK K)
  refine pT rfl ?_
  (refine sR fun K hK => ?_; ((repeat (rw [Qa]; simp)); (try simp only [zs])); refine hK _ _ _ ?_; clear hK K)
  (refine Qo ?_; (try simp only [zs]); refine Wa.ret rfl (.inr ⟨[], by decide, by simp, ?_⟩); simp [Out.mov, Wg, Wh, Wj, D.mov, HO.mov, okM, Wi, We, zz, okA, Qr, Qq, hOf, Qe, Qt, Out.fgt, D.fgt, D.fgts])
  first | done | simp [hEt]
theorem hbranch_spec (left : Int) (l : List C) (once done : Bool) (hl : left <= 9223372036854775807) (t x : T) (ht : okS t) (hxn : okS x) (h24 : t.k = 24) (hs : (spot t).isSome = true) : Qu Tryz.prog glob 77 [.box 0 0, Qx t, Qx x] (Wk left l once done) (OwnP left l once done t (ownS l t x)) := by
 have hEt := Qd t
 have hEx := Qd x
 unfold ownS
 rw [if_neg (by omega), if_neg (by omega), if_neg (by omega), if_neg (by omega), if_neg (by omega), if_neg (by omega), if_pos ⟨h24, hs⟩]
 have hta := ht.1.a
 unfold I64 at hta
 by_cases hk : x.k = 23
 ·by_cases h0 : 0 <= x.n
  ·by_cases h1 : x.n < t.a
   ·rw [if_pos ⟨hk, h0, h1⟩]
    have hw : IntKind.i64.wrap (x.n + 1) = x.n + 1 := i64w (by omega) (by omega)
    have k1 := Xy t (x.n + 1) (x.n.toNat + 1) (by omega)
    have hp := htake_spec left l once done hl (t.kid (x.n.toNat + 1)) (ht.kid _)
    generalize (t.kid (x.n.toNat + 1)).nsz = c at hp ⊢
    generalize t.kid (x.n.toNat + 1) = r at k1 hp ⊢
    have hEr := Qd r
    rw [hEt, hEr] at k1
    rw [hEr] at hp
    rw [hEt, hEx]
    have h0' : ¬ x.n < 0 := by omega
    have h1' : ¬ t.a <= x.n := by omega
    by_cases hc : (c : Int) <= left
    ·rw [Cost_ok hc] at hp
     show Qu _ _ _ _ _ (Cost left l once done c _)
     rw [Cost_ok hc]
     unfold Wk headD Cs Wo at hp ⊢
     refine Qu.movd Qf (Qp Wc Tryz.func77 rfl (Qw _ _ Tryz.func77 rfl (by decide)) rfl rfl ?_)
     (refine sR fun K hK => ?_; ((repeat (rw [Qa]; simp)); (try simp only [zs])); refine hK _ _ _ ?_; clear hK K)
     refine Qg fun K1 hK1 => ?_
     (refine sR fun K hK => ?_; ((repeat (rw [Qa]; simp [hk, h0, h0', h1, h1'])); (try simp only [zs])); refine hK _ _ _ ?_; clear hK K)
     refine pF rfl ?_
     refine Qs (hK1 _ _ _ ?_)
     (refine sR fun K hK => ?_; ((repeat (rw [Qa]; simp [hw])); (try simp only [zs])))
     refine cXp (k1) ?_
     ((try simp only [Qb, Qc, Qn, Qi, Qj]); (repeat (rw [Qa]; simp)); (try simp only [zs]))
     refine cXo [0, 1] true (hp) ?_
     (rintro o hc ⟨ho, rfl⟩; refine ⟨true, ?_⟩; rw [show told true o = _ from ho]; clear ho; simp [zz, okA, Qr, Qq, hOf, Qe, Out.ren, told, Out.fgt, upO, Qi, Qj])
     ((try simp only [Qb, Qc, Qn, Qi, Qj]); (repeat (rw [Qa]; simp)); (try simp only [zs]))
     (refine hK _ _ _ ?_; clear hK K)
     (refine Qo ?_; (try simp only [zs]); refine Wa.ret rfl (.inr ⟨[], by decide, by simp, ?_⟩); simp [Out.mov, Wg, Wh, Wj, D.mov, HO.mov, okM, Wi, We, zz, okA, Qr, Qq, hOf, Qe, Qt, Out.fgt, D.fgt, D.fgts])
     first | done | simp [hEr]
    ·rw [Cost_no hc] at hp
     show Qu _ _ _ _ _ (Cost left l once done c _)
     rw [Cost_no hc]
     unfold Wk headD Cs Wo goneD at hp
     unfold Wk headD Cs Wo goneD
     refine Qu.movd Qf (Qp Wc Tryz.func77 rfl (Qw _ _ Tryz.func77 rfl (by decide)) rfl rfl ?_)
     (refine sR fun K hK => ?_; ((repeat (rw [Qa]; simp)); (try simp only [zs])); refine hK _ _ _ ?_; clear hK K)
     refine Qg fun K1 hK1 => ?_
     (refine sR fun K hK => ?_; ((repeat (rw [Qa]; simp [hk, h0, h0', h1, h1'])); (try simp only [zs])); refine hK _ _ _ ?_; clear hK K)
     refine pF rfl ?_
     refine Qs (hK1 _ _ _ ?_)
     (refine sR fun K hK => ?_; ((repeat (rw [Qa]; simp [hw])); (try simp only [zs])))
     refine cXp (k1) ?_
     ((try simp only [Qb, Qc, Qn, Qi, Qj]); (repeat (rw [Qa]; simp)); (try simp only [zs]))
     refine cXo [0, 1] true (hp) ?_
     (rintro o hc ⟨rfl, rfl⟩; refine ⟨false, ?_⟩; simp [zz, okA, Qr, Qq, hOf, Qe, Out.ren, told, Out.fgt, upO, Qi, Qj])
     ((try simp only [zs]); refine Wa.pan (.inr ⟨[], by decide, by simp, ?_⟩); simp [Out.mov, Wg, Wh, Wj, D.mov, HO.mov, okM, Wi, We, zz, okA, Qr, Qq, hOf, Qe, Qt, Out.fgt, D.fgt, D.fgts])
   ·rw [if_neg (fun h => h1 h.2.2)]
    have h0' : ¬ x.n < 0 := by omega
    have h1' : t.a <= x.n := by omega
    rw [hEt, hEx]
    unfold OwnP Wk headD Cs Wo
    refine Qu.movd Qf (Qp Wc Tryz.func77 rfl (Qw _ _ Tryz.func77 rfl (by decide)) rfl rfl ?_)
    (refine sR fun K hK => ?_; ((repeat (rw [Qa]; simp)); (try simp only [zs])); refine hK _ _ _ ?_; clear hK K)
    refine Qg fun K1 hK1 => ?_
    (refine sR fun K hK => ?_; ((repeat (rw [Qa]; simp [hk, h0, h0', h1, h1'])); (try simp only [zs])); refine hK _ _ _ ?_; clear hK K)
    refine pT rfl ?_
    (refine sR fun K hK => ?_; ((repeat (rw [Qa]; simp)); (try simp only [zs])); refine hK _ _ _ ?_; clear hK K)
    (refine Qo ?_; (try simp only [zs]); refine Wa.ret rfl (.inr ⟨[], by decide, by simp, ?_⟩); simp [Out.mov, Wg, Wh, Wj, D.mov, HO.mov, okM, Wi, We, zz, okA, Qr, Qq, hOf, Qe, Qt, Out.fgt, D.fgt, D.fgts])
    first | done | simp [hEt]
  ·rw [if_neg (fun h => h0 h.2.1)]
   have h0' : x.n < 0 := by omega
   rw [hEt, hEx]
   unfold OwnP Wk headD Cs Wo
   refine Qu.movd Qf (Qp Wc Tryz.func77 rfl (Qw _ _ Tryz.func77 rfl (by decide)) rfl rfl ?_)
   (refine sR fun K hK => ?_; ((repeat (rw [Qa]; simp)); (try simp only [zs])); refine hK _ _ _ ?_; clear hK K)
   refine Qg fun K1 hK1 => ?_
   (refine sR fun K hK => ?_; ((repeat (rw [Qa]; simp [hk, h0, h0'])); (try simp only [zs])); refine hK _ _ _ ?_; clear hK K)
   refine pT rfl ?_
   (refine sR fun K hK => ?_; ((repeat (rw [Qa]; simp)); (try simp only [zs])); refine hK _ _ _ ?_; clear hK K)
   (refine Qo ?_; (try simp only [zs]); refine Wa.ret rfl (.inr ⟨[], by decide, by simp, ?_⟩); simp [Out.mov, Wg, Wh, Wj, D.mov, HO.mov, okM, Wi, We, zz, okA, Qr, Qq, hOf, Qe, Qt, Out.fgt, D.fgt, D.fgts])
   first | done | simp [hEt]
 ·rw [if_neg (fun h => hk h.1)]
  rw [hEt, hEx]
  unfold OwnP Wk headD Cs Wo
  refine Qu.movd Qf (Qp Wc Tryz.func77 rfl (Qw _ _ Tryz.func77 rfl (by decide)) rfl rfl ?_)
  (refine sR fun K hK => ?_; ((repeat (rw [Qa]; simp)); (try simp only [zs])); refine hK _ _ _ ?_; clear hK K)
  refine Qg fun K1 hK1 => ?_
  (refine sR fun K hK => ?_; ((repeat (rw [Qa]; simp [hk])); (try simp only [zs])); refine hK _ _ _ ?_; clear hK K)
  refine pT rfl ?_
  (refine sR fun K hK => ?_; ((repeat (rw [Qa]; simp)); (try simp only [zs])); refine hK _ _ _ ?_; clear hK K)
  (refine Qo ?_; (try simp only [zs]); refine Wa.ret rfl (.inr ⟨[], by decide, by simp, ?_⟩); simp [Out.mov, Wg, Wh, Wj, D.mov, HO.mov, okM, Wi, We, zz, okA, Qr, Qq, hOf, Qe, Qt, Out.fgt, D.fgt, D.fgts])
  first | done | simp [hEt]
theorem hconst_spec (left : Int) (l : List C) (once done : Bool) (hl : left <= 9223372036854775807) (hcs : okCs l) (t x : T) (ht : okS t) (h3 : t.k = 3) : Qu Tryz.prog glob 74 [.box 0 0, Qx t, Qx x] (Wk left l once done) (OwnP left l once done t (ownS l t x)) := by
 have hEt := Qd t
 have hEx := Qd x
 unfold ownS
 rw [if_neg (by omega), if_neg (by omega), if_neg (by omega), if_pos h3]
 have hb := body_spec l hcs t.n t.ls ht.1.ll (fun b hb => (ht.1.ls b hb).1)
 cases hbo : bodyC l t.n t.ls with
 | none =>
  rw [hbo] at hb
  simp only [Option.getD_none, Option.isSome_none] at hb
  rw [encZ] at hb
  rw [hEt, hEx]
  simp only [Option.map_none]
  unfold Cs at hb
  unfold OwnP Wk headD Cs Wo
  refine Qu.movd Qf (Qp Wc Tryz.func74 rfl (Qw _ _ Tryz.func74 rfl (by decide)) rfl rfl ?_)
  (refine sR fun K hK => ?_; ((repeat (rw [Qa]; simp)); (try simp only [zs])); refine hK _ _ _ ?_; clear hK K)
  (refine Qg fun K hK => ?_; refine dR fun KT hKT => ?_; ((repeat (rw [Qh]; simp)); (try simp only [Qk])))
  refine cYp (hb) ?_
  ((try simp only [Ql, Qm, Qn, Qi, Qj]); (repeat (rw [Qh]; simp)); (try simp only [Qk]))
  (refine hKT _ _ _ _ (by kernel_rfl) ?_; clear hKT KT; (try simp only [zs]))
  (refine hK _ _ _ ?_; clear hK K)
  refine Qg fun K1 hK1 => ?_
  (refine sR fun K hK => ?_; ((repeat (rw [Qa]; simp)); (try simp only [zs])); refine hK _ _ _ ?_; clear hK K)
  refine pT rfl ?_
  (refine sR fun K hK => ?_; ((repeat (rw [Qa]; simp)); (try simp only [zs])); refine hK _ _ _ ?_; clear hK K)
  (refine Qo ?_; (try simp only [zs]); refine Wa.ret rfl (.inr ⟨[], by decide, by simp, ?_⟩); simp [Out.mov, Wg, Wh, Wj, D.mov, HO.mov, okM, Wi, We, zz, okA, Qr, Qq, hOf, Qe, Qt, Out.fgt, D.fgt, D.fgts])
  first | done | simp [hEt]
 | some r =>
  rw [hbo] at hb
  simp only [Option.getD_some, Option.isSome_some] at hb
  have hr : okS r := ⟨body_ok hcs.ok hbo, by have := body_nsz hcs.bo hbo; have := pot_le r; unfold PM; omega⟩
  have hp := htake_spec left l once done hl r hr
  simp only [Option.map_some]
  generalize r.nsz = c at hp ⊢
  have hEr := Qd r
  rw [hEr] at hp hb
  rw [hEt, hEx]
  unfold Cs at hb
  by_cases hc : (c : Int) <= left
  ·rw [Cost_ok hc] at hp
   show Qu _ _ _ _ _ (Cost left l once done c _)
   rw [Cost_ok hc]
   unfold Wk headD Cs Wo at hp ⊢
   refine Qu.movd Qf (Qp Wc Tryz.func74 rfl (Qw _ _ Tryz.func74 rfl (by decide)) rfl rfl ?_)
   (refine sR fun K hK => ?_; ((repeat (rw [Qa]; simp)); (try simp only [zs])); refine hK _ _ _ ?_; clear hK K)
   (refine Qg fun K hK => ?_; refine dR fun KT hKT => ?_; ((repeat (rw [Qh]; simp)); (try simp only [Qk])))
   refine cYp (hb) ?_
   ((try simp only [Ql, Qm, Qn, Qi, Qj]); (repeat (rw [Qh]; simp)); (try simp only [Qk]))
   (refine hKT _ _ _ _ (by kernel_rfl) ?_; clear hKT KT; (try simp only [zs]))
   (refine hK _ _ _ ?_; clear hK K)
   refine Qg fun K1 hK1 => ?_
   (refine sR fun K hK => ?_; ((repeat (rw [Qa]; simp)); (try simp only [zs])); refine hK _ _ _ ?_; clear hK K)
   refine pF rfl ?_
   refine Qs (hK1 _ _ _ ?_)
   (refine sR fun K hK => ?_; ((repeat (rw [Qa]; simp)); (try simp only [zs])))
   refine cXo [0, 1] true (hp) ?_
   (rintro o hc ⟨ho, rfl⟩; refine ⟨true, ?_⟩; rw [show told true o = _ from ho]; clear ho; simp [zz, okA, Qr, Qq, hOf, Qe, Out.ren, told, Out.fgt, upO, Qi, Qj])
   ((try simp only [Qb, Qc, Qn, Qi, Qj]); (repeat (rw [Qa]; simp)); (try simp only [zs]))
   (refine hK _ _ _ ?_; clear hK K)
   (refine Qo ?_; (try simp only [zs]); refine Wa.ret rfl (.inr ⟨[], by decide, by simp, ?_⟩); simp [Out.mov, Wg, Wh, Wj, D.mov, HO.mov, okM, Wi, We, zz, okA, Qr, Qq, hOf, Qe, Qt, Out.fgt, D.fgt, D.fgts])
   first | done | simp [hEr]
  ·rw [Cost_no hc] at hp
   show Qu _ _ _ _ _ (Cost left l once done c _)
   rw [Cost_no hc]
   unfold Wk headD Cs Wo goneD at hp
   unfold Wk headD Cs Wo goneD
   refine Qu.movd Qf (Qp Wc Tryz.func74 rfl (Qw _ _ Tryz.func74 rfl (by decide)) rfl rfl ?_)
   (refine sR fun K hK => ?_; ((repeat (rw [Qa]; simp)); (try simp only [zs])); refine hK _ _ _ ?_; clear hK K)
   (refine Qg fun K hK => ?_; refine dR fun KT hKT => ?_; ((repeat (rw [Qh]; simp)); (try simp only [Qk])))
   refine cYp (hb) ?_
   ((try simp only [Ql, Qm, Qn, Qi, Qj]); (repeat (rw [Qh]; simp)); (try simp only [Qk]))
   (refine hKT _ _ _ _ (by kernel_rfl) ?_; clear hKT KT; (try simp only [zs]))
   (refine hK _ _ _ ?_; clear hK K)
   refine Qg fun K1 hK1 => ?_
   (refine sR fun K hK => ?_; ((repeat (rw [Qa]; simp)); (try simp only [zs])); refine hK _ _ _ ?_; clear hK K)
   refine pF rfl ?_
   refine Qs (hK1 _ _ _ ?_)
   (refine sR fun K hK => ?_; ((repeat (rw [Qa]; simp)); (try simp only [zs])))
   refine cXo [0, 1] true (hp) ?_
   (rintro o hc ⟨rfl, rfl⟩; refine ⟨false, ?_⟩; simp [zz, okA, Qr, Qq, hOf, Qe, Out.ren, told, Out.fgt, upO, Qi, Qj])
   ((try simp only [zs]); refine Wa.pan (.inr ⟨[], by decide, by simp, ?_⟩); simp [Out.mov, Wg, Wh, Wj, D.mov, HO.mov, okM, Wi, We, zz, okA, Qr, Qq, hOf, Qe, Qt, Out.fgt, D.fgt, D.fgts])
theorem tree1_spec (t : T) (ht : okS t) (i : Int) (m : Nat) (c : Int) (hi : i = m) : Qu Tryz.prog glob 120 ([.int .i64 i, .int .i64 c] ++ [.ref (Qx t)]) [] (fun o _ => o.fgt = .ret (Qx ((t.kid m).lift 1 c 0))) := by
 have k1 := Xy t i m hi
 have k2 := lift_spec (t.kid m) 1 c (ht.kid m).deep (ht.kid m).1
 generalize (t.kid m).lift 1 c 0 = r at k2 ⊢
 generalize t.kid m = a at k1 k2
 have hEr := Qd r
 rw [Qd t, Qd a] at k1
 rw [Qd a, hEr] at k2
 rw [Qd t]
 refine Qu.movd Qf (Qp Wc Tryz.func120 rfl (Qw _ _ Tryz.func120 rfl (by decide)) rfl rfl ?_)
 simp only [List.cons_append, List.nil_append]
 (refine sR fun K hK => ?_; ((repeat (rw [Qa]; simp)); (try simp only [zs])); refine hK _ _ _ ?_; clear hK K)
 (refine sR fun K hK => ?_; ((repeat (rw [Qa]; simp)); (try simp only [zs])))
 refine cXp (k1) ?_
 ((try simp only [Qb, Qc, Qn, Qi, Qj]); (repeat (rw [Qa]; simp)); (try simp only [zs]))
 refine cXp (k2) ?_
 ((try simp only [Qb, Qc, Qn, Qi, Qj]); (repeat (rw [Qa]; simp)); (try simp only [zs]))
 (refine hK _ _ _ ?_; clear hK K)
 (refine Qo ?_; (try simp only [zs]); refine Wa.ret rfl (.inl ?_); simp [Qt, Out.fgt, D.fgt, D.fgts])
 exact hEr.symm
theorem enc_map0 : List.map Qx ([] : List T) = [] := rfl
theorem htree_spec (left : Int) (l : List C) (once done : Bool) (hl : left <= 9223372036854775807) (t x : T) (ht : okS t) (hx : okS x) (h18 : t.k = 18) : Qu Tryz.prog glob 75 [.box 0 0, Qx t, Qx x] (Wk left l once done) (OwnP left l once done t (ownS l t x)) := by
 have hEt := Qd t
 have hEx := Qd x
 unfold ownS
 rw [if_neg (by omega), if_neg (by omega), if_neg (by omega), if_neg (by omega), if_pos h18]
 by_cases hk : x.k = 17
 ·rw [if_pos hk]
  have e8 : T.nszs [x.kid 0, x.kid 1, x.kid 1, t.kid 3, t.kid 3, t.kid 0, t.kid 1, t.kid 2] = (x.kid 0).nsz + (x.kid 1).nsz + (x.kid 1).nsz + (t.kid 3).nsz + (t.kid 3).nsz + (t.kid 0).nsz + (t.kid 1).nsz + (t.kid 2).nsz := by
   simp only [T.nszs]; omega
  have hz := sizes_spec [x.kid 0, x.kid 1, x.kid 1, t.kid 3, t.kid 3, t.kid 0, t.kid 1, t.kid 2] (by unfold Wd; simp) (fun y hy => by
   simp only [List.mem_cons, List.not_mem_nil, or_false] at hy
   rcases hy with rfl | rfl | rfl | rfl | rfl | rfl | rfl | rfl
   ·exact (hx.kid _).1
   ·exact (hx.kid _).1
   ·exact (hx.kid _).1
   ·exact (ht.kid _).1
   ·exact (ht.kid _).1
   ·exact (ht.kid _).1
   ·exact (ht.kid _).1
   ·exact (ht.kid _).1)
  rw [szs_true _ 0 0 rfl, Nat.zero_add, e8] at hz
  have z1 := (hx.kid 0).nsz
  have z2 := (hx.kid 1).nsz
  have z3 := (ht.kid 3).nsz
  have z4 := (ht.kid 0).nsz
  have z5 := (ht.kid 1).nsz
  have z6 := (ht.kid 2).nsz
  have hsd := (ht.kid 1).sd (hx.kid 0)
  have hs := size2_spec (t.kid 1) (x.kid 0) (ht.kid 1).1 (hx.kid 0).1 (by omega)
  have hcn : treeN t x = 7 + ((x.kid 0).nsz + (x.kid 1).nsz + (x.kid 1).nsz + (t.kid 3).nsz + (t.kid 3).nsz + (t.kid 0).nsz + (t.kid 1).nsz + (t.kid 2).nsz) + (t.kid 1).sd (x.kid 0).nsz 0 := rfl
  generalize hm : (x.kid 0).nsz + (x.kid 1).nsz + (x.kid 1).nsz + (t.kid 3).nsz + (t.kid 3).nsz + (t.kid 0).nsz + (t.kid 1).nsz + (t.kid 2).nsz = m at hz hcn
  generalize (t.kid 1).sd (x.kid 0).nsz 0 = s at hs hcn hsd
  rw [i64w (n := ((m : Nat) : Int)) (by omega) (by omega)] at hz
  have w1 : IntKind.i64.wrap (7 + (m : Int)) = 7 + (m : Int) := i64w (by omega) (by omega)
  have w2 : IntKind.i64.wrap (7 + (m : Int) + (s : Int)) = ((treeN t x : Nat) : Int) := by rw [hcn, i64w (by omega) (by omega)]; push_cast; rfl
  have hR : treeT t x = ofT 6 [ofT 6 [ofT 6 [t.kid 3, x.kid 0], x.kid 1], ofT 5 [(t.kid 1).put [x.kid 0] 0, ofT 18 [(t.kid 0).lift 1 0 0, (t.kid 1).lift 1 1 0, (t.kid 2).lift 1 0 0, (t.kid 3).lift 1 0 0, ofT 6 [(x.kid 1).lift 1 0 0, ofT 1 []]]]] := rfl
  have ka0 := Xy x 0 0 rfl
  have ka1 := Xy x 1 1 rfl
  have k0 := Xy t 0 0 rfl
  have k1 := Xy t 1 1 rfl
  have k2 := Xy t 2 2 rfl
  have k3 := Xy t 3 3 rfl
  have c0 := tree1_spec t ht 0 0 0 rfl
  have c1 := tree1_spec t ht 1 1 1 rfl
  have c2 := tree1_spec t ht 2 2 0 rfl
  have c3 := tree1_spec t ht 3 3 0 rfl
  have cf := lift_spec (x.kid 1) 1 0 (hx.kid 1).deep (hx.kid 1).1
  have op := putT_spec (t.kid 1) [x.kid 0] (by unfold Wd; simp) (fun b hb => by rw [one_mem hb]; exact ⟨(hx.kid 0).1, (hx.kid 0).deep⟩) (ht.kid 1).deep (ht.kid 1).1
  obtain ⟨a, ha⟩ : ∃ y, y = x.kid 0 := ⟨_, rfl⟩
  obtain ⟨g, hg⟩ : ∃ y, y = x.kid 1 := ⟨_, rfl⟩
  obtain ⟨t0, ht0⟩ : ∃ y, y = t.kid 0 := ⟨_, rfl⟩
  obtain ⟨t1, ht1⟩ : ∃ y, y = t.kid 1 := ⟨_, rfl⟩
  obtain ⟨t2, ht2⟩ : ∃ y, y = t.kid 2 := ⟨_, rfl⟩
  obtain ⟨t3, ht3⟩ : ∃ y, y = t.kid 3 := ⟨_, rfl⟩
  obtain ⟨l0, hl0⟩ : ∃ y, y = (t.kid 0).lift 1 0 0 := ⟨_, rfl⟩
  obtain ⟨l1, hl1⟩ : ∃ y, y = (t.kid 1).lift 1 1 0 := ⟨_, rfl⟩
  obtain ⟨l2, hl2⟩ : ∃ y, y = (t.kid 2).lift 1 0 0 := ⟨_, rfl⟩
  obtain ⟨l3, hl3⟩ : ∃ y, y = (t.kid 3).lift 1 0 0 := ⟨_, rfl⟩
  obtain ⟨lf, hlf⟩ : ∃ y, y = (x.kid 1).lift 1 0 0 := ⟨_, rfl⟩
  obtain ⟨v, hv⟩ : ∃ y, y = ofT 1 [] := ⟨_, rfl⟩
  obtain ⟨p1, hp1⟩ : ∃ y, y = ofT 6 [lf, v] := ⟨_, rfl⟩
  obtain ⟨rest, hrest⟩ : ∃ y, y = ofT 18 [l0, l1, l2, l3, p1] := ⟨_, rfl⟩
  obtain ⟨pu, hpu⟩ : ∃ y, y = (t.kid 1).put [x.kid 0] 0 := ⟨_, rfl⟩
  obtain ⟨lam, hlam⟩ : ∃ y, y = ofT 5 [pu, rest] := ⟨_, rfl⟩
  obtain ⟨b1, hb1⟩ : ∃ y, y = ofT 6 [t3, a] := ⟨_, rfl⟩
  obtain ⟨b2, hb2⟩ : ∃ y, y = ofT 6 [b1, g] := ⟨_, rfl⟩
  obtain ⟨r, hr⟩ : ∃ y, y = ofT 6 [b2, lam] := ⟨_, rfl⟩
  have ov := hof_spec 1 []
  have o1 := hof_spec 6 [lf, v]
  have o2 := hof_spec 18 [l0, l1, l2, l3, p1]
  have o3 := hof_spec 5 [pu, rest]
  have o4 := hof_spec 6 [t3, a]
  have o5 := hof_spec 6 [b1, g]
  have o6 := hof_spec 6 [b2, lam]
  rw [<- ha] at ka0
  rw [<- hg] at ka1
  rw [<- ht0] at k0
  rw [<- ht1] at k1
  rw [<- ht2] at k2
  rw [<- ht3] at k3
  rw [<- hl0] at c0
  rw [<- hl1] at c1
  rw [<- hl2] at c2
  rw [<- hl3] at c3
  rw [<- hlf, <- hg] at cf
  rw [<- hv] at ov
  rw [<- hp1] at o1
  rw [<- hrest] at o2
  rw [<- hpu, <- ht1, <- ha] at op
  rw [<- hlam] at o3
  rw [<- hb1] at o4
  rw [<- hb2] at o5
  rw [<- hr] at o6
  rw [<- ha, <- hg, <- ht0, <- ht1, <- ht2, <- ht3] at hz
  rw [<- ht1, <- ha] at hs
  have hRr : treeT t x = r := by rw [hR, <- hv, <- hlf, <- hp1, <- hl0, <- hl1, <- hl2, <- hl3, <- hrest, <- hpu, <- hlam, <- ht3, <- ha, <- hb1, <- hg, <- hb2, <- hr]
  rw [hRr]
  generalize treeN t x = c at w2 ⊢
  unfold Ts at op
  have Ea := Qd a
  have Eg := Qd g
  have Et0 := Qd t0
  have Et1 := Qd t1
  have Et2 := Qd t2
  have Et3 := Qd t3
  have El0 := Qd l0
  have El1 := Qd l1
  have El2 := Qd l2
  have El3 := Qd l3
  have Elf := Qd lf
  have Ev := Qd v
  have Ep1 := Qd p1
  have Erest := Qd rest
  have Epu := Qd pu
  have Elam := Qd lam
  have Eb1 := Qd b1
  have Eb2 := Qd b2
  have Er := Qd r
  simp only [List.map_cons, enc_map0] at ov o1 o2 op o3 o4 o5 o6 hz
  simp only [Ea, Eg, Et0, Et1, Et2, Et3, El0, El1, El2, El3, Elf, Ev, Ep1, Erest, Epu, Elam, Eb1, Eb2, Er] at ka0 ka1 k0 k1 k2 k3 c0 c1 c2 c3 cf ov o1 o2 op o3 o4 o5 o6 hz hs
  rw [hEt] at k0 k1 k2 k3 c0 c1 c2 c3
  rw [hEx, hk] at ka0 ka1
  rw [hEt, hEx]
  simp only [List.cons_append, List.nil_append] at c0 c1 c2 c3
  by_cases hc : (c : Int) <= left
  ·have hp := burn_ok left l once done c (by omega) hc hl
   show Qu _ _ _ _ _ (Cost left l once done c _)
   rw [Cost_ok hc]
   unfold Wk headD Cs Wo at hp ⊢
   refine Qu.movd Qf (Qp Wc Tryz.func75 rfl (Qw _ _ Tryz.func75 rfl (by decide)) rfl rfl ?_)
   (refine sR fun K hK => ?_; ((repeat (rw [Qa]; simp)); (try simp only [zs])); refine hK _ _ _ ?_; clear hK K)
   (refine Xq (T := Wb) 2 (ty := 27) (ds := [.int .i64 t.k, .int .i64 t.n, .int .i64 t.a, .slice (t.ls.map Wm) .any, .slice (t.ks.map Qx) .any]) rfl rfl (by first | exact ⟨rfl, .inr ⟨_, rfl, rfl⟩⟩ | exact ⟨rfl, .inl rfl⟩) ?_; simp [D.frzs, D.frz, HO.frz, dfFrz, refOf, TK.isAgg, FK.isB, FK.isM, FK.isO, D.isLen])
   refine Qg fun K1 hK1 => ?_
   (refine sR fun K hK => ?_; ((repeat (rw [Qa]; simp [hk])); (try simp only [zs])); refine hK _ _ _ ?_; clear hK K)
   refine pF rfl ?_
   refine Qs (hK1 _ _ _ ?_)
   (refine Qg fun K hK => ?_; refine dR fun KT hKT => ?_; ((repeat (rw [Qh]; simp)); (try simp only [Qk])))
   refine cYp (ka0) ?_
   ((try simp only [Ql, Qm, Qn, Qi, Qj]); (repeat (rw [Qh]; simp)); (try simp only [Qk]))
   refine cYp (ka1) ?_
   ((try simp only [Ql, Qm, Qn, Qi, Qj]); (repeat (rw [Qh]; simp)); (try simp only [Qk]))
   refine cYp (k3) ?_
   ((try simp only [Ql, Qm, Qn, Qi, Qj]); (repeat (rw [Qh]; simp)); (try simp only [Qk]))
   (refine hKT _ _ _ _ (by kernel_rfl) ?_; clear hKT KT; (try simp only [zs]))
   (refine hK _ _ _ ?_; clear hK K)
   (refine Qg fun K hK => ?_; refine dR fun KT hKT => ?_; ((repeat (rw [Qh]; simp)); (try simp only [Qk])))
   refine cYp (k0) ?_
   ((try simp only [Ql, Qm, Qn, Qi, Qj]); (repeat (rw [Qh]; simp [w1, w2])); (try simp only [Qk]))
   refine cYp (k1) ?_
   ((try simp only [Ql, Qm, Qn, Qi, Qj]); (repeat (rw [Qh]; simp [w1, w2])); (try simp only [Qk]))
   refine cYp (k2) ?_
   ((try simp only [Ql, Qm, Qn, Qi, Qj]); (repeat (rw [Qh]; simp [w1, w2])); (try simp only [Qk]))
   refine cYp (hz) ?_
   ((try simp only [Ql, Qm, Qn, Qi, Qj]); (repeat (rw [Qh]; simp [w1, w2])); (try simp only [Qk]))
   refine cYp (k1) ?_
   ((try simp only [Ql, Qm, Qn, Qi, Qj]); (repeat (rw [Qh]; simp [w1, w2])); (try simp only [Qk]))
   refine cYp (hs) ?_
   ((try simp only [Ql, Qm, Qn, Qi, Qj]); (repeat (rw [Qh]; simp [w1, w2])); (try simp only [Qk]))
   refine cYo [0, 1] true false (hp) (fun o h e => e) ?_; simp [zz, okA, Qr, Qq, hOf, Qe, Out.ren, upO, Qq, rdO]
   ((try simp only [Ql, Qm, Qn, Qi, Qj]); (repeat (rw [Qh]; simp)); (try simp only [Qk]))
   (refine hKT _ _ _ _ (by kernel_rfl) ?_; clear hKT KT; (try simp only [zs]))
   (refine hK _ _ _ ?_; clear hK K)
   (refine sR fun K hK => ?_; ((repeat (rw [Qa]; simp)); (try simp only [zs])); refine hK _ _ _ ?_; clear hK K)
   (refine Qg fun K hK => ?_; refine dR fun KT hKT => ?_; ((repeat (rw [Qh]; simp)); (try simp only [Qk])))
   refine cYp (c0) ?_
   ((try simp only [Ql, Qm, Qn, Qi, Qj]); (repeat (rw [Qh]; simp)); (try simp only [Qk]))
   refine cYp (c1) ?_
   ((try simp only [Ql, Qm, Qn, Qi, Qj]); (repeat (rw [Qh]; simp)); (try simp only [Qk]))
   refine cYp (c2) ?_
   ((try simp only [Ql, Qm, Qn, Qi, Qj]); (repeat (rw [Qh]; simp)); (try simp only [Qk]))
   refine cYp (c3) ?_
   ((try simp only [Ql, Qm, Qn, Qi, Qj]); (repeat (rw [Qh]; simp)); (try simp only [Qk]))
   refine cYp (cf) ?_
   ((try simp only [Ql, Qm, Qn, Qi, Qj]); (repeat (rw [Qh]; simp)); (try simp only [Qk]))
   refine cYp (ov) ?_
   ((try simp only [Ql, Qm, Qn, Qi, Qj]); (repeat (rw [Qh]; simp)); (try simp only [Qk]))
   refine cYp (o1) ?_
   ((try simp only [Ql, Qm, Qn, Qi, Qj]); (repeat (rw [Qh]; simp)); (try simp only [Qk]))
   refine cYp (o2) ?_
   ((try simp only [Ql, Qm, Qn, Qi, Qj]); (repeat (rw [Qh]; simp)); (try simp only [Qk]))
   (refine hKT _ _ _ _ (by kernel_rfl) ?_; clear hKT KT; (try simp only [zs]))
   (refine hK _ _ _ ?_; clear hK K)
   (refine Qg fun K hK => ?_; refine dR fun KT hKT => ?_; ((repeat (rw [Qh]; simp)); (try simp only [Qk])))
   refine cYp (k1) ?_
   ((try simp only [Ql, Qm, Qn, Qi, Qj]); (repeat (rw [Qh]; simp)); (try simp only [Qk]))
   refine cYp (op) ?_
   ((try simp only [Ql, Qm, Qn, Qi, Qj]); (repeat (rw [Qh]; simp)); (try simp only [Qk]))
   refine cYp (o3) ?_
   ((try simp only [Ql, Qm, Qn, Qi, Qj]); (repeat (rw [Qh]; simp)); (try simp only [Qk]))
   (refine hKT _ _ _ _ (by kernel_rfl) ?_; clear hKT KT; (try simp only [zs]))
   (refine hK _ _ _ ?_; clear hK K)
   (refine Qg fun K hK => ?_; refine dR fun KT hKT => ?_; ((repeat (rw [Qh]; simp)); (try simp only [Qk])))
   refine cYp (o4) ?_
   ((try simp only [Ql, Qm, Qn, Qi, Qj]); (repeat (rw [Qh]; simp)); (try simp only [Qk]))
   refine cYp (o5) ?_
   ((try simp only [Ql, Qm, Qn, Qi, Qj]); (repeat (rw [Qh]; simp)); (try simp only [Qk]))
   refine cYp (o6) ?_
   ((try simp only [Ql, Qm, Qn, Qi, Qj]); (repeat (rw [Qh]; simp)); (try simp only [Qk]))
   (refine hKT _ _ _ _ (by kernel_rfl) ?_; clear hKT KT; (try simp only [zs]))
   (refine hK _ _ _ ?_; clear hK K)
   (refine Qo ?_; (try simp only [zs]); refine Wa.ret rfl (.inr ⟨[], by decide, by simp, ?_⟩); simp [Out.mov, Wg, Wh, Wj, D.mov, HO.mov, okM, Wi, We, zz, okA, Qr, Qq, hOf, Qe, Qt, Out.fgt, D.fgt, D.fgts])
   exact Er.symm
  ·have hp := burn_dead left l once done c (by omega)
   show Qu _ _ _ _ _ (Cost left l once done c _)
   rw [Cost_no hc]
   unfold Wk headD Cs Wo goneD at hp
   unfold Wk headD Cs Wo goneD
   refine Qu.movd Qf (Qp Wc Tryz.func75 rfl (Qw _ _ Tryz.func75 rfl (by decide)) rfl rfl ?_)
   (refine sR fun K hK => ?_; ((repeat (rw [Qa]; simp)); (try simp only [zs])); refine hK _ _ _ ?_; clear hK K)
   (refine Xq (T := Wb) 2 (ty := 27) (ds := [.int .i64 t.k, .int .i64 t.n, .int .i64 t.a, .slice (t.ls.map Wm) .any, .slice (t.ks.map Qx) .any]) rfl rfl (by first | exact ⟨rfl, .inr ⟨_, rfl, rfl⟩⟩ | exact ⟨rfl, .inl rfl⟩) ?_; simp [D.frzs, D.frz, HO.frz, dfFrz, refOf, TK.isAgg, FK.isB, FK.isM, FK.isO, D.isLen])
   refine Qg fun K1 hK1 => ?_
   (refine sR fun K hK => ?_; ((repeat (rw [Qa]; simp [hk])); (try simp only [zs])); refine hK _ _ _ ?_; clear hK K)
   refine pF rfl ?_
   refine Qs (hK1 _ _ _ ?_)
   (refine Qg fun K hK => ?_; refine dR fun KT hKT => ?_; ((repeat (rw [Qh]; simp)); (try simp only [Qk])))
   refine cYp (ka0) ?_
   ((try simp only [Ql, Qm, Qn, Qi, Qj]); (repeat (rw [Qh]; simp)); (try simp only [Qk]))
   refine cYp (ka1) ?_
   ((try simp only [Ql, Qm, Qn, Qi, Qj]); (repeat (rw [Qh]; simp)); (try simp only [Qk]))
   refine cYp (k3) ?_
   ((try simp only [Ql, Qm, Qn, Qi, Qj]); (repeat (rw [Qh]; simp)); (try simp only [Qk]))
   (refine hKT _ _ _ _ (by kernel_rfl) ?_; clear hKT KT; (try simp only [zs]))
   (refine hK _ _ _ ?_; clear hK K)
   (refine Qg fun K hK => ?_; refine dR fun KT hKT => ?_; ((repeat (rw [Qh]; simp)); (try simp only [Qk])))
   refine cYp (k0) ?_
   ((try simp only [Ql, Qm, Qn, Qi, Qj]); (repeat (rw [Qh]; simp [w1, w2])); (try simp only [Qk]))
   refine cYp (k1) ?_
   ((try simp only [Ql, Qm, Qn, Qi, Qj]); (repeat (rw [Qh]; simp [w1, w2])); (try simp only [Qk]))
   refine cYp (k2) ?_
   ((try simp only [Ql, Qm, Qn, Qi, Qj]); (repeat (rw [Qh]; simp [w1, w2])); (try simp only [Qk]))
   refine cYp (hz) ?_
   ((try simp only [Ql, Qm, Qn, Qi, Qj]); (repeat (rw [Qh]; simp [w1, w2])); (try simp only [Qk]))
   refine cYp (k1) ?_
   ((try simp only [Ql, Qm, Qn, Qi, Qj]); (repeat (rw [Qh]; simp [w1, w2])); (try simp only [Qk]))
   refine cYp (hs) ?_
   ((try simp only [Ql, Qm, Qn, Qi, Qj]); (repeat (rw [Qh]; simp [w1, w2])); (try simp only [Qk]))
   refine cYo [0, 1] true false (hp) (fun o h e => e) ?_; simp [zz, okA, Qr, Qq, hOf, Qe, Out.ren, upO, Qq, rdO]
   ((try simp only [Ql, Qm, Qn, Qi, Qj]); (repeat (refine wpT_late _ _ _ _ (by kernel_rfl) ?_; simp only [Qn, List.set, List.nil_append, List.cons_append, Nat.reduceAdd])); (try simp only [Qk]))
   (refine hKT _ _ _ _ (by kernel_rfl) ?_; clear hKT KT; (try simp only [zs]))
   simp [killHl]
   ((try simp only [zs]); refine Wa.pan (.inr ⟨[], by decide, by simp, ?_⟩); simp [Out.mov, Wg, Wh, Wj, D.mov, HO.mov, okM, Wi, We, zz, okA, Qr, Qq, hOf, Qe, Qt, Out.fgt, D.fgt, D.fgts])
 ·rw [if_neg hk]
  rw [hEt, hEx]
  unfold OwnP Wk headD Cs Wo
  refine Qu.movd Qf (Qp Wc Tryz.func75 rfl (Qw _ _ Tryz.func75 rfl (by decide)) rfl rfl ?_)
  (refine sR fun K hK => ?_; ((repeat (rw [Qa]; simp)); (try simp only [zs])); refine hK _ _ _ ?_; clear hK K)
  refine Qg fun K1 hK1 => ?_
  (refine sR fun K hK => ?_; ((repeat (rw [Qa]; simp [hk])); (try simp only [zs])); refine hK _ _ _ ?_; clear hK K)
  refine pT rfl ?_
  (refine sR fun K hK => ?_; ((repeat (rw [Qa]; simp)); (try simp only [zs])); refine hK _ _ _ ?_; clear hK K)
  (refine Qo ?_; (try simp only [zs]); refine Wa.ret rfl (.inr ⟨[], by decide, by simp, ?_⟩); simp [Out.mov, Wg, Wh, Wj, D.mov, HO.mov, okM, Wi, We, zz, okA, Qr, Qq, hOf, Qe, Qt, Out.fgt, D.fgt, D.fgts])
  first | done | simp [hEt]
theorem OwnP_cases (left : Int) (l : List C) (once done : Bool) (t : T) (w : Option (T × Nat)) : (∃ v b lf, OwnP left l once done t w = fun o hc => o.fgt = .ret (.tuple [Qx v, .bool b]) /\ hc = Wk lf l once done) \/ OwnP left l once done t w = fun o hc => o = .pan goneD /\ hc = [.dead, .dead] := by
 cases w with
 | none => exact .inl ⟨t, false, left, rfl⟩
 | some p =>
  by_cases h : (p.2 : Int) <= left
  ·exact .inl ⟨p.1, true, left - p.2, Cost_ok h⟩
  ·exact .inr (Cost_no h)
theorem placeX_some {t : T} {i many : Nat} (h : spot t = some (i, many)) : Wt t = t.kid i := by unfold Wt; rw [h]
theorem placeX_none {t : T} (h : spot t = none) : Wt t = Wl := by unfold Wt; rw [h]
theorem step_6 (left : Int) (l : List C) (once done : Bool) (hl : left <= 9223372036854775807) (t : T) (ht : okS t) (hk : t.k = 6) {i many : Nat} (hs : spot t = some (i, many)) (hp : Qu Tryz.prog glob 71 [.box 0 0, Qx t, Qx (Wt t)] (Wk left l once done) (OwnP left l once done t (ownS l t (Wt t)))) : Qu Tryz.prog glob 81 [.box 0 0, Qx t] (Wk left l once done) (OwnP left l once done t (ownS l t (Wt t))) := by
 have hsp := spot_spec t ht.1.kl
 rw [spotO_some hs ht.1.kl] at hsp
 have hki := Xy t i i rfl
 rw [<- placeX_some hs] at hki
 rcases OwnP_cases left l once done t (ownS l t (Wt t)) with ⟨v, b, lf, e⟩ | e
 ·rw [e] at hp ⊢
  generalize Wt t = x at hp hki
  have hEx := Qd x
  rw [hEx, Qd t, Qd v, hk] at hp
  rw [Qd t] at hsp
  rw [hEx, Qd t, hk] at hki
  rw [Qd t]
  unfold Wk headD Cs Wo at hp ⊢
  refine Qu.movd Qf (Qp Wc Tryz.func81 rfl (Qw _ _ Tryz.func81 rfl (by decide)) rfl rfl ?_)
  (refine sR fun K hK => ?_; ((repeat (rw [Qa]; simp)); (try simp only [zs])); refine hK _ _ _ ?_; clear hK K)
  (refine sR fun K hK => ?_; ((repeat (rw [Qa]; simp)); (try simp only [zs])))
  refine cXp (hsp) ?_
  ((try simp only [Qb, Qc, Qn, Qi, Qj]); (repeat (rw [Qa]; simp)); (try simp only [zs]))
  (refine hK _ _ _ ?_; clear hK K)
  (refine Qg fun K hK => ?_; refine dR fun KT hKT => ?_; ((repeat (rw [Qh]; simp [hk])); (try simp only [Qk])))
  (refine hKT _ _ _ _ (by kernel_rfl) ?_; clear hKT KT; (try simp only [zs]))
  (refine hK _ _ _ ?_; clear hK K)
  refine Qg fun K1 hK1 => ?_
  (refine sR fun K hK => ?_; ((repeat (rw [Qa]; simp [hk])); (try simp only [zs])); refine hK _ _ _ ?_; clear hK K)
  refine pF rfl ?_
  refine Qs (hK1 _ _ _ ?_)
  (refine sR fun K hK => ?_; ((repeat (rw [Qa]; simp)); (try simp only [zs])); refine hK _ _ _ ?_; clear hK K)
  refine Qg fun K2 hK2 => ?_
  (refine sR fun K hK => ?_; ((repeat (rw [Qa]; simp)); (try simp only [zs])); refine hK _ _ _ ?_; clear hK K)
  refine pT rfl ?_
  (refine Qz Wc ?_; ((repeat (rw [Qa]; simp)); (try simp only [zs])))
  refine cXp (hki) ?_
  ((try simp only [Qb, Qc, Qn, Qi, Qj]); (repeat (rw [Qa]; simp)); (try simp only [zs]))
  refine hK2 _ _ _ ?_
  (refine sR fun K hK => ?_; ((repeat (rw [Qa]; simp)); (try simp only [zs])))
  refine cXo [0, 1] true (hp) ?_
  (rintro o hc ⟨ho, rfl⟩; refine ⟨true, ?_⟩; rw [show told true o = _ from ho]; clear ho; simp [zz, okA, Qr, Qq, hOf, Qe, Out.ren, told, Out.fgt, upO, Qi, Qj])
  ((try simp only [Qb, Qc, Qn, Qi, Qj]); (repeat (rw [Qa]; simp)); (try simp only [zs]))
  (refine hK _ _ _ ?_; clear hK K)
  (refine Qo ?_; (try simp only [zs]); refine Wa.ret rfl (.inr ⟨[], by decide, by simp, ?_⟩); simp [Out.mov, Wg, Wh, Wj, D.mov, HO.mov, okM, Wi, We, zz, okA, Qr, Qq, hOf, Qe, Qt, Out.fgt, D.fgt, D.fgts])
  first | done | simp [Qd v]
 ·rw [e] at hp ⊢
  generalize Wt t = x at hp hki
  have hEx := Qd x
  rw [hEx, Qd t, hk] at hp
  rw [Qd t] at hsp
  rw [hEx, Qd t, hk] at hki
  rw [Qd t]
  unfold Wk headD Cs Wo goneD at hp
  unfold Wk headD Cs Wo goneD
  refine Qu.movd Qf (Qp Wc Tryz.func81 rfl (Qw _ _ Tryz.func81 rfl (by decide)) rfl rfl ?_)
  (refine sR fun K hK => ?_; ((repeat (rw [Qa]; simp)); (try simp only [zs])); refine hK _ _ _ ?_; clear hK K)
  (refine sR fun K hK => ?_; ((repeat (rw [Qa]; simp)); (try simp only [zs])))
  refine cXp (hsp) ?_
  ((try simp only [Qb, Qc, Qn, Qi, Qj]); (repeat (rw [Qa]; simp)); (try simp only [zs]))
  (refine hK _ _ _ ?_; clear hK K)
  (refine Qg fun K hK => ?_; refine dR fun KT hKT => ?_; ((repeat (rw [Qh]; simp [hk])); (try simp only [Qk])))
  (refine hKT _ _ _ _ (by kernel_rfl) ?_; clear hKT KT; (try simp only [zs]))
  (refine hK _ _ _ ?_; clear hK K)
  refine Qg fun K1 hK1 => ?_
  (refine sR fun K hK => ?_; ((repeat (rw [Qa]; simp [hk])); (try simp only [zs])); refine hK _ _ _ ?_; clear hK K)
  refine pF rfl ?_
  refine Qs (hK1 _ _ _ ?_)
  (refine sR fun K hK => ?_; ((repeat (rw [Qa]; simp)); (try simp only [zs])); refine hK _ _ _ ?_; clear hK K)
  refine Qg fun K2 hK2 => ?_
  (refine sR fun K hK => ?_; ((repeat (rw [Qa]; simp)); (try simp only [zs])); refine hK _ _ _ ?_; clear hK K)
  refine pT rfl ?_
  (refine Qz Wc ?_; ((repeat (rw [Qa]; simp)); (try simp only [zs])))
  refine cXp (hki) ?_
  ((try simp only [Qb, Qc, Qn, Qi, Qj]); (repeat (rw [Qa]; simp)); (try simp only [zs]))
  refine hK2 _ _ _ ?_
  (refine sR fun K hK => ?_; ((repeat (rw [Qa]; simp)); (try simp only [zs])))
  refine cXo [0, 1] true (hp) ?_
  (rintro o hc ⟨rfl, rfl⟩; refine ⟨false, ?_⟩; simp [zz, okA, Qr, Qq, hOf, Qe, Out.ren, told, Out.fgt, upO, Qi, Qj])
  ((try simp only [zs]); refine Wa.pan (.inr ⟨[], by decide, by simp, ?_⟩); simp [Out.mov, Wg, Wh, Wj, D.mov, HO.mov, okM, Wi, We, zz, okA, Qr, Qq, hOf, Qe, Qt, Out.fgt, D.fgt, D.fgts])
theorem step_14 (left : Int) (l : List C) (once done : Bool) (hl : left <= 9223372036854775807) (t : T) (ht : okS t) (hk : t.k = 14) {i many : Nat} (hs : spot t = some (i, many)) (hp : Qu Tryz.prog glob 72 [.box 0 0, Qx t, Qx (Wt t)] (Wk left l once done) (OwnP left l once done t (ownS l t (Wt t)))) : Qu Tryz.prog glob 81 [.box 0 0, Qx t] (Wk left l once done) (OwnP left l once done t (ownS l t (Wt t))) := by
 have hsp := spot_spec t ht.1.kl
 rw [spotO_some hs ht.1.kl] at hsp
 have hki := Xy t i i rfl
 rw [<- placeX_some hs] at hki
 rcases OwnP_cases left l once done t (ownS l t (Wt t)) with ⟨v, b, lf, e⟩ | e
 ·rw [e] at hp ⊢
  generalize Wt t = x at hp hki
  have hEx := Qd x
  rw [hEx, Qd t, Qd v, hk] at hp
  rw [Qd t] at hsp
  rw [hEx, Qd t, hk] at hki
  rw [Qd t]
  unfold Wk headD Cs Wo at hp ⊢
  refine Qu.movd Qf (Qp Wc Tryz.func81 rfl (Qw _ _ Tryz.func81 rfl (by decide)) rfl rfl ?_)
  (refine sR fun K hK => ?_; ((repeat (rw [Qa]; simp)); (try simp only [zs])); refine hK _ _ _ ?_; clear hK K)
  (refine sR fun K hK => ?_; ((repeat (rw [Qa]; simp)); (try simp only [zs])))
  refine cXp (hsp) ?_
  ((try simp only [Qb, Qc, Qn, Qi, Qj]); (repeat (rw [Qa]; simp)); (try simp only [zs]))
  (refine hK _ _ _ ?_; clear hK K)
  (refine Qg fun K hK => ?_; refine dR fun KT hKT => ?_; ((repeat (rw [Qh]; simp [hk])); (try simp only [Qk])))
  (refine hKT _ _ _ _ (by kernel_rfl) ?_; clear hKT KT; (try simp only [zs]))
  (refine hK _ _ _ ?_; clear hK K)
  refine Qg fun K1 hK1 => ?_
  (refine sR fun K hK => ?_; ((repeat (rw [Qa]; simp [hk])); (try simp only [zs])); refine hK _ _ _ ?_; clear hK K)
  refine pF rfl ?_
  refine Qs (hK1 _ _ _ ?_)
  (refine sR fun K hK => ?_; ((repeat (rw [Qa]; simp)); (try simp only [zs])); refine hK _ _ _ ?_; clear hK K)
  refine Qg fun K2 hK2 => ?_
  (refine sR fun K hK => ?_; ((repeat (rw [Qa]; simp)); (try simp only [zs])); refine hK _ _ _ ?_; clear hK K)
  refine pT rfl ?_
  (refine Qz Wc ?_; ((repeat (rw [Qa]; simp)); (try simp only [zs])))
  refine cXp (hki) ?_
  ((try simp only [Qb, Qc, Qn, Qi, Qj]); (repeat (rw [Qa]; simp)); (try simp only [zs]))
  refine hK2 _ _ _ ?_
  (refine sR fun K hK => ?_; ((repeat (rw [Qa]; simp)); (try simp only [zs])))
  refine cXo [0, 1] true (hp) ?_
  (rintro o hc ⟨ho, rfl⟩; refine ⟨true, ?_⟩; rw [show told true o = _ from ho]; clear ho; simp [zz, okA, Qr, Qq, hOf, Qe, Out.ren, told, Out.fgt, upO, Qi, Qj])
  ((try simp only [Qb, Qc, Qn, Qi, Qj]); (repeat (rw [Qa]; simp)); (try simp only [zs]))
  (refine hK _ _ _ ?_; clear hK K)
  (refine Qo ?_; (try simp only [zs]); refine Wa.ret rfl (.inr ⟨[], by decide, by simp, ?_⟩); simp [Out.mov, Wg, Wh, Wj, D.mov, HO.mov, okM, Wi, We, zz, okA, Qr, Qq, hOf, Qe, Qt, Out.fgt, D.fgt, D.fgts])
  first | done | simp [Qd v]
 ·rw [e] at hp ⊢
  generalize Wt t = x at hp hki
  have hEx := Qd x
  rw [hEx, Qd t, hk] at hp
  rw [Qd t] at hsp
  rw [hEx, Qd t, hk] at hki
  rw [Qd t]
  unfold Wk headD Cs Wo goneD at hp
  unfold Wk headD Cs Wo goneD
  refine Qu.movd Qf (Qp Wc Tryz.func81 rfl (Qw _ _ Tryz.func81 rfl (by decide)) rfl rfl ?_)
  (refine sR fun K hK => ?_; ((repeat (rw [Qa]; simp)); (try simp only [zs])); refine hK _ _ _ ?_; clear hK K)
  (refine sR fun K hK => ?_; ((repeat (rw [Qa]; simp)); (try simp only [zs])))
  refine cXp (hsp) ?_
  ((try simp only [Qb, Qc, Qn, Qi, Qj]); (repeat (rw [Qa]; simp)); (try simp only [zs]))
  (refine hK _ _ _ ?_; clear hK K)
  (refine Qg fun K hK => ?_; refine dR fun KT hKT => ?_; ((repeat (rw [Qh]; simp [hk])); (try simp only [Qk])))
  (refine hKT _ _ _ _ (by kernel_rfl) ?_; clear hKT KT; (try simp only [zs]))
  (refine hK _ _ _ ?_; clear hK K)
  refine Qg fun K1 hK1 => ?_
  (refine sR fun K hK => ?_; ((repeat (rw [Qa]; simp [hk])); (try simp only [zs])); refine hK _ _ _ ?_; clear hK K)
  refine pF rfl ?_
  refine Qs (hK1 _ _ _ ?_)
  (refine sR fun K hK => ?_; ((repeat (rw [Qa]; simp)); (try simp only [zs])); refine hK _ _ _ ?_; clear hK K)
  refine Qg fun K2 hK2 => ?_
  (refine sR fun K hK => ?_; ((repeat (rw [Qa]; simp)); (try simp only [zs])); refine hK _ _ _ ?_; clear hK K)
  refine pT rfl ?_
  (refine Qz Wc ?_; ((repeat (rw [Qa]; simp)); (try simp only [zs])))
  refine cXp (hki) ?_
  ((try simp only [Qb, Qc, Qn, Qi, Qj]); (repeat (rw [Qa]; simp)); (try simp only [zs]))
  refine hK2 _ _ _ ?_
  (refine sR fun K hK => ?_; ((repeat (rw [Qa]; simp)); (try simp only [zs])))
  refine cXo [0, 1] true (hp) ?_
  (rintro o hc ⟨rfl, rfl⟩; refine ⟨false, ?_⟩; simp [zz, okA, Qr, Qq, hOf, Qe, Out.ren, told, Out.fgt, upO, Qi, Qj])
  ((try simp only [zs]); refine Wa.pan (.inr ⟨[], by decide, by simp, ?_⟩); simp [Out.mov, Wg, Wh, Wj, D.mov, HO.mov, okM, Wi, We, zz, okA, Qr, Qq, hOf, Qe, Qt, Out.fgt, D.fgt, D.fgts])
theorem step_15 (left : Int) (l : List C) (once done : Bool) (hl : left <= 9223372036854775807) (t : T) (ht : okS t) (hk : t.k = 15) {i many : Nat} (hs : spot t = some (i, many)) (hp : Qu Tryz.prog glob 72 [.box 0 0, Qx t, Qx (Wt t)] (Wk left l once done) (OwnP left l once done t (ownS l t (Wt t)))) : Qu Tryz.prog glob 81 [.box 0 0, Qx t] (Wk left l once done) (OwnP left l once done t (ownS l t (Wt t))) := by
 have hsp := spot_spec t ht.1.kl
 rw [spotO_some hs ht.1.kl] at hsp
 have hki := Xy t i i rfl
 rw [<- placeX_some hs] at hki
 rcases OwnP_cases left l once done t (ownS l t (Wt t)) with ⟨v, b, lf, e⟩ | e
 ·rw [e] at hp ⊢
  generalize Wt t = x at hp hki
  have hEx := Qd x
  rw [hEx, Qd t, Qd v, hk] at hp
  rw [Qd t] at hsp
  rw [hEx, Qd t, hk] at hki
  rw [Qd t]
  unfold Wk headD Cs Wo at hp ⊢
  refine Qu.movd Qf (Qp Wc Tryz.func81 rfl (Qw _ _ Tryz.func81 rfl (by decide)) rfl rfl ?_)
  (refine sR fun K hK => ?_; ((repeat (rw [Qa]; simp)); (try simp only [zs])); refine hK _ _ _ ?_; clear hK K)
  (refine sR fun K hK => ?_; ((repeat (rw [Qa]; simp)); (try simp only [zs])))
  refine cXp (hsp) ?_
  ((try simp only [Qb, Qc, Qn, Qi, Qj]); (repeat (rw [Qa]; simp)); (try simp only [zs]))
  (refine hK _ _ _ ?_; clear hK K)
  (refine Qg fun K hK => ?_; refine dR fun KT hKT => ?_; ((repeat (rw [Qh]; simp [hk])); (try simp only [Qk])))
  (refine hKT _ _ _ _ (by kernel_rfl) ?_; clear hKT KT; (try simp only [zs]))
  (refine hK _ _ _ ?_; clear hK K)
  refine Qg fun K1 hK1 => ?_
  (refine sR fun K hK => ?_; ((repeat (rw [Qa]; simp [hk])); (try simp only [zs])); refine hK _ _ _ ?_; clear hK K)
  refine pF rfl ?_
  refine Qs (hK1 _ _ _ ?_)
  (refine sR fun K hK => ?_; ((repeat (rw [Qa]; simp)); (try simp only [zs])); refine hK _ _ _ ?_; clear hK K)
  refine Qg fun K2 hK2 => ?_
  (refine sR fun K hK => ?_; ((repeat (rw [Qa]; simp)); (try simp only [zs])); refine hK _ _ _ ?_; clear hK K)
  refine pT rfl ?_
  (refine Qz Wc ?_; ((repeat (rw [Qa]; simp)); (try simp only [zs])))
  refine cXp (hki) ?_
  ((try simp only [Qb, Qc, Qn, Qi, Qj]); (repeat (rw [Qa]; simp)); (try simp only [zs]))
  refine hK2 _ _ _ ?_
  (refine sR fun K hK => ?_; ((repeat (rw [Qa]; simp)); (try simp only [zs])))
  refine cXo [0, 1] true (hp) ?_
  (rintro o hc ⟨ho, rfl⟩; refine ⟨true, ?_⟩; rw [show told true o = _ from ho]; clear ho; simp [zz, okA, Qr, Qq, hOf, Qe, Out.ren, told, Out.fgt, upO, Qi, Qj])
  ((try simp only [Qb, Qc, Qn, Qi, Qj]); (repeat (rw [Qa]; simp)); (try simp only [zs]))
  (refine hK _ _ _ ?_; clear hK K)
  (refine Qo ?_; (try simp only [zs]); refine Wa.ret rfl (.inr ⟨[], by decide, by simp, ?_⟩); simp [Out.mov, Wg, Wh, Wj, D.mov, HO.mov, okM, Wi, We, zz, okA, Qr, Qq, hOf, Qe, Qt, Out.fgt, D.fgt, D.fgts])
  first | done | simp [Qd v]
 ·rw [e] at hp ⊢
  generalize Wt t = x at hp hki
  have hEx := Qd x
  rw [hEx, Qd t, hk] at hp
  rw [Qd t] at hsp
  rw [hEx, Qd t, hk] at hki
  rw [Qd t]
  unfold Wk headD Cs Wo goneD at hp
  unfold Wk headD Cs Wo goneD
  refine Qu.movd Qf (Qp Wc Tryz.func81 rfl (Qw _ _ Tryz.func81 rfl (by decide)) rfl rfl ?_)
  (refine sR fun K hK => ?_; ((repeat (rw [Qa]; simp)); (try simp only [zs])); refine hK _ _ _ ?_; clear hK K)
  (refine sR fun K hK => ?_; ((repeat (rw [Qa]; simp)); (try simp only [zs])))
  refine cXp (hsp) ?_
  ((try simp only [Qb, Qc, Qn, Qi, Qj]); (repeat (rw [Qa]; simp)); (try simp only [zs]))
  (refine hK _ _ _ ?_; clear hK K)
  (refine Qg fun K hK => ?_; refine dR fun KT hKT => ?_; ((repeat (rw [Qh]; simp [hk])); (try simp only [Qk])))
  (refine hKT _ _ _ _ (by kernel_rfl) ?_; clear hKT KT; (try simp only [zs]))
  (refine hK _ _ _ ?_; clear hK K)
  refine Qg fun K1 hK1 => ?_
  (refine sR fun K hK => ?_; ((repeat (rw [Qa]; simp [hk])); (try simp only [zs])); refine hK _ _ _ ?_; clear hK K)
  refine pF rfl ?_
  refine Qs (hK1 _ _ _ ?_)
  (refine sR fun K hK => ?_; ((repeat (rw [Qa]; simp)); (try simp only [zs])); refine hK _ _ _ ?_; clear hK K)
  refine Qg fun K2 hK2 => ?_
  (refine sR fun K hK => ?_; ((repeat (rw [Qa]; simp)); (try simp only [zs])); refine hK _ _ _ ?_; clear hK K)
  refine pT rfl ?_
  (refine Qz Wc ?_; ((repeat (rw [Qa]; simp)); (try simp only [zs])))
  refine cXp (hki) ?_
  ((try simp only [Qb, Qc, Qn, Qi, Qj]); (repeat (rw [Qa]; simp)); (try simp only [zs]))
  refine hK2 _ _ _ ?_
  (refine sR fun K hK => ?_; ((repeat (rw [Qa]; simp)); (try simp only [zs])))
  refine cXo [0, 1] true (hp) ?_
  (rintro o hc ⟨rfl, rfl⟩; refine ⟨false, ?_⟩; simp [zz, okA, Qr, Qq, hOf, Qe, Out.ren, told, Out.fgt, upO, Qi, Qj])
  ((try simp only [zs]); refine Wa.pan (.inr ⟨[], by decide, by simp, ?_⟩); simp [Out.mov, Wg, Wh, Wj, D.mov, HO.mov, okM, Wi, We, zz, okA, Qr, Qq, hOf, Qe, Qt, Out.fgt, D.fgt, D.fgts])
theorem step_18 (left : Int) (l : List C) (once done : Bool) (hl : left <= 9223372036854775807) (t : T) (ht : okS t) (hk : t.k = 18) {i many : Nat} (hs : spot t = some (i, many)) (hp : Qu Tryz.prog glob 75 [.box 0 0, Qx t, Qx (Wt t)] (Wk left l once done) (OwnP left l once done t (ownS l t (Wt t)))) : Qu Tryz.prog glob 81 [.box 0 0, Qx t] (Wk left l once done) (OwnP left l once done t (ownS l t (Wt t))) := by
 have hsp := spot_spec t ht.1.kl
 rw [spotO_some hs ht.1.kl] at hsp
 have hki := Xy t i i rfl
 rw [<- placeX_some hs] at hki
 rcases OwnP_cases left l once done t (ownS l t (Wt t)) with ⟨v, b, lf, e⟩ | e
 ·rw [e] at hp ⊢
  generalize Wt t = x at hp hki
  have hEx := Qd x
  rw [hEx, Qd t, Qd v, hk] at hp
  rw [Qd t] at hsp
  rw [hEx, Qd t, hk] at hki
  rw [Qd t]
  unfold Wk headD Cs Wo at hp ⊢
  refine Qu.movd Qf (Qp Wc Tryz.func81 rfl (Qw _ _ Tryz.func81 rfl (by decide)) rfl rfl ?_)
  (refine sR fun K hK => ?_; ((repeat (rw [Qa]; simp)); (try simp only [zs])); refine hK _ _ _ ?_; clear hK K)
  (refine sR fun K hK => ?_; ((repeat (rw [Qa]; simp)); (try simp only [zs])))
  refine cXp (hsp) ?_
  ((try simp only [Qb, Qc, Qn, Qi, Qj]); (repeat (rw [Qa]; simp)); (try simp only [zs]))
  (refine hK _ _ _ ?_; clear hK K)
  (refine Qg fun K hK => ?_; refine dR fun KT hKT => ?_; ((repeat (rw [Qh]; simp [hk])); (try simp only [Qk])))
  (refine hKT _ _ _ _ (by kernel_rfl) ?_; clear hKT KT; (try simp only [zs]))
  (refine hK _ _ _ ?_; clear hK K)
  refine Qg fun K1 hK1 => ?_
  (refine sR fun K hK => ?_; ((repeat (rw [Qa]; simp [hk])); (try simp only [zs])); refine hK _ _ _ ?_; clear hK K)
  refine pF rfl ?_
  refine Qs (hK1 _ _ _ ?_)
  (refine sR fun K hK => ?_; ((repeat (rw [Qa]; simp)); (try simp only [zs])); refine hK _ _ _ ?_; clear hK K)
  refine Qg fun K2 hK2 => ?_
  (refine sR fun K hK => ?_; ((repeat (rw [Qa]; simp)); (try simp only [zs])); refine hK _ _ _ ?_; clear hK K)
  refine pT rfl ?_
  (refine Qz Wc ?_; ((repeat (rw [Qa]; simp)); (try simp only [zs])))
  refine cXp (hki) ?_
  ((try simp only [Qb, Qc, Qn, Qi, Qj]); (repeat (rw [Qa]; simp)); (try simp only [zs]))
  refine hK2 _ _ _ ?_
  (refine sR fun K hK => ?_; ((repeat (rw [Qa]; simp)); (try simp only [zs])))
  refine cXo [0, 1] true (hp) ?_
  (rintro o hc ⟨ho, rfl⟩; refine ⟨true, ?_⟩; rw [show told true o = _ from ho]; clear ho; simp [zz, okA, Qr, Qq, hOf, Qe, Out.ren, told, Out.fgt, upO, Qi, Qj])
  ((try simp only [Qb, Qc, Qn, Qi, Qj]); (repeat (rw [Qa]; simp)); (try simp only [zs]))
  (refine hK _ _ _ ?_; clear hK K)
  (refine Qo ?_; (try simp only [zs]); refine Wa.ret rfl (.inr ⟨[], by decide, by simp, ?_⟩); simp [Out.mov, Wg, Wh, Wj, D.mov, HO.mov, okM, Wi, We, zz, okA, Qr, Qq, hOf, Qe, Qt, Out.fgt, D.fgt, D.fgts])
  first | done | simp [Qd v]
 ·rw [e] at hp ⊢
  generalize Wt t = x at hp hki
  have hEx := Qd x
  rw [hEx, Qd t, hk] at hp
  rw [Qd t] at hsp
  rw [hEx, Qd t, hk] at hki
  rw [Qd t]
  unfold Wk headD Cs Wo goneD at hp
  unfold Wk headD Cs Wo goneD
  refine Qu.movd Qf (Qp Wc Tryz.func81 rfl (Qw _ _ Tryz.func81 rfl (by decide)) rfl rfl ?_)
  (refine sR fun K hK => ?_; ((repeat (rw [Qa]; simp)); (try simp only [zs])); refine hK _ _ _ ?_; clear hK K)
  (refine sR fun K hK => ?_; ((repeat (rw [Qa]; simp)); (try simp only [zs])))
  refine cXp (hsp) ?_
  ((try simp only [Qb, Qc, Qn, Qi, Qj]); (repeat (rw [Qa]; simp)); (try simp only [zs]))
  (refine hK _ _ _ ?_; clear hK K)
  (refine Qg fun K hK => ?_; refine dR fun KT hKT => ?_; ((repeat (rw [Qh]; simp [hk])); (try simp only [Qk])))
  (refine hKT _ _ _ _ (by kernel_rfl) ?_; clear hKT KT; (try simp only [zs]))
  (refine hK _ _ _ ?_; clear hK K)
  refine Qg fun K1 hK1 => ?_
  (refine sR fun K hK => ?_; ((repeat (rw [Qa]; simp [hk])); (try simp only [zs])); refine hK _ _ _ ?_; clear hK K)
  refine pF rfl ?_
  refine Qs (hK1 _ _ _ ?_)
  (refine sR fun K hK => ?_; ((repeat (rw [Qa]; simp)); (try simp only [zs])); refine hK _ _ _ ?_; clear hK K)
  refine Qg fun K2 hK2 => ?_
  (refine sR fun K hK => ?_; ((repeat (rw [Qa]; simp)); (try simp only [zs])); refine hK _ _ _ ?_; clear hK K)
  refine pT rfl ?_
  (refine Qz Wc ?_; ((repeat (rw [Qa]; simp)); (try simp only [zs])))
  refine cXp (hki) ?_
  ((try simp only [Qb, Qc, Qn, Qi, Qj]); (repeat (rw [Qa]; simp)); (try simp only [zs]))
  refine hK2 _ _ _ ?_
  (refine sR fun K hK => ?_; ((repeat (rw [Qa]; simp)); (try simp only [zs])))
  refine cXo [0, 1] true (hp) ?_
  (rintro o hc ⟨rfl, rfl⟩; refine ⟨false, ?_⟩; simp [zz, okA, Qr, Qq, hOf, Qe, Out.ren, told, Out.fgt, upO, Qi, Qj])
  ((try simp only [zs]); refine Wa.pan (.inr ⟨[], by decide, by simp, ?_⟩); simp [Out.mov, Wg, Wh, Wj, D.mov, HO.mov, okM, Wi, We, zz, okA, Qr, Qq, hOf, Qe, Qt, Out.fgt, D.fgt, D.fgts])
theorem step_21 (left : Int) (l : List C) (once done : Bool) (hl : left <= 9223372036854775807) (t : T) (ht : okS t) (hk : t.k = 21) {i many : Nat} (hs : spot t = some (i, many)) (hp : Qu Tryz.prog glob 76 [.box 0 0, Qx t, Qx (Wt t)] (Wk left l once done) (OwnP left l once done t (ownS l t (Wt t)))) : Qu Tryz.prog glob 81 [.box 0 0, Qx t] (Wk left l once done) (OwnP left l once done t (ownS l t (Wt t))) := by
 have hsp := spot_spec t ht.1.kl
 rw [spotO_some hs ht.1.kl] at hsp
 have hki := Xy t i i rfl
 rw [<- placeX_some hs] at hki
 rcases OwnP_cases left l once done t (ownS l t (Wt t)) with ⟨v, b, lf, e⟩ | e
 ·rw [e] at hp ⊢
  generalize Wt t = x at hp hki
  have hEx := Qd x
  rw [hEx, Qd t, Qd v, hk] at hp
  rw [Qd t] at hsp
  rw [hEx, Qd t, hk] at hki
  rw [Qd t]
  unfold Wk headD Cs Wo at hp ⊢
  refine Qu.movd Qf (Qp Wc Tryz.func81 rfl (Qw _ _ Tryz.func81 rfl (by decide)) rfl rfl ?_)
  (refine sR fun K hK => ?_; ((repeat (rw [Qa]; simp)); (try simp only [zs])); refine hK _ _ _ ?_; clear hK K)
  (refine sR fun K hK => ?_; ((repeat (rw [Qa]; simp)); (try simp only [zs])))
  refine cXp (hsp) ?_
  ((try simp only [Qb, Qc, Qn, Qi, Qj]); (repeat (rw [Qa]; simp)); (try simp only [zs]))
  (refine hK _ _ _ ?_; clear hK K)
  (refine Qg fun K hK => ?_; refine dR fun KT hKT => ?_; ((repeat (rw [Qh]; simp [hk])); (try simp only [Qk])))
  (refine hKT _ _ _ _ (by kernel_rfl) ?_; clear hKT KT; (try simp only [zs]))
  (refine hK _ _ _ ?_; clear hK K)
  refine Qg fun K1 hK1 => ?_
  (refine sR fun K hK => ?_; ((repeat (rw [Qa]; simp [hk])); (try simp only [zs])); refine hK _ _ _ ?_; clear hK K)
  refine pF rfl ?_
  refine Qs (hK1 _ _ _ ?_)
  (refine sR fun K hK => ?_; ((repeat (rw [Qa]; simp)); (try simp only [zs])); refine hK _ _ _ ?_; clear hK K)
  refine Qg fun K2 hK2 => ?_
  (refine sR fun K hK => ?_; ((repeat (rw [Qa]; simp)); (try simp only [zs])); refine hK _ _ _ ?_; clear hK K)
  refine pT rfl ?_
  (refine Qz Wc ?_; ((repeat (rw [Qa]; simp)); (try simp only [zs])))
  refine cXp (hki) ?_
  ((try simp only [Qb, Qc, Qn, Qi, Qj]); (repeat (rw [Qa]; simp)); (try simp only [zs]))
  refine hK2 _ _ _ ?_
  (refine sR fun K hK => ?_; ((repeat (rw [Qa]; simp)); (try simp only [zs])))
  refine cXo [0, 1] true (hp) ?_
  (rintro o hc ⟨ho, rfl⟩; refine ⟨true, ?_⟩; rw [show told true o = _ from ho]; clear ho; simp [zz, okA, Qr, Qq, hOf, Qe, Out.ren, told, Out.fgt, upO, Qi, Qj])
  ((try simp only [Qb, Qc, Qn, Qi, Qj]); (repeat (rw [Qa]; simp)); (try simp only [zs]))
  (refine hK _ _ _ ?_; clear hK K)
  (refine Qo ?_; (try simp only [zs]); refine Wa.ret rfl (.inr ⟨[], by decide, by simp, ?_⟩); simp [Out.mov, Wg, Wh, Wj, D.mov, HO.mov, okM, Wi, We, zz, okA, Qr, Qq, hOf, Qe, Qt, Out.fgt, D.fgt, D.fgts])
  first | done | simp [Qd v]
 ·rw [e] at hp ⊢
  generalize Wt t = x at hp hki
  have hEx := Qd x
  rw [hEx, Qd t, hk] at hp
  rw [Qd t] at hsp
  rw [hEx, Qd t, hk] at hki
  rw [Qd t]
  unfold Wk headD Cs Wo goneD at hp
  unfold Wk headD Cs Wo goneD
  refine Qu.movd Qf (Qp Wc Tryz.func81 rfl (Qw _ _ Tryz.func81 rfl (by decide)) rfl rfl ?_)
  (refine sR fun K hK => ?_; ((repeat (rw [Qa]; simp)); (try simp only [zs])); refine hK _ _ _ ?_; clear hK K)
  (refine sR fun K hK => ?_; ((repeat (rw [Qa]; simp)); (try simp only [zs])))
  refine cXp (hsp) ?_
  ((try simp only [Qb, Qc, Qn, Qi, Qj]); (repeat (rw [Qa]; simp)); (try simp only [zs]))
  (refine hK _ _ _ ?_; clear hK K)
  (refine Qg fun K hK => ?_; refine dR fun KT hKT => ?_; ((repeat (rw [Qh]; simp [hk])); (try simp only [Qk])))
  (refine hKT _ _ _ _ (by kernel_rfl) ?_; clear hKT KT; (try simp only [zs]))
  (refine hK _ _ _ ?_; clear hK K)
  refine Qg fun K1 hK1 => ?_
  (refine sR fun K hK => ?_; ((repeat (rw [Qa]; simp [hk])); (try simp only [zs])); refine hK _ _ _ ?_; clear hK K)
  refine pF rfl ?_
  refine Qs (hK1 _ _ _ ?_)
  (refine sR fun K hK => ?_; ((repeat (rw [Qa]; simp)); (try simp only [zs])); refine hK _ _ _ ?_; clear hK K)
  refine Qg fun K2 hK2 => ?_
  (refine sR fun K hK => ?_; ((repeat (rw [Qa]; simp)); (try simp only [zs])); refine hK _ _ _ ?_; clear hK K)
  refine pT rfl ?_
  (refine Qz Wc ?_; ((repeat (rw [Qa]; simp)); (try simp only [zs])))
  refine cXp (hki) ?_
  ((try simp only [Qb, Qc, Qn, Qi, Qj]); (repeat (rw [Qa]; simp)); (try simp only [zs]))
  refine hK2 _ _ _ ?_
  (refine sR fun K hK => ?_; ((repeat (rw [Qa]; simp)); (try simp only [zs])))
  refine cXo [0, 1] true (hp) ?_
  (rintro o hc ⟨rfl, rfl⟩; refine ⟨false, ?_⟩; simp [zz, okA, Qr, Qq, hOf, Qe, Out.ren, told, Out.fgt, upO, Qi, Qj])
  ((try simp only [zs]); refine Wa.pan (.inr ⟨[], by decide, by simp, ?_⟩); simp [Out.mov, Wg, Wh, Wj, D.mov, HO.mov, okM, Wi, We, zz, okA, Qr, Qq, hOf, Qe, Qt, Out.fgt, D.fgt, D.fgts])
theorem step_24 (left : Int) (l : List C) (once done : Bool) (hl : left <= 9223372036854775807) (t : T) (ht : okS t) (hk : t.k = 24) {i many : Nat} (hs : spot t = some (i, many)) (hp : Qu Tryz.prog glob 77 [.box 0 0, Qx t, Qx (Wt t)] (Wk left l once done) (OwnP left l once done t (ownS l t (Wt t)))) : Qu Tryz.prog glob 81 [.box 0 0, Qx t] (Wk left l once done) (OwnP left l once done t (ownS l t (Wt t))) := by
 have hsp := spot_spec t ht.1.kl
 rw [spotO_some hs ht.1.kl] at hsp
 have hki := Xy t i i rfl
 rw [<- placeX_some hs] at hki
 rcases OwnP_cases left l once done t (ownS l t (Wt t)) with ⟨v, b, lf, e⟩ | e
 ·rw [e] at hp ⊢
  generalize Wt t = x at hp hki
  have hEx := Qd x
  rw [hEx, Qd t, Qd v, hk] at hp
  rw [Qd t] at hsp
  rw [hEx, Qd t, hk] at hki
  rw [Qd t]
  unfold Wk headD Cs Wo at hp ⊢
  refine Qu.movd Qf (Qp Wc Tryz.func81 rfl (Qw _ _ Tryz.func81 rfl (by decide)) rfl rfl ?_)
  (refine sR fun K hK => ?_; ((repeat (rw [Qa]; simp)); (try simp only [zs])); refine hK _ _ _ ?_; clear hK K)
  (refine sR fun K hK => ?_; ((repeat (rw [Qa]; simp)); (try simp only [zs])))
  refine cXp (hsp) ?_
  ((try simp only [Qb, Qc, Qn, Qi, Qj]); (repeat (rw [Qa]; simp)); (try simp only [zs]))
  (refine hK _ _ _ ?_; clear hK K)
  (refine Qg fun K hK => ?_; refine dR fun KT hKT => ?_; ((repeat (rw [Qh]; simp [hk])); (try simp only [Qk])))
  (refine hKT _ _ _ _ (by kernel_rfl) ?_; clear hKT KT; (try simp only [zs]))
  (refine hK _ _ _ ?_; clear hK K)
  refine Qg fun K1 hK1 => ?_
  (refine sR fun K hK => ?_; ((repeat (rw [Qa]; simp [hk])); (try simp only [zs])); refine hK _ _ _ ?_; clear hK K)
  refine pF rfl ?_
  refine Qs (hK1 _ _ _ ?_)
  (refine sR fun K hK => ?_; ((repeat (rw [Qa]; simp)); (try simp only [zs])); refine hK _ _ _ ?_; clear hK K)
  refine Qg fun K2 hK2 => ?_
  (refine sR fun K hK => ?_; ((repeat (rw [Qa]; simp)); (try simp only [zs])); refine hK _ _ _ ?_; clear hK K)
  refine pT rfl ?_
  (refine Qz Wc ?_; ((repeat (rw [Qa]; simp)); (try simp only [zs])))
  refine cXp (hki) ?_
  ((try simp only [Qb, Qc, Qn, Qi, Qj]); (repeat (rw [Qa]; simp)); (try simp only [zs]))
  refine hK2 _ _ _ ?_
  (refine sR fun K hK => ?_; ((repeat (rw [Qa]; simp)); (try simp only [zs])))
  refine cXo [0, 1] true (hp) ?_
  (rintro o hc ⟨ho, rfl⟩; refine ⟨true, ?_⟩; rw [show told true o = _ from ho]; clear ho; simp [zz, okA, Qr, Qq, hOf, Qe, Out.ren, told, Out.fgt, upO, Qi, Qj])
  ((try simp only [Qb, Qc, Qn, Qi, Qj]); (repeat (rw [Qa]; simp)); (try simp only [zs]))
  (refine hK _ _ _ ?_; clear hK K)
  (refine Qo ?_; (try simp only [zs]); refine Wa.ret rfl (.inr ⟨[], by decide, by simp, ?_⟩); simp [Out.mov, Wg, Wh, Wj, D.mov, HO.mov, okM, Wi, We, zz, okA, Qr, Qq, hOf, Qe, Qt, Out.fgt, D.fgt, D.fgts])
  first | done | simp [Qd v]
 ·rw [e] at hp ⊢
  generalize Wt t = x at hp hki
  have hEx := Qd x
  rw [hEx, Qd t, hk] at hp
  rw [Qd t] at hsp
  rw [hEx, Qd t, hk] at hki
  rw [Qd t]
  unfold Wk headD Cs Wo goneD at hp
  unfold Wk headD Cs Wo goneD
  refine Qu.movd Qf (Qp Wc Tryz.func81 rfl (Qw _ _ Tryz.func81 rfl (by decide)) rfl rfl ?_)
  (refine sR fun K hK => ?_; ((repeat (rw [Qa]; simp)); (try simp only [zs])); refine hK _ _ _ ?_; clear hK K)
  (refine sR fun K hK => ?_; ((repeat (rw [Qa]; simp)); (try simp only [zs])))
  refine cXp (hsp) ?_
  ((try simp only [Qb, Qc, Qn, Qi, Qj]); (repeat (rw [Qa]; simp)); (try simp only [zs]))
  (refine hK _ _ _ ?_; clear hK K)
  (refine Qg fun K hK => ?_; refine dR fun KT hKT => ?_; ((repeat (rw [Qh]; simp [hk])); (try simp only [Qk])))
  (refine hKT _ _ _ _ (by kernel_rfl) ?_; clear hKT KT; (try simp only [zs]))
  (refine hK _ _ _ ?_; clear hK K)
  refine Qg fun K1 hK1 => ?_
  (refine sR fun K hK => ?_; ((repeat (rw [Qa]; simp [hk])); (try simp only [zs])); refine hK _ _ _ ?_; clear hK K)
  refine pF rfl ?_
  refine Qs (hK1 _ _ _ ?_)
  (refine sR fun K hK => ?_; ((repeat (rw [Qa]; simp)); (try simp only [zs])); refine hK _ _ _ ?_; clear hK K)
  refine Qg fun K2 hK2 => ?_
  (refine sR fun K hK => ?_; ((repeat (rw [Qa]; simp)); (try simp only [zs])); refine hK _ _ _ ?_; clear hK K)
  refine pT rfl ?_
  (refine Qz Wc ?_; ((repeat (rw [Qa]; simp)); (try simp only [zs])))
  refine cXp (hki) ?_
  ((try simp only [Qb, Qc, Qn, Qi, Qj]); (repeat (rw [Qa]; simp)); (try simp only [zs]))
  refine hK2 _ _ _ ?_
  (refine sR fun K hK => ?_; ((repeat (rw [Qa]; simp)); (try simp only [zs])))
  refine cXo [0, 1] true (hp) ?_
  (rintro o hc ⟨rfl, rfl⟩; refine ⟨false, ?_⟩; simp [zz, okA, Qr, Qq, hOf, Qe, Out.ren, told, Out.fgt, upO, Qi, Qj])
  ((try simp only [zs]); refine Wa.pan (.inr ⟨[], by decide, by simp, ?_⟩); simp [Out.mov, Wg, Wh, Wj, D.mov, HO.mov, okM, Wi, We, zz, okA, Qr, Qq, hOf, Qe, Qt, Out.fgt, D.fgt, D.fgts])
theorem step_7 (left : Int) (l : List C) (once done : Bool) (hl : left <= 9223372036854775807) (t : T) (ht : okS t) (hk : t.k = 7) (hs : spot t = none) (hp : Qu Tryz.prog glob 73 [.box 0 0, Qx t, Qx (Wt t)] (Wk left l once done) (OwnP left l once done t (ownS l t (Wt t)))) : Qu Tryz.prog glob 81 [.box 0 0, Qx t] (Wk left l once done) (OwnP left l once done t (ownS l t (Wt t))) := by
 have hsp := spot_spec t ht.1.kl
 obtain ⟨p, q, hpq⟩ := spotO_none hs
 rw [hpq] at hsp
 have hx0 := placeX_none hs
 rcases OwnP_cases left l once done t (ownS l t (Wt t)) with ⟨v, b, lf, e⟩ | e
 ·rw [e] at hp ⊢
  generalize Wt t = x at hp hx0
  have hEx := Qd x
  rw [hEx, Qd t, Qd v, hk] at hp
  rw [Qd t] at hsp
  subst hx0
  rw [show (Wl : T).k = 0 from rfl, show (Wl : T).n = 0 from rfl, show (Wl : T).a = 0 from rfl, show (Wl : T).ls = [] from rfl, show (Wl : T).ks = [] from rfl, List.map_nil, List.map_nil] at hp
  rw [Qd t]
  unfold Wk headD Cs Wo at hp ⊢
  refine Qu.movd Qf (Qp Wc Tryz.func81 rfl (Qw _ _ Tryz.func81 rfl (by decide)) rfl rfl ?_)
  (refine sR fun K hK => ?_; ((repeat (rw [Qa]; simp)); (try simp only [zs])); refine hK _ _ _ ?_; clear hK K)
  (refine sR fun K hK => ?_; ((repeat (rw [Qa]; simp)); (try simp only [zs])))
  refine cXp (hsp) ?_
  ((try simp only [Qb, Qc, Qn, Qi, Qj]); (repeat (rw [Qa]; simp)); (try simp only [zs]))
  (refine hK _ _ _ ?_; clear hK K)
  (refine Qg fun K hK => ?_; refine dR fun KT hKT => ?_; ((repeat (rw [Qh]; simp [hk])); (try simp only [Qk])))
  (refine hKT _ _ _ _ (by kernel_rfl) ?_; clear hKT KT; (try simp only [zs]))
  (refine hK _ _ _ ?_; clear hK K)
  refine Qg fun K1 hK1 => ?_
  (refine sR fun K hK => ?_; ((repeat (rw [Qa]; simp [hk])); (try simp only [zs])); refine hK _ _ _ ?_; clear hK K)
  refine pF rfl ?_
  refine Qs (hK1 _ _ _ ?_)
  (refine sR fun K hK => ?_; ((repeat (rw [Qa]; simp)); (try simp only [zs])); refine hK _ _ _ ?_; clear hK K)
  refine Qg fun K2 hK2 => ?_
  (refine sR fun K hK => ?_; ((repeat (rw [Qa]; simp)); (try simp only [zs])); refine hK _ _ _ ?_; clear hK K)
  refine pF rfl ?_
  refine Qs (hK2 _ _ _ ?_)
  (refine sR fun K hK => ?_; ((repeat (rw [Qa]; simp)); (try simp only [zs])))
  refine cXo [0, 1] true (hp) ?_
  (rintro o hc ⟨ho, rfl⟩; refine ⟨true, ?_⟩; rw [show told true o = _ from ho]; clear ho; simp [zz, okA, Qr, Qq, hOf, Qe, Out.ren, told, Out.fgt, upO, Qi, Qj])
  ((try simp only [Qb, Qc, Qn, Qi, Qj]); (repeat (rw [Qa]; simp)); (try simp only [zs]))
  (refine hK _ _ _ ?_; clear hK K)
  (refine Qo ?_; (try simp only [zs]); refine Wa.ret rfl (.inr ⟨[], by decide, by simp, ?_⟩); simp [Out.mov, Wg, Wh, Wj, D.mov, HO.mov, okM, Wi, We, zz, okA, Qr, Qq, hOf, Qe, Qt, Out.fgt, D.fgt, D.fgts])
  first | done | simp [Qd v]
 ·rw [e] at hp ⊢
  generalize Wt t = x at hp hx0
  have hEx := Qd x
  rw [hEx, Qd t, hk] at hp
  rw [Qd t] at hsp
  subst hx0
  rw [show (Wl : T).k = 0 from rfl, show (Wl : T).n = 0 from rfl, show (Wl : T).a = 0 from rfl, show (Wl : T).ls = [] from rfl, show (Wl : T).ks = [] from rfl, List.map_nil, List.map_nil] at hp
  rw [Qd t]
  unfold Wk headD Cs Wo goneD at hp
  unfold Wk headD Cs Wo goneD
  refine Qu.movd Qf (Qp Wc Tryz.func81 rfl (Qw _ _ Tryz.func81 rfl (by decide)) rfl rfl ?_)
  (refine sR fun K hK => ?_; ((repeat (rw [Qa]; simp)); (try simp only [zs])); refine hK _ _ _ ?_; clear hK K)
  (refine sR fun K hK => ?_; ((repeat (rw [Qa]; simp)); (try simp only [zs])))
  refine cXp (hsp) ?_
  ((try simp only [Qb, Qc, Qn, Qi, Qj]); (repeat (rw [Qa]; simp)); (try simp only [zs]))
  (refine hK _ _ _ ?_; clear hK K)
  (refine Qg fun K hK => ?_; refine dR fun KT hKT => ?_; ((repeat (rw [Qh]; simp [hk])); (try simp only [Qk])))
  (refine hKT _ _ _ _ (by kernel_rfl) ?_; clear hKT KT; (try simp only [zs]))
  (refine hK _ _ _ ?_; clear hK K)
  refine Qg fun K1 hK1 => ?_
  (refine sR fun K hK => ?_; ((repeat (rw [Qa]; simp [hk])); (try simp only [zs])); refine hK _ _ _ ?_; clear hK K)
  refine pF rfl ?_
  refine Qs (hK1 _ _ _ ?_)
  (refine sR fun K hK => ?_; ((repeat (rw [Qa]; simp)); (try simp only [zs])); refine hK _ _ _ ?_; clear hK K)
  refine Qg fun K2 hK2 => ?_
  (refine sR fun K hK => ?_; ((repeat (rw [Qa]; simp)); (try simp only [zs])); refine hK _ _ _ ?_; clear hK K)
  refine pF rfl ?_
  refine Qs (hK2 _ _ _ ?_)
  (refine sR fun K hK => ?_; ((repeat (rw [Qa]; simp)); (try simp only [zs])))
  refine cXo [0, 1] true (hp) ?_
  (rintro o hc ⟨rfl, rfl⟩; refine ⟨false, ?_⟩; simp [zz, okA, Qr, Qq, hOf, Qe, Out.ren, told, Out.fgt, upO, Qi, Qj])
  ((try simp only [zs]); refine Wa.pan (.inr ⟨[], by decide, by simp, ?_⟩); simp [Out.mov, Wg, Wh, Wj, D.mov, HO.mov, okM, Wi, We, zz, okA, Qr, Qq, hOf, Qe, Qt, Out.fgt, D.fgt, D.fgts])
theorem step_3 (left : Int) (l : List C) (once done : Bool) (hl : left <= 9223372036854775807) (t : T) (ht : okS t) (hk : t.k = 3) (hs : spot t = none) (hp : Qu Tryz.prog glob 74 [.box 0 0, Qx t, Qx (Wt t)] (Wk left l once done) (OwnP left l once done t (ownS l t (Wt t)))) : Qu Tryz.prog glob 81 [.box 0 0, Qx t] (Wk left l once done) (OwnP left l once done t (ownS l t (Wt t))) := by
 have hsp := spot_spec t ht.1.kl
 obtain ⟨p, q, hpq⟩ := spotO_none hs
 rw [hpq] at hsp
 have hx0 := placeX_none hs
 rcases OwnP_cases left l once done t (ownS l t (Wt t)) with ⟨v, b, lf, e⟩ | e
 ·rw [e] at hp ⊢
  generalize Wt t = x at hp hx0
  have hEx := Qd x
  rw [hEx, Qd t, Qd v, hk] at hp
  rw [Qd t] at hsp
  subst hx0
  rw [show (Wl : T).k = 0 from rfl, show (Wl : T).n = 0 from rfl, show (Wl : T).a = 0 from rfl, show (Wl : T).ls = [] from rfl, show (Wl : T).ks = [] from rfl, List.map_nil, List.map_nil] at hp
  rw [Qd t]
  unfold Wk headD Cs Wo at hp ⊢
  refine Qu.movd Qf (Qp Wc Tryz.func81 rfl (Qw _ _ Tryz.func81 rfl (by decide)) rfl rfl ?_)
  (refine sR fun K hK => ?_; ((repeat (rw [Qa]; simp)); (try simp only [zs])); refine hK _ _ _ ?_; clear hK K)
  (refine sR fun K hK => ?_; ((repeat (rw [Qa]; simp)); (try simp only [zs])))
  refine cXp (hsp) ?_
  ((try simp only [Qb, Qc, Qn, Qi, Qj]); (repeat (rw [Qa]; simp)); (try simp only [zs]))
  (refine hK _ _ _ ?_; clear hK K)
  (refine Qg fun K hK => ?_; refine dR fun KT hKT => ?_; ((repeat (rw [Qh]; simp [hk])); (try simp only [Qk])))
  (refine hKT _ _ _ _ (by kernel_rfl) ?_; clear hKT KT; (try simp only [zs]))
  (refine hK _ _ _ ?_; clear hK K)
  refine Qg fun K1 hK1 => ?_
  (refine sR fun K hK => ?_; ((repeat (rw [Qa]; simp [hk])); (try simp only [zs])); refine hK _ _ _ ?_; clear hK K)
  refine pF rfl ?_
  refine Qs (hK1 _ _ _ ?_)
  (refine sR fun K hK => ?_; ((repeat (rw [Qa]; simp)); (try simp only [zs])); refine hK _ _ _ ?_; clear hK K)
  refine Qg fun K2 hK2 => ?_
  (refine sR fun K hK => ?_; ((repeat (rw [Qa]; simp)); (try simp only [zs])); refine hK _ _ _ ?_; clear hK K)
  refine pF rfl ?_
  refine Qs (hK2 _ _ _ ?_)
  (refine sR fun K hK => ?_; ((repeat (rw [Qa]; simp)); (try simp only [zs])))
  refine cXo [0, 1] true (hp) ?_
  (rintro o hc ⟨ho, rfl⟩; refine ⟨true, ?_⟩; rw [show told true o = _ from ho]; clear ho; simp [zz, okA, Qr, Qq, hOf, Qe, Out.ren, told, Out.fgt, upO, Qi, Qj])
  ((try simp only [Qb, Qc, Qn, Qi, Qj]); (repeat (rw [Qa]; simp)); (try simp only [zs]))
  (refine hK _ _ _ ?_; clear hK K)
  (refine Qo ?_; (try simp only [zs]); refine Wa.ret rfl (.inr ⟨[], by decide, by simp, ?_⟩); simp [Out.mov, Wg, Wh, Wj, D.mov, HO.mov, okM, Wi, We, zz, okA, Qr, Qq, hOf, Qe, Qt, Out.fgt, D.fgt, D.fgts])
  first | done | simp [Qd v]
 ·rw [e] at hp ⊢
  generalize Wt t = x at hp hx0
  have hEx := Qd x
  rw [hEx, Qd t, hk] at hp
  rw [Qd t] at hsp
  subst hx0
  rw [show (Wl : T).k = 0 from rfl, show (Wl : T).n = 0 from rfl, show (Wl : T).a = 0 from rfl, show (Wl : T).ls = [] from rfl, show (Wl : T).ks = [] from rfl, List.map_nil, List.map_nil] at hp
  rw [Qd t]
  unfold Wk headD Cs Wo goneD at hp
  unfold Wk headD Cs Wo goneD
  refine Qu.movd Qf (Qp Wc Tryz.func81 rfl (Qw _ _ Tryz.func81 rfl (by decide)) rfl rfl ?_)
  (refine sR fun K hK => ?_; ((repeat (rw [Qa]; simp)); (try simp only [zs])); refine hK _ _ _ ?_; clear hK K)
  (refine sR fun K hK => ?_; ((repeat (rw [Qa]; simp)); (try simp only [zs])))
  refine cXp (hsp) ?_
  ((try simp only [Qb, Qc, Qn, Qi, Qj]); (repeat (rw [Qa]; simp)); (try simp only [zs]))
  (refine hK _ _ _ ?_; clear hK K)
  (refine Qg fun K hK => ?_; refine dR fun KT hKT => ?_; ((repeat (rw [Qh]; simp [hk])); (try simp only [Qk])))
  (refine hKT _ _ _ _ (by kernel_rfl) ?_; clear hKT KT; (try simp only [zs]))
  (refine hK _ _ _ ?_; clear hK K)
  refine Qg fun K1 hK1 => ?_
  (refine sR fun K hK => ?_; ((repeat (rw [Qa]; simp [hk])); (try simp only [zs])); refine hK _ _ _ ?_; clear hK K)
  refine pF rfl ?_
  refine Qs (hK1 _ _ _ ?_)
  (refine sR fun K hK => ?_; ((repeat (rw [Qa]; simp)); (try simp only [zs])); refine hK _ _ _ ?_; clear hK K)
  refine Qg fun K2 hK2 => ?_
  (refine sR fun K hK => ?_; ((repeat (rw [Qa]; simp)); (try simp only [zs])); refine hK _ _ _ ?_; clear hK K)
  refine pF rfl ?_
  refine Qs (hK2 _ _ _ ?_)
  (refine sR fun K hK => ?_; ((repeat (rw [Qa]; simp)); (try simp only [zs])))
  refine cXo [0, 1] true (hp) ?_
  (rintro o hc ⟨rfl, rfl⟩; refine ⟨false, ?_⟩; simp [zz, okA, Qr, Qq, hOf, Qe, Out.ren, told, Out.fgt, upO, Qi, Qj])
  ((try simp only [zs]); refine Wa.pan (.inr ⟨[], by decide, by simp, ?_⟩); simp [Out.mov, Wg, Wh, Wj, D.mov, HO.mov, okM, Wi, We, zz, okA, Qr, Qq, hOf, Qe, Qt, Out.fgt, D.fgt, D.fgts])
theorem step_24n (left : Int) (l : List C) (once done : Bool) (hl : left <= 9223372036854775807) (t : T) (ht : okS t) (hk : t.k = 24) (hs : spot t = none) : Qu Tryz.prog glob 81 [.box 0 0, Qx t] (Wk left l once done) (OwnP left l once done t (ownS l t (Wt t))) := by
 have hw : ownS l t (Wt t) = none := by
  unfold ownS
  rw [if_neg (by omega), if_neg (by omega), if_neg (by omega), if_neg (by omega), if_neg (by omega), if_neg (by omega), if_neg (by rw [hs]; simp)]
 rw [hw]
 have hsp := spot_spec t ht.1.kl
 obtain ⟨p, q, hpq⟩ := spotO_none hs
 rw [hpq] at hsp
 unfold OwnP Wk headD Cs Wo
 rw [Qd t] at hsp
 rw [Qd t]
 refine Qu.movd Qf (Qp Wc Tryz.func81 rfl (Qw _ _ Tryz.func81 rfl (by decide)) rfl rfl ?_)
 (refine sR fun K hK => ?_; ((repeat (rw [Qa]; simp)); (try simp only [zs])); refine hK _ _ _ ?_; clear hK K)
 (refine sR fun K hK => ?_; ((repeat (rw [Qa]; simp)); (try simp only [zs])))
 refine cXp (hsp) ?_
 ((try simp only [Qb, Qc, Qn, Qi, Qj]); (repeat (rw [Qa]; simp)); (try simp only [zs]))
 (refine hK _ _ _ ?_; clear hK K)
 (refine Qg fun K hK => ?_; refine dR fun KT hKT => ?_; ((repeat (rw [Qh]; simp [hk])); (try simp only [Qk])))
 (refine hKT _ _ _ _ (by kernel_rfl) ?_; clear hKT KT; (try simp only [zs]))
 (refine hK _ _ _ ?_; clear hK K)
 refine Qg fun K1 hK1 => ?_
 (refine sR fun K hK => ?_; ((repeat (rw [Qa]; simp [hk])); (try simp only [zs])); refine hK _ _ _ ?_; clear hK K)
 refine pT rfl ?_
 (refine sR fun K hK => ?_; ((repeat (rw [Qa]; simp)); (try simp only [zs])); refine hK _ _ _ ?_; clear hK K)
 (refine Qo ?_; (try simp only [zs]); refine Wa.ret rfl (.inr ⟨[], by decide, by simp, ?_⟩); simp [Out.mov, Wg, Wh, Wj, D.mov, HO.mov, okM, Wi, We, zz, okA, Qr, Qq, hOf, Qe, Qt, Out.fgt, D.fgt, D.fgts])
 first | done | simp [Qd t, hk]
theorem find_no (k : Int) (h6 : ¬ k = 6) (h14 : ¬ k = 14) (h15 : ¬ k = 15) (h7 : ¬ k = 7) (h3 : ¬ k = 3) (h18 : ¬ k = 18) (h21 : ¬ k = 21) (h24 : ¬ k = 24) : findD (.int .i64 k) [(.int .i64 6, .fn (.func 71) [.box 0 0] []), (.int .i64 14, .fn (.func 72) [.box 0 0] []), (.int .i64 15, .fn (.func 72) [.box 0 0] []), (.int .i64 7, .fn (.func 73) [.box 0 0] []),
 (.int .i64 3, .fn (.func 74) [.box 0 0] []), (.int .i64 18, .fn (.func 75) [.box 0 0] []), (.int .i64 21, .fn (.func 76) [.box 0 0] []), (.int .i64 24, .fn (.func 77) [.box 0 0] [])] = none := by
 simp [findD, keyEq, h6, h14, h15, h7, h3, h18, h21, h24]
theorem step_no (left : Int) (l : List C) (once done : Bool) (hl : left <= 9223372036854775807) (t : T) (ht : okS t) (h6 : ¬ t.k = 6) (h14 : ¬ t.k = 14) (h15 : ¬ t.k = 15) (h7 : ¬ t.k = 7) (h3 : ¬ t.k = 3) (h18 : ¬ t.k = 18) (h21 : ¬ t.k = 21) (h24 : ¬ t.k = 24) : Qu Tryz.prog glob 81 [.box 0 0, Qx t] (Wk left l once done) (OwnP left l once done t (ownS l t (Wt t))) := by
 have hw : ownS l t (Wt t) = none := by
  unfold ownS
  rw [if_neg h6, if_neg (by omega), if_neg h7, if_neg h3, if_neg h18, if_neg h21, if_neg (fun h => h24 h.1)]
 rw [hw]
 have hs : spot t = none := by
  unfold spot
  rw [if_neg h6, if_neg (by omega), if_neg h18, if_neg h21, if_neg (fun h => h24 h.1)]
 have hfd := find_no t.k h6 h14 h15 h7 h3 h18 h21 h24
 have hsp := spot_spec t ht.1.kl
 obtain ⟨p, q, hpq⟩ := spotO_none hs
 rw [hpq] at hsp
 unfold OwnP Wk headD Cs Wo
 rw [Qd t] at hsp
 rw [Qd t]
 refine Qu.movd Qf (Qp Wc Tryz.func81 rfl (Qw _ _ Tryz.func81 rfl (by decide)) rfl rfl ?_)
 (refine sR fun K hK => ?_; ((repeat (rw [Qa]; simp)); (try simp only [zs])); refine hK _ _ _ ?_; clear hK K)
 (refine sR fun K hK => ?_; ((repeat (rw [Qa]; simp)); (try simp only [zs])))
 refine cXp (hsp) ?_
 ((try simp only [Qb, Qc, Qn, Qi, Qj]); (repeat (rw [Qa]; simp)); (try simp only [zs]))
 (refine hK _ _ _ ?_; clear hK K)
 (refine Qg fun K hK => ?_; refine dR fun KT hKT => ?_; ((repeat (rw [Qh]; simp [hfd, isIntK, h24])); (try simp only [Qk])))
 (refine hKT _ _ _ _ (by kernel_rfl) ?_; clear hKT KT; (try simp only [zs]))
 (refine hK _ _ _ ?_; clear hK K)
 refine Qg fun K1 hK1 => ?_
 (refine sR fun K hK => ?_; ((repeat (rw [Qa]; simp [hfd, isIntK, h24])); (try simp only [zs])); refine hK _ _ _ ?_; clear hK K)
 refine pT rfl ?_
 (refine sR fun K hK => ?_; ((repeat (rw [Qa]; simp)); (try simp only [zs])); refine hK _ _ _ ?_; clear hK K)
 (refine Qo ?_; (try simp only [zs]); refine Wa.ret rfl (.inr ⟨[], by decide, by simp, ?_⟩); simp [Out.mov, Wg, Wh, Wj, D.mov, HO.mov, okM, Wi, We, zz, okA, Qr, Qq, hOf, Qe, Qt, Out.fgt, D.fgt, D.fgts])
 first | done | simp [Qd t]
theorem step_spec (left : Int) (l : List C) (once done : Bool) (hl : left <= 9223372036854775807) (hcs : okCs l) (t : T) (ht : okS t) : Qu Tryz.prog glob 81 [.box 0 0, Qx t] (Wk left l once done) (OwnP left l once done t (ownS l t (Wt t))) := by
 have hz : okS Wl := ⟨zero_ok, by rw [pot_zero]; unfold PM; omega⟩
 have hx : okS (Wt t) := by
  rcases spot_of t with h | ⟨i, many, h⟩
  ·rw [placeX_none h]; exact hz
  ·rw [placeX_some h]; exact ht.kid i
 by_cases h6 : t.k = 6
 ·exact step_6 left l once done hl t ht h6 (i := 0) (many := 2) (by unfold spot; rw [if_pos h6]) (happ_spec left l once done hl t _ ht hx h6)
 by_cases h14 : t.k = 14
 ·exact step_14 left l once done hl t ht h14 (i := 0) (many := 1) (by unfold spot; rw [if_neg h6, if_pos (.inl h14)]) (hhalf_spec left l once done hl t _ hx (.inl h14))
 by_cases h15 : t.k = 15
 ·exact step_15 left l once done hl t ht h15 (i := 0) (many := 1) (by unfold spot; rw [if_neg h6, if_pos (.inr h15)]) (hhalf_spec left l once done hl t _ hx (.inr h15))
 have h145 : ¬ (t.k = 14 \/ t.k = 15) := by omega
 by_cases h18 : t.k = 18
 ·exact step_18 left l once done hl t ht h18 (i := 4) (many := 5) (by unfold spot; rw [if_neg h6, if_neg h145, if_pos h18]) (htree_spec left l once done hl t _ ht hx h18)
 by_cases h21 : t.k = 21
 ·exact step_21 left l once done hl t ht h21 (i := 5) (many := 6) (by unfold spot; rw [if_neg h6, if_neg h145, if_neg h18, if_pos h21]) (hpath_spec left l once done hl t _ ht h21)
 by_cases h24 : t.k = 24
 ·rcases spot_of t with h | ⟨i, many, h⟩
  ·exact step_24n left l once done hl t ht h24 h
  ·exact step_24 left l once done hl t ht h24 h (hbranch_spec left l once done hl t _ ht hx h24 (by rw [h]; rfl))
 have hs : spot t = none := by unfold spot; rw [if_neg h6, if_neg h145, if_neg h18, if_neg h21, if_neg (fun h => h24 h.1)]
 by_cases h7 : t.k = 7
 ·exact step_7 left l once done hl t ht h7 hs (hlet_spec left l once done hl t _ ht h7)
 by_cases h3 : t.k = 3
 ·exact step_3 left l once done hl t ht h3 hs (hconst_spec left l once done hl hcs t _ ht h3)
 exact step_no left l once done hl t ht h6 h14 h15 h7 h3 h18 h21 h24
theorem head_spec {l : List C} (hcs : okCs l) (N : Nat) : ∀ (k : Nat) (t : T) (left : Int) (done : Bool) (P : Out -> List HO -> Prop), 0 <= left -> left.toNat = N -> mu t = k -> okT t -> t.pot + 7 * left.toNat <= PM -> RunH l t left done P ->
  Qu Tryz.prog glob 43 [.box 0 0, Qx t] (Wk left l false done) P := by
 induction N using Nat.strongRecOn with
 | ind N ihN =>
 intro k
 induction k using Nat.strongRecOn with
 | ind k ihk =>
 intro t left done P h0 hN hk ht hpot hrun
 have hrec : ∀ (t' : T) (lf : Int) (d : Bool) (P' : Out -> List HO -> Prop), 0 <= lf -> (lf < left \/ (lf = left /\ mu t' < mu t)) -> okT t' -> t'.pot + 7 * lf.toNat <= PM -> RunH l t' lf d P' -> Qu Tryz.prog glob 43 [.box 0 0, Qx t'] (Wk lf l false d) P' := by
  intro t' lf d P' g0 gc gt gp gr
  rcases gc with gc | ⟨rfl, gc⟩
  ·exact ihN lf.toNat (by omega) (mu t') t' lf d P' g0 rfl rfl gt gp gr
  ·exact ihk (mu t') (by omega) t' lf d P' g0 hN rfl gt gp gr
 clear ihN ihk
 rw [Qd t]
 unfold Wk headD Cs Wo
 refine Qu.movd Qf (Qp Wc Tryz.func43 rfl (Qw _ _ Tryz.func43 rfl (by decide)) rfl rfl ?_)
 (refine sR fun K hK => ?_; ((repeat (rw [Qa]; simp)); (try simp only [zs])); refine hK _ _ _ ?_; clear hK K)
 refine Wy ?_
 refine wpD_loopMJ Qf [5, 6, 7, 8, 9, 10, 11, 12, 13, 14, 15, 16, 17, 18, 19, 20, 21, 22, 23, 24, 25, 26, 27, 28, 29, 30, 31, 32, 33, 34, 35, 36, 37, 38, 39, 40, 41, 42, 43, 44, 45, 46, 47, 48, 49, 50, 51, 52, 53, 54] [] (fun n ys hl => ∃ (t' : T) (lf : Int) (d : Bool), ys = [] /\ n = lf.toNat /\ 0 <= lf /\ (lf = left /\ t' = t \/ lf < left) /\ okT t' /\ t'.pot + 7 * lf.toNat <= PM /\ RunH l t' lf d P /\ hl = [.cells 76 [.int .i64 lf, .slice (l.map encC) .any, .bool false, .bool d, .map 1], .mp [(.int .i64 6, .fn (.func 71) [.box 0 0] []), (.int .i64 14, .fn (.func 72) [.box 0 0] []), (.int .i64 15, .fn (.func 72) [.box 0 0] []), (.int .i64 7, .fn (.func 73) [.box 0 0] []), (.int .i64 3, .fn (.func 74) [.box 0 0] []), (.int .i64 18, .fn (.func 75) [.box 0 0] []), (.int .i64 21, .fn (.func 76) [.box 0 0] []), (.int .i64 24, .fn (.func 77) [.box 0 0] [])], .cells 27 [.int .i64 t'.k, .int .i64 t'.n, .int .i64 t'.a, .slice (t'.ls.map Wm) .any, .slice (t'.ks.map Qx) .any], .cells 27 [.int .i64 0, .int .i64 0, .int .i64 0, .slice [] .full, .slice [] .full]]) (left.toNat) (by kernel_rfl) ?_ ?_
 ·exact ⟨t, left, done, rfl, rfl, h0, .inl ⟨rfl, rfl⟩, ht, hpot, hrun, rfl⟩
 ·rintro n ys hl A hA hA2 ⟨t', lf, d, rfl, hn, h0', hcase, ht', hp', hrun', rfl⟩
  have hle : lf <= left := by omega
  have hlf : lf <= 9223372036854775807 := by unfold PM at hp'; omega
  simp only [Qv, List.set, List.map_cons, List.map_nil, List.cons_append, List.nil_append]
  refine Wy ?_
  refine wpD_seqE (α := T × Int × Bool) [5, 6, 7, 10, 11, 12, 13, 14, 15, 16, 17, 18, 19, 20, 21, 22, 23, 24, 25, 26, 27, 28, 29, 30, 31, 32, 33, 34, 35] (fun _ => [5, 6, 7, 10, 11, 12, 13, 14, 15, 16, 17, 18, 19, 20, 21, 22, 23, 24, 25, 26, 27, 28, 29, 30, 31, 32, 33, 34, 35].map fun _ => .junk) (fun a => [.cells 76 [.int .i64 a.2.1, .slice (l.map encC) .any, .bool false, .bool a.2.2, .map 1], .mp [(.int .i64 6, .fn (.func 71) [.box 0 0] []), (.int .i64 14, .fn (.func 72) [.box 0 0] []), (.int .i64 15, .fn (.func 72) [.box 0 0] []), (.int .i64 7, .fn (.func 73) [.box 0 0] []), (.int .i64 3, .fn (.func 74) [.box 0 0] []), (.int .i64 18, .fn (.func 75) [.box 0 0] []), (.int .i64 21, .fn (.func 76) [.box 0 0] []), (.int .i64 24, .fn (.func 77) [.box 0 0] [])], .cells 27 [.int .i64 a.1.k, .int .i64 a.1.n, .int .i64 a.1.a, .slice (a.1.ls.map Wm) .any, .slice (a.1.ks.map Qx) .any], .cells 27 [.int .i64 0, .int .i64 0, .int .i64 0, .slice [] .full, .slice [] .full]]) (fun a => 0 <= a.2.1 /\ a.2.1 <= lf /\ okT a.1 /\ a.1.pot + 7 * a.2.1.toNat <= PM /\ RunH l a.1 a.2.1 a.2.2 P /\ Ready l a.1) ?_ ?_
  rotate_left
  ·intro K hK0
   rcases spot_of t' with hs | ⟨i, many, hs⟩
   ·obtain ⟨p, q, hpq⟩ := spotO_none hs
    have hsp := spot_spec t' ht'.kl
    rw [hpq, Qd t'] at hsp
    (refine sR fun K hK => ?_; ((repeat (rw [Qa]; simp)); (try simp only [zs])))
    refine cXp (hsp) ?_
    ((try simp only [Qb, Qc, Qn, Qi, Qj]); (repeat (rw [Qa]; simp)); (try simp only [zs]))
    (refine hK _ _ _ ?_; clear hK K)
    (refine sR fun K hK => ?_; ((repeat (rw [Qa]; simp)); (try simp only [zs])); refine hK _ _ _ ?_; clear hK K)
    refine pF rfl ?_
    refine Qs (hK0 (t', lf, d) _ ⟨h0', Int.le_refl _, ht', hp', hrun', .none hs⟩ ?_)
    simp [leT, Qv]
   ·have hsp := spot_spec t' ht'.kl
    rw [spotO_some hs ht'.kl, Qd t'] at hsp
    have hki := Xy t' i i rfl
    have hmu := mu_kid hs
    have hkp := kid_pot t' i
    have hcs2 : lf < left \/ (lf = left /\ mu (t'.kid i) < mu t) := by
     rcases hcase with ⟨e1, e2⟩ | h
     ·subst e2; exact .inr ⟨e1, hmu⟩
     ·exact .inl h
    rcases hrun'.place h0' hs with ⟨q, hq, hP⟩ | ⟨m, v, hv, hm, hrd, hrun2⟩
    ·subst hP
     have hre := hrec (t'.kid i) lf d GoneP h0' hcs2 (kid_ok ht' i) (by omega) (.gone hq)
     generalize t'.kid i = y at hki hre
     rw [Qd t', Qd y] at hki
     rw [Qd y] at hre
     unfold GoneP Wk headD Cs Wo goneD at hre
     (refine sR fun K hK => ?_; ((repeat (rw [Qa]; simp)); (try simp only [zs])))
     refine cXp (hsp) ?_
     ((try simp only [Qb, Qc, Qn, Qi, Qj]); (repeat (rw [Qa]; simp)); (try simp only [zs]))
     (refine hK _ _ _ ?_; clear hK K)
     (refine sR fun K hK => ?_; ((repeat (rw [Qa]; simp)); (try simp only [zs])); refine hK _ _ _ ?_; clear hK K)
     refine pT rfl ?_
     (refine Qg fun K hK => ?_; refine dR fun KT hKT => ?_; ((repeat (rw [Qh]; simp)); (try simp only [Qk])))
     refine cYp (hki) ?_
     ((try simp only [Ql, Qm, Qn, Qi, Qj]); (repeat (rw [Qh]; simp)); (try simp only [Qk]))
     refine cYo [0, 1] true false (hre) (fun o h e => e) ?_; simp [zz, okA, Qr, Qq, hOf, Qe, Out.ren, upO, Qq, rdO]
     (try simp only [Ql, Qm, Qn, Qi, Qj])
     (rw [Qh, if_neg (Bool.eq_false_iff.mp (by kernel_rfl))]; simp)
     (rw [Qh, if_neg (Bool.eq_false_iff.mp (by kernel_rfl))]; simp)
     ((try simp only [Ql, Qm, Qn, Qi, Qj]); (repeat (refine wpT_late _ _ _ _ (by kernel_rfl) ?_; simp only [Qn, List.set, List.nil_append, List.cons_append, Nat.reduceAdd])); (try simp only [Qk]))
     (refine hKT _ _ _ _ (by kernel_rfl) ?_; clear hKT KT; (try simp only [zs]))
     simp [killHl]
     ((try simp only [zs]); refine Wa.pan (.inr ⟨[], by decide, by simp, ?_⟩); simp [Out.mov, Wg, Wh, Wj, D.mov, HO.mov, okM, Wi, We, zz, okA, Qr, Qq, hOf, Qe, Qt, Out.fgt, D.fgt, D.fgts])
     exact ⟨rfl, rfl⟩
    ·have hre := hrec (t'.kid i) lf d _ h0' hcs2 (kid_ok ht' i) (by omega) (.fin hv hm)
     have hw := with_spec t' v i many (spot_many hs ht')
     have hvo := hv.ok hcs.ok (kid_ok ht' i)
     have hvp := hv.pot
     have hwp := with_pot (x := v) hs
     have hwo := with_ok (i := i) ht' hvo (spot_many hs ht')
     generalize hy : t'.kid i = y at hki hre hvp hwp hkp
     generalize hu : t'.withT v i many = u at hw hrd hrun2 hwp hwo
     rw [Qd t', Qd y] at hki
     unfold RetP Wk headD Cs Wo at hre
     rw [Qd y, Qd v] at hre
     rw [Qd t', Qd v, Qd u] at hw
     generalize hd1 : (d || decide (0 < m)) = d1 at hre hrun2
     (refine sR fun K hK => ?_; ((repeat (rw [Qa]; simp)); (try simp only [zs])))
     refine cXp (hsp) ?_
     ((try simp only [Qb, Qc, Qn, Qi, Qj]); (repeat (rw [Qa]; simp)); (try simp only [zs]))
     (refine hK _ _ _ ?_; clear hK K)
     (refine sR fun K hK => ?_; ((repeat (rw [Qa]; simp)); (try simp only [zs])); refine hK _ _ _ ?_; clear hK K)
     refine pT rfl ?_
     (refine Qg fun K hK => ?_; refine dR fun KT hKT => ?_; ((repeat (rw [Qh]; simp)); (try simp only [Qk])))
     refine cYp (hki) ?_
     ((try simp only [Ql, Qm, Qn, Qi, Qj]); (repeat (rw [Qh]; simp)); (try simp only [Qk]))
     refine cYo [0, 1] true true (hre) (fun o h e => e) ?_; simp [zz, okA, Qr, Qq, hOf, Qe, Out.ren, upO, Qq, rdO]
     ((try simp only [Ql, Qm, Qn, Qi, Qj]); (repeat (rw [Qh]; simp)); (try simp only [Qk]))
     refine cYp (hw) ?_
     ((try simp only [Ql, Qm, Qn, Qi, Qj]); (repeat (rw [Qh]; simp)); (try simp only [Qk]))
     (refine hKT _ _ _ _ (by kernel_rfl) ?_; clear hKT KT; (try simp only [zs]))
     (refine hK _ _ _ ?_; clear hK K)
     (refine sR fun K hK => ?_; ((repeat (rw [Qa]; simp)); (try simp only [zs])); refine hK _ _ _ ?_; clear hK K)
     refine pF rfl ?_
     refine Qs (hK0 (u, lf - m, d1) _ ⟨by simp only; omega, by simp only; omega, hwo, by simp only; omega, hrun2, hrd⟩ ?_)
     simp [leT, Qv]
  ·rintro ⟨t1, lf1, d1⟩ ⟨g0, gle, gt, gp, grun, grd⟩
   simp only at g0 gle gt gp grun grd
   simp only [Qv, List.set, List.map_cons, List.map_nil, List.cons_append, List.nil_append]
   have hst := step_spec lf1 l false d1 (by omega) hcs t1 ⟨gt, by omega⟩
   have hown := grun.own grd
   have hrd := grd.1
   cases ho : ownS l t1 (Wt t1) with
   | none =>
    rw [ho] at hst hown
    simp only at hown
    subst hown
    unfold OwnP Wk headD Cs Wo at hst
    rw [Qd t1] at hst
    (refine sR fun K hK => ?_; ((repeat (rw [Qa]; simp)); (try simp only [zs])))
    refine cXo [0, 1] true (hst) ?_
    (rintro o hc ⟨ho, rfl⟩; refine ⟨true, ?_⟩; rw [show told true o = _ from ho]; clear ho; simp [zz, okA, Qr, Qq, hOf, Qe, Out.ren, told, Out.fgt, upO, Qi, Qj])
    ((try simp only [Qb, Qc, Qn, Qi, Qj]); (repeat (rw [Qa]; simp)); (try simp only [zs]))
    (refine hK _ _ _ ?_; clear hK K)
    refine Qg fun K1 hK1 => ?_
    (refine sR fun K hK => ?_; ((repeat (rw [Qa]; simp)); (try simp only [zs])); refine hK _ _ _ ?_; clear hK K)
    refine pT rfl ?_
    (refine sR fun K hK => ?_; ((repeat (rw [Qa]; simp)); (try simp only [zs])); refine hK _ _ _ ?_; clear hK K)
    (refine Qo ?_; (try simp only [zs]); refine Wa.ret rfl (.inr ⟨[], by decide, by simp, ?_⟩); simp [Out.mov, Wg, Wh, Wj, D.mov, HO.mov, okM, Wi, We, zz, okA, Qr, Qq, hOf, Qe, Qt, Out.fgt, D.fgt, D.fgts])
    refine ⟨?_, rfl⟩
    simp [Out.fgt, Qd t1, D.fgt, D.fgts]
   | some p =>
    obtain ⟨w, c⟩ := p
    rw [ho] at hst hown hrd
    simp only at hown
    unfold OwnP at hst
    simp only at hst
    by_cases hc : (c : Int) <= lf1
    ·rw [if_pos hc] at hown
     rw [Cost_ok hc] at hst
     unfold Wk headD Cs Wo at hst
     rw [Qd t1, Qd w] at hst
     have hpos := hstep_pos t1 hrd
     have hwo := hstep_ok hcs.ok t1 gt hrd
     have hwp := hstep_pot t1 hrd
     (refine sR fun K hK => ?_; ((repeat (rw [Qa]; simp)); (try simp only [zs])))
     refine cXo [0, 1] true (hst) ?_
     (rintro o hc ⟨ho, rfl⟩; refine ⟨true, ?_⟩; rw [show told true o = _ from ho]; clear ho; simp [zz, okA, Qr, Qq, hOf, Qe, Out.ren, told, Out.fgt, upO, Qi, Qj])
     ((try simp only [Qb, Qc, Qn, Qi, Qj]); (repeat (rw [Qa]; simp)); (try simp only [zs]))
     (refine hK _ _ _ ?_; clear hK K)
     refine Qg fun K1 hK1 => ?_
     (refine sR fun K hK => ?_; ((repeat (rw [Qa]; simp)); (try simp only [zs])); refine hK _ _ _ ?_; clear hK K)
     refine pF rfl ?_
     refine Qs (hK1 _ _ _ ?_)
     (refine sR fun K hK => ?_; ((repeat (rw [Qa]; simp)); (try simp only [zs])); refine hK _ _ _ ?_; clear hK K)
     (refine sR fun K hK => ?_; ((repeat (rw [Qa]; simp)); (try simp only [zs])); refine hK _ _ _ ?_; clear hK K)
     refine pF rfl ?_
     refine Qs ?_
     (refine hA2 ([2, 3]) ((lf1 - c).toNat) _ _ _ (LeT.refl _) (by decide) (by simp) (by omega) (by simp [Wg, Wh, Wj, D.mov, HO.mov, okM, Wi, We, zz, okA, Qr, Qq, hOf, Qe, Qv]) ?_; simp [Wg, Wh, Wj, D.mov, HO.mov, okM, Wi, We, zz, okA, Qr, Qq, hOf, Qe])
     exact ⟨w, lf1 - c, by omega, by omega, .inr (by omega), hwo, by omega, hown, rfl, rfl, rfl, rfl, rfl, rfl⟩
    ·rw [if_neg hc] at hown
     subst hown
     rw [Cost_no hc] at hst
     unfold Wk headD Cs Wo goneD at hst
     rw [Qd t1] at hst
     (refine sR fun K hK => ?_; ((repeat (rw [Qa]; simp)); (try simp only [zs])))
     refine cXo [0, 1] true (hst) ?_
     (rintro o hc ⟨rfl, rfl⟩; refine ⟨false, ?_⟩; simp [zz, okA, Qr, Qq, hOf, Qe, Out.ren, told, Out.fgt, upO, Qi, Qj])
     ((try simp only [zs]); refine Wa.pan (.inr ⟨[], by decide, by simp, ?_⟩); simp [Out.mov, Wg, Wh, Wj, D.mov, HO.mov, okM, Wi, We, zz, okA, Qr, Qq, hOf, Qe, Qt, Out.fgt, D.fgt, D.fgts])
     exact ⟨rfl, rfl⟩
def OneP (l : List C) (t : T) (left : Int) : Out -> List HO -> Prop := match Xe l t with
 | none => fun o hc => o.fgt = .ret (Qx t.trunc) /\ hc = Wk left l true false
 | some p => if (p.2 : Int) <= left then fun o hc => o.fgt = .ret (Qx p.1) /\ hc = Wk (left - p.2) l true true else GoneP
theorem OneP_none {l : List C} {t : T} {left : Int} (h : Xe l t = none) : OneP l t left = fun o hc => o.fgt = .ret (Qx t.trunc) /\ hc = Wk left l true false := by unfold OneP; rw [h]
theorem OneP_some {l : List C} {t u : T} {c : Nat} {left : Int} (h : Xe l t = some (u, c)) (hc : (c : Int) <= left) : OneP l t left = fun o hc => o.fgt = .ret (Qx u) /\ hc = Wk (left - c) l true true := by unfold OneP; rw [h]; exact if_pos hc
theorem OneP_gone {l : List C} {t u : T} {c : Nat} {left : Int} (h : Xe l t = some (u, c)) (hc : ¬ (c : Int) <= left) : OneP l t left = GoneP := by unfold OneP; rw [h]; exact if_neg hc
theorem headO_spec {l : List C} (hcs : okCs l) (left : Int) (hlf : left <= 9223372036854775807) (k : Nat) : ∀ (t : T), mu t = k -> okS t -> Qu Tryz.prog glob 43 [.box 0 0, Qx t] (Wk left l true false) (OneP l t left) := by
 induction k using Nat.strongRecOn with
 | ind k ihk =>
 intro t hk ht
 rw [Qd t]
 unfold Wk headD Cs Wo
 refine Qu.movd Qf (Qp Wc Tryz.func43 rfl (Qw _ _ Tryz.func43 rfl (by decide)) rfl rfl ?_)
 (refine sR fun K hK => ?_; ((repeat (rw [Qa]; simp)); (try simp only [zs])); refine hK _ _ _ ?_; clear hK K)
 refine Wy ?_
 refine wpD_loopMJ Qf [5, 6, 7, 8, 9, 10, 11, 12, 13, 14, 15, 16, 17, 18, 19, 20, 21, 22, 23, 24, 25, 26, 27, 28, 29, 30, 31, 32, 33, 34, 35, 36, 37, 38, 39, 40, 41, 42, 43, 44, 45, 46, 47, 48, 49, 50, 51, 52, 53, 54] [] (fun n ys hl => ys = [] /\ hl = [.cells 76 [.int .i64 left, .slice (l.map encC) .any, .bool true, .bool false, .map 1], .mp [(.int .i64 6, .fn (.func 71) [.box 0 0] []), (.int .i64 14, .fn (.func 72) [.box 0 0] []), (.int .i64 15, .fn (.func 72) [.box 0 0] []), (.int .i64 7, .fn (.func 73) [.box 0 0] []), (.int .i64 3, .fn (.func 74) [.box 0 0] []), (.int .i64 18, .fn (.func 75) [.box 0 0] []), (.int .i64 21, .fn (.func 76) [.box 0 0] []), (.int .i64 24, .fn (.func 77) [.box 0 0] [])], .cells 27 [.int .i64 t.k, .int .i64 t.n, .int .i64 t.a, .slice (t.ls.map Wm) .any, .slice (t.ks.map Qx) .any], .cells 27 [.int .i64 0, .int .i64 0, .int .i64 0, .slice [] .full, .slice [] .full]]) (0) (by kernel_rfl) ?_ ?_
 ·exact ⟨rfl, rfl⟩
 ·rintro n ys hl A hA hA2 ⟨rfl, rfl⟩
  simp only [Qv, List.set, List.map_cons, List.map_nil, List.cons_append, List.nil_append]
  refine Wy ?_
  refine wpD_seqE (α := T) [5, 6, 7, 10, 11, 12, 13, 14, 15, 16, 17, 18, 19, 20, 21, 22, 23, 24, 25, 26, 27, 28, 29, 30, 31, 32, 33, 34, 35] (fun _ => [5, 6, 7, 10, 11, 12, 13, 14, 15, 16, 17, 18, 19, 20, 21, 22, 23, 24, 25, 26, 27, 28, 29, 30, 31, 32, 33, 34, 35].map fun _ => .junk) (fun a => [.cells 76 [.int .i64 left, .slice (l.map encC) .any, .bool true, .bool false, .map 1], .mp [(.int .i64 6, .fn (.func 71) [.box 0 0] []), (.int .i64 14, .fn (.func 72) [.box 0 0] []), (.int .i64 15, .fn (.func 72) [.box 0 0] []), (.int .i64 7, .fn (.func 73) [.box 0 0] []), (.int .i64 3, .fn (.func 74) [.box 0 0] []), (.int .i64 18, .fn (.func 75) [.box 0 0] []), (.int .i64 21, .fn (.func 76) [.box 0 0] []), (.int .i64 24, .fn (.func 77) [.box 0 0] [])], .cells 27 [.int .i64 a.k, .int .i64 a.n, .int .i64 a.a, .slice (a.ls.map Wm) .any, .slice (a.ks.map Qx) .any], .cells 27 [.int .i64 0, .int .i64 0, .int .i64 0, .slice [] .full, .slice [] .full]]) (fun a => okS a /\ Xe l t = ownS l a (Wt a) /\ (Xe l t = none -> t.trunc = a)) ?_ ?_
  rotate_left
  ·intro K hK0
   rcases spot_of t with hs | ⟨i, many, hs⟩
   ·obtain ⟨p, q, hpq⟩ := spotO_none hs
    have hsp := spot_spec t ht.1.kl
    rw [hpq, Qd t] at hsp
    have hrd := Ready.none (l := l) hs
    (refine sR fun K hK => ?_; ((repeat (rw [Qa]; simp)); (try simp only [zs])))
    refine cXp (hsp) ?_
    ((try simp only [Qb, Qc, Qn, Qi, Qj]); (repeat (rw [Qa]; simp)); (try simp only [zs]))
    (refine hK _ _ _ ?_; clear hK K)
    (refine sR fun K hK => ?_; ((repeat (rw [Qa]; simp)); (try simp only [zs])); refine hK _ _ _ ?_; clear hK K)
    refine pF rfl ?_
    refine Qs (hK0 t _ ⟨ht, hrd.1, fun _ => hrd.2⟩ ?_)
    simp [leT, Qv]
   ·have hsp := spot_spec t ht.1.kl
    rw [spotO_some hs ht.1.kl, Qd t] at hsp
    have hki := Xy t i i rfl
    have hmu := mu_kid hs
    have hre := ihk (mu (t.kid i)) (by omega) (t.kid i) rfl (ht.kid i)
    have hmy := spot_many hs ht.1
    cases hst : Xe l (t.kid i) with
    | none =>
     have hkst := kid_stuck hs hst
     have hw := with_spec t (t.kid i).trunc i many hmy
     rw [OneP_none hst] at hre
     have hwp := with_pot (x := (t.kid i).trunc) hs
     have htp := trunc_pot (t.kid i)
     have hwo := with_ok (i := i) ht.1 (trunc_ok _ (kid_ok ht.1 i)) hmy
     have hpl := place_with (x := (t.kid i).trunc) hs
     have hpot := ht.2
     generalize (t.kid i).trunc = v at hre hw hkst hwp htp hwo hpl
     generalize t.kid i = y at hki hre hwp htp
     generalize hu : t.withT v i many = u at hw hkst hwp hwo hpl
     rw [Qd t, Qd y] at hki
     unfold Wk headD Cs Wo at hre
     rw [Qd y, Qd v] at hre
     rw [Qd t, Qd v, Qd u] at hw
     (refine sR fun K hK => ?_; ((repeat (rw [Qa]; simp)); (try simp only [zs])))
     refine cXp (hsp) ?_
     ((try simp only [Qb, Qc, Qn, Qi, Qj]); (repeat (rw [Qa]; simp)); (try simp only [zs]))
     (refine hK _ _ _ ?_; clear hK K)
     (refine sR fun K hK => ?_; ((repeat (rw [Qa]; simp)); (try simp only [zs])); refine hK _ _ _ ?_; clear hK K)
     refine pT rfl ?_
     (refine Qg fun K hK => ?_; refine dR fun KT hKT => ?_; ((repeat (rw [Qh]; simp)); (try simp only [Qk])))
     refine cYp (hki) ?_
     ((try simp only [Ql, Qm, Qn, Qi, Qj]); (repeat (rw [Qh]; simp)); (try simp only [Qk]))
     refine cYo [0, 1] true true (hre) (fun o h e => e) ?_; simp [zz, okA, Qr, Qq, hOf, Qe, Out.ren, upO, Qq, rdO]
     ((try simp only [Ql, Qm, Qn, Qi, Qj]); (repeat (rw [Qh]; simp)); (try simp only [Qk]))
     refine cYp (hw) ?_
     ((try simp only [Ql, Qm, Qn, Qi, Qj]); (repeat (rw [Qh]; simp)); (try simp only [Qk]))
     (refine hKT _ _ _ _ (by kernel_rfl) ?_; clear hKT KT; (try simp only [zs]))
     (refine hK _ _ _ ?_; clear hK K)
     (refine sR fun K hK => ?_; ((repeat (rw [Qa]; simp)); (try simp only [zs])); refine hK _ _ _ ?_; clear hK K)
     refine pF rfl ?_
     refine Qs (hK0 u _ ⟨⟨hwo, by omega⟩, by rw [hkst.1, hpl], fun _ => hkst.2⟩ ?_)
     simp [leT, Qv]
    | some p =>
     obtain ⟨v, c⟩ := p
     have hks := kid_step hs hst
     by_cases hc : (c : Int) <= left
     ·rw [OneP_some hst hc] at hre
      have hw := with_spec t v i many hmy
      have hO := OneP_some hks hc
      generalize t.kid i = y at hki hre
      generalize hu : t.withT v i many = u at hw hO
      rw [Qd t, Qd y] at hki
      unfold Wk headD Cs Wo at hre
      rw [Qd y, Qd v] at hre
      rw [Qd t, Qd v, Qd u] at hw
      (refine sR fun K hK => ?_; ((repeat (rw [Qa]; simp)); (try simp only [zs])))
      refine cXp (hsp) ?_
      ((try simp only [Qb, Qc, Qn, Qi, Qj]); (repeat (rw [Qa]; simp)); (try simp only [zs]))
      (refine hK _ _ _ ?_; clear hK K)
      (refine sR fun K hK => ?_; ((repeat (rw [Qa]; simp)); (try simp only [zs])); refine hK _ _ _ ?_; clear hK K)
      refine pT rfl ?_
      (refine Qg fun K hK => ?_; refine dR fun KT hKT => ?_; ((repeat (rw [Qh]; simp)); (try simp only [Qk])))
      refine cYp (hki) ?_
      ((try simp only [Ql, Qm, Qn, Qi, Qj]); (repeat (rw [Qh]; simp)); (try simp only [Qk]))
      refine cYo [0, 1] true true (hre) (fun o h e => e) ?_; simp [zz, okA, Qr, Qq, hOf, Qe, Out.ren, upO, Qq, rdO]
      ((try simp only [Ql, Qm, Qn, Qi, Qj]); (repeat (rw [Qh]; simp)); (try simp only [Qk]))
      refine cYp (hw) ?_
      ((try simp only [Ql, Qm, Qn, Qi, Qj]); (repeat (rw [Qh]; simp)); (try simp only [Qk]))
      (refine hKT _ _ _ _ (by kernel_rfl) ?_; clear hKT KT; (try simp only [zs]))
      (refine hK _ _ _ ?_; clear hK K)
      (refine sR fun K hK => ?_; ((repeat (rw [Qa]; simp)); (try simp only [zs])); refine hK _ _ _ ?_; clear hK K)
      refine pT rfl ?_
      (refine sR fun K hK => ?_; ((repeat (rw [Qa]; simp)); (try simp only [zs])); refine hK _ _ _ ?_; clear hK K)
      (refine Qo ?_; (try simp only [zs]); refine Wa.ret rfl (.inr ⟨[], by decide, by simp, ?_⟩); simp [Out.mov, Wg, Wh, Wj, D.mov, HO.mov, okM, Wi, We, zz, okA, Qr, Qq, hOf, Qe, Qt, Out.fgt, D.fgt, D.fgts])
      rw [hO]
      refine ⟨?_, rfl⟩
      simp [Out.fgt, Qd u, D.fgt, D.fgts]
     ·rw [OneP_gone hst hc] at hre
      have hO := OneP_gone hks hc
      generalize t.kid i = y at hki hre
      rw [Qd t, Qd y] at hki
      rw [Qd y] at hre
      unfold GoneP Wk headD Cs Wo goneD at hre
      (refine sR fun K hK => ?_; ((repeat (rw [Qa]; simp)); (try simp only [zs])))
      refine cXp (hsp) ?_
      ((try simp only [Qb, Qc, Qn, Qi, Qj]); (repeat (rw [Qa]; simp)); (try simp only [zs]))
      (refine hK _ _ _ ?_; clear hK K)
      (refine sR fun K hK => ?_; ((repeat (rw [Qa]; simp)); (try simp only [zs])); refine hK _ _ _ ?_; clear hK K)
      refine pT rfl ?_
      (refine Qg fun K hK => ?_; refine dR fun KT hKT => ?_; ((repeat (rw [Qh]; simp)); (try simp only [Qk])))
      refine cYp (hki) ?_
      ((try simp only [Ql, Qm, Qn, Qi, Qj]); (repeat (rw [Qh]; simp)); (try simp only [Qk]))
      refine cYo [0, 1] true false (hre) (fun o h e => e) ?_; simp [zz, okA, Qr, Qq, hOf, Qe, Out.ren, upO, Qq, rdO]
      (try simp only [Ql, Qm, Qn, Qi, Qj])
      (rw [Qh, if_neg (Bool.eq_false_iff.mp (by kernel_rfl))]; simp)
      (rw [Qh, if_neg (Bool.eq_false_iff.mp (by kernel_rfl))]; simp)
      ((try simp only [Ql, Qm, Qn, Qi, Qj]); (repeat (refine wpT_late _ _ _ _ (by kernel_rfl) ?_; simp only [Qn, List.set, List.nil_append, List.cons_append, Nat.reduceAdd])); (try simp only [Qk]))
      (refine hKT _ _ _ _ (by kernel_rfl) ?_; clear hKT KT; (try simp only [zs]))
      simp [killHl]
      ((try simp only [zs]); refine Wa.pan (.inr ⟨[], by decide, by simp, ?_⟩); simp [Out.mov, Wg, Wh, Wj, D.mov, HO.mov, okM, Wi, We, zz, okA, Qr, Qq, hOf, Qe, Qt, Out.fgt, D.fgt, D.fgts])
      rw [hO]
      exact ⟨rfl, rfl⟩
  ·rintro t1 ⟨gt, gown, gtr⟩
   simp only [Qv, List.set, List.map_cons, List.map_nil, List.cons_append, List.nil_append]
   have hst := step_spec left l true false hlf hcs t1 gt
   rw [<- gown] at hst
   cases ho : Xe l t with
   | none =>
    rw [ho] at hst
    have hO := OneP_none (left := left) ho
    rw [gtr ho] at hO
    unfold OwnP Wk headD Cs Wo at hst
    rw [Qd t1] at hst
    (refine sR fun K hK => ?_; ((repeat (rw [Qa]; simp)); (try simp only [zs])))
    refine cXo [0, 1] true (hst) ?_
    (rintro o hc ⟨ho, rfl⟩; refine ⟨true, ?_⟩; rw [show told true o = _ from ho]; clear ho; simp [zz, okA, Qr, Qq, hOf, Qe, Out.ren, told, Out.fgt, upO, Qi, Qj])
    ((try simp only [Qb, Qc, Qn, Qi, Qj]); (repeat (rw [Qa]; simp)); (try simp only [zs]))
    (refine hK _ _ _ ?_; clear hK K)
    refine Qg fun K1 hK1 => ?_
    (refine sR fun K hK => ?_; ((repeat (rw [Qa]; simp)); (try simp only [zs])); refine hK _ _ _ ?_; clear hK K)
    refine pT rfl ?_
    (refine sR fun K hK => ?_; ((repeat (rw [Qa]; simp)); (try simp only [zs])); refine hK _ _ _ ?_; clear hK K)
    (refine Qo ?_; (try simp only [zs]); refine Wa.ret rfl (.inr ⟨[], by decide, by simp, ?_⟩); simp [Out.mov, Wg, Wh, Wj, D.mov, HO.mov, okM, Wi, We, zz, okA, Qr, Qq, hOf, Qe, Qt, Out.fgt, D.fgt, D.fgts])
    rw [hO]
    refine ⟨?_, rfl⟩
    simp [Out.fgt, Qd t1, D.fgt, D.fgts]
   | some p =>
    obtain ⟨w, c⟩ := p
    rw [ho] at hst
    unfold OwnP at hst
    simp only at hst
    by_cases hc : (c : Int) <= left
    ·have hO := OneP_some ho hc
     rw [Cost_ok hc] at hst
     unfold Wk headD Cs Wo at hst
     rw [Qd t1, Qd w] at hst
     (refine sR fun K hK => ?_; ((repeat (rw [Qa]; simp)); (try simp only [zs])))
     refine cXo [0, 1] true (hst) ?_
     (rintro o hc ⟨ho, rfl⟩; refine ⟨true, ?_⟩; rw [show told true o = _ from ho]; clear ho; simp [zz, okA, Qr, Qq, hOf, Qe, Out.ren, told, Out.fgt, upO, Qi, Qj])
     ((try simp only [Qb, Qc, Qn, Qi, Qj]); (repeat (rw [Qa]; simp)); (try simp only [zs]))
     (refine hK _ _ _ ?_; clear hK K)
     refine Qg fun K1 hK1 => ?_
     (refine sR fun K hK => ?_; ((repeat (rw [Qa]; simp)); (try simp only [zs])); refine hK _ _ _ ?_; clear hK K)
     refine pF rfl ?_
     refine Qs (hK1 _ _ _ ?_)
     (refine sR fun K hK => ?_; ((repeat (rw [Qa]; simp)); (try simp only [zs])); refine hK _ _ _ ?_; clear hK K)
     (refine sR fun K hK => ?_; ((repeat (rw [Qa]; simp)); (try simp only [zs])); refine hK _ _ _ ?_; clear hK K)
     refine pT rfl ?_
     (refine sR fun K hK => ?_; ((repeat (rw [Qa]; simp)); (try simp only [zs])); refine hK _ _ _ ?_; clear hK K)
     (refine Qo ?_; (try simp only [zs]); refine Wa.ret rfl (.inr ⟨[], by decide, by simp, ?_⟩); simp [Out.mov, Wg, Wh, Wj, D.mov, HO.mov, okM, Wi, We, zz, okA, Qr, Qq, hOf, Qe, Qt, Out.fgt, D.fgt, D.fgts])
     rw [hO]
     refine ⟨?_, rfl⟩
     simp [Out.fgt, Qd w, D.fgt, D.fgts]
    ·have hO := OneP_gone ho hc
     rw [Cost_no hc] at hst
     unfold Wk headD Cs Wo goneD at hst
     rw [Qd t1] at hst
     (refine sR fun K hK => ?_; ((repeat (rw [Qa]; simp)); (try simp only [zs])))
     refine cXo [0, 1] true (hst) ?_
     (rintro o hc ⟨rfl, rfl⟩; refine ⟨false, ?_⟩; simp [zz, okA, Qr, Qq, hOf, Qe, Out.ren, told, Out.fgt, upO, Qi, Qj])
     ((try simp only [zs]); refine Wa.pan (.inr ⟨[], by decide, by simp, ?_⟩); simp [Out.mov, Wg, Wh, Wj, D.mov, HO.mov, okM, Wi, We, zz, okA, Qr, Qq, hOf, Qe, Qt, Out.fgt, D.fgt, D.fgts])
     rw [hO]
     exact ⟨rfl, rfl⟩
theorem hat_spec (l : List C) (f : Int) : Qu Tryz.prog glob 42 [Cs l, .int .i64 f] [] (fun o hc => o = .ret (.box 0 0) /\ hc = Wk f l false false) := by
 unfold Wk headD Cs Wo
 have L0 : 0 < Wd := by unfold Wd; omega
 have L1 : 1 < Wd := by unfold Wd; omega
 have L2 : 2 < Wd := by unfold Wd; omega
 have L3 : 3 < Wd := by unfold Wd; omega
 have L4 : 4 < Wd := by unfold Wd; omega
 have L5 : 5 < Wd := by unfold Wd; omega
 have L6 : 6 < Wd := by unfold Wd; omega
 have L7 : 7 < Wd := by unfold Wd; omega
 refine Qu.movd Qf (Qp Wc Tryz.func42 rfl (Qw _ _ Tryz.func42 rfl (by decide)) rfl rfl ?_)
 (refine sR fun K hK => ?_; ((repeat (rw [Qa]; simp)); (try simp only [zs])); refine hK _ _ _ ?_; clear hK K)
 (refine sR fun K hK => ?_; ((repeat (rw [Qa]; simp)); (try simp only [zs])); refine hK _ _ _ ?_; clear hK K)
 (refine sR fun K hK => ?_; ((repeat (rw [Qa]; simp [findD, keyEq, isIntK, L0, L1, L2, L3, L4, L5, L6, L7])); (try simp only [zs])); refine hK _ _ _ ?_; clear hK K)
 (refine sR fun K hK => ?_; ((repeat (rw [Qa]; simp)); (try simp only [zs])); refine hK _ _ _ ?_; clear hK K)
 (refine Qo ?_; (try simp only [zs]); refine Wa.ret rfl (.inr ⟨[0, 1], by decide, by simp, ?_⟩); simp [Out.mov, Wg, Wh, Wj, D.mov, HO.mov, okM, Wi, We, zz, okA, Qr, Qq, hOf, Qe, Qt, Out.fgt, D.fgt, D.fgts])
theorem wcatch_idle (k n a x y : Int) (ls ks : D) : SpecD Tryz.prog glob 88 [.box 0 0, .box 1 0, .box 2 0] [.cells 27 [.int .i64 k, .int .i64 n, .int .i64 a, ls, ks], .cells 3 [.int .i64 x], .cells 33 [.int .i64 y]] none
  (fun hc => hc = [.cells 27 [.int .i64 k, .int .i64 n, .int .i64 a, ls, ks], .cells 3 [.int .i64 x], .cells 33 [.int .i64 y]]) := by
 refine wpD_specd Wc Tryz.func88 rfl rfl (fun a w => rfl) rfl (Qw _ _ Tryz.func88 rfl (by decide)) rfl rfl ?_
 ((try simp only [Qb, Qc, Qn, Qi, Qj]); (repeat (rw [Qa]; simp)); (try simp only [zs]))
 (refine sR fun K hK => ?_; ((repeat (rw [Qa]; simp)); (try simp only [zs])); refine hK _ _ _ ?_; clear hK K)
 refine pF rfl ?_
 refine Qs ?_
 refine Wa.nrm rfl ?_
 simp [Qi]
theorem wcatch_gone (x y : Int) : SpecD Tryz.prog glob 88 [.box 0 0, .box 1 0, .box 2 0] [.cells 27 [.int .i64 0, .int .i64 0, .int .i64 0, .slice [] .full, .slice [] .full], .cells 3 [.int .i64 x], .cells 33 [.int .i64 y]] (some goneD)
  (fun hc => hc = [.cells 27 [.int .i64 0, .int .i64 0, .int .i64 0, .slice [] .full, .slice [] .full], .cells 3 [.int .i64 0], .cells 33 [.int .i64 5], .cells 122 []]) := by
 refine wpD_specd Wc Tryz.func88 rfl rfl (fun a w => rfl) rfl (Qw _ _ Tryz.func88 rfl (by decide)) rfl rfl ?_
 unfold goneD
 ((try simp only [Qb, Qc, Qn, Qi, Qj]); (repeat (rw [Qa]; simp)); (try simp only [zs]))
 (refine sR fun K hK => ?_; ((repeat (rw [Qa]; simp)); (try simp only [zs])); refine hK _ _ _ ?_; clear hK K)
 refine pT rfl ?_
 refine Qg fun K1 hK1 => ?_
 (refine sR fun K hK => ?_; ((repeat (rw [Qa]; simp)); (try simp only [zs])); refine hK _ _ _ ?_; clear hK K)
 refine Qg fun K2 hK2 => ?_
 (refine Qz Wc ?_; ((repeat (rw [Qa]; simp)); (try simp only [zs])))
 refine hK2 _ _ _ ?_
 refine pF rfl ?_
 refine Qs (hK1 _ _ _ ?_)
 (refine Qz Wc ?_; ((repeat (rw [Qa]; simp)); (try simp only [zs])))
 refine Wa.nrm rfl ?_
 simp
theorem whnf_fin {l : List C} (hcs : okCs l) {t u : T} {f : Int} {n : Nat} (h0 : 0 <= f) (h1 : f <= 1073741824) (ht : okT t) (hp : t.pot + 7 * f.toNat <= PM) (h : Hd l t n u) (hn : (n : Int) <= f) :
  Qu Tryz.prog glob 52 [Cs l, Qx t, .int .i64 f] [] (fun o _ => o.fgt = .ret (.tuple [Qx u, .int .i64 (f - n), .int .i64 0])) := by
 have hat := hat_spec l f
 have hre := head_spec hcs _ _ t f false _ h0 rfl rfl ht hp (.fin h hn)
 have huo := h.ok hcs.ok ht
 have hup := h.pot
 have hud : u.deep <= DM := by have := u.deep_nsz; have := nsz_pot u; unfold PM at hp; unfold DM; omega
 have hli := lift_spec u 0 0 hud huo
 rw [show u.lift 0 0 0 = u from lift_zero huo 0] at hli
 have h0' : ¬ f < 0 := by omega
 have h1' : ¬ 1073741824 < f := by omega
 generalize (false || decide (0 < n)) = d at hre
 unfold RetP Wk headD Cs Wo at hre
 unfold Wk headD Cs Wo at hat
 rw [Qd t, Qd u] at hre
 rw [Qd u] at hli
 rw [Qd t]
 unfold Cs
 refine Qu.movd Qf (wpD_specD Wc Tryz.func52 rfl (Qw _ _ Tryz.func52 rfl (by decide)) rfl rfl ?_)
 (refine sR fun K hK => ?_; ((repeat (rw [Qa]; simp)); (try simp only [zs])); refine hK _ _ _ ?_; clear hK K)
 refine Qg fun K1 hK1 => ?_
 (refine sR fun K hK => ?_; ((repeat (rw [Qa]; simp [h0', h1'])); (try simp only [zs])); refine hK _ _ _ ?_; clear hK K)
 refine pF rfl ?_
 refine Qs (hK1 _ _ _ ?_)
 (refine sR fun K hK => ?_; ((repeat (rw [Qa]; simp)); (try simp only [zs])); refine hK _ _ _ ?_; clear hK K)
 (refine sR fun K hK => ?_; ((repeat (rw [Qa]; simp)); (try simp only [zs])))
 refine cXo [] true (hat) ?_
 (rintro o hc ⟨rfl, rfl⟩; refine ⟨false, ?_⟩; simp [zz, okA, Qr, Qq, hOf, Qe, Out.ren, told, Out.fgt, upO, Qi, Qj])
 ((try simp only [Qb, Qc, Qn, Qi, Qj]); (repeat (rw [Qa]; simp)); (try simp only [zs]))
 (refine hK _ _ _ ?_; clear hK K)
 (refine sR fun K hK => ?_; ((repeat (rw [Qa]; simp)); (try simp only [zs])))
 refine cXo [4, 5] true (hre) ?_
 (rintro o hc ⟨ho, rfl⟩; refine ⟨true, ?_⟩; rw [show told true o = _ from ho]; clear ho; simp [zz, okA, Qr, Qq, hOf, Qe, Out.ren, told, Out.fgt, upO, Qi, Qj])
 ((try simp only [Qb, Qc, Qn, Qi, Qj]); (repeat (rw [Qa]; simp)); (try simp only [zs]))
 refine cXp (hli) ?_
 ((try simp only [Qb, Qc, Qn, Qi, Qj]); (repeat (rw [Qa]; simp)); (try simp only [zs]))
 (refine hK _ _ _ ?_; clear hK K)
 (refine Qg fun K hK => ?_; refine dR fun KT hKT => ?_; ((repeat (rw [Qh]; simp)); (try simp only [Qk])))
 (refine hKT _ _ _ _ (by kernel_rfl) ?_; clear hKT KT; (try simp only [zs]))
 (refine hK _ _ _ ?_; clear hK K)
 refine Qo ?_
 refine DefX.objs Qf [1, 2, 3] (wcatch_idle u.k u.n u.a (f - n) 0 (.slice (u.ls.map Wm) .any) (.slice (u.ks.map Qx) .any)) ?_ ?_ (fun d h => by cases h) (by decide) (by simp) (by simp [zz, okA, Qr, Qq, hOf, Qe]) (by simp [zz, okA, Qr, Qq, hOf, Qe]) (by simp [zz, okA, Qr, Qq, hOf, Qe]) (by simp [zz, okA, Qr, Qq, hOf, Qe])
 ·rintro hc rfl
  simp [zz, okA, Qr, Qq, hOf, Qe, upO, Qi, Qj]
  refine endD.intro rfl (.inr ⟨[], by decide, by simp, ?_⟩)
  simp [Out.mov, Wg, Wh, Wj, D.mov, HO.mov, okM, Wi, We, zz, okA, Qr, Qq, hOf, Qe]
  simp [Out.fgt, Qd u, D.fgt, D.fgts]
 ·rintro hc rfl
  simp
theorem whnf_gone {l : List C} (hcs : okCs l) {t : T} {f q : Int} (h0 : 0 <= f) (h1 : f <= 1073741824) (ht : okT t) (hp : t.pot + 7 * f.toNat <= PM) (h : GoneAt l t f q) :
  Qu Tryz.prog glob 52 [Cs l, Qx t, .int .i64 f] [] (fun o _ => o.fgt = .ret (.tuple [Qx Wl, .int .i64 0, .int .i64 5])) := by
 have hat := hat_spec l f
 have hre := head_spec hcs _ _ t f false _ h0 rfl rfl ht hp (.gone h)
 have h0' : ¬ f < 0 := by omega
 have h1' : ¬ 1073741824 < f := by omega
 unfold GoneP Wk headD Cs Wo goneD at hre
 unfold Wk headD Cs Wo at hat
 rw [Qd t] at hre
 rw [Qd t, encZ]
 unfold Cs
 have hcg := wcatch_gone 0 0
 unfold goneD at hcg
 refine Qu.movd Qf (wpD_specD Wc Tryz.func52 rfl (Qw _ _ Tryz.func52 rfl (by decide)) rfl rfl ?_)
 (refine sR fun K hK => ?_; ((repeat (rw [Qa]; simp)); (try simp only [zs])); refine hK _ _ _ ?_; clear hK K)
 refine Qg fun K1 hK1 => ?_
 (refine sR fun K hK => ?_; ((repeat (rw [Qa]; simp [h0', h1'])); (try simp only [zs])); refine hK _ _ _ ?_; clear hK K)
 refine pF rfl ?_
 refine Qs (hK1 _ _ _ ?_)
 (refine sR fun K hK => ?_; ((repeat (rw [Qa]; simp)); (try simp only [zs])); refine hK _ _ _ ?_; clear hK K)
 (refine sR fun K hK => ?_; ((repeat (rw [Qa]; simp)); (try simp only [zs])))
 refine cXo [] true (hat) ?_
 (rintro o hc ⟨rfl, rfl⟩; refine ⟨false, ?_⟩; simp [zz, okA, Qr, Qq, hOf, Qe, Out.ren, told, Out.fgt, upO, Qi, Qj])
 ((try simp only [Qb, Qc, Qn, Qi, Qj]); (repeat (rw [Qa]; simp)); (try simp only [zs]))
 (refine hK _ _ _ ?_; clear hK K)
 (refine sR fun K hK => ?_; ((repeat (rw [Qa]; simp)); (try simp only [zs])))
 refine cXo [4, 5] true (hre) ?_
 (rintro o hc ⟨rfl, rfl⟩; refine ⟨false, ?_⟩; simp [zz, okA, Qr, Qq, hOf, Qe, Out.ren, told, Out.fgt, upO, Qi, Qj])
 (try simp only [zs])
 refine DefX.objs Qf [1, 2, 3] hcg ?_ ?_ (fun d h => by cases h; rfl) (by decide) (by simp) (by simp [zz, okA, Qr, Qq, hOf, Qe]) (by simp [zz, okA, Qr, Qq, hOf, Qe]) (by simp [zz, okA, Qr, Qq, hOf, Qe]) (by simp [zz, okA, Qr, Qq, hOf, Qe])
 ·rintro hc rfl
  simp [zz, okA, Qr, Qq, hOf, Qe, upO, Qi, Qj]
  refine endD.intro rfl (.inr ⟨[], by decide, by simp, ?_⟩)
  simp [Out.mov, Wg, Wh, Wj, D.mov, HO.mov, okM, Wi, We, zz, okA, Qr, Qq, hOf, Qe]
 ·rintro hc rfl
  simp
theorem hstep_fin {l : List C} (hcs : okCs l) {t : T} (ht : okS t) (h : Xe l t = none) : Qu Tryz.prog glob 15 [Cs l, Qx t] [] (fun o _ => o.fgt = .ret (.tuple [Qx t, .int .i64 0, .bool false])) := by
 have hat := hat_spec l 9223372036854775807
 have hre := headO_spec hcs 9223372036854775807 (by omega) _ t rfl ht
 rw [OneP_none h] at hre
 have hli := lift_spec t 0 0 ht.deep ht.1
 rw [lift_zero ht.1 0] at hli
 generalize t.trunc = v at hre
 unfold Wk headD Cs Wo at hre
 unfold Wk headD Cs Wo at hat
 rw [Qd t, Qd v] at hre
 rw [Qd t] at hli
 rw [Qd t]
 unfold Cs
 refine Qu.movd Qf (Qp Wc Tryz.func15 rfl (Qw _ _ Tryz.func15 rfl (by decide)) rfl rfl ?_)
 (refine sR fun K hK => ?_; ((repeat (rw [Qa]; simp)); (try simp only [zs])); refine hK _ _ _ ?_; clear hK K)
 (refine sR fun K hK => ?_; ((repeat (rw [Qa]; simp)); (try simp only [zs])))
 refine cXo [] true (hat) ?_
 (rintro o hc ⟨rfl, rfl⟩; refine ⟨false, ?_⟩; simp [zz, okA, Qr, Qq, hOf, Qe, Out.ren, told, Out.fgt, upO, Qi, Qj])
 ((try simp only [Qb, Qc, Qn, Qi, Qj]); (repeat (rw [Qa]; simp)); (try simp only [zs]))
 (refine hK _ _ _ ?_; clear hK K)
 (refine sR fun K hK => ?_; ((repeat (rw [Qa]; simp)); (try simp only [zs])); refine hK _ _ _ ?_; clear hK K)
 (refine sR fun K hK => ?_; ((repeat (rw [Qa]; simp)); (try simp only [zs])))
 refine cXo [2, 3] true (hre) ?_
 (rintro o hc ⟨ho, rfl⟩; refine ⟨true, ?_⟩; rw [show told true o = _ from ho]; clear ho; simp [zz, okA, Qr, Qq, hOf, Qe, Out.ren, told, Out.fgt, upO, Qi, Qj])
 ((try simp only [Qb, Qc, Qn, Qi, Qj]); (repeat (rw [Qa]; simp)); (try simp only [zs]))
 (refine hK _ _ _ ?_; clear hK K)
 refine Qg fun K1 hK1 => ?_
 (refine sR fun K hK => ?_; ((repeat (rw [Qa]; simp)); (try simp only [zs])); refine hK _ _ _ ?_; clear hK K)
 refine pT rfl ?_
 (refine sR fun K hK => ?_; ((repeat (rw [Qa]; simp)); (try simp only [zs])))
 refine cXp (hli) ?_
 ((try simp only [Qb, Qc, Qn, Qi, Qj]); (repeat (rw [Qa]; simp)); (try simp only [zs]))
 (refine hK _ _ _ ?_; clear hK K)
 (refine Qo ?_; (try simp only [zs]); refine Wa.ret rfl (.inl ?_); simp [Qt, Out.fgt, D.fgt, D.fgts])
theorem hstep_more {l : List C} (hcs : okCs l) {t u : T} {c : Nat} (ht : okS t) (h : Xe l t = some (u, c)) (hd : t.pot + 7 * c <= DM) : Qu Tryz.prog glob 15 [Cs l, Qx t] [] (fun o _ => o.fgt = .ret (.tuple [Qx u, .int .i64 c, .bool true])) := by
 have hat := hat_spec l 9223372036854775807
 have hre := headO_spec hcs 9223372036854775807 (by omega) _ t rfl ht
 have hc : (c : Int) <= 9223372036854775807 := by unfold DM at hd; omega
 rw [OneP_some h hc] at hre
 have hup := hstep_pot t h
 have huo := hstep_ok hcs.ok t ht.1 h
 have hli := lift_spec u 0 0 (by have := u.deep_nsz; have := nsz_pot u; omega) huo
 rw [lift_zero huo 0] at hli
 have hw : IntKind.i64.wrap (9223372036854775807 - (9223372036854775807 - (c : Int))) = c := by rw [i64w (by omega) (by omega)]; omega
 unfold Wk headD Cs Wo at hre
 unfold Wk headD Cs Wo at hat
 rw [Qd t, Qd u] at hre
 rw [Qd u] at hli
 rw [Qd t, Qd u]
 unfold Cs
 refine Qu.movd Qf (Qp Wc Tryz.func15 rfl (Qw _ _ Tryz.func15 rfl (by decide)) rfl rfl ?_)
 (refine sR fun K hK => ?_; ((repeat (rw [Qa]; simp)); (try simp only [zs])); refine hK _ _ _ ?_; clear hK K)
 (refine sR fun K hK => ?_; ((repeat (rw [Qa]; simp)); (try simp only [zs])))
 refine cXo [] true (hat) ?_
 (rintro o hc ⟨rfl, rfl⟩; refine ⟨false, ?_⟩; simp [zz, okA, Qr, Qq, hOf, Qe, Out.ren, told, Out.fgt, upO, Qi, Qj])
 ((try simp only [Qb, Qc, Qn, Qi, Qj]); (repeat (rw [Qa]; simp)); (try simp only [zs]))
 (refine hK _ _ _ ?_; clear hK K)
 (refine sR fun K hK => ?_; ((repeat (rw [Qa]; simp)); (try simp only [zs])); refine hK _ _ _ ?_; clear hK K)
 (refine sR fun K hK => ?_; ((repeat (rw [Qa]; simp)); (try simp only [zs])))
 refine cXo [2, 3] true (hre) ?_
 (rintro o hc ⟨ho, rfl⟩; refine ⟨true, ?_⟩; rw [show told true o = _ from ho]; clear ho; simp [zz, okA, Qr, Qq, hOf, Qe, Out.ren, told, Out.fgt, upO, Qi, Qj])
 ((try simp only [Qb, Qc, Qn, Qi, Qj]); (repeat (rw [Qa]; simp)); (try simp only [zs]))
 (refine hK _ _ _ ?_; clear hK K)
 refine Qg fun K1 hK1 => ?_
 (refine sR fun K hK => ?_; ((repeat (rw [Qa]; simp)); (try simp only [zs])); refine hK _ _ _ ?_; clear hK K)
 refine pF rfl ?_
 refine Qs (hK1 _ _ _ ?_)
 (refine Qg fun K hK => ?_; refine dR fun KT hKT => ?_; ((repeat (rw [Qh]; simp)); (try simp only [Qk])))
 refine cYp (hli) ?_
 ((try simp only [Ql, Qm, Qn, Qi, Qj]); (repeat (rw [Qh]; simp [hw])); (try simp only [Qk]))
 (refine hKT _ _ _ _ (by kernel_rfl) ?_; clear hKT KT; (try simp only [zs]))
 (refine hK _ _ _ ?_; clear hK K)
 (refine Qo ?_; (try simp only [zs]); refine Wa.ret rfl (.inl ?_); simp [Qt, Out.fgt, D.fgt, D.fgts])
end Go.Proofs.YtebmlojhdnldgaaGreatDoor
