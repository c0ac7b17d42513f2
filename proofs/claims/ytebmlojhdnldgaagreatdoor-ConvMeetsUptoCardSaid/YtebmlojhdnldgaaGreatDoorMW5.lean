/-
  MW5: the texts Tsm Tpla Hdd Tok Hdp Hdl Cfa Cfb Lrt Ccd Ccl Cfc Hrp Cfd Ddp Hen Hk Hs Hrn Cfe Cvd Cve Nrd Cff Dfo, one behind the other.
-/
import Derived.Test.YtebmlojhdnldgaaGreatDoorMW4
namespace Go.Proofs.YtebmlojhdnldgaaGreatDoor
set_option linter.unusedSimpArgs false
set_option linter.unusedVariables false
set_option maxHeartbeats 10000000
set_option maxRecDepth 20000
open Go.RowKit
attribute [local simp] Qb Qc Xg Xw opD Qt Qn Qi Qj hOf Xd Xz Xu TK.isAgg TK.known Xf Xh Wv Qv D.ofV inB Wr Xj binX binD binE Xv bndD capB IntKind.min IntKind.max IntKind.signed IntKind.bits Xb late
def eqAll {α : Type} (p : α -> α -> Bool) : List α -> List α -> Bool
 | [], [] => true
 | a :: r, b :: s => p a b && eqAll p r s
 | _, _ => false
theorem eqAll_len {α : Type} {p : α -> α -> Bool} : ∀ {l m : List α}, l.length ≠ m.length -> eqAll p l m = false
 | [], [], h => absurd rfl h
 | [], _ :: _, _ => rfl
 | _ :: _, [], _ => rfl
 | a :: r, b :: s, h => by
  rw [eqAll, eqAll_len (l := r) (m := s) (by simpa using h), Bool.and_false]
theorem eqAll_drop {α : Type} {p : α -> α -> Bool} {l m : List α} {k : Nat} (h : k < l.length) (h' : k < m.length) : eqAll p (l.drop k) (m.drop k) = (p l[k] m[k] && eqAll p (l.drop (k + 1)) (m.drop (k + 1))) := by
 rw [List.drop_eq_getElem_cons h, List.drop_eq_getElem_cons h', eqAll]
theorem eqAll_end {α : Type} {p : α -> α -> Bool} {l m : List α} (h : l.length = m.length) : eqAll p (l.drop l.length) (m.drop l.length) = true := by
 rw [List.drop_length, h, List.drop_length]; rfl
theorem equalFuncL_spec (p : LV -> LV -> Bool) (g : FuncId) (l m : List LV) (hl : l.length <= Wd) (hm : m.length <= Wd) (hg : ∀ x y, x ∈ l -> y ∈ m -> Qu Tryz.prog glob g [Wm x, Wm y] [] (fun o _ => o.fgt = .ret (.bool (p x y)))) :
  Qu Tryz.prog glob 45 [.slice (l.map Wm) .any, .slice (m.map Wm) .any, .fn (.func g) [] []] [] (fun o _ => o.fgt = .ret (.bool (eqAll p l m))) := by
 obtain ⟨R, hR⟩ : ∃ R, R = eqAll p l m := ⟨_, rfl⟩
 rw [<- hR]
 refine Qu.movd Qf (Qp Wc Tryz.func45 rfl (Qw _ _ Tryz.func45 rfl (by decide)) rfl rfl ?_)
 (refine sR fun K hK => ?_; ((repeat (rw [Qa]; simp)); (try simp only [zs])); refine hK _ _ _ ?_; clear hK K)
 refine Qg fun K1 hK1 => ?_
 by_cases hlen : l.length = m.length
 ·have hlen' : (l.length : Int) = m.length := by omega
  (refine sR fun K hK => ?_; ((repeat (rw [Qa]; simp [hlen, hlen'])); (try simp only [zs])); refine hK _ _ _ ?_; clear hK K)
  refine pF rfl ?_
  refine Qs (hK1 _ _ _ ?_)
  clear hK1 K1
  refine Qg fun K1 hK1 => ?_
  (refine sR fun K hK => ?_; ((repeat (rw [Qa]; simp)); (try simp only [zs])); refine hK _ _ _ ?_; clear hK K)
  rw [<- hlen]
  refine Za Wc Qf (ti := 3) (tk := 17) (tn := 16) (td := 18) (ts := 31) [6, 7, 8, 9, 17, 18, 19, 20, 21, 22, 23, 24, 25, 26, 27, 28, 29, 30, 31] [] (l.length) (fun k ys hl => ys = [] /\ R = eqAll p (l.drop k) (m.drop k) /\ hl = []) rfl rfl rfl rfl rfl rfl rfl rfl rfl rfl rfl rfl (by simp) (by decide) rfl (by first | assumption | omega | (unfold Wd; omega)) rfl (by kernel_rfl) (by decide) ?_ ?_ ?_
  ·exact ⟨rfl, hR, rfl⟩
  ·rintro i ys hl A hi ⟨rfl, hF, rfl⟩ hA hA2
   simp only [Qv, List.set, List.map_cons, List.map_nil, List.cons_append, List.nil_append]
   have hi2 : i < m.length := by omega
   have hi' : (i : Int) < l.length := by omega
   have hi2' : (i : Int) < m.length := by omega
   rw [eqAll_drop hi hi2] at hF
   have hrec := hg l[i] m[i] (List.getElem_mem hi) (List.getElem_mem hi2)
   obtain ⟨x, hx⟩ : ∃ x, l[i] = x := ⟨_, rfl⟩
   obtain ⟨y, hy⟩ : ∃ y, m[i] = y := ⟨_, rfl⟩
   rw [hx, hy] at hrec hF
   unfold Wm at hrec
   generalize p x y = B at hrec hF
   (refine sR fun K hK => ?_; ((repeat (rw [Qa]; simp [hi, hi', hx, Wm])); (try simp only [zs])); refine hK _ _ _ ?_; clear hK K)
   (refine sR fun K hK => ?_; ((repeat (rw [Qa]; simp [hi2, hi2', hy, Wm])); (try simp only [zs])); refine hK _ _ _ ?_; clear hK K)
   (refine sR fun K hK => ?_; ((repeat (rw [Qa]; simp)); (try simp only [zs])))
   refine cXp (hrec) ?_
   ((try simp only [Qb, Qc, Qn, Qi, Qj]); (repeat (rw [Qa]; simp)); (try simp only [zs]))
   (refine hK _ _ _ ?_; clear hK K)
   cases B with
   | true =>
    refine pF rfl ?_
    refine Qs ?_
    (refine hA2 ([]) _ _ _ (LeT.refl _) (by decide) (by simp) (by simp [Wg, Wh, Wj, D.mov, HO.mov, okM, Wi, We, zz, okA, Qr, Qq, hOf, Qe, Qv]) ?_ rfl; simp [Wg, Wh, Wj, D.mov, HO.mov, okM, Wi, We, zz, okA, Qr, Qq, hOf, Qe])
    simpa using hF
   | false =>
    refine pT rfl ?_
    (refine sR fun K hK => ?_; ((repeat (rw [Qa]; simp)); (try simp only [zs])); refine hK _ _ _ ?_; clear hK K)
    (refine Qo ?_; (try simp only [zs]); refine Wa.ret rfl (.inl ?_); simp [Qt, Out.fgt, D.fgt, D.fgts])
    simpa using hF
  ·rintro ys hl tl' ⟨rfl, hF, rfl⟩ htl
   refine hK1 _ _ _ (wpD_weakL htl ?_)
   simp only [Qv, List.set, List.map_cons, List.map_nil, List.cons_append, List.nil_append]
   rw [eqAll_end hlen] at hF
   subst hF
   (refine sR fun K hK => ?_; ((repeat (rw [Qa]; simp)); (try simp only [zs])); refine hK _ _ _ ?_; clear hK K)
   (refine Qo ?_; (try simp only [zs]); refine Wa.ret rfl (.inl ?_); simp [Qt, Out.fgt, D.fgt, D.fgts])
 ·have hlen' : ¬ (l.length : Int) = m.length := by omega
  (refine sR fun K hK => ?_; ((repeat (rw [Qa]; simp [hlen, hlen'])); (try simp only [zs])); refine hK _ _ _ ?_; clear hK K)
  refine pT rfl ?_
  (refine sR fun K hK => ?_; ((repeat (rw [Qa]; simp)); (try simp only [zs])); refine hK _ _ _ ?_; clear hK K)
  (refine Qo ?_; (try simp only [zs]); refine Wa.ret rfl (.inl ?_); simp [Qt, Out.fgt, D.fgt, D.fgts])
  rw [hR]; exact eqAll_len hlen
theorem equalFuncT_spec (p : T -> T -> Bool) (g : FuncId) (l m : List T) (hl : l.length <= Wd) (hm : m.length <= Wd) (hg : ∀ x y, x ∈ l -> y ∈ m -> Qu Tryz.prog glob g [Qx x, Qx y] [] (fun o _ => o.fgt = .ret (.bool (p x y)))) :
  Qu Tryz.prog glob 47 [.slice (l.map Qx) .any, .slice (m.map Qx) .any, .fn (.func g) [] []] [] (fun o _ => o.fgt = .ret (.bool (eqAll p l m))) := by
 obtain ⟨R, hR⟩ : ∃ R, R = eqAll p l m := ⟨_, rfl⟩
 rw [<- hR]
 refine Qu.movd Qf (Qp Wc Tryz.func47 rfl (Qw _ _ Tryz.func47 rfl (by decide)) rfl rfl ?_)
 (refine sR fun K hK => ?_; ((repeat (rw [Qa]; simp)); (try simp only [zs])); refine hK _ _ _ ?_; clear hK K)
 refine Qg fun K1 hK1 => ?_
 by_cases hlen : l.length = m.length
 ·have hlen' : (l.length : Int) = m.length := by omega
  (refine sR fun K hK => ?_; ((repeat (rw [Qa]; simp [hlen, hlen'])); (try simp only [zs])); refine hK _ _ _ ?_; clear hK K)
  refine pF rfl ?_
  refine Qs (hK1 _ _ _ ?_)
  clear hK1 K1
  refine Qg fun K1 hK1 => ?_
  (refine sR fun K hK => ?_; ((repeat (rw [Qa]; simp)); (try simp only [zs])); refine hK _ _ _ ?_; clear hK K)
  rw [<- hlen]
  refine Za Wc Qf (ti := 3) (tk := 17) (tn := 16) (td := 18) (ts := 31) [6, 7, 8, 9, 17, 18, 19, 20, 21, 22, 23, 24, 25, 26, 27, 28, 29, 30, 31] [] (l.length) (fun k ys hl => ys = [] /\ R = eqAll p (l.drop k) (m.drop k) /\ hl = []) rfl rfl rfl rfl rfl rfl rfl rfl rfl rfl rfl rfl (by simp) (by decide) rfl (by first | assumption | omega | (unfold Wd; omega)) rfl (by kernel_rfl) (by decide) ?_ ?_ ?_
  ·exact ⟨rfl, hR, rfl⟩
  ·rintro i ys hl A hi ⟨rfl, hF, rfl⟩ hA hA2
   simp only [Qv, List.set, List.map_cons, List.map_nil, List.cons_append, List.nil_append]
   have hi2 : i < m.length := by omega
   have hi' : (i : Int) < l.length := by omega
   have hi2' : (i : Int) < m.length := by omega
   rw [eqAll_drop hi hi2] at hF
   have hrec := hg l[i] m[i] (List.getElem_mem hi) (List.getElem_mem hi2)
   obtain ⟨x, hx⟩ : ∃ x, l[i] = x := ⟨_, rfl⟩
   obtain ⟨y, hy⟩ : ∃ y, m[i] = y := ⟨_, rfl⟩
   rw [hx, hy] at hrec hF
   have hEx := Qd x
   have hEy := Qd y
   rw [hEx, hEy] at hrec
   generalize p x y = B at hrec hF
   (refine sR fun K hK => ?_; ((repeat (rw [Qa]; simp [hi, hi', hx, hEx])); (try simp only [zs])); refine hK _ _ _ ?_; clear hK K)
   (refine sR fun K hK => ?_; ((repeat (rw [Qa]; simp [hi2, hi2', hy, hEy])); (try simp only [zs])); refine hK _ _ _ ?_; clear hK K)
   (refine sR fun K hK => ?_; ((repeat (rw [Qa]; simp)); (try simp only [zs])))
   refine cXp (hrec) ?_
   ((try simp only [Qb, Qc, Qn, Qi, Qj]); (repeat (rw [Qa]; simp)); (try simp only [zs]))
   (refine hK _ _ _ ?_; clear hK K)
   cases B with
   | true =>
    refine pF rfl ?_
    refine Qs ?_
    (refine hA2 ([]) _ _ _ (LeT.refl _) (by decide) (by simp) (by simp [Wg, Wh, Wj, D.mov, HO.mov, okM, Wi, We, zz, okA, Qr, Qq, hOf, Qe, Qv]) ?_ rfl; simp [Wg, Wh, Wj, D.mov, HO.mov, okM, Wi, We, zz, okA, Qr, Qq, hOf, Qe])
    simpa using hF
   | false =>
    refine pT rfl ?_
    (refine sR fun K hK => ?_; ((repeat (rw [Qa]; simp)); (try simp only [zs])); refine hK _ _ _ ?_; clear hK K)
    (refine Qo ?_; (try simp only [zs]); refine Wa.ret rfl (.inl ?_); simp [Qt, Out.fgt, D.fgt, D.fgts])
    simpa using hF
  ·rintro ys hl tl' ⟨rfl, hF, rfl⟩ htl
   refine hK1 _ _ _ (wpD_weakL htl ?_)
   simp only [Qv, List.set, List.map_cons, List.map_nil, List.cons_append, List.nil_append]
   rw [eqAll_end hlen] at hF
   subst hF
   (refine sR fun K hK => ?_; ((repeat (rw [Qa]; simp)); (try simp only [zs])); refine hK _ _ _ ?_; clear hK K)
   (refine Qo ?_; (try simp only [zs]); refine Wa.ret rfl (.inl ?_); simp [Qt, Out.fgt, D.fgt, D.fgts])
 ·have hlen' : ¬ (l.length : Int) = m.length := by omega
  (refine sR fun K hK => ?_; ((repeat (rw [Qa]; simp [hlen, hlen'])); (try simp only [zs])); refine hK _ _ _ ?_; clear hK K)
  refine pT rfl ?_
  (refine sR fun K hK => ?_; ((repeat (rw [Qa]; simp)); (try simp only [zs])); refine hK _ _ _ ?_; clear hK K)
  (refine Qo ?_; (try simp only [zs]); refine Wa.ret rfl (.inl ?_); simp [Qt, Out.fgt, D.fgt, D.fgts])
  rw [hR]; exact eqAll_len hlen
def sameLs : List LV -> List LV -> Bool
 | [], [] => true
 | a :: r, b :: s => decide (Wq a = Wq b) && sameLs r s
 | _, _ => false
theorem sameLs_all : ∀ l m : List LV, sameLs l m = eqAll (fun a b => decide (Wq a = Wq b)) l m
 | [], [] => rfl
 | a :: r, b :: s => by rw [sameLs, sameLs_all r s]; rfl
 | [], _ :: _ => rfl
 | _ :: _, [] => rfl
mutual
def T.sameB : T -> T -> Bool
 | .mk k n a ls ks, .mk k' n' a' ls' ks' => decide (k = k') && decide (n = n') && decide (a = a') && sameLs ls ls' && T.samesB ks ks'
def T.samesB : List T -> List T -> Bool
 | [], [] => true
 | a :: r, b :: s => T.sameB a b && T.samesB r s
 | [], _ :: _ => false
 | _ :: _, [] => false
end
theorem sames_all : ∀ l m : List T, T.samesB l m = eqAll T.sameB l m
 | [], [] => by rw [T.samesB]; rfl
 | a :: r, b :: s => by rw [T.samesB, sames_all r s]; rfl
 | [], _ :: _ => by rw [T.samesB]; rfl
 | _ :: _, [] => by rw [T.samesB]; rfl
theorem sameT_spec (t : T) : ∀ u, okT t -> okT u -> Qu Tryz.prog glob 18 [Qx t, Qx u] [] (fun o _ => o.fgt = .ret (.bool (t.sameB u))) := by
 induction t using T.ind with
 | h k n a ls ks ih =>
  rintro ⟨k', n', a', ls', ks'⟩ ht hu
  have hll : ls.length <= Wd := ht.ll
  have hll' : ls'.length <= Wd := hu.ll
  have hkl : ks.length <= Wd := ht.kl
  have hkl' : ks'.length <= Wd := hu.kl
  have hls := ht.ls
  have hls' := hu.ls
  have hks := ht.ks
  have hks' := hu.ks
  simp only [T.ls_mk, T.ks_mk] at hls hls' hks hks'
  have hL := equalFuncL_spec (fun a b => decide (Wq a = Wq b)) 46 ls ls' hll hll' (fun x y hx hy => same_spec x y (hls x hx).1 (hls' y hy).1)
  have hT := equalFuncT_spec T.sameB 18 ks ks' hkl hkl' (fun x y hx hy => ih x hx y (hks x hx) (hks' y hy))
  have hF : (T.mk k n a ls ks).sameB (.mk k' n' a' ls' ks') = (decide (k = k') && decide (n = n') && decide (a = a') && sameLs ls ls' && T.samesB ks ks') := by rw [T.sameB]
  rw [hF, sames_all, sameLs_all]
  generalize eqAll T.sameB ks ks' = B2 at hT ⊢
  generalize eqAll (fun a b => decide (Wq a = Wq b)) ls ls' = B1 at hL ⊢
  clear hF ih hll hll' hkl hkl' hls hls' hks hks' ht hu
  rw [Qd, Qd]
  simp only [T.k_mk, T.n_mk, T.a_mk, T.ls_mk, T.ks_mk]
  refine Qu.movd Qf (Qp Wc Tryz.func18 rfl (Qw _ _ Tryz.func18 rfl (by decide)) rfl rfl ?_)
  (refine sR fun K hK => ?_; ((repeat (rw [Qa]; simp)); (try simp only [zs])); refine hK _ _ _ ?_; clear hK K)
  by_cases h1 : k = k'
  ·subst h1
   by_cases h2 : n = n'
   ·subst h2
    by_cases h3 : a = a'
    ·subst h3
     cases B1 with
     | true =>
      (refine sR fun K hK => ?_; ((repeat (rw [Qa]; simp)); (try simp only [zs])))
      refine cXp (hL) ?_
      ((try simp only [Qb, Qc, Qn, Qi, Qj]); (repeat (rw [Qa]; simp)); (try simp only [zs]))
      refine cXp (hT) ?_
      ((try simp only [Qb, Qc, Qn, Qi, Qj]); (repeat (rw [Qa]; simp)); (try simp only [zs]))
      (refine hK _ _ _ ?_; clear hK K)
      (refine Qo ?_; (try simp only [zs]); refine Wa.ret rfl (.inl ?_); simp [Qt, Out.fgt, D.fgt, D.fgts])
     | false =>
      (refine sR fun K hK => ?_; ((repeat (rw [Qa]; simp)); (try simp only [zs])))
      refine cXp (hL) ?_
      ((try simp only [Qb, Qc, Qn, Qi, Qj]); (repeat (rw [Qa]; simp)); (try simp only [zs]))
      (refine hK _ _ _ ?_; clear hK K)
      (refine Qo ?_; (try simp only [zs]); refine Wa.ret rfl (.inl ?_); simp [Qt, Out.fgt, D.fgt, D.fgts])
    ·(refine sR fun K hK => ?_; ((repeat (rw [Qa]; simp [h3])); (try simp only [zs])); refine hK _ _ _ ?_; clear hK K)
     (refine Qo ?_; (try simp only [zs]); refine Wa.ret rfl (.inl ?_); simp [Qt, Out.fgt, D.fgt, D.fgts])
     simp [h3]
   ·(refine sR fun K hK => ?_; ((repeat (rw [Qa]; simp [h2])); (try simp only [zs])); refine hK _ _ _ ?_; clear hK K)
    (refine Qo ?_; (try simp only [zs]); refine Wa.ret rfl (.inl ?_); simp [Qt, Out.fgt, D.fgt, D.fgts])
    simp [h2]
  ·(refine sR fun K hK => ?_; ((repeat (rw [Qa]; simp [h1])); (try simp only [zs])); refine hK _ _ _ ?_; clear hK K)
   (refine Qo ?_; (try simp only [zs]); refine Wa.ret rfl (.inl ?_); simp [Qt, Out.fgt, D.fgt, D.fgts])
   simp [h1]
end Go.Proofs.YtebmlojhdnldgaaGreatDoor
namespace Go.Proofs.YtebmlojhdnldgaaGreatDoor
set_option linter.unusedSimpArgs false
set_option linter.unusedVariables false
open Go.RowKit
mutual
def T.tameB : T -> Bool
 | .mk k n _ _ ks => !(decide (k = 1) && (decide (n < 0) || decide (1000 < n))) && T.tamesB ks
def T.tamesB : List T -> Bool
 | [] => true
 | t :: r => T.tameB t && T.tamesB r
end
theorem walk_inr {f : Turn} {k n a : Int} {ls : List LV} {ks : List T} {d : Int} {x : Int × List LV} (h : f d (.mk k n a ls ks) = .inr x) : T.walk f (.mk k n a ls ks) d = .mk k x.1 a x.2 (T.walks f k ks 0 d) := by rw [T.walk, h]
theorem walk_inl {f : Turn} {k n a : Int} {ls : List LV} {ks : List T} {d : Int} {u : T} (h : f d (.mk k n a ls ks) = .inl u) : T.walk f (.mk k n a ls ks) d = u := by rw [T.walk, h]
theorem walk_lift (m fr k n a : Int) (ls : List LV) (ks : List T) (d : Int) : T.walk (liftTurn m fr) (.mk k n a ls ks) d = .mk k (liftNum m fr d k n) a ls (T.walks (liftTurn m fr) k ks 0 d) := by rw [T.walk]; rfl
theorem Fits.le {d : Int} {t : T} (h : Fits d t) : 0 <= d /\ d <= 1099511627776 := by unfold Fits DM at h; omega
mutual
theorem T.lift_zero_aux (fr : Int) : ∀ (t : T) (d : Int), okT t -> T.walk (liftTurn 0 fr) t d = t
 | .mk k n a ls ks, d, h => by
  rw [walk_lift, T.lifts_zero_aux fr k ks 0 d h.ks]
  have hn := h.n
  simp only [T.n_mk] at hn
  unfold I64 at hn
  have : liftNum 0 fr d k n = n := by
   unfold liftNum
   split
   ·rw [Int.add_zero, i64w hn.1 hn.2]
   ·rfl
  rw [this]
theorem T.lifts_zero_aux (fr k : Int) : ∀ (ks : List T) (i : Nat) (d : Int), (∀ t, t ∈ ks -> okT t) -> T.walks (liftTurn 0 fr) k ks i d = ks
 | [], _, _, _ => by rw [T.walks]
 | t :: r, i, d, h => by
  rw [T.walks, T.lift_zero_aux fr t _ (h t List.mem_cons_self), T.lifts_zero_aux fr k r (i + 1) d (fun t ht => h t (List.mem_cons_of_mem _ ht))]
end
theorem lift_zero {t : T} (h : okT t) (fr : Int) : t.lift 0 fr 0 = t := T.lift_zero_aux fr t 0 h
mutual
theorem sz_lift (n fr : Int) : ∀ (t : T) (d : Int), (T.walk (liftTurn n fr) t d).sz = t.sz
 | .mk k m a ls ks, d => by rw [walk_lift, T.sz, T.sz, szs_lift n fr k ks 0 d 1]
theorem szs_lift (n fr k : Int) : ∀ (ks : List T) (i : Nat) (d s : Int), T.szs (T.walks (liftTurn n fr) k ks i d) s = T.szs ks s
 | [], _, _, _ => by rw [T.walks]
 | t :: r, i, d, s => by rw [T.walks, T.szs, T.szs, sz_lift n fr t, szs_lift n fr k r]
end
mutual
theorem free_none (lo : Int) : ∀ (t : T) (d : Int), t.freeB lo lo d = false
 | .mk k n a ls ks, d => by
  rw [T.freeB, frees_none lo k ks 0 d]
  simp [hitB]
theorem frees_none (lo k : Int) : ∀ (ks : List T) (i : Nat) (d : Int), T.freesB lo lo k ks i d = false
 | [], _, _ => by rw [T.freesB]
 | t :: r, i, d => by rw [T.freesB, free_none lo t, frees_none lo k r]; rfl
end
theorem sameLs_refl : ∀ l : List LV, sameLs l l = true
 | [] => rfl
 | a :: r => by rw [sameLs, sameLs_refl r]; simp
mutual
theorem T.same_refl : ∀ t : T, T.sameB t t = true
 | .mk k n a ls ks => by rw [T.sameB, sameLs_refl, T.sames_refl ks]; simp
theorem T.sames_refl : ∀ ks : List T, T.samesB ks ks = true
 | [] => by rw [T.samesB]
 | t :: r => by rw [T.samesB, T.same_refl t, T.sames_refl r]; rfl
end
theorem T.same_mk {k n a k' n' a' : Int} {ls ls' : List LV} {ks ks' : List T} : T.sameB (.mk k n a ls ks) (.mk k' n' a' ls' ks') = true ↔ k = k' /\ n = n' /\ a = a' /\ sameLs ls ls' = true /\ T.samesB ks ks' = true := by
 rw [T.sameB]; simp [and_assoc]
theorem putTurn_in {bys : List T} {d : Int} {t : T} (h1 : t.k = 1 /\ d <= t.n) (h : (t.n - d).toNat < bys.length) : putTurn bys d t = .inl ((bys[bys.length - 1 - (t.n - d).toNat]'(by omega)).lift d 0 0) := by
 unfold putTurn; rw [if_pos h1, dif_pos h]
theorem putTurn_over {bys : List T} {d : Int} {t : T} (h1 : t.k = 1 /\ d <= t.n) (h : ¬ (t.n - d).toNat < bys.length) : putTurn bys d t = .inr (IntKind.i64.wrap (t.n - bys.length), t.ls) := by
 unfold putTurn; rw [if_pos h1, dif_neg h]
theorem putTurn_low {bys : List T} {d : Int} {t : T} (h1 : ¬ (t.k = 1 /\ d <= t.n)) : putTurn bys d t = .inr (t.n, t.ls) := by
 unfold putTurn; rw [if_neg h1]
mutual
theorem sz_same : ∀ (t u : T), T.sameB t u = true -> t.sz = u.sz
 | .mk k n a ls ks, .mk k' n' a' ls' ks', h => by
  obtain ⟨_, _, _, _, h5⟩ := T.same_mk.1 h
  rw [T.sz, T.sz, szs_same ks ks' 1 h5]
theorem szs_same : ∀ (ks ks' : List T) (n : Int), T.samesB ks ks' = true -> T.szs ks n = T.szs ks' n
 | [], [], n, _ => rfl
 | [], _ :: _, _, h => by simp [T.samesB] at h
 | _ :: _, [], _, h => by simp [T.samesB] at h
 | t :: r, u :: s, n, h => by
  rw [T.samesB, Bool.and_eq_true] at h
  rw [T.szs, T.szs, sz_same t u h.1, szs_same r s _ h.2]
end
structure C where
 lv : Int
 ty : T
 has : Bool
 bo : T
def Wl : T := .mk 0 0 0 [] []
def T.kid (t : T) (i : Nat) : T := t.ks.getD i Wl
def withK (ks : List T) (x : T) (i many : Nat) : List T := (List.range many).map fun j => if j = i then x else ks.getD j Wl
def T.withT (t x : T) (i many : Nat) : T := .mk t.k t.n t.a t.ls (withK t.ks x i many)
def ofT (k : Int) (ks : List T) : T := .mk k 0 0 [] ks
def spot (t : T) : Option (Nat × Nat) :=
 if t.k = 6 then some (0, 2) else if t.k = 14 \/ t.k = 15 then some (0, 1) else if t.k = 18 then some (4, 5) else if t.k = 21 then some (5, 6)
 else if t.k = 24 /\ 0 <= t.a /\ (t.ks.length : Int) - 2 = t.a then some (t.a.toNat + 1, t.a.toNat + 2) else none
mutual
def T.nsz : T -> Nat
 | .mk _ _ _ _ ks => 1 + T.nszs ks
def T.nszs : List T -> Nat
 | [] => 0
 | t :: r => T.nsz t + T.nszs r
end
mutual
def T.sd (many : Nat) : T -> Int -> Nat
 | .mk k n _ _ ks, b => if k = 1 /\ n = b then many else 1 + T.sds many k ks 0 b
def T.sds (many : Nat) (k : Int) : List T -> Nat -> Int -> Nat
 | [], _, _ => 0
 | t :: r, i, b => T.sd many t (Zb b k i) + T.sds many k r (i + 1) b
end
def bodyC (l : List C) (num : Int) (lv : List LV) : Option T :=
 if h : 0 <= num /\ num.toNat < l.length then if (l[num.toNat]'h.2).lv = lv.length /\ (l[num.toNat]'h.2).has = true then some ((l[num.toNat]'h.2).bo.levels lv 0) else none else none
def treeT (t s : T) : T :=
 let a := s.kid 0
 let f := s.kid 1
 let rest := ofT 18 [(t.kid 0).lift 1 0 0, (t.kid 1).lift 1 1 0, (t.kid 2).lift 1 0 0, (t.kid 3).lift 1 0 0, ofT 6 [f.lift 1 0 0, ofT 1 []]]
 ofT 6 [ofT 6 [ofT 6 [t.kid 3, a], f], ofT 5 [(t.kid 1).put [a] 0, rest]]
def treeN (t s : T) : Nat :=
 let a := s.kid 0
 let f := s.kid 1
 7 + (a.nsz + f.nsz + f.nsz + (t.kid 3).nsz + (t.kid 3).nsz + (t.kid 0).nsz + (t.kid 1).nsz + (t.kid 2).nsz) + (t.kid 1).sd a.nsz 0
def ownS (l : List C) (t x : T) : Option (T × Nat) :=
 if t.k = 6 then if x.k = 5 then some ((x.kid 1).put [t.kid 1] 0, (x.kid 1).sd (t.kid 1).nsz 0) else none
 else if t.k = 14 \/ t.k = 15 then if x.k = 13 then some (x.kid (if t.k = 15 then 1 else 0), (x.kid (if t.k = 15 then 1 else 0)).nsz) else none
 else if t.k = 7 then some ((t.kid 2).put [t.kid 1] 0, (t.kid 2).sd (t.kid 1).nsz 0)
 else if t.k = 3 then (bodyC l t.n t.ls).map fun b => (b, b.nsz)
 else if t.k = 18 then if x.k = 17 then some (treeT t x, treeN t x) else none
 else if t.k = 21 then if x.k = 20 then some (t.kid 3, (t.kid 3).nsz) else none
 else if t.k = 24 /\ (spot t).isSome then if x.k = 23 /\ 0 <= x.n /\ x.n < t.a then some (t.kid (x.n.toNat + 1), (t.kid (x.n.toNat + 1)).nsz) else none
 else none
def T.trunc (t : T) : T :=
 match spot t with
 | none => t
 | some (i, many) => if h : i < t.ks.length then t.withT (T.trunc t.ks[i]) i many else t.withT Wl i many
termination_by t.deep
decreasing_by
 cases t with
 | mk k n a ls ks => exact T.deep_kid (List.getElem_mem h)
def Xe (l : List C) (t : T) : Option (T × Nat) :=
 match spot t with
 | none => ownS l t Wl
 | some (i, many) => if h : i < t.ks.length then (match Xe l t.ks[i] with
   | some u => some (t.withT u.1 i many, u.2)
   | none => ownS l (t.withT (T.trunc t.ks[i]) i many) (T.trunc t.ks[i])) else ownS l (t.withT Wl i many) Wl
termination_by t.deep
decreasing_by
 cases t with
 | mk k n a ls ks => exact T.deep_kid (List.getElem_mem h)
inductive Hd (l : List C) : T -> Nat -> T -> Prop where
 | stop {t : T} (h : Xe l t = none) : Hd l t 0 t.trunc
 | step {t u v : T} {c n : Nat} (h : Xe l t = some (u, c)) (r : Hd l u n v) : Hd l t (c + n) v
inductive Gone (l : List C) : T -> Int -> Prop where
 | now {t u : T} {c : Nat} {f : Int} (h : Xe l t = some (u, c)) (hf : f < c) : Gone l t f
 | later {t u : T} {c : Nat} {f : Int} (h : Xe l t = some (u, c)) (hf : (c : Int) <= f) (r : Gone l u (f - c)) : Gone l t f
theorem Hd.det {l : List C} {t v w : T} {n m : Nat} (h : Hd l t n v) : Hd l t m w -> n = m /\ v = w := by
 induction h generalizing m w with
 | stop h => intro h2; cases h2 with
  | stop _ => exact ⟨rfl, rfl⟩
  | step h3 _ => rw [h] at h3; cases h3
 | step h r ih => intro h2; cases h2 with
  | stop h3 => rw [h] at h3; cases h3
  | step h3 r3 =>
   rw [h] at h3
   cases h3
   obtain ⟨rfl, rfl⟩ := ih r3
   exact ⟨rfl, rfl⟩
theorem Hd.gone {l : List C} {t v : T} {n : Nat} (h : Hd l t n v) : ∀ {f : Int}, f < (n : Int) -> 0 <= f -> Gone l t f := by
 induction h with
 | stop h => intro f hf h0; omega
 | @step t u v c n h r ih =>
  intro f hf h0
  by_cases hc : (c : Int) <= f
  ·exact .later h hc (ih (by omega) (by omega))
  ·exact .now h (by omega)
theorem spot_of (t : T) : spot t = none \/ ∃ i many, spot t = some (i, many) := by
 cases h : spot t with
 | none => exact .inl rfl
 | some p => exact .inr ⟨p.1, p.2, rfl⟩
theorem withK_len (ks : List T) (x : T) (i many : Nat) : (withK ks x i many).length = many := by simp [withK]
theorem withK_get {ks : List T} {x : T} {i many j : Nat} (h : j < many) : (withK ks x i many).getD j Wl = if j = i then x else ks.getD j Wl := by
 rw [List.getD_eq_getElem?_getD, List.getElem?_eq_getElem (by rw [withK_len]; exact h)]
 simp [withK]
theorem spot_lt {t : T} {i many : Nat} (h : spot t = some (i, many)) : i < many := by
 unfold spot at h
 repeat' split at h
 all_goals first | (cases h; omega) | cases h
theorem spot_with {t x : T} {i many : Nat} (h : spot t = some (i, many)) : spot (t.withT x i many) = some (i, many) := by
 unfold spot at h ⊢
 unfold T.withT
 simp only [T.k_mk, T.a_mk, T.ks_mk, withK_len]
 by_cases h1 : t.k = 6
 ·rw [if_pos h1] at h ⊢; exact h
 rw [if_neg h1] at h ⊢
 by_cases h1 : t.k = 14 \/ t.k = 15
 ·rw [if_pos h1] at h ⊢; exact h
 rw [if_neg h1] at h ⊢
 by_cases h1 : t.k = 18
 ·rw [if_pos h1] at h ⊢; exact h
 rw [if_neg h1] at h ⊢
 by_cases h1 : t.k = 21
 ·rw [if_pos h1] at h ⊢; exact h
 rw [if_neg h1] at h ⊢
 by_cases h1 : t.k = 24 /\ 0 <= t.a /\ (t.ks.length : Int) - 2 = t.a
 ·rw [if_pos h1] at h
  obtain ⟨h1, h2, h3⟩ := h1
  cases h
  rw [if_pos ⟨h1, h2, by omega⟩]
 ·rw [if_neg h1] at h; cases h
theorem with_with (t x y : T) (i many : Nat) : (t.withT x i many).withT y i many = t.withT y i many := by
 unfold T.withT
 simp only [T.k_mk, T.n_mk, T.a_mk, T.ls_mk, T.ks_mk]
 congr 1
 unfold withK
 apply List.map_congr_left
 intro j hj
 have hj' : j < many := by simpa using hj
 split
 ·rfl
 ·rename_i hne
  have := withK_get (ks := t.ks) (x := x) (i := i) hj'
  unfold withK at this
  rw [this, if_neg hne]
theorem with_get {t x : T} {i many : Nat} (h : i < many) (h2 : i < (t.withT x i many).ks.length) : (t.withT x i many).ks[i] = x := by
 unfold T.withT at h2 ⊢
 simp [withK]
theorem trunc_none {t : T} (h : spot t = none) : t.trunc = t := by rw [T.trunc, h]
theorem trunc_in {t : T} {i many : Nat} (h : spot t = some (i, many)) (hi : i < t.ks.length) : t.trunc = t.withT (T.trunc t.ks[i]) i many := by rw [T.trunc, h]; simp only; rw [dif_pos hi]
theorem trunc_out {t : T} {i many : Nat} (h : spot t = some (i, many)) (hi : ¬ i < t.ks.length) : t.trunc = t.withT Wl i many := by rw [T.trunc, h]; simp only; rw [dif_neg hi]
theorem hstep_none {l : List C} {t : T} (h : spot t = none) : Xe l t = ownS l t Wl := by rw [Xe, h]
theorem hstep_in {l : List C} {t : T} {i many : Nat} (h : spot t = some (i, many)) (hi : i < t.ks.length) {u : T} {c : Nat} (hu : Xe l t.ks[i] = some (u, c)) : Xe l t = some (t.withT u i many, c) := by rw [Xe, h]; simp only; rw [dif_pos hi, hu]
theorem hstep_at {l : List C} {t : T} {i many : Nat} (h : spot t = some (i, many)) (hi : i < t.ks.length) (hu : Xe l t.ks[i] = none) : Xe l t = ownS l (t.withT (T.trunc t.ks[i]) i many) (T.trunc t.ks[i]) := by rw [Xe, h]; simp only; rw [dif_pos hi, hu]
theorem hstep_out {l : List C} {t : T} {i many : Nat} (h : spot t = some (i, many)) (hi : ¬ i < t.ks.length) : Xe l t = ownS l (t.withT Wl i many) Wl := by rw [Xe, h]; simp only; rw [dif_neg hi]
theorem zero_spot : spot Wl = none := rfl
theorem zero_step (l : List C) : Xe l Wl = none := by rw [hstep_none zero_spot]; rfl
theorem trunc_stuck {l : List C} (t : T) : Xe l t = none -> Xe l t.trunc = none /\ t.trunc.trunc = t.trunc := by
 induction t using T.ind with
 | h k n a ls ks ih =>
  intro h
  rcases spot_of (.mk k n a ls ks) with hs | ⟨i, many, hs⟩
  ·rw [trunc_none hs]; exact ⟨h, trunc_none hs⟩
  ·have hlt := spot_lt hs
   by_cases hi : i < ks.length
   ·have hi' : i < (T.mk k n a ls ks).ks.length := hi
    cases hu : Xe l ks[i] with
    | some u => rw [hstep_in hs hi' (u := u.1) (c := u.2) hu] at h; cases h
    | none =>
     obtain ⟨h1, h2⟩ := ih _ (List.getElem_mem hi) hu
     rw [hstep_at hs hi' hu] at h
     rw [trunc_in hs hi']
     have hs2 := spot_with (x := T.trunc (T.mk k n a ls ks).ks[i]) hs
     have hi2 : i < ((T.mk k n a ls ks).withT (T.trunc (T.mk k n a ls ks).ks[i]) i many).ks.length := by unfold T.withT; rw [T.ks_mk, withK_len]; exact hlt
     have hg := with_get hlt hi2
     constructor
     ·rw [hstep_at hs2 hi2 (by rw [hg]; exact h1), hg, with_with, show T.trunc (T.trunc (T.mk k n a ls ks).ks[i]) = T.trunc (T.mk k n a ls ks).ks[i] from h2]
      exact h
     ·rw [trunc_in hs2 hi2, hg, with_with, show T.trunc (T.trunc (T.mk k n a ls ks).ks[i]) = T.trunc (T.mk k n a ls ks).ks[i] from h2]
   ·have hi' : ¬ i < (T.mk k n a ls ks).ks.length := hi
    rw [hstep_out hs hi'] at h
    rw [trunc_out hs hi']
    have hs2 := spot_with (x := Wl) hs
    have hi2 : i < ((T.mk k n a ls ks).withT Wl i many).ks.length := by unfold T.withT; rw [T.ks_mk, withK_len]; exact hlt
    have hg := with_get hlt hi2
    constructor
    ·rw [hstep_at hs2 hi2 (by rw [hg]; exact zero_step l), hg, trunc_none zero_spot, with_with]
     exact h
    ·rw [trunc_in hs2 hi2, hg, trunc_none zero_spot, with_with]
theorem T.nsz_pos (t : T) : 1 <= t.nsz := by cases t; rw [T.nsz]; omega
theorem T.nszs_mem {t : T} {ks : List T} (h : t ∈ ks) : t.nsz <= T.nszs ks := by
 induction ks with
 | nil => cases h
 | cons x r ih =>
  rw [T.nszs]
  cases h with
  | head => omega
  | tail _ hm => have := ih hm; omega
theorem T.deep_nsz (t : T) : t.deep <= t.nsz := by
 induction t using T.ind with
 | h k n a ls ks ih =>
  rw [T.deep, T.nsz]
  have : ∀ l : List T, (∀ x, x ∈ l -> x.deep <= x.nsz) -> T.deeps l <= T.nszs l := by
   intro l
   induction l with
   | nil => intro _; simp [T.deeps, T.nszs]
   | cons x r ihl =>
    intro hl
    have h1 := hl x List.mem_cons_self
    have h2 := ihl (fun y hy => hl y (List.mem_cons_of_mem _ hy))
    rw [T.deeps, T.nszs]
    omega
  have := this ks ih
  omega
mutual
theorem T.sd_pos (many : Nat) (hm : 1 <= many) : ∀ (t : T) (b : Int), 1 <= t.sd many b
 | .mk k n a ls ks, b => by
  rw [T.sd]
  split <;> omega
end
mutual
theorem T.sd_le (many : Nat) (hm : 1 <= many) : ∀ (t : T) (b : Int), t.sd many b <= t.nsz * many
 | .mk k n a ls ks, b => by
  rw [T.sd, T.nsz]
  split
  ·exact Nat.le_mul_of_pos_left _ (by omega)
  ·have := T.sds_le many hm k ks 0 b
   rw [Nat.add_mul]
   omega
theorem T.sds_le (many : Nat) (hm : 1 <= many) (k : Int) : ∀ (ks : List T) (i : Nat) (b : Int), T.sds many k ks i b <= T.nszs ks * many
 | [], _, _ => by rw [T.sds]; omega
 | t :: r, i, b => by
  have h1 := T.sd_le many hm t (Zb b k i)
  have h2 := T.sds_le many hm k r (i + 1) b
  rw [T.sds, T.nszs, Nat.add_mul]
  omega
end
mutual
theorem nsz_lift (n fr : Int) : ∀ (t : T) (d : Int), (T.walk (liftTurn n fr) t d).nsz = t.nsz
 | .mk k m a ls ks, d => by rw [walk_lift, T.nsz, T.nsz, nszs_lift n fr k ks 0 d]
theorem nszs_lift (n fr k : Int) : ∀ (ks : List T) (i : Nat) (d : Int), T.nszs (T.walks (liftTurn n fr) k ks i d) = T.nszs ks
 | [], _, _ => by rw [T.walks]
 | t :: r, i, d => by rw [T.walks, T.nszs, T.nszs, nsz_lift n fr t, nszs_lift n fr k r]
end
mutual
theorem nsz_levels (bys : List LV) : ∀ (t : T) (d : Int), (T.walk (levTurn bys) t d).nsz = t.nsz
 | .mk k m a ls ks, d => by rw [walk_inr (f := levTurn bys) (x := (m, ls.map fun l => Wq (putL l bys))) rfl, T.nsz, T.nsz, nszs_levels bys k ks 0 d]
theorem nszs_levels (bys : List LV) (k : Int) : ∀ (ks : List T) (i : Nat) (d : Int), T.nszs (T.walks (levTurn bys) k ks i d) = T.nszs ks
 | [], _, _ => by rw [T.walks]
 | t :: r, i, d => by rw [T.walks, T.nszs, T.nszs, nsz_levels bys t, nszs_levels bys k r]
end
theorem nsz_put (x : T) (t : T) : ∀ d, (T.walk (putTurn [x]) t d).nsz = t.sd x.nsz d := by
 induction t using T.ind with
 | h k m a ls ks ih =>
  intro d
  have hks : ∀ (l : List T), (∀ y, y ∈ l -> y ∈ ks) -> ∀ i, T.nszs (T.walks (putTurn [x]) k l i d) = T.sds x.nsz k l i d := by
   intro l
   induction l with
   | nil => intro _ i; simp [T.walks, T.nszs, T.sds]
   | cons y r ihl =>
    intro hl i
    rw [T.walks, T.nszs, T.sds, ih y (hl y List.mem_cons_self), ihl (fun z hz => hl z (List.mem_cons_of_mem _ hz))]
  have hks0 := hks ks (fun _ h => h) 0
  rw [T.sd]
  by_cases hh : k = 1 /\ d <= m
  ·by_cases hl : (m - d).toNat < [x].length
   ·rw [walk_inl (putTurn_in (t := .mk k m a ls ks) hh hl), if_pos ⟨hh.1, by simp only [List.length_cons, List.length_nil] at hl; omega⟩]
    unfold T.lift
    rw [nsz_lift]
    simp
   ·rw [walk_inr (putTurn_over (t := .mk k m a ls ks) hh hl), T.nsz, hks0, if_neg]
    rintro ⟨-, h2⟩
    apply hl
    simp only [List.length_cons, List.length_nil]; omega
  ·rw [walk_inr (putTurn_low (t := .mk k m a ls ks) hh), T.nsz]
   rw [hks0, if_neg]
   rintro ⟨h1, h2⟩
   exact hh ⟨h1, by omega⟩
def TurnOk (f : Turn) : Prop := ∀ d t, okT t -> (∀ u, f d t = .inl u -> okT u) /\ (∀ x, f d t = .inr x -> I64 x.1 /\ x.2.length <= Wd /\ ∀ l, l ∈ x.2 -> okL l)
theorem walk_ok {f : Turn} (hf : TurnOk f) (t : T) : ∀ d, okT t -> okT (T.walk f t d) := by
 induction t using T.ind with
 | h k m a ls ks ih =>
  intro d ht
  obtain ⟨h1, h2⟩ := hf d _ ht
  cases hturn : f d (.mk k m a ls ks) with
  | inl u => rw [walk_inl hturn]; exact h1 u hturn
  | inr x =>
   rw [walk_inr hturn]
   obtain ⟨h3, h4, h5⟩ := h2 x hturn
   refine .mk ht.k h3 ht.a h4 h5 (by rw [T.walks_length]; exact ht.kl) ?_
   have hks := ht.ks
   simp only [T.ks_mk] at hks
   have : ∀ (l : List T), (∀ x, x ∈ l -> x ∈ ks) -> ∀ (i : Nat) t, t ∈ T.walks f k l i d -> okT t := by
    intro l
    induction l with
    | nil => intro _ i t h; rw [T.walks] at h; cases h
    | cons x r ihl =>
     intro hl i t h
     rw [T.walks] at h
     cases h with
     | head => exact ih x (hl x List.mem_cons_self) _ (hks x (hl x List.mem_cons_self))
     | tail _ hm => exact ihl (fun y hy => hl y (List.mem_cons_of_mem _ hy)) (i + 1) t hm
   exact this ks (fun _ h => h) 0
theorem lift_turn_ok (n fr : Int) : TurnOk (liftTurn n fr) := fun d t ht => ⟨(fun u h => by cases h), fun x h => by
 cases h
 exact ⟨liftNum_ok ht.n, ht.ll, ht.ls⟩⟩
theorem lift_ok {t : T} (n fr d : Int) (h : okT t) : okT (t.lift n fr d) := walk_ok (lift_turn_ok n fr) t d h
theorem put_turn_ok {bys : List T} (hb : ∀ b, b ∈ bys -> okT b) : TurnOk (putTurn bys) := fun d t ht => by
 by_cases hh : t.k = 1 /\ d <= t.n
 ·by_cases hl : (t.n - d).toNat < bys.length
  ·rw [putTurn_in hh hl]
   exact ⟨(fun u h => by cases h; exact lift_ok _ _ _ (hb _ (List.getElem_mem _))), (fun x h => by cases h)⟩
  ·rw [putTurn_over hh hl]
   exact ⟨(fun u h => by cases h), (fun x h => by cases h; exact ⟨i64_wrap _, ht.ll, ht.ls⟩)⟩
 ·rw [putTurn_low hh]
  exact ⟨(fun u h => by cases h), (fun x h => by cases h; exact ⟨ht.n, ht.ll, ht.ls⟩)⟩
theorem put_ok {t : T} {bys : List T} (hb : ∀ b, b ∈ bys -> okT b) (d : Int) (h : okT t) : okT (t.put bys d) := walk_ok (put_turn_ok hb) t d h
theorem norm_okL (l : LV) : okL (Wq l) := ⟨normOf_lmax l, fun p hp => by
 have := badP_nn ((normOf_nf l).ok p hp)
 unfold I64
 omega⟩
theorem lev_turn_ok (bys : List LV) : TurnOk (levTurn bys) := fun d t ht => ⟨(fun u h => by cases h), fun x h => by
 cases h
 refine ⟨ht.n, by rw [List.length_map]; exact ht.ll, fun l hl => ?_⟩
 rw [List.mem_map] at hl
 obtain ⟨y, _, rfl⟩ := hl
 exact norm_okL _⟩
theorem levels_ok {t : T} (bys : List LV) (d : Int) (h : okT t) : okT (t.levels bys d) := walk_ok (lev_turn_ok bys) t d h
def lackN (k : Int) (len : Nat) : Nat := if k = 6 then 2 - len else if k = 14 \/ k = 15 then 1 - len else if k = 18 then 5 - len else if k = 21 then 6 - len else 0
mutual
def T.pot : T -> Nat
 | .mk k _ _ _ ks => 1 + lackN k ks.length + T.pots ks
def T.pots : List T -> Nat
 | [] => 0
 | t :: r => T.pot t + T.pots r
end
theorem lackN_le (k : Int) (len : Nat) : lackN k len <= 6 := by unfold lackN; (repeat' split) <;> omega
mutual
theorem nsz_pot : ∀ t : T, t.nsz <= t.pot
 | .mk k n a ls ks => by rw [T.nsz, T.pot]; have := nszs_pots ks; omega
theorem nszs_pots : ∀ ks : List T, T.nszs ks <= T.pots ks
 | [] => by rw [T.nszs]; omega
 | t :: r => by rw [T.nszs, T.pots]; have := nsz_pot t; have := nszs_pots r; omega
end
mutual
theorem pot_le : ∀ t : T, t.pot <= 7 * t.nsz
 | .mk k n a ls ks => by rw [T.nsz, T.pot]; have := pots_le ks; have := lackN_le k ks.length; omega
theorem pots_le : ∀ ks : List T, T.pots ks <= 7 * T.nszs ks
 | [] => by rw [T.pots]; omega
 | t :: r => by rw [T.nszs, T.pots]; have := pot_le t; have := pots_le r; omega
end
theorem pots_mem {t : T} {ks : List T} (h : t ∈ ks) : t.pot <= T.pots ks := by
 induction ks with
 | nil => cases h
 | cons x r ih =>
  rw [T.pots]
  cases h with
  | head => omega
  | tail _ hm => have := ih hm; omega
theorem pot_pos (t : T) : 1 <= t.pot := by have := nsz_pot t; have := t.nsz_pos; omega
theorem pot_zero : Wl.pot = 1 := rfl
theorem kid_pot (t : T) (i : Nat) : (t.kid i).pot <= t.pot := by
 unfold T.kid
 rw [List.getD_eq_getElem?_getD]
 by_cases h : i < t.ks.length
 ·rw [List.getElem?_eq_getElem h]
  have := pots_mem (List.getElem_mem h)
  cases t with
  | mk k n a ls ks => rw [T.pot]; simp only [T.ks_mk, Option.getD_some] at this ⊢; omega
 ·rw [List.getElem?_eq_none (by omega)]
  have := pot_pos t
  exact this
theorem pots_append : ∀ a b : List T, T.pots (a ++ b) = T.pots a + T.pots b
 | [], b => by simp [T.pots]
 | t :: r, b => by rw [List.cons_append, T.pots, T.pots, pots_append r b]; omega
theorem pots_pad (ks : List T) : ∀ m : Nat, T.pots ((List.range m).map fun j => ks.getD j Wl) <= T.pots (ks.take m) + (m - ks.length)
 | 0 => by simp [T.pots]
 | m + 1 => by
  rw [List.range_succ, List.map_append, pots_append]
  have ih := pots_pad ks m
  simp only [List.map_cons, List.map_nil, T.pots]
  by_cases h : m < ks.length
  ·rw [List.take_succ_eq_append_getElem h, pots_append]
   simp only [T.pots]
   rw [List.getD_eq_getElem?_getD, List.getElem?_eq_getElem h]
   simp only [Option.getD_some]
   omega
  ·rw [List.take_of_length_le (by omega)] at ih ⊢
   rw [List.getD_eq_getElem?_getD, List.getElem?_eq_none (by omega)]
   simp only [Option.getD_none, pot_zero]
   omega
theorem pots_take : ∀ (ks : List T) (m : Nat), T.pots (ks.take m) <= T.pots ks
 | [], m => by simp
 | t :: r, 0 => by simp [T.pots]
 | t :: r, m + 1 => by rw [List.take_succ_cons, T.pots, T.pots]; have := pots_take r m; omega
theorem pots_withK (ks : List T) (x : T) (i : Nat) : ∀ m : Nat, T.pots (withK ks x i m) + (if i < m then (ks.getD i Wl).pot else 0) = T.pots ((List.range m).map fun j => ks.getD j Wl) + (if i < m then x.pot else 0)
 | 0 => by simp [withK, T.pots]
 | m + 1 => by
  have ih := pots_withK ks x i m
  unfold withK at ih ⊢
  rw [List.range_succ, List.map_append, List.map_append, pots_append, pots_append]
  simp only [List.map_cons, List.map_nil, T.pots]
  by_cases h1 : m = i
  ·subst h1
   rw [if_neg (by omega)] at ih
   rw [if_neg (by omega)] at ih
   simp only [if_true, if_pos (Nat.lt_succ_self m)]
   omega
  ·simp only [h1, if_false]
   by_cases h2 : i < m
   ·rw [if_pos h2, if_pos h2] at ih
    rw [if_pos (by omega), if_pos (by omega)]
    omega
   ·rw [if_neg h2, if_neg h2] at ih
    rw [if_neg (by omega), if_neg (by omega)]
    omega
theorem spot_lack {t : T} {i many : Nat} (h : spot t = some (i, many)) : lackN t.k many = 0 /\ many - t.ks.length <= lackN t.k t.ks.length := by
 unfold spot at h
 unfold lackN
 by_cases h1 : t.k = 6
 ·rw [if_pos h1] at h ⊢; rw [if_pos h1]; cases h; omega
 rw [if_neg h1] at h ⊢; rw [if_neg h1]
 by_cases h1 : t.k = 14 \/ t.k = 15
 ·rw [if_pos h1] at h ⊢; rw [if_pos h1]; cases h; omega
 rw [if_neg h1] at h ⊢; rw [if_neg h1]
 by_cases h1 : t.k = 18
 ·rw [if_pos h1] at h ⊢; rw [if_pos h1]; cases h; omega
 rw [if_neg h1] at h ⊢; rw [if_neg h1]
 by_cases h1 : t.k = 21
 ·rw [if_pos h1] at h ⊢; rw [if_pos h1]; cases h; omega
 rw [if_neg h1] at h ⊢; rw [if_neg h1]
 by_cases h1 : t.k = 24 /\ 0 <= t.a /\ (t.ks.length : Int) - 2 = t.a
 ·rw [if_pos h1] at h; cases h; omega
 ·rw [if_neg h1] at h; cases h
theorem with_pot {t x : T} {i many : Nat} (h : spot t = some (i, many)) : (t.withT x i many).pot + (t.kid i).pot <= t.pot + x.pot := by
 have hlt := spot_lt h
 have hlack := spot_lack h
 have h1 := pots_withK t.ks x i many
 have h2 := pots_pad t.ks many
 have h3 := pots_take t.ks many
 rw [if_pos hlt, if_pos hlt] at h1
 cases t with
 | mk k n a ls ks =>
  unfold T.withT T.kid
  rw [T.pot, T.pot]
  simp only [T.k_mk, T.ks_mk, withK_len] at hlack h1 h2 h3 ⊢
  omega
theorem trunc_pot (t : T) : t.trunc.pot <= t.pot := by
 induction t using T.ind with
 | h k n a ls ks ih =>
  rcases spot_of (.mk k n a ls ks) with hs | ⟨i, many, hs⟩
  ·rw [trunc_none hs]; exact Nat.le_refl _
  ·by_cases hi : i < (T.mk k n a ls ks).ks.length
   ·rw [trunc_in hs hi]
    have h1 := with_pot (x := T.trunc (T.mk k n a ls ks).ks[i]) hs
    have h2 := ih _ (List.getElem_mem hi)
    have h3 : (T.mk k n a ls ks).kid i = (T.mk k n a ls ks).ks[i] := by unfold T.kid; rw [List.getD_eq_getElem?_getD, List.getElem?_eq_getElem hi]; rfl
    rw [h3] at h1
    simp only [T.ks_mk] at h1 h2 ⊢
    omega
   ·rw [trunc_out hs hi]
    have h1 := with_pot (x := Wl) hs
    have h2 := pot_pos ((T.mk k n a ls ks).kid i)
    rw [pot_zero] at h1
    omega
theorem nsz_of2 (k : Int) (x y : T) : (ofT k [x, y]).nsz = 1 + x.nsz + y.nsz := by unfold ofT; rw [T.nsz, T.nszs, T.nszs, T.nszs]; omega
theorem nsz_lift0 (t : T) (n fr : Int) : (t.lift n fr 0).nsz = t.nsz := nsz_lift n fr t 0
theorem tree_nsz (t s : T) : (treeT t s).nsz = treeN t s := by
 unfold treeT treeN
 simp only [nsz_of2]
 unfold ofT
 simp only [T.nsz, T.nszs, nsz_lift0]
 have : ((t.kid 1).put [s.kid 0] 0).nsz = (t.kid 1).sd (s.kid 0).nsz 0 := nsz_put _ _ _
 rw [this]
 omega
theorem own_nsz {l : List C} {t x u : T} {c : Nat} (h : ownS l t x = some (u, c)) : u.nsz = c := by
 unfold ownS at h
 repeat' split at h
 all_goals first | (cases h; done) | skip
 all_goals first
  | (cases h; exact nsz_put _ _ _)
  | (cases h; exact tree_nsz _ _)
  | (cases h; rfl)
  | (rw [Option.map_eq_some_iff] at h; obtain ⟨b, -, hb⟩ := h; cases hb; rfl)
theorem own_pos {l : List C} {t x u : T} {c : Nat} (h : ownS l t x = some (u, c)) : 1 <= c := by rw [<- own_nsz h]; exact u.nsz_pos
theorem hstep_cases {l : List C} {t u : T} {c : Nat} (h : Xe l t = some (u, c)) :
  (∃ i many, spot t = some (i, many) /\ ∃ hi : i < t.ks.length, ∃ v, Xe l t.ks[i] = some (v, c) /\ u = t.withT v i many) \/
  (∃ i many, spot t = some (i, many) /\ ∃ x, x.pot <= (t.kid i).pot /\ ownS l (t.withT x i many) x = some (u, c)) \/
  (spot t = none /\ ownS l t Wl = some (u, c)) := by
 rcases spot_of t with hs | ⟨i, many, hs⟩
 ·exact .inr (.inr ⟨hs, by rw [<- hstep_none hs]; exact h⟩)
 ·by_cases hi : i < t.ks.length
  ·cases hk : Xe l t.ks[i] with
   | some v =>
    rw [hstep_in hs hi (u := v.1) (c := v.2) hk] at h
    cases h
    exact .inl ⟨i, many, hs, hi, v.1, hk, rfl⟩
   | none =>
    rw [hstep_at hs hi hk] at h
    refine .inr (.inl ⟨i, many, hs, _, ?_, h⟩)
    have h3 : t.kid i = t.ks[i] := by unfold T.kid; rw [List.getD_eq_getElem?_getD, List.getElem?_eq_getElem hi]; rfl
    rw [h3]
    exact trunc_pot _
  ·rw [hstep_out hs hi] at h
   exact .inr (.inl ⟨i, many, hs, Wl, by rw [pot_zero]; exact pot_pos _, h⟩)
theorem hstep_pos {l : List C} (t : T) : ∀ {u : T} {c : Nat}, Xe l t = some (u, c) -> 1 <= c := by
 induction t using T.ind with
 | h k n a ls ks ih =>
  intro u c h
  rcases hstep_cases h with ⟨i, many, hs, hi, v, hv, -⟩ | ⟨i, many, hs, x, -, ho⟩ | ⟨hs, ho⟩
  ·exact ih _ (List.getElem_mem hi) hv
  ·exact own_pos ho
  ·exact own_pos ho
theorem hstep_pot {l : List C} (t : T) : ∀ {u : T} {c : Nat}, Xe l t = some (u, c) -> u.pot <= t.pot + 7 * c := by
 induction t using T.ind with
 | h k n a ls ks ih =>
  intro u c h
  rcases hstep_cases h with ⟨i, many, hs, hi, v, hv, rfl⟩ | ⟨i, many, hs, x, -, ho⟩ | ⟨hs, ho⟩
  ·have h1 := ih _ (List.getElem_mem hi) hv
   have h2 := with_pot (x := v) hs
   have h3 : (T.mk k n a ls ks).kid i = (T.mk k n a ls ks).ks[i] := by unfold T.kid; rw [List.getD_eq_getElem?_getD, List.getElem?_eq_getElem hi]; rfl
   rw [h3] at h2
   simp only [T.ks_mk] at h2 h1 ⊢
   omega
  ·have h1 := own_nsz ho
   have h2 := pot_le u
   omega
  ·have h1 := own_nsz ho
   have h2 := pot_le u
   omega
theorem zero_ok : okT Wl := .mk (by unfold I64; omega) (by unfold I64; omega) (by unfold I64; omega) (by simp) (fun _ h => nomatch h) (by simp) (fun _ h => nomatch h)
theorem getD_ok {ks : List T} (h : ∀ t, t ∈ ks -> okT t) (i : Nat) : okT (ks.getD i Wl) := by
 rw [List.getD_eq_getElem?_getD]
 by_cases hi : i < ks.length
 ·rw [List.getElem?_eq_getElem hi]; exact h _ (List.getElem_mem hi)
 ·rw [List.getElem?_eq_none (by omega)]; exact zero_ok
theorem kid_ok {t : T} (h : okT t) (i : Nat) : okT (t.kid i) := getD_ok h.ks i
theorem with_ok {t x : T} {i many : Nat} (h : okT t) (hx : okT x) (hm : many <= Wd) : okT (t.withT x i many) := by
 unfold T.withT
 refine .mk h.k h.n h.a h.ll h.ls (by rw [withK_len]; exact hm) fun y hy => ?_
 unfold withK at hy
 rw [List.mem_map] at hy
 obtain ⟨j, -, rfl⟩ := hy
 split
 ·exact hx
 ·exact getD_ok h.ks j
theorem spot_many {t : T} {i many : Nat} (h : spot t = some (i, many)) (ht : okT t) : many <= Wd := by
 have hk := ht.kl
 unfold spot at h
 unfold Wd at hk ⊢
 repeat' split at h
 all_goals first | (cases h; omega) | cases h
theorem trunc_ok (t : T) : okT t -> okT t.trunc := by
 induction t using T.ind with
 | h k n a ls ks ih =>
  intro ht
  rcases spot_of (.mk k n a ls ks) with hs | ⟨i, many, hs⟩
  ·rw [trunc_none hs]; exact ht
  ·by_cases hi : i < (T.mk k n a ls ks).ks.length
   ·rw [trunc_in hs hi]
    exact with_ok ht (ih _ (List.getElem_mem hi) (ht.ks _ (List.getElem_mem hi))) (spot_many hs ht)
   ·rw [trunc_out hs hi]
    exact with_ok ht zero_ok (spot_many hs ht)
theorem ok_of {k : Int} {ks : List T} (hk : I64 k) (hl : ks.length <= Wd) (h : ∀ t, t ∈ ks -> okT t) : okT (ofT k ks) := .mk hk (by unfold I64; omega) (by unfold I64; omega) (by simp) (fun _ h => nomatch h) hl h
theorem ok_of2 {k : Int} {x y : T} (hk : I64 k) (hx : okT x) (hy : okT y) : okT (ofT k [x, y]) := ok_of hk (by unfold Wd; simp) fun t h => by
 simp only [List.mem_cons, List.not_mem_nil, or_false] at h
 rcases h with rfl | rfl <;> assumption
theorem one_mem {x t : T} (h : t ∈ [x]) : t = x := by simpa using h
theorem tree_ok {t s : T} (ht : okT t) (hs : okT s) : okT (treeT t s) := by
 have i6 : I64 6 := by unfold I64; omega
 have i5 : I64 5 := by unfold I64; omega
 have i18 : I64 18 := by unfold I64; omega
 have i1 : I64 1 := by unfold I64; omega
 unfold treeT
 refine ok_of2 i6 (ok_of2 i6 (ok_of2 i6 (kid_ok ht 3) (kid_ok hs 0)) (kid_ok hs 1)) (ok_of2 i5 (put_ok (fun b hb => by rw [one_mem hb]; exact kid_ok hs 0) 0 (kid_ok ht 1)) (ok_of i18 (by unfold Wd; simp) fun y hy => ?_))
 simp only [List.mem_cons, List.not_mem_nil, or_false] at hy
 rcases hy with rfl | rfl | rfl | rfl | rfl
 ·exact lift_ok _ _ _ (kid_ok ht 0)
 ·exact lift_ok _ _ _ (kid_ok ht 1)
 ·exact lift_ok _ _ _ (kid_ok ht 2)
 ·exact lift_ok _ _ _ (kid_ok ht 3)
 ·exact ok_of2 i6 (lift_ok _ _ _ (kid_ok hs 1)) (ok_of i1 (by simp) (fun _ h => nomatch h))
def okC (c : C) : Prop := I64 c.lv /\ okT c.ty /\ okT c.bo
theorem body_ok {l : List C} (hl : ∀ c, c ∈ l -> okC c) {n : Int} {lv : List LV} {b : T} (h : bodyC l n lv = some b) : okT b := by
 unfold bodyC at h
 split at h
 ·rename_i h1
  split at h
  ·cases h; exact levels_ok _ _ (hl _ (List.getElem_mem h1.2)).2.2
  ·cases h
 ·cases h
theorem body_nsz {l : List C} {B : Nat} (hl : ∀ c, c ∈ l -> c.bo.nsz <= B) {n : Int} {lv : List LV} {b : T} (h : bodyC l n lv = some b) : b.nsz <= B := by
 unfold bodyC at h
 split at h
 ·rename_i h1
  split at h
  ·cases h; unfold T.levels; rw [nsz_levels]; exact hl _ (List.getElem_mem h1.2)
  ·cases h
 ·cases h
theorem own_ok {l : List C} (hl : ∀ c, c ∈ l -> okC c) {t x u : T} {c : Nat} (ht : okT t) (hx : okT x) (h : ownS l t x = some (u, c)) : okT u := by
 unfold ownS at h
 repeat' split at h
 all_goals first | (cases h; done) | skip
 all_goals first
  | (cases h; exact put_ok (fun b hb => by rw [one_mem hb]; exact kid_ok ht 1) 0 (kid_ok hx 1))
  | (cases h; exact put_ok (fun b hb => by rw [one_mem hb]; exact kid_ok ht 1) 0 (kid_ok ht 2))
  | (cases h; exact tree_ok ht hx)
  | (cases h; exact kid_ok hx _)
  | (cases h; exact kid_ok ht _)
  | (rw [Option.map_eq_some_iff] at h; obtain ⟨b, hb1, hb⟩ := h; cases hb; exact body_ok hl hb1)
theorem hstep_ok {l : List C} (hl : ∀ c, c ∈ l -> okC c) (t : T) : ∀ {u : T} {c : Nat}, okT t -> Xe l t = some (u, c) -> okT u := by
 induction t using T.ind with
 | h k n a ls ks ih =>
  intro u c ht h
  rcases spot_of (.mk k n a ls ks) with hs | ⟨i, many, hs⟩
  ·rw [hstep_none hs] at h; exact own_ok hl ht zero_ok h
  ·by_cases hi : i < (T.mk k n a ls ks).ks.length
   ·have hki := ht.ks _ (List.getElem_mem hi)
    cases hk : Xe l (T.mk k n a ls ks).ks[i] with
    | some v =>
     rw [hstep_in hs hi (u := v.1) (c := v.2) hk] at h
     cases h
     exact with_ok ht (ih _ (List.getElem_mem hi) hki hk) (spot_many hs ht)
    | none =>
     rw [hstep_at hs hi hk] at h
     exact own_ok hl (with_ok ht (trunc_ok _ hki) (spot_many hs ht)) (trunc_ok _ hki) h
   ·rw [hstep_out hs hi] at h
    exact own_ok hl (with_ok ht zero_ok (spot_many hs ht)) zero_ok h
theorem sd_bound {t a : T} {A : Nat} (h1 : t.pot <= A) (h2 : a.pot <= A) : t.sd a.nsz 0 <= A * A := by
 have h3 := T.sd_le a.nsz a.nsz_pos t 0
 have h4 := nsz_pot t
 have h5 := nsz_pot a
 exact Nat.le_trans h3 (Nat.mul_le_mul (by omega) (by omega))
theorem own_bound {l : List C} {B : Nat} (hl : ∀ c, c ∈ l -> c.bo.nsz <= B) {t x u : T} {c A : Nat} (ht : t.pot <= A) (hx : x.pot <= A) (h : ownS l t x = some (u, c)) : c <= 7 + 8 * A + A * A + B := by
 have kt := fun i => kid_pot t i
 have kx := fun i => kid_pot x i
 unfold ownS at h
 repeat' split at h
 all_goals first | (cases h; done) | skip
 all_goals first
  | (cases h; have := sd_bound (A := A) (Nat.le_trans (kx 1) hx) (Nat.le_trans (kt 1) ht); omega)
  | (cases h; have := sd_bound (A := A) (Nat.le_trans (kt 2) ht) (Nat.le_trans (kt 1) ht); omega)
  | (cases h; have h1 := nsz_pot (x.kid 1); have h2 := kx 1; omega)
  | (cases h; have h1 := nsz_pot (x.kid 0); have h2 := kx 0; omega)
  | (cases h; have h1 := nsz_pot (t.kid 3); have h2 := kt 3; omega)
  | (cases h; have h1 := nsz_pot (t.kid (x.n.toNat + 1)); have h2 := kt (x.n.toNat + 1); omega)
  | (cases h; unfold treeN; have h1 := sd_bound (A := A) (Nat.le_trans (kt 1) ht) (Nat.le_trans (kx 0) hx); have h2 := nsz_pot (x.kid 0); have h3 := nsz_pot (x.kid 1); have h4 := nsz_pot (t.kid 0); have h5 := nsz_pot (t.kid 1); have h6 := nsz_pot (t.kid 2); have h7 := nsz_pot (t.kid 3); have h8 := kx 0; have h9 := kx 1; have g4 := kt 0; have g5 := kt 1; have g6 := kt 2; have g7 := kt 3; dsimp only; omega)
  | (rw [Option.map_eq_some_iff] at h; obtain ⟨b, hb1, hb⟩ := h; cases hb; have := body_nsz hl hb1; omega)
theorem hstep_bound {l : List C} {B : Nat} (hl : ∀ c, c ∈ l -> c.bo.nsz <= B) (t : T) : ∀ {u : T} {c A : Nat}, t.pot <= A -> Xe l t = some (u, c) -> c <= 7 + 8 * A + A * A + B := by
 induction t using T.ind with
 | h k n a ls ks ih =>
  intro u c A hA h
  rcases hstep_cases h with ⟨i, many, hs, hi, v, hv, -⟩ | ⟨i, many, hs, x, hx, ho⟩ | ⟨hs, ho⟩
  ·have hk := kid_pot (T.mk k n a ls ks) i
   have h3 : (T.mk k n a ls ks).kid i = (T.mk k n a ls ks).ks[i] := by unfold T.kid; rw [List.getD_eq_getElem?_getD, List.getElem?_eq_getElem hi]; rfl
   rw [h3] at hk
   exact ih _ (List.getElem_mem hi) (Nat.le_trans hk hA) hv
  ·have h1 := with_pot (x := x) hs
   have h2 := kid_pot (T.mk k n a ls ks) i
   exact own_bound hl (A := A) (by omega) (by omega) ho
  ·exact own_bound hl (A := A) hA (by rw [pot_zero]; have := pot_pos (T.mk k n a ls ks); omega) ho
inductive GoneAt (l : List C) : T -> Int -> Int -> Prop where
 | now {t u : T} {c : Nat} {f : Int} (h : Xe l t = some (u, c)) (hf : f < c) : GoneAt l t f f
 | later {t u : T} {c : Nat} {f q : Int} (h : Xe l t = some (u, c)) (hf : (c : Int) <= f) (r : GoneAt l u (f - c) q) : GoneAt l t f q
theorem hd_or_gone (l : List C) (k : Nat) : ∀ (t : T) (f : Int), 0 <= f -> f <= k -> (∃ n u, Hd l t n u /\ (n : Int) <= f) \/ ∃ q, GoneAt l t f q := by
 induction k with
 | zero =>
  intro t f h0 h1
  cases h : Xe l t with
  | none => exact .inl ⟨0, _, .stop h, by omega⟩
  | some p =>
   have := hstep_pos t h
   exact .inr ⟨f, .now h (by omega)⟩
 | succ k ih =>
  intro t f h0 h1
  cases h : Xe l t with
  | none => exact .inl ⟨0, _, .stop h, by omega⟩
  | some p =>
   have hp := hstep_pos t h
   by_cases hc : (p.2 : Int) <= f
   ·rcases ih p.1 (f - p.2) (by omega) (by omega) with ⟨n, u, h2, h3⟩ | ⟨q, h2⟩
    ·exact .inl ⟨p.2 + n, u, .step h h2, by omega⟩
    ·exact .inr ⟨q, .later h hc h2⟩
   ·exact .inr ⟨f, .now h (by omega)⟩
theorem Hd.done {l : List C} {t v : T} {n : Nat} (h : Hd l t n v) : Xe l v = none /\ v.trunc = v := by
 induction h with
 | stop h => exact trunc_stuck _ h
 | step h r ih => exact ih
def Wt (t : T) : T := match spot t with
 | some p => t.kid p.1
 | none => Wl
theorem kid_in {t : T} {i : Nat} (h : i < t.ks.length) : t.kid i = t.ks[i] := by unfold T.kid; rw [List.getD_eq_getElem?_getD, List.getElem?_eq_getElem h]; rfl
theorem kid_out {t : T} {i : Nat} (h : ¬ i < t.ks.length) : t.kid i = Wl := by unfold T.kid; rw [List.getD_eq_getElem?_getD, List.getElem?_eq_none (by omega)]; rfl
theorem with_len {t x : T} {i many : Nat} : (t.withT x i many).ks.length = many := by unfold T.withT; rw [T.ks_mk, withK_len]
theorem with_kid {t x : T} {i many : Nat} (h : spot t = some (i, many)) : (t.withT x i many).kid i = x := by
 have hlt := spot_lt h
 have h2 : i < (t.withT x i many).ks.length := by rw [with_len]; exact hlt
 rw [kid_in h2, with_get hlt h2]
theorem place_with {t x : T} {i many : Nat} (h : spot t = some (i, many)) : Wt (t.withT x i many) = x := by
 unfold Wt
 rw [spot_with h]
 exact with_kid h
theorem kid_step {l : List C} {t : T} {i many : Nat} (hs : spot t = some (i, many)) {u : T} {c : Nat} (hu : Xe l (t.kid i) = some (u, c)) : Xe l t = some (t.withT u i many, c) := by
 by_cases hi : i < t.ks.length
 ·rw [kid_in hi] at hu; exact hstep_in hs hi hu
 ·rw [kid_out hi, zero_step] at hu; cases hu
theorem kid_stuck {l : List C} {t : T} {i many : Nat} (hs : spot t = some (i, many)) (hu : Xe l (t.kid i) = none) : Xe l t = ownS l (t.withT (t.kid i).trunc i many) (t.kid i).trunc /\ t.trunc = t.withT (t.kid i).trunc i many := by
 by_cases hi : i < t.ks.length
 ·rw [kid_in hi] at hu ⊢; exact ⟨hstep_at hs hi hu, trunc_in hs hi⟩
 ·rw [kid_out hi, trunc_none zero_spot]; exact ⟨hstep_out hs hi, trunc_out hs hi⟩
theorem ready {l : List C} {t v : T} {i many : Nat} (hs : spot t = some (i, many)) (hv : Xe l v = none) (hv2 : v.trunc = v) : Xe l (t.withT v i many) = ownS l (t.withT v i many) v /\ (t.withT v i many).trunc = t.withT v i many := by
 have h1 := spot_with (x := v) hs
 have h2 := kid_stuck (l := l) h1 (by rw [with_kid hs]; exact hv)
 rw [with_kid hs, hv2, with_with] at h2
 exact h2
theorem ready_kid {l : List C} {t : T} {i many : Nat} (hs : spot t = some (i, many)) (hu : Xe l (t.kid i) = none) : Xe l (t.withT (t.kid i).trunc i many) = Xe l t /\ (t.withT (t.kid i).trunc i many).trunc = t.trunc := by
 obtain ⟨h1, h2⟩ := trunc_stuck _ hu
 obtain ⟨h3, h4⟩ := ready hs h1 h2
 obtain ⟨h5, h6⟩ := kid_stuck hs hu
 exact ⟨by rw [h3, h5], by rw [h4, h6]⟩
theorem Hd.place {l : List C} {t u : T} {n : Nat} (h : Hd l t n u) : ∀ {i many : Nat}, spot t = some (i, many) -> ∃ m v, Hd l (t.kid i) m v /\ m <= n /\ Hd l (t.withT v i many) (n - m) u := by
 induction h with
 | @stop t h =>
  intro i many hs
  cases hk : Xe l (t.kid i) with
  | some p => rw [kid_step hs (u := p.1) (c := p.2) hk] at h; cases h
  | none =>
   obtain ⟨h1, h2⟩ := ready_kid hs hk
   refine ⟨0, _, .stop hk, Nat.le_refl _, ?_⟩
   rw [<- h2]
   exact .stop (by rw [h1]; exact h)
 | @step t u v c n h r ih =>
  intro i many hs
  cases hk : Xe l (t.kid i) with
  | some p =>
   rw [kid_step hs (u := p.1) (c := p.2) hk] at h
   cases h
   obtain ⟨m, w, h1, h2, h3⟩ := ih (spot_with hs)
   rw [with_kid hs] at h1
   rw [with_with] at h3
   exact ⟨p.2 + m, w, .step hk h1, by omega, by rw [show p.2 + n - (p.2 + m) = n - m by omega]; exact h3⟩
  | none =>
   obtain ⟨h1, h2⟩ := ready_kid hs hk
   exact ⟨0, _, .stop hk, Nat.zero_le _, .step (by rw [h1]; exact h) r⟩
theorem GoneAt.place {l : List C} {t : T} {f q : Int} (h : GoneAt l t f q) : ∀ {i many : Nat}, 0 <= f -> spot t = some (i, many) -> GoneAt l (t.kid i) f q \/ ∃ m v, Hd l (t.kid i) m v /\ (m : Int) <= f /\ GoneAt l (t.withT v i many) (f - m) q := by
 induction h with
 | @now t u c f h hf =>
  intro i many h0 hs
  cases hk : Xe l (t.kid i) with
  | some p =>
   rw [kid_step hs (u := p.1) (c := p.2) hk] at h
   cases h
   exact .inl (.now hk hf)
  | none =>
   obtain ⟨h1, h2⟩ := ready_kid hs hk
   refine .inr ⟨0, _, .stop hk, by omega, ?_⟩
   have : GoneAt l (t.withT (t.kid i).trunc i many) f f := .now (by rw [h1]; exact h) hf
   simpa using this
 | @later t u c f q h hf r ih =>
  intro i many h0 hs
  cases hk : Xe l (t.kid i) with
  | some p =>
   rw [kid_step hs (u := p.1) (c := p.2) hk] at h
   cases h
   rcases ih (by omega) (spot_with hs) with h1 | ⟨m, w, h1, h2, h3⟩
   ·rw [with_kid hs] at h1
    exact .inl (.later hk hf h1)
   ·rw [with_kid hs] at h1
    rw [with_with] at h3
    refine .inr ⟨p.2 + m, w, .step hk h1, by omega, ?_⟩
    rw [show f - ((p.2 + m : Nat) : Int) = f - p.2 - m by omega]
    exact h3
  | none =>
   obtain ⟨h1, h2⟩ := ready_kid hs hk
   refine .inr ⟨0, _, .stop hk, by omega, ?_⟩
   have : GoneAt l (t.withT (t.kid i).trunc i many) f q := .later (by rw [h1]; exact h) hf r
   simpa using this
def up1 (c : Nat) (k : Int) (i : Nat) : Nat := if Wu k i then c + 1 else c
mutual
def T.liftI (n : Nat) : T -> Nat -> T
 | .mk k m a ls ks, c => .mk k (if k = 1 /\ (c : Int) <= m then m + n else m) a ls (T.liftsI n k ks 0 c)
def T.liftsI (n : Nat) (k : Int) : List T -> Nat -> Nat -> List T
 | [], _, _ => []
 | t :: r, i, c => T.liftI n t (up1 c k i) :: T.liftsI n k r (i + 1) c
end
mutual
def T.putI (x : T) : T -> Nat -> T
 | .mk k m a ls ks, d => if k = 1 /\ m = d then x.liftI d 0 else .mk k (if k = 1 /\ (d : Int) < m then m - 1 else m) a ls (T.putsI x k ks 0 d)
def T.putsI (x : T) (k : Int) : List T -> Nat -> Nat -> List T
 | [], _, _ => []
 | t :: r, i, d => T.putI x t (up1 d k i) :: T.putsI x k r (i + 1) d
end
theorem liftI_var (n : Nat) (m a : Int) (ls : List LV) (ks : List T) (c : Nat) : T.liftI n (.mk 1 m a ls ks) c = .mk 1 (if (c : Int) <= m then m + n else m) a ls (T.liftsI n 1 ks 0 c) := by rw [T.liftI]; simp
theorem liftI_node {k : Int} (hk : ¬ k = 1) (n : Nat) (m a : Int) (ls : List LV) (ks : List T) (c : Nat) : T.liftI n (.mk k m a ls ks) c = .mk k m a ls (T.liftsI n k ks 0 c) := by rw [T.liftI, if_neg (fun h => hk h.1)]
theorem putI_hit (x : T) (a : Int) (ls : List LV) (ks : List T) (d : Nat) : T.putI x (.mk 1 (d : Int) a ls ks) d = x.liftI d 0 := by rw [T.putI, if_pos ⟨rfl, rfl⟩]
theorem putI_miss {m : Int} {d : Nat} (h : ¬ m = d) (x : T) (a : Int) (ls : List LV) (ks : List T) : T.putI x (.mk 1 m a ls ks) d = .mk 1 (if (d : Int) < m then m - 1 else m) a ls (T.putsI x 1 ks 0 d) := by rw [T.putI, if_neg (fun e => h e.2)]; simp
theorem putI_node {k : Int} (hk : ¬ k = 1) (x : T) (m a : Int) (ls : List LV) (ks : List T) (d : Nat) : T.putI x (.mk k m a ls ks) d = .mk k m a ls (T.putsI x k ks 0 d) := by rw [T.putI, if_neg (fun h => hk h.1), if_neg (fun h => hk h.1)]
theorem liftsI_len (n : Nat) (k : Int) : ∀ (ks : List T) (i c : Nat), (T.liftsI n k ks i c).length = ks.length
 | [], _, _ => by rw [T.liftsI]
 | t :: r, i, c => by rw [T.liftsI, List.length_cons, List.length_cons, liftsI_len n k r]
theorem putsI_len (x : T) (k : Int) : ∀ (ks : List T) (i c : Nat), (T.putsI x k ks i c).length = ks.length
 | [], _, _ => by rw [T.putsI]
 | t :: r, i, c => by rw [T.putsI, List.length_cons, List.length_cons, putsI_len x k r]
theorem up1_add (c e : Nat) (k : Int) (i : Nat) : up1 (c + e) k i = up1 c k i + e := by unfold up1; split <;> omega
theorem up1_le {c d : Nat} (h : c <= d) (k : Int) (i : Nat) : up1 c k i <= up1 d k i := by unfold up1; split <;> omega
theorem lift_lift_in (n m : Nat) (t : T) : ∀ c e, c <= e -> e <= c + n -> (t.liftI n c).liftI m e = t.liftI (n + m) c := by
 induction t using T.ind with
 | h k num a ls ks ih =>
  intro c e h1 h2
  rw [T.liftI, T.liftI, T.liftI]
  have hks : ∀ (l : List T), (∀ x, x ∈ l -> x ∈ ks) -> ∀ i, T.liftsI m k (T.liftsI n k l i c) i e = T.liftsI (n + m) k l i c := by
   intro l
   induction l with
   | nil => intro _ i; simp [T.liftsI]
   | cons x r ihl =>
    intro hl i
    rw [T.liftsI, T.liftsI, T.liftsI, ih x (hl x List.mem_cons_self) _ _ (up1_le h1 k i) (by rw [<- up1_add]; exact up1_le h2 k i), ihl (fun y hy => hl y (List.mem_cons_of_mem _ hy))]
  rw [hks ks (fun _ h => h)]
  congr 1
  by_cases hk : k = 1 /\ (c : Int) <= num
  ·rw [if_pos hk, if_pos ⟨hk.1, by have := hk.2; omega⟩, if_pos hk]; push_cast; omega
  ·rw [if_neg hk, if_neg hk, if_neg (fun h => hk ⟨h.1, by have := h.2; omega⟩)]
theorem lift_lift_out (n m : Nat) (t : T) : ∀ c e, c <= e -> (t.liftI m e).liftI n c = (t.liftI n c).liftI m (e + n) := by
 induction t using T.ind with
 | h k num a ls ks ih =>
  intro c e h1
  rw [T.liftI, T.liftI, T.liftI, T.liftI]
  have hks : ∀ (l : List T), (∀ x, x ∈ l -> x ∈ ks) -> ∀ i, T.liftsI n k (T.liftsI m k l i e) i c = T.liftsI m k (T.liftsI n k l i c) i (e + n) := by
   intro l
   induction l with
   | nil => intro _ i; simp [T.liftsI]
   | cons x r ihl =>
    intro hl i
    simp only [T.liftsI]
    rw [ih x (hl x List.mem_cons_self) _ _ (up1_le h1 k i), up1_add, ihl (fun y hy => hl y (List.mem_cons_of_mem _ hy))]
  rw [hks ks (fun _ h => h)]
  congr 1
  by_cases hk : k = 1
  ·simp only [hk, true_and]
   repeat' split
   all_goals omega
  ·simp [hk]
theorem put_lift_in (x : T) (n : Nat) (t : T) : ∀ c d, c <= d -> d <= c + n -> T.putI x (t.liftI (n + 1) c) d = t.liftI n c := by
 induction t using T.ind with
 | h k num a ls ks ih =>
  intro c d h1 h2
  have hks : ∀ (l : List T), (∀ y, y ∈ l -> y ∈ ks) -> ∀ i, T.putsI x k (T.liftsI (n + 1) k l i c) i d = T.liftsI n k l i c := by
   intro l
   induction l with
   | nil => intro _ i; simp [T.liftsI, T.putsI]
   | cons y r ihl =>
    intro hl i
    rw [T.liftsI, T.putsI, T.liftsI, ih y (hl y List.mem_cons_self) _ _ (up1_le h1 k i) (by rw [<- up1_add]; exact up1_le h2 k i), ihl (fun z hz => hl z (List.mem_cons_of_mem _ hz))]
  rw [T.liftI, T.liftI, T.putI, hks ks (fun _ h => h)]
  by_cases hk : k = 1
  ·subst hk
   simp only [true_and]
   by_cases hc : (c : Int) <= num
   ·rw [if_pos hc, if_neg (by push_cast; omega), if_pos (by push_cast; omega), if_pos hc]
    congr 1
    push_cast; omega
   ·rw [if_neg hc, if_neg (by omega), if_neg (by omega), if_neg hc]
  ·simp [hk]
theorem lift_put_low (x : T) (n : Nat) (t : T) : ∀ c d, c <= d -> (T.putI x t d).liftI n c = T.putI x (t.liftI n c) (d + n) := by
 induction t using T.ind with
 | h k num a ls ks ih =>
  intro c d h1
  have hks : ∀ (l : List T), (∀ y, y ∈ l -> y ∈ ks) -> ∀ i, T.liftsI n k (T.putsI x k l i d) i c = T.putsI x k (T.liftsI n k l i c) i (d + n) := by
   intro l
   induction l with
   | nil => intro _ i; simp [T.liftsI, T.putsI]
   | cons y r ihl =>
    intro hl i
    simp only [T.liftsI, T.putsI]
    rw [ih y (hl y List.mem_cons_self) _ _ (up1_le h1 k i), up1_add, ihl (fun z hz => hl z (List.mem_cons_of_mem _ hz))]
  by_cases hk : k = 1
  ·subst hk
   by_cases hd : num = d
   ·subst hd
    rw [putI_hit, liftI_var, if_pos (by omega), show (d : Int) + n = ((d + n : Nat) : Int) by push_cast; rfl, putI_hit]
    exact lift_lift_in d n x 0 c (by omega) (by omega)
   ·have hne : ¬ (if (c : Int) <= num then num + n else num) = ((d + n : Nat) : Int) := by split <;> (push_cast; omega)
    rw [putI_miss hd, liftI_var, liftI_var, putI_miss hne, hks ks (fun _ h => h)]
    congr 1
    repeat' split
    all_goals (push_cast at *; omega)
  ·rw [putI_node hk, liftI_node hk, liftI_node hk, putI_node hk, hks ks (fun _ h => h)]
theorem lift_put_high (x : T) (n : Nat) (t : T) : ∀ c d, (T.putI x t d).liftI n (c + d) = T.putI (x.liftI n c) (t.liftI n (c + d + 1)) d := by
 induction t using T.ind with
 | h k num a ls ks ih =>
  intro c d
  have hks : ∀ (l : List T), (∀ y, y ∈ l -> y ∈ ks) -> ∀ i, T.liftsI n k (T.putsI x k l i d) i (c + d) = T.putsI (x.liftI n c) k (T.liftsI n k l i (c + d + 1)) i d := by
   intro l
   induction l with
   | nil => intro _ i; simp [T.liftsI, T.putsI]
   | cons y r ihl =>
    intro hl i
    have e1 : up1 (c + d) k i = c + up1 d k i := by unfold up1; split <;> omega
    have e2 : up1 (c + d + 1) k i = c + up1 d k i + 1 := by unfold up1; split <;> omega
    simp only [T.liftsI, T.putsI]
    rw [e1, e2, ih y (hl y List.mem_cons_self), ihl (fun z hz => hl z (List.mem_cons_of_mem _ hz))]
  by_cases hk : k = 1
  ·subst hk
   by_cases hd : num = d
   ·subst hd
    rw [putI_hit, liftI_var, if_neg (by push_cast; omega), putI_hit]
    have := lift_lift_out d n x 0 c (by omega)
    rw [this]
   ·have hne : ¬ (if ((c + d + 1 : Nat) : Int) <= num then num + n else num) = (d : Int) := by split <;> (push_cast at *; omega)
    rw [putI_miss hd, liftI_var, liftI_var, putI_miss hne, hks ks (fun _ h => h)]
    congr 1
    repeat' split
    all_goals (push_cast at *; omega)
  ·rw [putI_node hk, liftI_node hk, liftI_node hk, putI_node hk, hks ks (fun _ h => h)]
theorem put_put_I (x y : T) (t : T) : ∀ d e, T.putI y (T.putI x t d) (d + e) = T.putI (T.putI y x e) (T.putI y t (d + e + 1)) d := by
 induction t using T.ind with
 | h k num a ls ks ih =>
  intro d e
  have hks : ∀ (l : List T), (∀ z, z ∈ l -> z ∈ ks) -> ∀ i, T.putsI y k (T.putsI x k l i d) i (d + e) = T.putsI (T.putI y x e) k (T.putsI y k l i (d + e + 1)) i d := by
   intro l
   induction l with
   | nil => intro _ i; simp [T.putsI]
   | cons z r ihl =>
    intro hl i
    have e1 : up1 (d + e) k i = up1 d k i + e := by unfold up1; split <;> omega
    have e2 : up1 (d + e + 1) k i = up1 d k i + e + 1 := by unfold up1; split <;> omega
    simp only [T.putsI]
    rw [e1, e2, ih z (hl z List.mem_cons_self), ihl (fun w hw => hl w (List.mem_cons_of_mem _ hw))]
  by_cases hk : k = 1
  ·subst hk
   by_cases hd : num = d
   ·subst hd
    rw [putI_hit, putI_miss (by push_cast; omega), if_neg (by push_cast; omega), putI_hit]
    have := lift_put_low y d x 0 e (by omega)
    rw [this, Nat.add_comm]
   ·by_cases he : num = ((d + e + 1 : Nat) : Int)
    ·subst he
     rw [putI_miss hd, if_pos (by push_cast; omega), show ((d + e + 1 : Nat) : Int) - 1 = ((d + e : Nat) : Int) by push_cast; omega, putI_hit, putI_hit]
     have := put_lift_in (T.putI y x e) (d + e) y 0 d (by omega) (by omega)
     rw [this]
    ·have hne : ¬ (if (d : Int) < num then num - 1 else num) = ((d + e : Nat) : Int) := by split <;> (push_cast at *; omega)
     have hne2 : ¬ (if ((d + e + 1 : Nat) : Int) < num then num - 1 else num) = (d : Int) := by split <;> (push_cast at *; omega)
     rw [putI_miss hd, putI_miss hne, putI_miss he, putI_miss hne2, hks ks (fun _ h => h)]
     congr 1
     repeat' split
     all_goals (push_cast at *; omega)
  ·rw [putI_node hk, putI_node hk, putI_node hk, putI_node hk, hks ks (fun _ h => h)]
def treeI (t s : T) : T :=
 ofT 6 [ofT 6 [ofT 6 [t.kid 3, s.kid 0], s.kid 1], ofT 5 [T.putI (s.kid 0) (t.kid 1) 0, ofT 18 [(t.kid 0).liftI 1 0, (t.kid 1).liftI 1 1, (t.kid 2).liftI 1 0, (t.kid 3).liftI 1 0, ofT 6 [(s.kid 1).liftI 1 0, ofT 1 []]]]]
def ownI (l : List C) (t x : T) : Option T :=
 if t.k = 6 then if x.k = 5 then some (T.putI (t.kid 1) (x.kid 1) 0) else none
 else if t.k = 14 \/ t.k = 15 then if x.k = 13 then some (x.kid (if t.k = 15 then 1 else 0)) else none
 else if t.k = 7 then some (T.putI (t.kid 1) (t.kid 2) 0)
 else if t.k = 3 then bodyC l t.n t.ls
 else if t.k = 18 then if x.k = 17 then some (treeI t x) else none
 else if t.k = 21 then if x.k = 20 then some (t.kid 3) else none
 else if t.k = 24 /\ (spot t).isSome then if x.k = 23 /\ 0 <= x.n /\ x.n < t.a then some (t.kid (x.n.toNat + 1)) else none
 else none
def rootI (l : List C) (t : T) : Option T := ownI l t (Wt t)
theorem kid_mk (k n a : Int) (ls : List LV) (ks : List T) (i : Nat) : (T.mk k n a ls ks).kid i = ks.getD i Wl := rfl
theorem zero_liftI (n c : Nat) : Wl.liftI n c = Wl := by unfold Wl; rw [liftI_node (by decide), T.liftsI]
theorem zero_putI (x : T) (d : Nat) : T.putI x Wl d = Wl := by unfold Wl; rw [putI_node (by decide), T.putsI]
theorem liftsI_getD (n : Nat) (k : Int) : ∀ (ks : List T) (i c j : Nat), (T.liftsI n k ks i c).getD j Wl = (ks.getD j Wl).liftI n (up1 c k (i + j))
 | [], i, c, j => by rw [T.liftsI]; simp [zero_liftI]
 | t :: r, i, c, 0 => by rw [T.liftsI]; simp
 | t :: r, i, c, j + 1 => by
  rw [T.liftsI, List.getD_cons_succ, List.getD_cons_succ, liftsI_getD n k r (i + 1) c j, show i + 1 + j = i + (j + 1) by omega]
theorem putsI_getD (x : T) (k : Int) : ∀ (ks : List T) (i c j : Nat), (T.putsI x k ks i c).getD j Wl = T.putI x (ks.getD j Wl) (up1 c k (i + j))
 | [], i, c, j => by rw [T.putsI]; simp [zero_putI]
 | t :: r, i, c, 0 => by rw [T.putsI]; simp
 | t :: r, i, c, j + 1 => by
  rw [T.putsI, List.getD_cons_succ, List.getD_cons_succ, putsI_getD x k r (i + 1) c j, show i + 1 + j = i + (j + 1) by omega]
theorem liftI_k (n : Nat) (t : T) (c : Nat) : (t.liftI n c).k = t.k := by cases t; rw [T.liftI]; rfl
theorem liftI_rest {t : T} (hk : ¬ t.k = 1) (n c : Nat) : (t.liftI n c).n = t.n /\ (t.liftI n c).a = t.a /\ (t.liftI n c).ls = t.ls /\ (t.liftI n c).ks.length = t.ks.length := by
 cases t with
 | mk k m a ls ks => rw [liftI_node (k := k) hk]; exact ⟨rfl, rfl, rfl, liftsI_len _ _ _ _ _⟩
theorem liftI_kid (n : Nat) (t : T) (c i : Nat) : (t.liftI n c).kid i = (t.kid i).liftI n (up1 c t.k i) := by
 cases t with
 | mk k m a ls ks => rw [T.liftI, kid_mk, kid_mk, liftsI_getD, Nat.zero_add]; rfl
theorem putI_rest {t : T} (hk : ¬ t.k = 1) (x : T) (d : Nat) : (T.putI x t d).k = t.k /\ (T.putI x t d).n = t.n /\ (T.putI x t d).a = t.a /\ (T.putI x t d).ls = t.ls /\ (T.putI x t d).ks.length = t.ks.length := by
 cases t with
 | mk k m a ls ks => rw [putI_node (k := k) hk]; exact ⟨rfl, rfl, rfl, rfl, putsI_len _ _ _ _ _⟩
theorem putI_kid {t : T} (hk : ¬ t.k = 1) (x : T) (d i : Nat) : (T.putI x t d).kid i = T.putI x (t.kid i) (up1 d t.k i) := by
 cases t with
 | mk k m a ls ks => rw [putI_node (k := k) hk, kid_mk, kid_mk, putsI_getD, Nat.zero_add]; rfl
theorem spot_congr {t u : T} (h1 : u.k = t.k) (h2 : u.a = t.a) (h3 : u.ks.length = t.ks.length) : spot u = spot t := by unfold spot; rw [h1, h2, h3]
theorem Wp {k : Int} {i : Nat} (h : Wu k i = false) (c : Nat) : up1 c k i = c := by unfold up1; rw [h]; rfl
theorem up1_yes {k : Int} {i : Nat} (h : Wu k i = true) (c : Nat) : up1 c k i = c + 1 := by unfold up1; rw [h]; rfl
theorem binds_case (i : Nat) : Wu 24 i = false := by unfold Wu; simp [kindAt, kindRowsD]
theorem ofT_liftI {k : Int} (hk : ¬ k = 1) (ks : List T) (n c : Nat) : (ofT k ks).liftI n c = ofT k (T.liftsI n k ks 0 c) := liftI_node hk n 0 0 [] ks c
theorem ofT_putI {k : Int} (hk : ¬ k = 1) (ks : List T) (x : T) (c : Nat) : T.putI x (ofT k ks) c = ofT k (T.putsI x k ks 0 c) := putI_node hk x 0 0 [] ks c
def Closed (l : List C) : Prop := ∀ n lv b, bodyC l n lv = some b -> (∀ m c, b.liftI m c = b) /\ ∀ x d, T.putI x b d = b
theorem tree_liftI (t s : T) (ht : t.k = 18) (hs : s.k = 17) (n c : Nat) : (treeI t s).liftI n c = treeI (t.liftI n c) (s.liftI n c) := by
 unfold treeI
 simp only [liftI_kid, ht, hs, Wp (show Wu 18 ((0 : Nat) : Int) = false by decide), up1_yes (show Wu 18 ((1 : Nat) : Int) = true by decide), Wp (show Wu 18 ((2 : Nat) : Int) = false by decide), Wp (show Wu 18 ((3 : Nat) : Int) = false by decide), Wp (show Wu 17 ((0 : Nat) : Int) = false by decide), Wp (show Wu 17 ((1 : Nat) : Int) = false by decide)]
 rw [ofT_liftI (by decide)]
 simp only [T.liftsI, ofT_liftI (k := 6) (by decide), ofT_liftI (k := 5) (by decide), ofT_liftI (k := 18) (by decide), T.liftsI, Wp (show Wu 6 ((0 : Nat) : Int) = false by decide), Wp (show Wu 6 ((1 : Nat) : Int) = false by decide), Wp (show Wu 5 ((0 : Nat) : Int) = false by decide), up1_yes (show Wu 5 ((1 : Nat) : Int) = true by decide),
  Wp (show Wu 18 ((0 : Nat) : Int) = false by decide), up1_yes (show Wu 18 ((1 : Nat) : Int) = true by decide), Wp (show Wu 18 ((2 : Nat) : Int) = false by decide), Wp (show Wu 18 ((3 : Nat) : Int) = false by decide), Wp (show Wu 18 ((4 : Nat) : Int) = false by decide), Nat.zero_add, Nat.reduceAdd]
 have e1 := lift_put_high (s.kid 0) n (t.kid 1) c 0
 simp only [Nat.add_zero] at e1
 have e2 : (ofT 1 []).liftI n (c + 1) = ofT 1 [] := by unfold ofT; rw [liftI_var, if_neg (by push_cast; omega), T.liftsI]
 rw [e1, e2, lift_lift_out 1 n (t.kid 0) 0 c (by omega), lift_lift_out 1 n (t.kid 1) 1 (c + 1) (by omega), lift_lift_out 1 n (t.kid 2) 0 c (by omega), lift_lift_out 1 n (t.kid 3) 0 c (by omega), lift_lift_out 1 n (s.kid 1) 0 c (by omega)]
theorem tree_putI (t s : T) (ht : t.k = 18) (hs : s.k = 17) (y : T) (d : Nat) : T.putI y (treeI t s) d = treeI (T.putI y t d) (T.putI y s d) := by
 have ht1 : ¬ t.k = 1 := by omega
 have hs1 : ¬ s.k = 1 := by omega
 unfold treeI
 simp only [putI_kid ht1, putI_kid hs1, ht, hs, Wp (show Wu 18 ((0 : Nat) : Int) = false by decide), up1_yes (show Wu 18 ((1 : Nat) : Int) = true by decide), Wp (show Wu 18 ((2 : Nat) : Int) = false by decide), Wp (show Wu 18 ((3 : Nat) : Int) = false by decide), Wp (show Wu 17 ((0 : Nat) : Int) = false by decide), Wp (show Wu 17 ((1 : Nat) : Int) = false by decide)]
 rw [ofT_putI (by decide)]
 simp only [T.putsI, ofT_putI (k := 6) (by decide), ofT_putI (k := 5) (by decide), ofT_putI (k := 18) (by decide), T.putsI, Wp (show Wu 6 ((0 : Nat) : Int) = false by decide), Wp (show Wu 6 ((1 : Nat) : Int) = false by decide), Wp (show Wu 5 ((0 : Nat) : Int) = false by decide), up1_yes (show Wu 5 ((1 : Nat) : Int) = true by decide),
  Wp (show Wu 18 ((0 : Nat) : Int) = false by decide), up1_yes (show Wu 18 ((1 : Nat) : Int) = true by decide), Wp (show Wu 18 ((2 : Nat) : Int) = false by decide), Wp (show Wu 18 ((3 : Nat) : Int) = false by decide), Wp (show Wu 18 ((4 : Nat) : Int) = false by decide), Nat.zero_add, Nat.reduceAdd]
 have e1 := put_put_I (s.kid 0) y (t.kid 1) 0 d
 simp only [Nat.zero_add] at e1
 have e2 : T.putI y (ofT 1 []) (d + 1) = ofT 1 [] := by unfold ofT; rw [putI_miss (by push_cast; omega), if_neg (by push_cast; omega), T.putsI]
 rw [e1, e2, <- lift_put_low y 1 (t.kid 0) 0 d (by omega), <- lift_put_low y 1 (t.kid 1) 1 (d + 1) (by omega), <- lift_put_low y 1 (t.kid 2) 0 d (by omega), <- lift_put_low y 1 (t.kid 3) 0 d (by omega), <- lift_put_low y 1 (s.kid 1) 0 d (by omega)]
theorem rootI_cases {l : List C} {t u : T} (h : rootI l t = some u) :
  (t.k = 6 /\ (t.kid 0).k = 5 /\ u = T.putI (t.kid 1) ((t.kid 0).kid 1) 0) \/ (t.k = 14 /\ (t.kid 0).k = 13 /\ u = (t.kid 0).kid 0) \/ (t.k = 15 /\ (t.kid 0).k = 13 /\ u = (t.kid 0).kid 1) \/ (t.k = 7 /\ u = T.putI (t.kid 1) (t.kid 2) 0) \/
  (t.k = 3 /\ bodyC l t.n t.ls = some u) \/ (t.k = 18 /\ (t.kid 4).k = 17 /\ u = treeI t (t.kid 4)) \/ (t.k = 21 /\ (t.kid 5).k = 20 /\ u = t.kid 3) \/
  (t.k = 24 /\ 0 <= t.a /\ (t.ks.length : Int) - 2 = t.a /\ (t.kid (t.a.toNat + 1)).k = 23 /\ 0 <= (t.kid (t.a.toNat + 1)).n /\ (t.kid (t.a.toNat + 1)).n < t.a /\ u = t.kid ((t.kid (t.a.toNat + 1)).n.toNat + 1)) := by
 unfold rootI ownI Wt spot at h
 by_cases h1 : t.k = 6
 ·simp only [h1, if_true] at h
  split at h
  ·rename_i hx; cases h; exact .inl ⟨h1, hx, rfl⟩
  ·cases h
 by_cases h2 : t.k = 14
 ·simp [h2] at h
  exact .inr (.inl ⟨h2, h.1, h.2.symm⟩)
 by_cases h3 : t.k = 15
 ·simp [h3] at h
  exact .inr (.inr (.inl ⟨h3, h.1, h.2.symm⟩))
 by_cases h4 : t.k = 7
 ·simp [h4] at h
  exact .inr (.inr (.inr (.inl ⟨h4, h.symm⟩)))
 by_cases h5 : t.k = 3
 ·simp [h5] at h
  exact .inr (.inr (.inr (.inr (.inl ⟨h5, h⟩))))
 by_cases h6 : t.k = 18
 ·simp [h6] at h
  exact .inr (.inr (.inr (.inr (.inr (.inl ⟨h6, h.1, h.2.symm⟩)))))
 by_cases h7 : t.k = 21
 ·simp [h7] at h
  exact .inr (.inr (.inr (.inr (.inr (.inr (.inl ⟨h7, h.1, h.2.symm⟩))))))
 by_cases h8 : t.k = 24
 ·by_cases h9 : 0 <= t.a /\ (t.ks.length : Int) - 2 = t.a
  ·simp [h8, h9] at h
   exact .inr (.inr (.inr (.inr (.inr (.inr (.inr ⟨h8, h9.1, h9.2, h.1.1, h.1.2.1, h.1.2.2, h.2.symm⟩))))))
  ·simp [h8, h9] at h
 ·simp [h1, h2, h3, h4, h5, h6, h7, h8] at h
theorem Xm {l : List C} {t u : T} (h : (t.k = 6 /\ (t.kid 0).k = 5 /\ u = T.putI (t.kid 1) ((t.kid 0).kid 1) 0) \/ (t.k = 14 /\ (t.kid 0).k = 13 /\ u = (t.kid 0).kid 0) \/ (t.k = 15 /\ (t.kid 0).k = 13 /\ u = (t.kid 0).kid 1) \/ (t.k = 7 /\ u = T.putI (t.kid 1) (t.kid 2) 0) \/
  (t.k = 3 /\ bodyC l t.n t.ls = some u) \/ (t.k = 18 /\ (t.kid 4).k = 17 /\ u = treeI t (t.kid 4)) \/ (t.k = 21 /\ (t.kid 5).k = 20 /\ u = t.kid 3) \/
  (t.k = 24 /\ 0 <= t.a /\ (t.ks.length : Int) - 2 = t.a /\ (t.kid (t.a.toNat + 1)).k = 23 /\ 0 <= (t.kid (t.a.toNat + 1)).n /\ (t.kid (t.a.toNat + 1)).n < t.a /\ u = t.kid ((t.kid (t.a.toNat + 1)).n.toNat + 1))) : rootI l t = some u := by
 unfold rootI ownI Wt spot
 rcases h with ⟨h1, h2, rfl⟩ | ⟨h1, h2, rfl⟩ | ⟨h1, h2, rfl⟩ | ⟨h1, rfl⟩ | ⟨h1, h2⟩ | ⟨h1, h2, rfl⟩ | ⟨h1, h2, rfl⟩ | ⟨h1, h2, h3, h4, h5, h6, rfl⟩
 ·simp [h1, h2]
 ·simp [h1, h2]
 ·simp [h1, h2]
 ·simp [h1]
 ·simp [h1, h2]
 ·simp [h1, h2]
 ·simp [h1, h2]
 ·simp [h1, h2, h3, h4, h5, h6]
theorem root_lift {l : List C} (hc : Closed l) {t u : T} (h : rootI l t = some u) (n c : Nat) : rootI l (t.liftI n c) = some (u.liftI n c) := by
 apply Xm
 have b60 := Wp (show Wu 6 ((0 : Nat) : Int) = false by decide) c
 have b61 := Wp (show Wu 6 ((1 : Nat) : Int) = false by decide) c
 rcases rootI_cases h with ⟨h1, h2, rfl⟩ | ⟨h1, h2, rfl⟩ | ⟨h1, h2, rfl⟩ | ⟨h1, rfl⟩ | ⟨h1, h2⟩ | ⟨h1, h2, rfl⟩ | ⟨h1, h2, rfl⟩ | ⟨h1, h2, h3, h4, h5, h6, rfl⟩
 ·refine .inl ⟨by rw [liftI_k]; exact h1, by rw [liftI_kid, liftI_k]; exact h2, ?_⟩
  rw [liftI_kid, liftI_kid, liftI_kid, h1, h2, b60, b61, up1_yes (show Wu 5 ((1 : Nat) : Int) = true by decide)]
  exact lift_put_high _ n _ c 0
 ·refine .inr (.inl ⟨by rw [liftI_k]; exact h1, by rw [liftI_kid, liftI_k]; exact h2, ?_⟩)
  rw [liftI_kid, liftI_kid, h1, h2, Wp (show Wu 14 ((0 : Nat) : Int) = false by decide), Wp (show Wu 13 ((0 : Nat) : Int) = false by decide)]
 ·refine .inr (.inr (.inl ⟨by rw [liftI_k]; exact h1, by rw [liftI_kid, liftI_k]; exact h2, ?_⟩))
  rw [liftI_kid, liftI_kid, h1, h2, Wp (show Wu 15 ((0 : Nat) : Int) = false by decide), Wp (show Wu 13 ((1 : Nat) : Int) = false by decide)]
 ·refine .inr (.inr (.inr (.inl ⟨by rw [liftI_k]; exact h1, ?_⟩)))
  rw [liftI_kid, liftI_kid, h1, Wp (show Wu 7 ((1 : Nat) : Int) = false by decide), up1_yes (show Wu 7 ((2 : Nat) : Int) = true by decide)]
  exact lift_put_high _ n _ c 0
 ·have hr := liftI_rest (t := t) (by omega) n c
  refine .inr (.inr (.inr (.inr (.inl ⟨by rw [liftI_k]; exact h1, ?_⟩))))
  rw [hr.1, hr.2.2.1, h2, (hc _ _ _ h2).1]
 ·refine .inr (.inr (.inr (.inr (.inr (.inl ⟨by rw [liftI_k]; exact h1, by rw [liftI_kid, liftI_k]; exact h2, ?_⟩)))))
  rw [liftI_kid, h1, Wp (show Wu 18 ((4 : Nat) : Int) = false by decide)]
  exact tree_liftI _ _ h1 h2 n c
 ·refine .inr (.inr (.inr (.inr (.inr (.inr (.inl ⟨by rw [liftI_k]; exact h1, by rw [liftI_kid, liftI_k]; exact h2, ?_⟩))))))
  rw [liftI_kid, h1, Wp (show Wu 21 ((3 : Nat) : Int) = false by decide)]
 ·have hr := liftI_rest (t := t) (by omega) n c
  have hx := liftI_rest (t := t.kid (t.a.toNat + 1)) (by omega) n c
  have e : (t.liftI n c).kid ((t.liftI n c).a.toNat + 1) = (t.kid (t.a.toNat + 1)).liftI n c := by rw [hr.2.1, liftI_kid, h1, Wp (binds_case _)]
  refine .inr (.inr (.inr (.inr (.inr (.inr (.inr ⟨by rw [liftI_k]; exact h1, by rw [hr.2.1]; exact h2, by rw [hr.2.1, hr.2.2.2]; exact h3, ?_, ?_, ?_, ?_⟩))))))
  ·rw [e, liftI_k]; exact h4
  ·rw [e, hx.1]; exact h5
  ·rw [e, hx.1, hr.2.1]; exact h6
  ·rw [e, hx.1, liftI_kid, h1, Wp (binds_case _)]
theorem root_put {l : List C} (hc : Closed l) {t u : T} (h : rootI l t = some u) (y : T) (d : Nat) : ¬ t.k = 1 /\ rootI l (T.putI y t d) = some (T.putI y u d) := by
 have hk : ¬ t.k = 1 := by rcases rootI_cases h with h | h | h | h | h | h | h | h <;> omega
 refine ⟨hk, ?_⟩
 apply Xm
 have hr := putI_rest hk y d
 have b60 := Wp (show Wu 6 ((0 : Nat) : Int) = false by decide) d
 have b61 := Wp (show Wu 6 ((1 : Nat) : Int) = false by decide) d
 rcases rootI_cases h with ⟨h1, h2, rfl⟩ | ⟨h1, h2, rfl⟩ | ⟨h1, h2, rfl⟩ | ⟨h1, rfl⟩ | ⟨h1, h2⟩ | ⟨h1, h2, rfl⟩ | ⟨h1, h2, rfl⟩ | ⟨h1, h2, h3, h4, h5, h6, rfl⟩
 ·have hk0 : ¬ (t.kid 0).k = 1 := by omega
  refine .inl ⟨by rw [hr.1]; exact h1, by rw [putI_kid hk, (putI_rest hk0 _ _).1]; exact h2, ?_⟩
  rw [putI_kid hk, putI_kid hk, putI_kid hk0, h1, h2, b60, b61, up1_yes (show Wu 5 ((1 : Nat) : Int) = true by decide)]
  have := put_put_I (t.kid 1) y ((t.kid 0).kid 1) 0 d
  simpa using this
 ·have hk0 : ¬ (t.kid 0).k = 1 := by omega
  refine .inr (.inl ⟨by rw [hr.1]; exact h1, by rw [putI_kid hk, (putI_rest hk0 _ _).1]; exact h2, ?_⟩)
  rw [putI_kid hk, putI_kid hk0, h1, h2, Wp (show Wu 14 ((0 : Nat) : Int) = false by decide), Wp (show Wu 13 ((0 : Nat) : Int) = false by decide)]
 ·have hk0 : ¬ (t.kid 0).k = 1 := by omega
  refine .inr (.inr (.inl ⟨by rw [hr.1]; exact h1, by rw [putI_kid hk, (putI_rest hk0 _ _).1]; exact h2, ?_⟩))
  rw [putI_kid hk, putI_kid hk0, h1, h2, Wp (show Wu 15 ((0 : Nat) : Int) = false by decide), Wp (show Wu 13 ((1 : Nat) : Int) = false by decide)]
 ·refine .inr (.inr (.inr (.inl ⟨by rw [hr.1]; exact h1, ?_⟩)))
  rw [putI_kid hk, putI_kid hk, h1, Wp (show Wu 7 ((1 : Nat) : Int) = false by decide), up1_yes (show Wu 7 ((2 : Nat) : Int) = true by decide)]
  have := put_put_I (t.kid 1) y (t.kid 2) 0 d
  simpa using this
 ·refine .inr (.inr (.inr (.inr (.inl ⟨by rw [hr.1]; exact h1, ?_⟩))))
  rw [hr.2.1, hr.2.2.2.1, h2, (hc _ _ _ h2).2]
 ·have hk0 : ¬ (t.kid 4).k = 1 := by omega
  refine .inr (.inr (.inr (.inr (.inr (.inl ⟨by rw [hr.1]; exact h1, by rw [putI_kid hk, h1, Wp (show Wu 18 ((4 : Nat) : Int) = false by decide), (putI_rest hk0 _ _).1]; exact h2, ?_⟩)))))
  rw [putI_kid hk, h1, Wp (show Wu 18 ((4 : Nat) : Int) = false by decide)]
  exact tree_putI _ _ h1 h2 y d
 ·have hk0 : ¬ (t.kid 5).k = 1 := by omega
  refine .inr (.inr (.inr (.inr (.inr (.inr (.inl ⟨by rw [hr.1]; exact h1, by rw [putI_kid hk, (putI_rest hk0 _ _).1]; exact h2, ?_⟩))))))
  rw [putI_kid hk, h1, Wp (show Wu 21 ((3 : Nat) : Int) = false by decide)]
 ·have hk0 : ¬ (t.kid (t.a.toNat + 1)).k = 1 := by omega
  have hx := putI_rest hk0 y d
  have e : (T.putI y t d).kid ((T.putI y t d).a.toNat + 1) = T.putI y (t.kid (t.a.toNat + 1)) d := by rw [hr.2.2.1, putI_kid hk, h1, Wp (binds_case _)]
  refine .inr (.inr (.inr (.inr (.inr (.inr (.inr ⟨by rw [hr.1]; exact h1, by rw [hr.2.2.1]; exact h2, by rw [hr.2.2.1, hr.2.2.2.2]; exact h3, ?_, ?_, ?_, ?_⟩))))))
  ·rw [e, hx.1]; exact h4
  ·rw [e, hx.2.1]; exact h5
  ·rw [e, hx.2.1, hr.2.2.1]; exact h6
  ·rw [e, hx.2.1, putI_kid hk, h1, Wp (binds_case _)]
inductive Par (l : List C) : T -> T -> Prop where
 | node {k n a : Int} {ls : List LV} {ks ks' : List T} (hl : ks'.length = ks.length) (h : ∀ i, i < ks.length -> Par l (ks.getD i Wl) (ks'.getD i Wl)) : Par l (.mk k n a ls ks) (.mk k n a ls ks')
 | red {k n a : Int} {ls : List LV} {ks ks' : List T} {u : T} (hl : ks'.length = ks.length) (h : ∀ i, i < ks.length -> Par l (ks.getD i Wl) (ks'.getD i Wl)) (hr : rootI l (.mk k n a ls ks') = some u) : Par l (.mk k n a ls ks) u
theorem getD_in {ks : List T} {i : Nat} (h : i < ks.length) : ks.getD i Wl = ks[i] := by rw [List.getD_eq_getElem?_getD, List.getElem?_eq_getElem h]; rfl
theorem getD_out {ks : List T} {i : Nat} (h : ¬ i < ks.length) : ks.getD i Wl = Wl := by rw [List.getD_eq_getElem?_getD, List.getElem?_eq_none (by omega)]; rfl
theorem Par.refl (l : List C) (t : T) : Par l t t := by
 induction t using T.ind with
 | h k n a ls ks ih => exact .node rfl fun i hi => by rw [getD_in hi]; exact ih _ (List.getElem_mem hi)
theorem par_all {l : List C} {ks ks' : List T} (hl : ks'.length = ks.length) (h : ∀ i, i < ks.length -> Par l (ks.getD i Wl) (ks'.getD i Wl)) (i : Nat) : Par l (ks.getD i Wl) (ks'.getD i Wl) := by
 by_cases hi : i < ks.length
 ·exact h i hi
 ·rw [getD_out hi, getD_out (by omega)]; exact .refl l _
theorem par_lift {l : List C} (hc : Closed l) {t u : T} (h : Par l t u) (n : Nat) : ∀ c, Par l (t.liftI n c) (u.liftI n c) := by
 induction h with
 | @node k m a ls ks ks' hl h ih =>
  intro c
  rw [T.liftI, T.liftI]
  refine .node (by rw [liftsI_len, liftsI_len, hl]) fun i hi => ?_
  rw [liftsI_len] at hi
  rw [liftsI_getD, liftsI_getD]
  exact ih i hi _
 | @red k m a ls ks ks' u hl h hr ih =>
  intro c
  have := root_lift hc hr n c
  rw [T.liftI] at this ⊢
  refine .red (by rw [liftsI_len, liftsI_len, hl]) (fun i hi => ?_) this
  rw [liftsI_len] at hi
  rw [liftsI_getD, liftsI_getD]
  exact ih i hi _
theorem par_put {l : List C} (hc : Closed l) {x x' : T} (hx : Par l x x') {t u : T} (h : Par l t u) : ∀ d, Par l (T.putI x t d) (T.putI x' u d) := by
 induction h with
 | @node k m a ls ks ks' hl h ih =>
  intro d
  by_cases hk : k = 1 /\ m = (d : Int)
  ·obtain ⟨rfl, rfl⟩ := hk
   rw [putI_hit, putI_hit]
   exact par_lift hc hx d 0
  ·rw [T.putI, T.putI, if_neg hk, if_neg hk]
   refine .node (by rw [putsI_len, putsI_len, hl]) fun i hi => ?_
   rw [putsI_len] at hi
   rw [putsI_getD, putsI_getD]
   exact ih i hi _
 | @red k m a ls ks ks' u hl h hr ih =>
  intro d
  obtain ⟨hk, this⟩ := root_put hc hr x' d
  have hk : ¬ k = 1 := hk
  rw [putI_node hk] at this ⊢
  refine .red (by rw [putsI_len, putsI_len, hl]) (fun i hi => ?_) this
  rw [putsI_len] at hi
  rw [putsI_getD, putsI_getD]
  exact ih i hi _
theorem par_con {l : List C} {t u : T} (h : Par l t u) (hk : t.k = 5 \/ t.k = 13 \/ t.k = 17 \/ t.k = 20 \/ t.k = 23) : u.k = t.k /\ u.n = t.n /\ u.a = t.a /\ ∀ i, Par l (t.kid i) (u.kid i) := by
 cases h with
 | node hl h => exact ⟨rfl, rfl, rfl, fun i => par_all hl h i⟩
 | red hl h hr =>
  exfalso
  simp only [T.k_mk] at hk
  rcases rootI_cases hr with h | h | h | h | h | h | h | h <;> (have := h.1; simp only [T.k_mk] at this; omega)
theorem par_tree {l : List C} (hc : Closed l) {t t' s s' : T} (ht : ∀ i, Par l (t.kid i) (t'.kid i)) (hs : ∀ i, Par l (s.kid i) (s'.kid i)) : Par l (treeI t s) (treeI t' s') := by
 have two : ∀ {k : Int} {a b a' b' : T}, Par l a a' -> Par l b b' -> Par l (ofT k [a, b]) (ofT k [a', b']) := fun h1 h2 => .node rfl fun i hi => by
  match i, hi with
  | 0, _ => exact h1
  | 1, _ => exact h2
  | n + 2, h => simp at h; omega
 unfold treeI
 refine two (two (two (ht 3) (hs 0)) (hs 1)) (two (par_put hc (hs 0) (ht 1) 0) (.node rfl fun i hi => ?_))
 match i, hi with
 | 0, _ => exact par_lift hc (ht 0) 1 0
 | 1, _ => exact par_lift hc (ht 1) 1 1
 | 2, _ => exact par_lift hc (ht 2) 1 0
 | 3, _ => exact par_lift hc (ht 3) 1 0
 | 4, _ => exact two (par_lift hc (hs 1) 1 0) (.refl l _)
 | n + 5, h => simp at h; omega
theorem root_par {l : List C} (hc : Closed l) {k n a : Int} {ls : List LV} {ks ks' : List T} {u : T} (hl : ks'.length = ks.length) (h : ∀ i, i < ks.length -> Par l (ks.getD i Wl) (ks'.getD i Wl)) (hr : rootI l (.mk k n a ls ks) = some u) :
  ∃ u', rootI l (.mk k n a ls ks') = some u' /\ Par l u u' := by
 have hp : ∀ i, Par l ((T.mk k n a ls ks).kid i) ((T.mk k n a ls ks').kid i) := fun i => par_all hl h i
 generalize ht : T.mk k n a ls ks = t at hr hp
 generalize hu : T.mk k n a ls ks' = t' at hp
 have e1 : t'.k = t.k := by rw [<- ht, <- hu]; rfl
 have e2 : t'.n = t.n := by rw [<- ht, <- hu]; rfl
 have e3 : t'.a = t.a := by rw [<- ht, <- hu]; rfl
 have e4 : t'.ls = t.ls := by rw [<- ht, <- hu]; rfl
 have e5 : t'.ks.length = t.ks.length := by rw [<- ht, <- hu]; exact hl
 rcases rootI_cases hr with ⟨h1, h2, rfl⟩ | ⟨h1, h2, rfl⟩ | ⟨h1, h2, rfl⟩ | ⟨h1, rfl⟩ | ⟨h1, h2⟩ | ⟨h1, h2, rfl⟩ | ⟨h1, h2, rfl⟩ | ⟨h1, h2, h3, h4, h5, h6, rfl⟩
 ·obtain ⟨p1, -, -, p4⟩ := par_con (hp 0) (by omega)
  exact ⟨_, Xm (.inl ⟨by omega, by omega, rfl⟩), par_put hc (hp 1) (p4 1) 0⟩
 ·obtain ⟨p1, -, -, p4⟩ := par_con (hp 0) (by omega)
  exact ⟨_, Xm (.inr (.inl ⟨by omega, by omega, rfl⟩)), p4 0⟩
 ·obtain ⟨p1, -, -, p4⟩ := par_con (hp 0) (by omega)
  exact ⟨_, Xm (.inr (.inr (.inl ⟨by omega, by omega, rfl⟩))), p4 1⟩
 ·exact ⟨_, Xm (.inr (.inr (.inr (.inl ⟨by omega, rfl⟩)))), par_put hc (hp 1) (hp 2) 0⟩
 ·exact ⟨_, Xm (.inr (.inr (.inr (.inr (.inl ⟨by omega, by rw [e2, e4]; exact h2⟩))))), .refl l _⟩
 ·obtain ⟨p1, -, -, p4⟩ := par_con (hp 4) (by omega)
  exact ⟨_, Xm (.inr (.inr (.inr (.inr (.inr (.inl ⟨by omega, by omega, rfl⟩)))))), par_tree hc hp p4⟩
 ·obtain ⟨p1, -, -, p4⟩ := par_con (hp 5) (by omega)
  exact ⟨_, Xm (.inr (.inr (.inr (.inr (.inr (.inr (.inl ⟨by omega, by omega, rfl⟩))))))), hp 3⟩
 ·obtain ⟨p1, p2, -, p4⟩ := par_con (hp (t.a.toNat + 1)) (by omega)
  refine ⟨_, Xm (.inr (.inr (.inr (.inr (.inr (.inr (.inr ⟨by omega, by omega, by omega, by rw [e3]; omega, by rw [e3]; omega, by rw [e3]; omega, rfl⟩))))))), ?_⟩
  rw [e3, p2]
  exact hp _
mutual
def T.sdev (l : List C) : T -> T
 | .mk k n a ls ks => (rootI l (.mk k n a ls (T.sdevs l ks))).getD (.mk k n a ls (T.sdevs l ks))
def T.sdevs (l : List C) : List T -> List T
 | [] => []
 | t :: r => T.sdev l t :: T.sdevs l r
end
theorem sdevs_len (l : List C) : ∀ ks : List T, (T.sdevs l ks).length = ks.length
 | [] => by rw [T.sdevs]
 | t :: r => by rw [T.sdevs, List.length_cons, List.length_cons, sdevs_len l r]
theorem sdevs_getD (l : List C) : ∀ (ks : List T) (i : Nat), i < ks.length -> (T.sdevs l ks).getD i Wl = T.sdev l (ks.getD i Wl)
 | [], i, h => by simp at h
 | t :: r, 0, h => by rw [T.sdevs]; simp
 | t :: r, i + 1, h => by rw [T.sdevs, List.getD_cons_succ, List.getD_cons_succ, sdevs_getD l r i (by simpa using h)]
theorem par_sdev {l : List C} (hc : Closed l) {t u : T} (h : Par l t u) : Par l u (T.sdev l t) := by
 induction h with
 | @node k m a ls ks ks' hl h ih =>
  rw [T.sdev]
  have hk : ∀ i, i < ks'.length -> Par l (ks'.getD i Wl) ((T.sdevs l ks).getD i Wl) := fun i hi => by rw [sdevs_getD l ks i (by omega)]; exact ih i (by omega)
  cases hr : rootI l (.mk k m a ls (T.sdevs l ks)) with
  | none => exact .node (by rw [sdevs_len, hl]) hk
  | some v => exact .red (by rw [sdevs_len, hl]) hk hr
 | @red k m a ls ks ks' u hl h hr ih =>
  rw [T.sdev]
  have hk : ∀ i, i < ks'.length -> Par l (ks'.getD i Wl) ((T.sdevs l ks).getD i Wl) := fun i hi => by rw [sdevs_getD l ks i (by omega)]; exact ih i (by omega)
  obtain ⟨v, hv, hp⟩ := root_par hc (by rw [sdevs_len, hl]) hk hr
  rw [hv]
  exact hp
inductive Pars (l : List C) : T -> T -> Prop where
 | refl (t : T) : Pars l t t
 | step {t u v : T} (h : Par l t u) (r : Pars l u v) : Pars l t v
theorem Pars.trans {l : List C} {t u v : T} (h : Pars l t u) (g : Pars l u v) : Pars l t v := by
 induction h with
 | refl t => exact g
 | step h r ih => exact .step h (ih g)
theorem pars_strip {l : List C} (hc : Closed l) {t u : T} (h : Pars l t u) : ∀ {v : T}, Par l t v -> ∃ w, Par l u w /\ Pars l v w := by
 induction h with
 | refl t => intro v hv; exact ⟨v, hv, .refl v⟩
 | @step t u v h r ih =>
  intro w hw
  obtain ⟨x, h1, h2⟩ := ih (par_sdev hc h)
  exact ⟨x, h1, .step (par_sdev hc hw) h2⟩
theorem pars_meet {l : List C} (hc : Closed l) {t u : T} (h : Pars l t u) : ∀ {v : T}, Pars l t v -> ∃ w, Pars l u w /\ Pars l v w := by
 induction h with
 | refl t => intro v hv; exact ⟨v, hv, .refl v⟩
 | @step t u v h r ih =>
  intro w hw
  obtain ⟨x, h1, h2⟩ := pars_strip hc hw h
  obtain ⟨y, h3, h4⟩ := ih h2
  exact ⟨y, h3, .step h1 h4⟩
mutual
def NoRed (l : List C) : T -> Prop
 | .mk k n a ls ks => rootI l (.mk k n a ls ks) = none /\ NoReds l ks
def NoReds (l : List C) : List T -> Prop
 | [] => True
 | t :: r => NoRed l t /\ NoReds l r
end
theorem getD_ext {a b : List T} (hl : b.length = a.length) (h : ∀ i, i < a.length -> b.getD i Wl = a.getD i Wl) : b = a := by
 apply List.ext_getElem hl
 intro i h1 h2
 have := h i h2
 rw [getD_in h2, getD_in h1] at this
 exact this
end Go.Proofs.YtebmlojhdnldgaaGreatDoor
namespace Go.Proofs.YtebmlojhdnldgaaGreatDoor
set_option linter.unusedSimpArgs false
set_option linter.unusedVariables false
set_option maxHeartbeats 10000000
set_option maxRecDepth 20000
open Go.RowKit
attribute [local simp] Qb Qc Xg Xw opD Qt Qn Qi Qj hOf Xd Xz Xu TK.isAgg TK.known Xf Xh Wv Qv D.ofV inB Wr Xj binX binD binE Xv bndD capB IntKind.min IntKind.max IntKind.signed IntKind.bits Xb late
theorem isNaN_spec (x : Int) : Qu Tryz.prog glob 163 [.int .i64 x] [] (fun o _ => o.fgt = .ret (.bool false)) := by
 refine Qu.movd Qf (Qp Wc Tryz.func163 rfl (Qw _ _ Tryz.func163 rfl (by decide)) rfl rfl ?_)
 (refine sR fun K hK => ?_; ((repeat (rw [Qa]; simp)); (try simp only [zs])); refine hK _ _ _ ?_; clear hK K)
 (refine sR fun K hK => ?_; ((repeat (rw [Qa]; simp)); (try simp only [zs])); refine hK _ _ _ ?_; clear hK K)
 (refine Qo ?_; (try simp only [zs]); refine Wa.ret rfl (.inl ?_); simp [Qt, Out.fgt, D.fgt, D.fgts])
def cmpI (x y : Int) : Int := if x < y then -1 else if y < x then 1 else 0
theorem compare_spec (x y : Int) : Qu Tryz.prog glob 157 [.int .i64 x, .int .i64 y] [] (fun o _ => o.fgt = .ret (.int .i64 (cmpI x y))) := by
 refine Qu.movd Qf (Qp Wc Tryz.func157 rfl (Qw _ _ Tryz.func157 rfl (by decide)) rfl rfl ?_)
 (refine sR fun K hK => ?_; ((repeat (rw [Qa]; simp)); (try simp only [zs])); refine hK _ _ _ ?_; clear hK K)
 (refine sR fun K hK => ?_; ((repeat (rw [Qa]; simp)); (try simp only [zs])))
 refine cXp (isNaN_spec x) ?_
 ((try simp only [Qb, Qc, Qn, Qi, Qj]); (repeat (rw [Qa]; simp)); (try simp only [zs]))
 (refine hK _ _ _ ?_; clear hK K)
 (refine sR fun K hK => ?_; ((repeat (rw [Qa]; simp)); (try simp only [zs])))
 refine cXp (isNaN_spec y) ?_
 ((try simp only [Qb, Qc, Qn, Qi, Qj]); (repeat (rw [Qa]; simp)); (try simp only [zs]))
 (refine hK _ _ _ ?_; clear hK K)
 refine Qg fun K1 hK1 => ?_
 (refine sR fun K hK => ?_; ((repeat (rw [Qa]; simp)); (try simp only [zs])); refine hK _ _ _ ?_; clear hK K)
 refine wpD_part rfl (fun h => by simp at h) (fun _ => Qs (hK1 _ _ _ ?_))
 clear hK1 K1
 refine Qg fun K1 hK1 => ?_
 (refine sR fun K hK => ?_; ((repeat (rw [Qa]; simp)); (try simp only [zs])); refine hK _ _ _ ?_; clear hK K)
 refine wpD_part rfl (fun h => by simp at h) (fun _ => Qs (hK1 _ _ _ ?_))
 clear hK1 K1
 refine Qg fun K1 hK1 => ?_
 (refine sR fun K hK => ?_; ((repeat (rw [Qa]; simp)); (try simp only [zs])); refine hK _ _ _ ?_; clear hK K)
 refine wpD_part rfl (fun h => ?_) (fun h => Qs (hK1 _ _ _ ?_))
 ·(refine sR fun K hK => ?_; ((repeat (rw [Qa]; simp)); (try simp only [zs])); refine hK _ _ _ ?_; clear hK K)
  (refine Qo ?_; (try simp only [zs]); refine Wa.ret rfl (.inl ?_); simp [Qt, Out.fgt, D.fgt, D.fgts])
  simp [cmpI, show x < y by simpa using h]
 ·clear hK1 K1
  replace h : ¬ x < y := by simpa using h
  refine Qg fun K1 hK1 => ?_
  (refine sR fun K hK => ?_; ((repeat (rw [Qa]; simp)); (try simp only [zs])); refine hK _ _ _ ?_; clear hK K)
  refine wpD_part rfl (fun h2 => ?_) (fun h2 => Qs (hK1 _ _ _ ?_))
  ·(refine sR fun K hK => ?_; ((repeat (rw [Qa]; simp)); (try simp only [zs])); refine hK _ _ _ ?_; clear hK K)
   (refine Qo ?_; (try simp only [zs]); refine Wa.ret rfl (.inl ?_); simp [Qt, Out.fgt, D.fgt, D.fgts])
   simp [cmpI, h, show y < x by simpa using h2]
  ·clear hK1 K1
   (refine sR fun K hK => ?_; ((repeat (rw [Qa]; simp)); (try simp only [zs])); refine hK _ _ _ ?_; clear hK K)
   (refine Qo ?_; (try simp only [zs]); refine Wa.ret rfl (.inl ?_); simp [Qt, Out.fgt, D.fgt, D.fgts])
   simp [cmpI, h, show ¬ y < x by simpa using h2]
def orI : List Int -> Int
 | [] => 0
 | x :: r => if x = 0 then orI r else x
theorem or_spec (l : List Int) (hl : l.length <= Wd) : Qu Tryz.prog glob 156 [Ints l] [] (fun o _ => o.fgt = .ret (.int .i64 (orI l))) := by
 unfold Wd at hl
 refine Qu.movd Qf (Qp Wc Tryz.func156 rfl (Qw _ _ Tryz.func156 rfl (by decide)) rfl rfl ?_)
 unfold Ints
 (refine sR fun K hK => ?_; ((repeat (rw [Qa]; simp)); (try simp only [zs])); refine hK _ _ _ ?_; clear hK K)
 (refine sR fun K hK => ?_; ((repeat (rw [Qa]; simp)); (try simp only [zs])); refine hK _ _ _ ?_; clear hK K)
 refine Qg fun K1 hK1 => ?_
 (refine sR fun K hK => ?_; ((repeat (rw [Qa]; simp)); (try simp only [zs])); refine hK _ _ _ ?_; clear hK K)
 refine Wy ?_
 refine wpD_loopW [2, 5, 8, 9, 10, 11, 12, 13, 14, 15, 16] (fun n ys hl => ∃ (k : Nat) (x2 x5 x9 x10 x11 x12 x13 x14 x15 x16 : D), ys = [x2, x5, .int .i64 k, x9, x10, x11, x12, x13, x14, x15, x16] /\ n + k = l.length /\ orI l = orI (l.drop k) /\ hl = []) (l.length) (by kernel_rfl) ?_ ?_
 ·exact ⟨0, _, _, _, _, _, _, _, _, _, _, rfl, rfl, rfl, rfl⟩
 ·rintro n ys hl A hA ⟨k, x2, x5, x9, x10, x11, x12, x13, x14, x15, x16, rfl, hn, hi, rfl⟩
  simp only [Qv, List.set]
  (refine sR fun K hK => ?_; ((repeat (rw [Qa]; simp)); (try simp only [zs])); refine hK _ _ _ ?_; clear hK K)
  refine Qg fun K2 hK2 => ?_
  refine wpD_part rfl (fun hk => ?_) (fun hk => ?_)
  ·replace hk : k < l.length := by simpa using hk
   refine Qs (hK2 _ _ _ ?_)
   clear hK2 K2
   refine Qg fun K3 hK3 => ?_
   refine Wy ?_
   (refine sR fun K hK => ?_; ((repeat (rw [Qa]; simp [hk])); (try simp only [zs])); refine hK _ _ _ ?_; clear hK K)
   (refine sR fun K hK => ?_; ((repeat (rw [Qa]; simp)); (try simp only [zs])); refine hK _ _ _ ?_; clear hK K)
   refine wpD_part rfl (fun hb => ?_) (fun hb => ?_)
   ·(refine sR fun K hK => ?_; ((repeat (rw [Qa]; simp)); (try simp only [zs])); refine hK _ _ _ ?_; clear hK K)
    (refine Qo ?_; (try simp only [zs]); refine Wa.ret rfl (.inl ?_); simp [Qt, Out.fgt, D.fgt, D.fgts])
    rw [hi, List.drop_eq_getElem_cons hk, orI, if_neg (by simpa using hb)]
   ·refine Qs (hK3 _ _ _ ?_)
    clear hK3 K3
    have hw : IntKind.i64.wrap ((k : Int) + 1) = (k : Int) + 1 := i64w (by omega) (by omega)
    (refine Qz Wc ?_; ((repeat (rw [Qa]; simp [hw])); (try simp only [zs])))
    refine hA (n - 1) _ _ (by omega) (by kernel_rfl) ?_
    exact ⟨k + 1, _, _, _, _, _, _, _, _, _, _, rfl, by omega, by rw [hi, List.drop_eq_getElem_cons hk, orI, if_pos (by simpa using hb)], rfl⟩
  ·refine wpD_exit (hK1 _ _ _ ?_)
   (refine sR fun K hK => ?_; ((repeat (rw [Qa]; simp)); (try simp only [zs])); refine hK _ _ _ ?_; clear hK K)
   (refine Qo ?_; (try simp only [zs]); refine Wa.ret rfl (.inl ?_); simp [Qt, Out.fgt, D.fgt, D.fgts])
   rw [hi, List.drop_eq_nil_of_le (by simpa using hk), orI]
def sortedB : LV -> Bool
 | [] => true
 | [_] => true
 | a :: b :: r => decide (a.1 < b.1) && sortedB (b :: r)
theorem sortedB_iff : ∀ l : LV, sortedB l = true ↔ ∀ i (h : i + 1 < l.length), (l[i]'(by omega)).1 < l[i + 1].1
 | [] => by simp [sortedB]
 | [_] => by simp [sortedB]
 | a :: b :: r => by
  rw [sortedB, Bool.and_eq_true, decide_eq_true_eq, sortedB_iff (b :: r)]
  constructor
  ·rintro ⟨h1, h2⟩ i h
   cases i with
   | zero => exact h1
   | succ i => exact h2 i (by simpa using h)
  ·intro h
   exact ⟨h 0 (by simp), fun i hi => h (i + 1) (by simpa using hi)⟩
def partBad (n : Int) (p : Int × Int) : Bool := decide (p.1 < 0) || decide (n < p.1) || decide (p.2 < 0) || decide (1000 < p.2)
def levelRight (l : LV) (n : Int) : Bool := sortedB l && decide (l.length <= 9) && !(l.any (partBad n))
def risesI (p q : Int × Int) : Int := orI [cmpI p.1 q.1, -1]
theorem risesI_neg (p q : Int × Int) : risesI p q < 0 ↔ ¬ q.1 < p.1 := by
 unfold risesI cmpI
 by_cases h1 : p.1 < q.1
 ·simp [h1, orI]; omega
 ·by_cases h2 : q.1 < p.1 <;> simp [h1, h2, orI]
theorem right1_spec (p q : Int × Int) : Qu Tryz.prog glob 155 [Xp p, Xp q] [] (fun o _ => o.fgt = .ret (.int .i64 (risesI p q))) := by
 refine Qu.movd Qf (Qp Wc Tryz.func155 rfl (Qw _ _ Tryz.func155 rfl (by decide)) rfl rfl ?_)
 (refine sR fun K hK => ?_; ((repeat (rw [Qa]; simp)); (try simp only [zs])); refine hK _ _ _ ?_; clear hK K)
 (refine sR fun K hK => ?_; ((repeat (rw [Qa]; simp)); (try simp only [zs])))
 refine cXp (compare_spec p.1 q.1) ?_
 ((try simp only [Qb, Qc, Qn, Qi, Qj]); (repeat (rw [Qa]; simp)); (try simp only [zs]))
 refine Xk.pure Qf (or_spec [cmpI p.1 q.1, -1] (by simp [Wd])) ?_ (by simp [D.fgts, D.fgt, Ints]) (by simp [D.pures, D.pure, Cp.free, D.pures_map, Ints]) (by simp [Out.pure, D.pure, D.pures, Cp.free, D.pures_map, Ints])
 ((try simp only [Qb, Qc, Qn, Qi, Qj]); (repeat (rw [Qa]; simp)); (try simp only [zs]))
 (refine hK _ _ _ ?_; clear hK K)
 (refine Qo ?_; (try simp only [zs]); refine Wa.ret rfl (.inl ?_); simp [Qt, Out.fgt, D.fgt, D.fgts])
 rfl
theorem right2_spec (n : Int) (p : Int × Int) : Qu Tryz.prog glob 158 [Xp p, .ref (.int .i64 n)] [] (fun o _ => o.fgt = .ret (.bool (partBad n p))) := by
 refine Qu.movd Qf (Qp Wc Tryz.func158 rfl (Qw _ _ Tryz.func158 rfl (by decide)) rfl rfl ?_)
 (refine sR fun K hK => ?_; ((repeat (rw [Qa]; simp)); (try simp only [zs])); refine hK _ _ _ ?_; clear hK K)
 by_cases h1 : p.1 < 0
 ·(refine sR fun K hK => ?_; ((repeat (rw [Qa]; simp [h1])); (try simp only [zs])); refine hK _ _ _ ?_; clear hK K)
  (refine Qo ?_; (try simp only [zs]); refine Wa.ret rfl (.inl ?_); simp [Qt, Out.fgt, D.fgt, D.fgts])
  simp [partBad, h1]
 ·by_cases h2 : n < p.1
  ·(refine sR fun K hK => ?_; ((repeat (rw [Qa]; simp [h1, h2])); (try simp only [zs])); refine hK _ _ _ ?_; clear hK K)
   (refine Qo ?_; (try simp only [zs]); refine Wa.ret rfl (.inl ?_); simp [Qt, Out.fgt, D.fgt, D.fgts])
   simp [partBad, h2]
  ·by_cases h3 : p.2 < 0
   ·(refine sR fun K hK => ?_; ((repeat (rw [Qa]; simp [h1, h2, h3])); (try simp only [zs])); refine hK _ _ _ ?_; clear hK K)
    (refine Qo ?_; (try simp only [zs]); refine Wa.ret rfl (.inl ?_); simp [Qt, Out.fgt, D.fgt, D.fgts])
    simp [partBad, h3]
   ·(refine sR fun K hK => ?_; ((repeat (rw [Qa]; simp [h1, h2, h3])); (try simp only [zs])); refine hK _ _ _ ?_; clear hK K)
    (refine Qo ?_; (try simp only [zs]); refine Wa.ret rfl (.inl ?_); simp [Qt, Out.fgt, D.fgt, D.fgts])
    simp [partBad, h1, h2, h3]
theorem isSorted_spec (l : LV) (hl : l.length <= Wd) : Qu Tryz.prog glob 154 [Ps l, .fn (.func 155) [] []] [] (fun o _ => o.fgt = .ret (.bool (sortedB l))) := by
 unfold Wd at hl
 refine Qu.movd Qf (Qp Wc Tryz.func154 rfl (Qw _ _ Tryz.func154 rfl (by decide)) rfl rfl ?_)
 unfold Ps
 (refine sR fun K hK => ?_; ((repeat (rw [Qa]; simp)); (try simp only [zs])); refine hK _ _ _ ?_; clear hK K)
 have hw : IntKind.i64.wrap ((l.length : Int) - 1) = (l.length : Int) - 1 := i64w (by omega) (by omega)
 refine Qg fun K1 hK1 => ?_
 (refine sR fun K hK => ?_; ((repeat (rw [Qa]; simp [hw])); (try simp only [zs])); refine hK _ _ _ ?_; clear hK K)
 refine Wy ?_
 refine wpD_loopW [4, 5, 9, 10, 11, 12, 13, 14, 15, 16, 17, 18, 19, 20, 21, 22, 23, 24] (fun n ys hl => ∃ (k : Int) (x4 x9 x10 x11 x12 x13 x14 x15 x16 x17 x18 x19 x20 x21 x22 x23 x24 : D), ys = [x4, .int .i64 k, x9, x10, x11, x12, x13, x14, x15, x16, x17, x18, x19, x20, x21, x22, x23, x24] /\ (k < n /\ k < l.length /\ -1 <= k) /\ (∀ i (h : i + 1 < l.length), k <= i -> (l[i]'(by omega)).1 < l[i + 1].1) /\ hl = []) (l.length) (by kernel_rfl) ?_ ?_
 ·exact ⟨(l.length : Int) - 1, _, _, _, _, _, _, _, _, _, _, _, _, _, _, _, _, _, rfl, by omega, fun i h hi => by omega, rfl⟩
 ·rintro n ys hl A hA ⟨k, x4, x9, x10, x11, x12, x13, x14, x15, x16, x17, x18, x19, x20, x21, x22, x23, x24, rfl, hn, hi, rfl⟩
  simp only [Qv, List.set]
  refine Qg fun K2 hK2 => ?_
  refine Qg fun K3 hK3 => ?_
  (refine Qz Wc ?_; ((repeat (rw [Qa]; simp)); (try simp only [zs])))
  refine hK3 _ _ _ ?_
  clear hK3 K3
  refine wpD_part rfl (fun hk => ?_) (fun hk => ?_)
  ·replace hk : 0 < k := by simpa using hk
   refine Qs (hK2 _ _ _ ?_)
   clear hK2 K2
   refine Qg fun K3 hK3 => ?_
   refine Wy ?_
   obtain ⟨j, hjk⟩ : ∃ j : Nat, k = j + 1 := ⟨(k - 1).toNat, by omega⟩
   have hj : j + 1 < l.length := by omega
   have hj' : j < l.length := by omega
   have hw1 : IntKind.i64.wrap (k - 1) = j := by rw [i64w (by omega) (by omega)]; omega
   have e1 : k.toNat = j + 1 := by omega
   have e2 : 0 <= k := by omega
   (refine Qg fun K hK => ?_; refine dR fun KT hKT => ?_; ((repeat (rw [Qh]; simp [e1, e2, hj, hj', hw1, Xp])); (try simp only [Qk])))
   refine CallY.pure Qf (right1_spec (l[j + 1]) (l[j])) ?_ (by simp [D.fgts, D.fgt, Xp]) (by simp [D.pures, D.pure, Cp.free, D.pures_map, Xp]) (by simp [Out.pure, D.pure, D.pures, Cp.free, D.pures_map, Xp])
   ((try simp only [Ql, Qm, Qn, Qi, Qj]); (repeat (rw [Qh]; simp)); (try simp only [Qk]))
   (refine hKT _ _ _ _ (by kernel_rfl) ?_; clear hKT KT; (try simp only [zs]))
   (refine hK _ _ _ ?_; clear hK K)
   have hr := risesI_neg l[j + 1] l[j]
   refine wpD_part rfl (fun hb => ?_) (fun hb => ?_)
   ·replace hb : ¬ (l[j].1 < l[j + 1].1) := by rw [<- hr]; simpa using hb
    (refine sR fun K hK => ?_; ((repeat (rw [Qa]; simp)); (try simp only [zs])); refine hK _ _ _ ?_; clear hK K)
    (refine Qo ?_; (try simp only [zs]); refine Wa.ret rfl (.inl ?_); simp [Qt, Out.fgt, D.fgt, D.fgts])
    cases hs : sortedB l with
    | false => rfl
    | true => exact absurd (sortedB_iff l |>.1 hs j hj) hb
   ·replace hb : l[j].1 < l[j + 1].1 := by
     have : ¬ (risesI l[j + 1] l[j] < 0) := by simpa using hb
     rw [hr] at this
     omega
    refine Qs (hK3 _ _ _ ?_)
    clear hK3 K3
    have hw1 : IntKind.i64.wrap (k - 1) = k - 1 := i64w (by omega) (by omega)
    (refine Qz Wc ?_; ((repeat (rw [Qa]; simp [hw1])); (try simp only [zs])))
    refine hA (n - 1) _ _ (by omega) (by kernel_rfl) ?_
    refine ⟨k - 1, _, _, _, _, _, _, _, _, _, _, _, _, _, _, _, _, _, rfl, by omega, fun i h hi2 => ?_, rfl⟩
    by_cases hij : i = j
    ·subst hij; exact hb
    ·exact hi i h (by omega)
  ·replace hk : ¬ 0 < k := by simpa using hk
   refine wpD_exit ?_
   refine hK1 _ _ _ ?_
   (refine sR fun K hK => ?_; ((repeat (rw [Qa]; simp)); (try simp only [zs])); refine hK _ _ _ ?_; clear hK K)
   (refine Qo ?_; (try simp only [zs]); refine Wa.ret rfl (.inl ?_); simp [Qt, Out.fgt, D.fgt, D.fgts])
   exact (sortedB_iff l).2 fun i h => hi i h (by omega)
theorem levelRight_spec (l : LV) (n : Int) (hl : l.length <= Wd) : Qu Tryz.prog glob 144 [Wm l, .int .i64 n] [] (fun o _ => o.fgt = .ret (.bool (levelRight l n))) := by
 have hl' := hl
 unfold Wd at hl'
 refine Qu.movd Qf (Qp Wc Tryz.func144 rfl (Qw _ _ Tryz.func144 rfl (by decide)) rfl rfl ?_)
 (refine sR fun K hK => ?_; ((repeat (rw [Qa]; simp)); (try simp only [zs])); refine hK _ _ _ ?_; clear hK K)
 (refine sR fun K hK => ?_; ((repeat (rw [Qa]; simp)); (try simp only [zs])))
 refine Xk.pure Qf (isSorted_spec l hl) ?_ (by simp [D.fgts, D.fgt, Ps]) (by simp [D.pures, D.pure, Cp.free, D.pures_map, Ps]) (by simp [Out.pure, D.pure, D.pures, Cp.free, D.pures_map, Ps])
 ((try simp only [Qb, Qc, Qn, Qi, Qj]); (repeat (rw [Qa]; simp)); (try simp only [zs]))
 (refine hK _ _ _ ?_; clear hK K)
 (refine Xq (T := Wb) 1 (ty := 3) (ds := [.int .i64 n]) rfl rfl (by first | exact ⟨rfl, .inr ⟨_, rfl, rfl⟩⟩ | exact ⟨rfl, .inl rfl⟩) ?_; simp [D.frzs, D.frz, HO.frz, dfFrz, refOf, TK.isAgg, FK.isB, FK.isM, FK.isO, D.isLen])
 cases hs : sortedB l with
 | false =>
  (refine sR fun K hK => ?_; ((repeat (rw [Qa]; simp)); (try simp only [zs])); refine hK _ _ _ ?_; clear hK K)
  (refine Qo ?_; (try simp only [zs]); refine Wa.ret rfl (.inl ?_); simp [Qt, Out.fgt, D.fgt, D.fgts])
  simp [levelRight, hs]
 | true =>
  by_cases h9 : l.length <= 9
  ·have h9' : (l.length : Int) <= 9 := by omega
   (refine sR fun K hK => ?_; ((repeat (rw [Qa]; simp [h9, h9'])); (try simp only [zs])))
   refine cXp (containsFuncP_spec l (partBad n) _ [.ref (.int .i64 n)] rfl rfl hl fun p _ => right2_spec n p) ?_
   ((try simp only [Qb, Qc, Qn, Qi, Qj]); (repeat (rw [Qa]; simp)); (try simp only [zs]))
   (refine hK _ _ _ ?_; clear hK K)
   (refine Qo ?_; (try simp only [zs]); refine Wa.ret rfl (.inl ?_); simp [Qt, Out.fgt, D.fgt, D.fgts])
   simp [levelRight, hs, h9]
  ·have h9' : ¬ (l.length : Int) <= 9 := by omega
   (refine sR fun K hK => ?_; ((repeat (rw [Qa]; simp [h9, h9'])); (try simp only [zs])); refine hK _ _ _ ?_; clear hK K)
   (refine Qo ?_; (try simp only [zs]); refine Wa.ret rfl (.inl ?_); simp [Qt, Out.fgt, D.fgt, D.fgts])
   simp [levelRight, hs, h9]
end Go.Proofs.YtebmlojhdnldgaaGreatDoor
namespace Go.Proofs.YtebmlojhdnldgaaGreatDoor
set_option linter.unusedSimpArgs false
set_option linter.unusedVariables false
open Go.RowKit
def bareB (t : T) : Bool := decide (t.n = 0) && decide (t.a = 0) && decide (t.ls = [])
def variableB (sc : Int) (t : T) : Bool := decide (0 <= t.n) && decide (t.n < sc) && decide (t.a = 0) && decide (t.ls = [])
def finB (t : T) : Bool := decide (0 <= t.n) && decide (t.a = 0) && decide (t.ls = [])
def elemB (t : T) : Bool := decide (0 <= t.n) && decide (t.n < t.a) && decide (t.ls = [])
def branchesB (t : T) : Bool := decide (t.n = 0) && decide (0 <= t.a) && decide (t.ls = [])
def sortB (n : Int) (t : T) : Bool := decide (t.n = 0) && decide (t.a = 0) && decide (t.ls.length = 1) && (t.ls.all fun l => levelRight l n)
def constB (n : Int) (cs : List Int) (t : T) : Bool := decide (0 <= t.n) && decide (t.n < cs.length) && decide (t.a = 0) && decide ((t.ls.length : Int) = cs.getD t.n.toNat 0) && (t.ls.all fun l => levelRight l n)
def askC (n sc : Int) (cs : List Int) (t : T) : Bool :=
 if t.k = 1 then variableB sc t else if t.k = 2 then sortB n t else if t.k = 3 then constB n cs t else if t.k = 22 then finB t else if t.k = 23 then elemB t else if t.k = 24 then branchesB t else bareB t
def askN (k a : Int) : Int :=
 if k = 7 \/ k = 19 then 3 else if k = 14 \/ k = 15 then 1 else if k = 18 then 5 else if k = 21 then 6 else if k = 24 then IntKind.i64.wrap (a + 2) else if k = 1 \/ k = 2 \/ k = 3 \/ k = 20 \/ k = 22 \/ k = 23 then 0 else 2
def inCore (k : Int) : Bool := (decide (1 <= k) && decide (k <= 7)) || (decide (12 <= k) && decide (k <= 24))
def nodeB (n sc : Int) (cs : List Int) (t : T) : Bool := inCore t.k && askC n sc cs t && decide ((t.ks.length : Int) = askN t.k t.a)
mutual
def coreB (n : Int) (cs : List Int) : T -> Int -> Bool
 | .mk k m a ls ks, sc => nodeB n sc cs (.mk k m a ls ks) && coreKs n cs ks k 0 sc
def coreKs (n : Int) (cs : List Int) : List T -> Int -> Nat -> Int -> Bool
 | [], _, _, _ => true
 | t :: r, k, i, sc => coreB n cs t (Zb sc k i) && coreKs n cs r k (i + 1) sc
end
def rightB (n sc : Int) (cs : List Int) (t : T) : Bool := decide (0 <= n) && decide (0 <= sc) && coreB n cs t sc
theorem coreKs_iff {n : Int} {cs : List Int} {k sc : Int} : ∀ {ks : List T} {i : Nat}, coreKs n cs ks k i sc = true ↔ ∀ j (h : j < ks.length), coreB n cs ks[j] (Zb sc k ((i + j : Nat) : Int)) = true
 | [], i => by rw [coreKs]; simp
 | t :: r, i => by
  rw [coreKs, Bool.and_eq_true, coreKs_iff (ks := r)]
  constructor
  ·rintro ⟨h1, h2⟩ j hj
   cases j with
   | zero => exact h1
   | succ j =>
    have := h2 j (by simpa using hj)
    rw [show i + 1 + j = i + (j + 1) by omega] at this
    exact this
  ·intro h
   refine ⟨h 0 (by simp), fun j hj => ?_⟩
   have := h (j + 1) (by simpa using hj)
   rw [show i + (j + 1) = i + 1 + j by omega] at this
   exact this
theorem core_mk {n : Int} {cs : List Int} {k m a : Int} {ls : List LV} {ks : List T} {sc : Int} : coreB n cs (.mk k m a ls ks) sc = true ↔ nodeB n sc cs (.mk k m a ls ks) = true /\ ∀ j (h : j < ks.length), coreB n cs ks[j] (Zb sc k (j : Int)) = true := by
 rw [coreB, Bool.and_eq_true, coreKs_iff]
 simp only [Nat.zero_add]
theorem belowD_in {d k i : Int} (h : -1000000000000000 <= d) (h2 : d <= 1000000000000000) : Zb d k i = if Wu k i then d + 1 else d := by
 unfold Zb
 split
 ·rw [i64w (by omega) (by omega)]
 ·rfl
theorem belowD_le {d k i : Int} (h : -1000000000000000 <= d) (h2 : d <= 1000000000000000) : d <= Zb d k i /\ Zb d k i <= d + 1 := by
 rw [belowD_in h h2]; split <;> omega
theorem node_iff {n sc : Int} {cs : List Int} {t : T} : nodeB n sc cs t = true ↔ inCore t.k = true /\ askC n sc cs t = true /\ (t.ks.length : Int) = askN t.k t.a := by
 unfold nodeB
 simp only [Bool.and_eq_true, decide_eq_true_eq, and_assoc]
theorem variableB_iff {sc : Int} {t : T} : variableB sc t = true ↔ 0 <= t.n /\ t.n < sc /\ t.a = 0 /\ t.ls = [] := by
 unfold variableB
 simp only [Bool.and_eq_true, decide_eq_true_eq, and_assoc]
def ConstsLe (cs cs' : List Int) : Prop := cs.length <= cs'.length /\ ∀ i, i < cs.length -> cs'.getD i 0 = cs.getD i 0
theorem ConstsLe.refl (cs : List Int) : ConstsLe cs cs := ⟨Nat.le_refl _, fun _ _ => rfl⟩
theorem ConstsLe.append (cs more : List Int) : ConstsLe cs (cs ++ more) := by
 refine ⟨by simp, fun i hi => ?_⟩
 rw [List.getD_eq_getElem?_getD, List.getD_eq_getElem?_getD, List.getElem?_append_left hi]
def ScOk (sc : Int) (t : T) : Prop := 0 <= sc /\ sc + t.deep <= 1000000000000000
theorem ScOk.kid {sc k m a : Int} {ls : List LV} {ks : List T} (h : ScOk sc (.mk k m a ls ks)) {t : T} (ht : t ∈ ks) (i : Int) : ScOk (Zb sc k i) t := by
 have h1 := T.deep_kid (k := k) (n := m) (a := a) (ls := ls) ht
 obtain ⟨h2, h3⟩ := h
 have := belowD_le (d := sc) (k := k) (i := i) (by omega) (by omega)
 unfold ScOk
 omega
theorem walks_get {f : Turn} {k d : Int} {ks : List T} {i : Nat} : ∀ {j : Nat} (h : j < (T.walks f k ks i d).length) (h' : j < ks.length), (T.walks f k ks i d)[j] = T.walk f ks[j] (Zb d k ((i + j : Nat) : Int)) := by
 induction ks generalizing i with
 | nil => intro j h h'; simp at h'
 | cons t r ih =>
  intro j h h'
  cases j with
  | zero => simp only [T.walks, List.getElem_cons_zero]; rfl
  | succ j =>
   have hr : j < r.length := by simpa using h'
   simp only [T.walks, List.getElem_cons_succ]
   rw [ih (by rw [T.walks_length]; exact hr) hr, show i + 1 + j = i + (j + 1) by omega]
theorem walks_get0 {f : Turn} {k d : Int} {ks : List T} {j : Nat} (h : j < (T.walks f k ks 0 d).length) : (T.walks f k ks 0 d)[j] = T.walk f (ks[j]'(by rw [T.walks_length] at h; exact h)) (Zb d k (j : Int)) := by
 rw [walks_get h (by rw [T.walks_length] at h; exact h), Nat.zero_add]
def lowL (most : Int) (l : LV) : Bool := l.all fun p => decide (p.2 <= most)
mutual
def T.lowB (most : Int) : T -> Bool
 | .mk _ _ _ ls ks => ls.all (lowL most) && T.lowsB most ks
def T.lowsB (most : Int) : List T -> Bool
 | [] => true
 | t :: r => T.lowB most t && T.lowsB most r
end
theorem rightB_iff {n sc : Int} {cs : List Int} {t : T} : rightB n sc cs t = true ↔ 0 <= n /\ 0 <= sc /\ coreB n cs t sc = true := by
 unfold rightB; simp [and_assoc]
def wsN (k n a : Int) (len sc : Nat) : Prop := inCore k = true /\ (k = 1 -> 0 <= n /\ n < sc) /\ (len : Int) = askN k a /\ (k = 24 -> 0 <= a)
inductive Ws : T -> Nat -> Prop where
 | mk {k n a : Int} {ls : List LV} {ks : List T} {sc : Nat} (h : wsN k n a ks.length sc) (hk : ∀ i, i < ks.length -> Ws (ks.getD i Wl) (up1 sc k i)) : Ws (.mk k n a ls ks) sc
theorem Ws.node {t : T} {sc : Nat} (h : Ws t sc) : wsN t.k t.n t.a t.ks.length sc := by cases h; assumption
theorem Ws.kid {t : T} {sc : Nat} (h : Ws t sc) {i : Nat} (hi : i < t.ks.length) : Ws (t.kid i) (up1 sc t.k i) := by cases h with | mk h hk => exact hk i hi
theorem ws_len {t : T} {sc : Nat} (h : Ws t sc) : (t.ks.length : Int) = askN t.k t.a := h.node.2.2.1
theorem ws_lift {t : T} {sc : Nat} (h : Ws t sc) (n : Nat) : ∀ c, c <= sc -> Ws (t.liftI n c) (sc + n) := by
 induction h with
 | @mk k m a ls ks sc h hk ih =>
  intro c hc
  rw [T.liftI]
  obtain ⟨h1, h2, h3, h4⟩ := h
  refine .mk ⟨h1, fun e => ?_, by rw [liftsI_len]; exact h3, h4⟩ fun i hi => ?_
  ·have := h2 e
   split <;> omega
  ·rw [liftsI_len] at hi
   rw [liftsI_getD, Nat.zero_add, up1_add]
   exact ih i hi _ (up1_le hc k i)
theorem ws_mono {t : T} {sc : Nat} (h : Ws t sc) : ∀ {sc' : Nat}, sc <= sc' -> Ws t sc' := by
 induction h with
 | @mk k m a ls ks sc h hk ih =>
  intro sc' hc
  exact .mk ⟨h.1, fun e => by have := h.2.1 e; omega, h.2.2.1, h.2.2.2⟩ fun i hi => ih i hi (up1_le hc k i)
theorem ws_put {x t : T} {sc' : Nat} (h : Ws t sc') : ∀ {sc d : Nat}, sc' = sc + 1 -> d <= sc -> Ws x (sc - d) -> Ws (T.putI x t d) sc := by
 induction h with
 | @mk k m a ls ks sc' h hk ih =>
  intro sc d e hd hx
  subst e
  obtain ⟨h1, h2, h3, h4⟩ := h
  by_cases hh : k = 1 /\ m = (d : Int)
  ·obtain ⟨rfl, rfl⟩ := hh
   rw [putI_hit]
   have := ws_lift hx d 0 (Nat.zero_le _)
   rwa [Nat.sub_add_cancel hd] at this
  ·rw [T.putI, if_neg hh]
   refine .mk ⟨h1, fun e => ?_, by rw [putsI_len]; exact h3, h4⟩ fun i hi => ?_
   ·have := h2 e
    have hm : ¬ m = (d : Int) := fun e2 => hh ⟨e, e2⟩
    split
    ·omega
    ·rename_i hn
     have : ¬ (d : Int) < m := fun e2 => hn ⟨e, e2⟩
     omega
   ·rw [putsI_len] at hi
    rw [putsI_getD, Nat.zero_add]
    refine ih i hi (by rw [up1_add]) (up1_le hd k i) ?_
    have : up1 sc k i - up1 d k i = sc - d := by unfold up1; split <;> omega
    rw [this]; exact hx
theorem ws_closed {t : T} {sc : Nat} (h : Ws t sc) : (∀ n c, sc <= c -> t.liftI n c = t) /\ ∀ x d, sc <= d -> T.putI x t d = t := by
 induction h with
 | @mk k m a ls ks sc h hk ih =>
  constructor
  ·intro n c hc
   rw [T.liftI, if_neg (by rintro ⟨e1, e2⟩; have := h.2.1 e1; omega)]
   rw [getD_ext (a := ks) (liftsI_len _ _ _ _ _) fun i hi => by
    rw [liftsI_getD, Nat.zero_add]; exact (ih i hi).1 n _ (up1_le hc k i)]
  ·intro x d hd
   rw [T.putI, if_neg (by rintro ⟨e1, e2⟩; have := h.2.1 e1; omega), if_neg (by rintro ⟨e1, e2⟩; have := h.2.1 e1; omega)]
   rw [getD_ext (a := ks) (putsI_len _ _ _ _ _) fun i hi => by
    rw [putsI_getD, Nat.zero_add]; exact (ih i hi).2 x _ (up1_le hd k i)]
def SB : Nat := 1099511627776
theorem deep_kid' {k n a : Int} {ls : List LV} {ks : List T} {i : Nat} (hi : i < ks.length) : (ks.getD i Wl).deep + 1 <= (T.mk k n a ls ks).deep := by
 rw [getD_in hi]; exact T.deep_kid (List.getElem_mem hi)
theorem belowD_up1 {d : Nat} (k : Int) (i : Nat) (h : d <= 1000000000000000) : Zb (d : Int) k (i : Int) = ((up1 d k i : Nat) : Int) := by
 unfold Zb up1
 split
 ·rw [i64w (by omega) (by omega)]; push_cast; rfl
 ·rfl
theorem lift_ideal {t : T} {sc : Nat} (h : Ws t sc) (n fr : Nat) (hn : n <= SB) (hf : fr <= SB) : ∀ d : Nat, sc + t.deep <= 2 * SB -> d + t.deep <= 2 * SB -> T.walk (liftTurn n fr) t d = t.liftI n (d + fr) := by
 induction h with
 | @mk k m a ls ks sc h hk ih =>
  intro d h1 h2
  unfold SB at hn hf h1 h2
  rw [walk_lift, T.liftI]
  have e1 : liftNum n fr d k m = if k = 1 /\ ((d + fr : Nat) : Int) <= m then m + n else m := by
   unfold liftNum
   by_cases e : k = 1
   ·have := h.2.1 e
    rw [i64w (n := m - d) (by omega) (by omega), i64w (n := m + n) (by omega) (by omega)]
    by_cases e3 : ((d + fr : Nat) : Int) <= m
    ·rw [if_pos ⟨e, by push_cast at e3; omega, by push_cast at e3; omega⟩, if_pos ⟨e, e3⟩]
    ·rw [if_neg (fun h => e3 (by push_cast; omega)), if_neg (fun h => e3 h.2)]
   ·rw [if_neg (fun h => e h.1), if_neg (fun h => e h.1)]
  rw [e1]
  congr 1
  apply getD_ext (by rw [T.walks_length, liftsI_len])
  intro i hi
  rw [liftsI_len] at hi
  have hd := deep_kid' (k := k) (n := m) (a := a) (ls := ls) hi
  have h3 : i < (T.walks (liftTurn n fr) k ks 0 d).length := by rw [T.walks_length]; exact hi
  rw [getD_in h3, walks_get0 h3, liftsI_getD, Nat.zero_add, belowD_up1 k i (by omega), show up1 (d + fr) k i = up1 d k i + fr from up1_add d fr k i]
  have h4 := up1_le (Nat.le_refl sc) k i
  have h5 : up1 sc k i <= sc + 1 := by unfold up1; split <;> omega
  have h6 : up1 d k i <= d + 1 := by unfold up1; split <;> omega
  have := ih i hi (up1 d k i) (by unfold SB; omega) (by unfold SB; omega)
  rw [getD_in hi] at this ⊢
  exact this
theorem put_ideal {x t : T} {sc sx : Nat} (hx : Ws x sx) (hxd : sx + x.deep <= SB) (h : Ws t sc) : ∀ d : Nat, sc + t.deep <= SB -> d + t.deep <= SB -> T.walk (putTurn [x]) t d = T.putI x t d := by
 induction h with
 | @mk k m a ls ks sc h hk ih =>
  intro d h1 h2
  unfold SB at h1 h2
  have hks : T.walks (putTurn [x]) k ks 0 d = T.putsI x k ks 0 d := by
   apply getD_ext (by rw [T.walks_length, putsI_len])
   intro i hi
   rw [putsI_len] at hi
   have hd := deep_kid' (k := k) (n := m) (a := a) (ls := ls) hi
   have h3 : i < (T.walks (putTurn [x]) k ks 0 d).length := by rw [T.walks_length]; exact hi
   rw [getD_in h3, walks_get0 h3, putsI_getD, Nat.zero_add, belowD_up1 k i (by omega)]
   have h5 : up1 sc k i <= sc + 1 := by unfold up1; split <;> omega
   have h6 : up1 d k i <= d + 1 := by unfold up1; split <;> omega
   have := ih i hi (up1 d k i) (by unfold SB; omega) (by unfold SB; omega)
   rw [getD_in hi] at this ⊢
   exact this
  by_cases e : k = 1
  ·subst e
   have hm := h.2.1 rfl
   by_cases hd : m = (d : Int)
   ·subst hd
    rw [walk_inl (putTurn_in (t := .mk 1 (d : Int) a ls ks) ⟨rfl, by simp only [T.n_mk]; omega⟩ (by simp)), putI_hit]
    have := lift_ideal hx d 0 (by unfold SB; omega) (by unfold SB; omega) 0 (by omega) (by omega)
    unfold T.lift
    simpa using this
   ·rw [putI_miss hd]
    by_cases hlt : (d : Int) < m
    ·rw [walk_inr (putTurn_over (t := .mk 1 m a ls ks) ⟨rfl, by simp only [T.n_mk]; omega⟩ (by simp only [T.n_mk, List.length_cons, List.length_nil]; omega)), if_pos hlt, hks]
     congr 1
     simp only [T.n_mk, List.length_cons, List.length_nil]
     rw [i64w (by push_cast; omega) (by push_cast; omega)]
     push_cast; omega
    ·rw [walk_inr (putTurn_low (t := .mk 1 m a ls ks) (by rintro ⟨-, e2⟩; simp only [T.n_mk] at e2; omega)), if_neg hlt, hks]; rfl
  ·rw [walk_inr (putTurn_low (t := .mk k m a ls ks) (fun e2 => e e2.1)), putI_node e, hks]; rfl
theorem kid_at {t : T} {i : Nat} (h : i < t.ks.length) : t.kid i = t.ks[i] := by unfold T.kid; rw [List.getD_eq_getElem?_getD, List.getElem?_eq_getElem h]; rfl
theorem kid_deep {t : T} {i : Nat} (hi : i < t.ks.length) : (t.kid i).deep + 1 <= t.deep := by
 rw [kid_at hi]
 cases t with
 | mk k m a ls ks => exact T.deep_kid (List.getElem_mem hi)
theorem withK_same {ks : List T} {i many : Nat} (h : ks.length = many) : withK ks (ks.getD i Wl) i many = ks := by
 apply List.ext_getElem (by rw [withK_len, h])
 intro j h1 h2
 rw [withK_len] at h1
 have := withK_get (ks := ks) (x := ks.getD i Wl) (i := i) h1
 rw [List.getD_eq_getElem?_getD, List.getElem?_eq_getElem (by rw [withK_len]; exact h1)] at this
 simp only [Option.getD_some] at this
 rw [this]
 split
 ·rename_i e; subst e; simp [h2]
 ·simp [h2]
theorem with_same {t : T} {i many : Nat} (h : t.ks.length = many) : t.withT (t.kid i) i many = t := by
 cases t with
 | mk k n a ls ks => unfold T.withT T.kid; simp only [T.k_mk, T.n_mk, T.a_mk, T.ls_mk, T.ks_mk] at h ⊢; rw [withK_same h]
structure BodyOk (cs : List Int) (l : List C) : Prop where
 eq : cs = l.map C.lv
 lv : ∀ c, c ∈ l -> 0 <= c.lv /\ c.lv <= 8
 bo : ∀ c, c ∈ l -> c.has = true -> coreB c.lv cs c.bo 0 = true
 low : ∀ c, c ∈ l -> c.bo.lowB 400 = true
 deep : ∀ c, c ∈ l -> c.bo.deep <= 1000000
theorem ws_levels {t : T} {sc : Nat} (h : Ws t sc) (bys : List LV) : ∀ d, Ws (T.walk (levTurn bys) t d) sc := by
 induction h with
 | @mk k m a ls ks sc h hk ih =>
  intro d
  rw [walk_inr (f := levTurn bys) (x := (m, ls.map fun l => Wq (putL l bys))) rfl]
  refine .mk (by rw [T.walks_length]; exact h) fun i hi => ?_
  have hi' : i < ks.length := by rw [T.walks_length] at hi; exact hi
  rw [getD_in hi, walks_get0 hi]
  have := ih i hi' (Zb d k (i : Int))
  rw [getD_in hi'] at this
  exact this
theorem core_ws {n : Int} {cs : List Int} (t : T) : ∀ sc : Nat, sc + t.deep <= 1000000000000000 -> coreB n cs t (sc : Int) = true -> Ws t sc := by
 induction t using T.ind with
 | h k m a ls ks ih =>
  intro sc hb h
  rw [core_mk, node_iff] at h
  obtain ⟨⟨h1, h2, h3⟩, h4⟩ := h
  simp only [T.k_mk, T.ks_mk, T.a_mk] at h1 h3
  refine .mk ⟨h1, fun e => ?_, h3, fun e => ?_⟩ fun i hi => ?_
  ·subst e
   unfold askC at h2
   rw [if_pos (show (T.mk 1 m a ls ks).k = 1 from rfl), variableB_iff] at h2
   exact ⟨h2.1, h2.2.1⟩
  ·subst e
   unfold askC at h2
   rw [if_neg (show ¬ (T.mk 24 m a ls ks).k = 1 from by simp), if_neg (show ¬ (T.mk 24 m a ls ks).k = 2 from by simp), if_neg (show ¬ (T.mk 24 m a ls ks).k = 3 from by simp), if_neg (show ¬ (T.mk 24 m a ls ks).k = 22 from by simp), if_neg (show ¬ (T.mk 24 m a ls ks).k = 23 from by simp), if_pos (show (T.mk 24 m a ls ks).k = 24 from rfl)] at h2
   simp only [branchesB, Bool.and_eq_true, decide_eq_true_eq] at h2
   exact h2.1.2
  ·have h5 := h4 i hi
   have hd := T.deep_kid (k := k) (n := m) (a := a) (ls := ls) (List.getElem_mem hi)
   rw [belowD_up1 k i (by omega)] at h5
   rw [getD_in hi]
   refine ih _ (List.getElem_mem hi) _ ?_ h5
   have : up1 sc k i <= sc + 1 := by unfold up1; split <;> omega
   omega
def WsL (l : List C) : Prop := ∀ n lv b, bodyC l n lv = some b -> Ws b 0
theorem WsL.closed {l : List C} (h : WsL l) : Closed l := fun n lv b hb => by
 have := ws_closed (h n lv b hb)
 exact ⟨fun m c => this.1 m c (Nat.zero_le _), fun x d => this.2 x d (Nat.zero_le _)⟩
theorem wsL_of {l : List C} {cs : List Int} (hb : ∀ c, c ∈ l -> c.has = true -> coreB c.lv cs c.bo 0 = true) (hd : ∀ c, c ∈ l -> c.bo.deep <= 100000000) : WsL l := fun n lv b h => by
 unfold bodyC at h
 split at h
 ·rename_i h1
  split at h
  ·rename_i h2
   cases h
   have hm := List.getElem_mem h1.2
   exact ws_levels (core_ws _ 0 (by have := hd _ hm; omega) (hb _ hm h2.2)) lv 0
  ·cases h
 ·cases h
theorem spot_ws {t : T} {sc : Nat} (h : Ws t sc) {i many : Nat} (hs : spot t = some (i, many)) : t.ks.length = many /\ i < many /\ up1 sc t.k i = sc := by
 have h3 := ws_len h
 have hlt := spot_lt hs
 unfold spot at hs
 unfold askN at h3
 by_cases k6 : t.k = 6
 ·rw [if_pos k6] at hs; cases hs; rw [k6] at h3 ⊢; simp at h3; exact ⟨by omega, by omega, Wp (by kernel_rfl) _⟩
 rw [if_neg k6] at hs
 by_cases k14 : t.k = 14 \/ t.k = 15
 ·rw [if_pos k14] at hs; cases hs; rcases k14 with k | k <;> rw [k] at h3 ⊢ <;> simp at h3 <;> exact ⟨by omega, by omega, Wp (by kernel_rfl) _⟩
 rw [if_neg k14] at hs
 by_cases k18 : t.k = 18
 ·rw [if_pos k18] at hs; cases hs; rw [k18] at h3 ⊢; simp at h3; exact ⟨by omega, by omega, Wp (by kernel_rfl) _⟩
 rw [if_neg k18] at hs
 by_cases k21 : t.k = 21
 ·rw [if_pos k21] at hs; cases hs; rw [k21] at h3 ⊢; simp at h3; exact ⟨by omega, by omega, Wp (by kernel_rfl) _⟩
 rw [if_neg k21] at hs
 split at hs
 ·rename_i hk; cases hs; refine ⟨by omega, by omega, ?_⟩; rw [hk.1]; exact Wp (binds_case _) _
 ·cases hs
theorem ws_trunc {t : T} {sc : Nat} (h : Ws t sc) : t.trunc = t := by
 induction h with
 | @mk k m a ls ks sc h hk ih =>
  rcases spot_of (.mk k m a ls ks) with hs | ⟨i, many, hs⟩
  ·exact trunc_none hs
  ·obtain ⟨h1, h2, h3⟩ := spot_ws (.mk h hk) hs
   have hi : i < (T.mk k m a ls ks).ks.length := by omega
   rw [trunc_in hs hi]
   have h5 : T.trunc ((T.mk k m a ls ks).kid i) = (T.mk k m a ls ks).kid i := ih i hi
   rw [kid_at hi] at h5
   rw [h5, <- kid_at hi]
   exact with_same h1
theorem ws_with {t x : T} {sc : Nat} {i many : Nat} (h : Ws t sc) (hl : t.ks.length = many) (hx : Ws x (up1 sc t.k i)) : Ws (t.withT x i many) sc := by
 cases t with
 | mk k m a ls ks =>
  unfold T.withT
  simp only [T.k_mk, T.n_mk, T.a_mk, T.ls_mk, T.ks_mk] at hl hx ⊢
  refine .mk (by rw [withK_len, <- hl]; exact h.node) fun j hj => ?_
  rw [withK_len] at hj
  rw [withK_get hj]
  split
  ·rename_i e; subst e; exact hx
  ·exact h.kid (show j < (T.mk k m a ls ks).ks.length by simp only [T.ks_mk]; omega)
theorem ws_of2 {k : Int} {x y : T} {sc sx sy : Nat} (hk : k = 5 \/ k = 6) (ex : up1 sc k 0 = sx) (ey : up1 sc k 1 = sy) (hx : Ws x sx) (hy : Ws y sy) : Ws (ofT k [x, y]) sc := by
 unfold ofT
 subst ex; subst ey
 refine .mk ⟨by rcases hk with rfl | rfl <;> rfl, fun e => by omega, by rcases hk with rfl | rfl <;> rfl, fun e => by omega⟩ fun i hi => ?_
 match i, hi with
 | 0, _ => exact hx
 | 1, _ => exact hy
theorem ws_var0 {sc : Nat} (h : 0 < sc) : Ws (ofT 1 []) sc := .mk ⟨rfl, fun _ => ⟨by omega, by omega⟩, rfl, fun e => by omega⟩ fun i hi => absurd hi (by simp)
theorem ws_tree {t x : T} {sc : Nat} (hk : t.k = 18) (h : Ws t sc) (hx : x = t.kid 4) (hxk : x.k = 17) : Ws (treeI t x) sc := by
 have hl := ws_len h
 rw [hk] at hl
 have hl5 : t.ks.length = 5 := by have : askN 18 t.a = 5 := rfl; omega
 have k0 := h.kid (i := 0) (by omega)
 have k1 := h.kid (i := 1) (by omega)
 have k2 := h.kid (i := 2) (by omega)
 have k3 := h.kid (i := 3) (by omega)
 have k4 := h.kid (i := 4) (by omega)
 rw [hk] at k0 k1 k2 k3 k4
 rw [Wp (by kernel_rfl)] at k0 k2 k3 k4
 rw [up1_yes (by kernel_rfl)] at k1
 rw [<- hx] at k4
 have hxl := ws_len k4
 rw [hxk] at hxl
 have hx2 : x.ks.length = 2 := by have : askN 17 x.a = 2 := rfl; omega
 have xa := k4.kid (i := 0) (by omega)
 have xf := k4.kid (i := 1) (by omega)
 rw [hxk, Wp (by kernel_rfl)] at xa xf
 unfold treeI
 refine ws_of2 (sx := sc) (sy := sc) (.inr rfl) (Wp (by kernel_rfl) _) (Wp (by kernel_rfl) _) ?_ ?_
 ·refine ws_of2 (sx := sc) (sy := sc) (.inr rfl) (Wp (by kernel_rfl) _) (Wp (by kernel_rfl) _) ?_ xf
  exact ws_of2 (sx := sc) (sy := sc) (.inr rfl) (Wp (by kernel_rfl) _) (Wp (by kernel_rfl) _) k3 xa
 ·refine ws_of2 (sx := sc) (sy := sc + 1) (.inl rfl) (Wp (by kernel_rfl) _) (up1_yes (by kernel_rfl) _) (ws_put k1 rfl (Nat.zero_le _) xa) ?_
  unfold ofT
  refine .mk ⟨rfl, fun e => by omega, rfl, fun e => by omega⟩ fun i hi => ?_
  match i, hi with
  | 0, _ => rw [Wp (by kernel_rfl)]; exact ws_lift k0 1 0 (Nat.zero_le _)
  | 1, _ => rw [up1_yes (by kernel_rfl)]; exact ws_lift k1 1 1 (by omega)
  | 2, _ => rw [Wp (by kernel_rfl)]; exact ws_lift k2 1 0 (Nat.zero_le _)
  | 3, _ => rw [Wp (by kernel_rfl)]; exact ws_lift k3 1 0 (Nat.zero_le _)
  | 4, _ =>
   rw [Wp (by kernel_rfl)]
   exact ws_of2 (sx := sc + 1) (sy := sc + 1) (.inr rfl) (Wp (by kernel_rfl) _) (Wp (by kernel_rfl) _) (ws_lift xf 1 0 (Nat.zero_le _)) (ws_var0 (by omega))
theorem put_eq {b y : T} {sc : Nat} (hb : Ws b (sc + 1)) (hy : Ws y sc) (h1 : sc + 1 + b.deep <= SB) (h2 : sc + y.deep <= SB) : b.put [y] 0 = T.putI y b 0 :=
 put_ideal hy h2 hb 0 h1 (by omega)
theorem lift_eq {b : T} {sc : Nat} (hb : Ws b sc) (h1 : sc + b.deep <= SB) (fr : Nat) (hf : fr <= 1) : b.lift 1 fr 0 = b.liftI 1 fr := by
 have := lift_ideal hb 1 fr (by unfold SB; omega) (by unfold SB; omega) 0 (by omega) (by omega)
 rw [Nat.zero_add] at this
 exact this
theorem tree_eq {t x : T} {sc : Nat} (hk : t.k = 18) (h : Ws t sc) (hb : sc + 1 + t.deep <= SB) (hx : x = t.kid 4) (hxk : x.k = 17) : treeT t x = treeI t x := by
 have hl := ws_len h
 rw [hk] at hl
 have hl5 : t.ks.length = 5 := by have : askN 18 t.a = 5 := rfl; omega
 have k0 := h.kid (i := 0) (by omega)
 have k1 := h.kid (i := 1) (by omega)
 have k2 := h.kid (i := 2) (by omega)
 have k3 := h.kid (i := 3) (by omega)
 have k4 := h.kid (i := 4) (by omega)
 have d0 := kid_deep (t := t) (i := 0) (by omega)
 have d1 := kid_deep (t := t) (i := 1) (by omega)
 have d2 := kid_deep (t := t) (i := 2) (by omega)
 have d3 := kid_deep (t := t) (i := 3) (by omega)
 have d4 := kid_deep (t := t) (i := 4) (by omega)
 rw [hk] at k0 k1 k2 k3 k4
 rw [Wp (by kernel_rfl)] at k0 k2 k3 k4
 rw [up1_yes (by kernel_rfl)] at k1
 rw [<- hx] at k4 d4
 have hxl := ws_len k4
 rw [hxk] at hxl
 have hx2 : x.ks.length = 2 := by have : askN 17 x.a = 2 := rfl; omega
 have xa := k4.kid (i := 0) (by omega)
 have xf := k4.kid (i := 1) (by omega)
 have da := kid_deep (t := x) (i := 0) (by omega)
 have df := kid_deep (t := x) (i := 1) (by omega)
 rw [hxk, Wp (by kernel_rfl)] at xa xf
 have e0 := lift_eq k0 (by omega) 0 (by omega)
 have e1 := lift_eq k1 (by omega) 1 (by omega)
 have e2 := lift_eq k2 (by omega) 0 (by omega)
 have e3 := lift_eq k3 (by omega) 0 (by omega)
 have ef := lift_eq xf (by omega) 0 (by omega)
 have ep := put_eq k1 xa (by omega) (by omega)
 unfold treeT treeI
 have e0 : (t.kid 0).lift 1 0 0 = (t.kid 0).liftI 1 0 := e0
 have e1 : (t.kid 1).lift 1 1 0 = (t.kid 1).liftI 1 1 := e1
 have e2 : (t.kid 2).lift 1 0 0 = (t.kid 2).liftI 1 0 := e2
 have e3 : (t.kid 3).lift 1 0 0 = (t.kid 3).liftI 1 0 := e3
 have ef : (x.kid 1).lift 1 0 0 = (x.kid 1).liftI 1 0 := ef
 simp only [e0, e1, e2, e3, ef, ep]
theorem own_root {l : List C} (hB : WsL l) {t x u : T} {c sc : Nat} (h : Ws t sc) (hb : sc + 1 + t.deep <= SB) (hx : ∀ i many, spot t = some (i, many) -> x = t.kid i) (ho : ownS l t x = some (u, c)) : rootI l t = some u /\ Ws u sc := by
 have hl := ws_len h
 unfold ownS at ho
 by_cases k6 : t.k = 6
 ·rw [if_pos k6] at ho
  rw [k6] at hl
  have h2 : t.ks.length = 2 := by have : askN 6 t.a = 2 := rfl; omega
  have e := hx 0 2 (by unfold spot; rw [if_pos k6])
  have r0 := h.kid (i := 0) (by omega)
  have r1 := h.kid (i := 1) (by omega)
  have d0 := kid_deep (t := t) (i := 0) (by omega)
  have d1 := kid_deep (t := t) (i := 1) (by omega)
  rw [k6, Wp (by kernel_rfl)] at r0 r1
  rw [<- e] at r0 d0
  split at ho
  ·rename_i k5
   cases ho
   have hxl := ws_len r0
   rw [k5] at hxl
   have hx2 : x.ks.length = 2 := by have : askN 5 x.a = 2 := rfl; omega
   have xb := r0.kid (i := 1) (by omega)
   have db := kid_deep (t := x) (i := 1) (by omega)
   rw [k5, up1_yes (by kernel_rfl)] at xb
   rw [put_eq xb r1 (by omega) (by omega)]
   exact ⟨Xm (.inl ⟨k6, by rw [<- e]; exact k5, by rw [<- e]⟩), ws_put xb rfl (Nat.zero_le _) r1⟩
  ·cases ho
 rw [if_neg k6] at ho
 by_cases k14 : t.k = 14 \/ t.k = 15
 ·rw [if_pos k14] at ho
  have h1 : t.ks.length = 1 := by
   rcases k14 with k | k
   ·rw [k] at hl; have : askN 14 t.a = 1 := rfl; omega
   ·rw [k] at hl; have : askN 15 t.a = 1 := rfl; omega
  have e := hx 0 1 (by unfold spot; rw [if_neg k6, if_pos k14])
  have r0 := h.kid (i := 0) (by omega)
  rw [<- e, Wp (by rcases k14 with k | k <;> rw [k] <;> kernel_rfl)] at r0
  split at ho
  ·rename_i k13
   cases ho
   have hxl := ws_len r0
   rw [k13] at hxl
   have hx2 : x.ks.length = 2 := by have : askN 13 x.a = 2 := rfl; omega
   have x0 := r0.kid (i := 0) (by omega)
   have x1 := r0.kid (i := 1) (by omega)
   rw [k13, Wp (by kernel_rfl)] at x0 x1
   rcases k14 with k | k
   ·rw [if_neg (by omega)]
    exact ⟨Xm (.inr (.inl ⟨k, by rw [<- e]; exact k13, by rw [<- e]⟩)), x0⟩
   ·rw [if_pos k]
    exact ⟨Xm (.inr (.inr (.inl ⟨k, by rw [<- e]; exact k13, by rw [<- e]⟩))), x1⟩
  ·cases ho
 rw [if_neg k14] at ho
 by_cases k7 : t.k = 7
 ·rw [if_pos k7] at ho
  rw [k7] at hl
  have h3 : t.ks.length = 3 := by have : askN 7 t.a = 3 := rfl; omega
  cases ho
  have r1 := h.kid (i := 1) (by omega)
  have r2 := h.kid (i := 2) (by omega)
  have d1 := kid_deep (t := t) (i := 1) (by omega)
  have d2 := kid_deep (t := t) (i := 2) (by omega)
  rw [k7] at r1 r2
  rw [Wp (by kernel_rfl)] at r1
  rw [up1_yes (by kernel_rfl)] at r2
  rw [put_eq r2 r1 (by omega) (by omega)]
  exact ⟨Xm (.inr (.inr (.inr (.inl ⟨k7, rfl⟩)))), ws_put r2 rfl (Nat.zero_le _) r1⟩
 rw [if_neg k7] at ho
 by_cases k3 : t.k = 3
 ·rw [if_pos k3] at ho
  rw [Option.map_eq_some_iff] at ho
  obtain ⟨b, hb, he⟩ := ho
  cases he
  exact ⟨Xm (.inr (.inr (.inr (.inr (.inl ⟨k3, hb⟩))))), ws_mono (hB _ _ _ hb) (Nat.zero_le _)⟩
 rw [if_neg k3] at ho
 by_cases k18 : t.k = 18
 ·rw [if_pos k18] at ho
  split at ho
  ·rename_i k17
   cases ho
   have e := hx 4 5 (by unfold spot; rw [if_neg k6, if_neg k14, if_pos k18])
   rw [tree_eq k18 h hb e k17]
   exact ⟨Xm (.inr (.inr (.inr (.inr (.inr (.inl ⟨k18, by rw [<- e]; exact k17, by rw [<- e]⟩)))))), ws_tree k18 h e k17⟩
  ·cases ho
 rw [if_neg k18] at ho
 by_cases k21 : t.k = 21
 ·rw [if_pos k21] at ho
  rw [k21] at hl
  have h6 : t.ks.length = 6 := by have : askN 21 t.a = 6 := rfl; omega
  split at ho
  ·rename_i k20
   cases ho
   have e := hx 5 6 (by unfold spot; rw [if_neg k6, if_neg k14, if_neg k18, if_pos k21])
   have r3 := h.kid (i := 3) (by omega)
   rw [k21, Wp (by kernel_rfl)] at r3
   exact ⟨Xm (.inr (.inr (.inr (.inr (.inr (.inr (.inl ⟨k21, by rw [<- e]; exact k20, rfl⟩))))))), r3⟩
  ·cases ho
 rw [if_neg k21] at ho
 split at ho
 ·rename_i k24
  split at ho
  ·rename_i hxn
   cases ho
   obtain ⟨ka, kb⟩ := k24
   unfold spot at kb
   rw [if_neg k6, if_neg k14, if_neg k18, if_neg k21] at kb
   split at kb
   ·rename_i hh
    have e := hx (t.a.toNat + 1) (t.a.toNat + 2) (by unfold spot; rw [if_neg k6, if_neg k14, if_neg k18, if_neg k21, if_pos hh])
    have r := h.kid (i := x.n.toNat + 1) (by omega)
    rw [ka, Wp (binds_case _)] at r
    exact ⟨Xm (.inr (.inr (.inr (.inr (.inr (.inr (.inr ⟨ka, hh.2.1, hh.2.2, by rw [<- e]; exact hxn.1, by rw [<- e]; exact hxn.2.1, by rw [<- e]; exact hxn.2.2, by rw [<- e]⟩))))))), r⟩
   ·cases kb
  ·cases ho
 ·cases ho
theorem hstep_par {l : List C} (hB : WsL l) {t : T} {sc : Nat} (h : Ws t sc) : ∀ {u : T} {c : Nat}, sc + 1 + t.deep <= SB -> Xe l t = some (u, c) -> Par l t u /\ Ws u sc := by
 induction h with
 | @mk k m a ls ks sc h hk ih =>
  intro u c hb hst
  have hw : Ws (.mk k m a ls ks) sc := .mk h hk
  rcases spot_of (.mk k m a ls ks) with hsp | ⟨i, many, hsp⟩
  ·rw [hstep_none hsp] at hst
   obtain ⟨h1, h2⟩ := own_root hB hw hb (fun i many e => by rw [hsp] at e; cases e) hst
   exact ⟨.red rfl (fun j _ => .refl l _) h1, h2⟩
  ·obtain ⟨h1, h2, h3⟩ := spot_ws hw hsp
   have hi : i < (T.mk k m a ls ks).ks.length := by omega
   have h4 := hw.kid hi
   have h5 := kid_deep hi
   have e := kid_at hi
   cases hu : Xe l (T.mk k m a ls ks).ks[i] with
   | some v =>
    rw [hstep_in hsp hi (u := v.1) (c := v.2) hu] at hst
    cases hst
    have h6 : up1 sc k i = sc := h3
    have hih := ih i hi (u := v.1) (c := v.2) (by
     rw [h6]
     have : (ks.getD i Wl).deep = ((T.mk k m a ls ks).kid i).deep := rfl
     omega) (by
     have e2 : ks.getD i Wl = (T.mk k m a ls ks).ks[i] := e
     rw [e2]; exact hu)
    refine ⟨?_, ws_with hw h1 hih.2⟩
    unfold T.withT
    simp only [T.k_mk, T.n_mk, T.a_mk, T.ls_mk, T.ks_mk] at h1 ⊢
    refine .node (by rw [withK_len, h1]) fun j hj => ?_
    rw [withK_get (by omega)]
    split
    ·rename_i ej; subst ej; exact hih.1
    ·exact .refl l _
   | none =>
    rw [hstep_at hsp hi hu, <- e, ws_trunc h4, with_same h1] at hst
    obtain ⟨h7, h8⟩ := own_root hB hw hb (fun i' many' e' => by rw [hsp] at e'; cases e'; rfl) hst
    exact ⟨.red rfl (fun j _ => .refl l _) h7, h8⟩
theorem wpD_seqE {P : Program} {G : Nat -> Option D} {M : Nat} {Q : DX -> List D -> List HO -> Df -> Prop} {tl : List D} {hl : List HO} {df : Df} {α : Type} {x y : Code} (W : List Nat) (ds : α -> List D) (hl1 : α -> List HO) (Pre : α -> Prop) (h1 : ∀ a, Pre a -> wpD P G M y Q (Qv tl W (ds a)) (hl1 a) df)
  (h2 : ∀ K : List D -> List HO -> Df -> Prop, (∀ a tl', Pre a -> leT (Qv tl W (ds a)) tl' -> K tl' (hl1 a) df) -> wpD P G M x (Xh K Q) tl hl df) : wpD P G M (.seq x y) Q tl hl df :=
 Qg fun K hK => h2 K fun a tl' hp h => hK _ _ _ (wpD_weak h (h1 a hp))
@[simp high] theorem encP_deep (p : Int × Int) : (Xp p).deep = Xp p := rfl
theorem mapP_deep (l : LV) : D.deeps (l.map Xp) = l.map Xp := by rw [D.deeps_map, List.map_map]; rfl
@[simp high] theorem mapP_deep' (l : LV) : D.deeps (l.map Xp) = l.map Xp := mapP_deep l
@[simp high] theorem encL_deep (l : LV) : (Wm l).deep = Wm l := by
 unfold Wm
 simp only [D.deep, D.deeps, mapP_deep]
@[simp high] theorem mapL_deep (l : List LV) : D.deeps (l.map Wm) = l.map Wm := by
 rw [D.deeps_map, List.map_map]
 exact List.map_congr_left fun x _ => encL_deep x
@[simp high] theorem encT_deep (t : T) : (Qx t).deep = Qx t := by
 induction t using T.ind with
 | h k n a ls ks ih =>
  rw [Qd]
  have : D.deeps (ks.map Qx) = ks.map Qx := by
   rw [D.deeps_map, List.map_map]
   exact List.map_congr_left fun x hx => ih x hx
  simp only [D.deep, D.deeps, mapL_deep, T.ks_mk, this]
@[simp high] theorem mapT_deep (l : List T) : D.deeps (l.map Qx) = l.map Qx := by
 rw [D.deeps_map, List.map_map]
 exact List.map_congr_left fun x _ => encT_deep x
@[simp high] theorem mapI_deep (l : List Int) : D.deeps (l.map (.int .i64)) = l.map (.int .i64) := by
 rw [D.deeps_map, List.map_map]; rfl
def encC (c : C) : D := .agg [.int .i64 c.lv, .int .i64 c.ty.k, .int .i64 c.ty.n, .int .i64 c.ty.a, .slice (c.ty.ls.map Wm) .any, .slice (c.ty.ks.map Qx) .any, .bool c.has, .int .i64 c.bo.k, .int .i64 c.bo.n, .int .i64 c.bo.a, .slice (c.bo.ls.map Wm) .any, .slice (c.bo.ks.map Qx) .any]
def Cs (l : List C) : D := .slice (l.map encC) .any
def zeroC : C := ⟨0, Wl, false, Wl⟩
@[simp high] theorem encC_pure (c : C) : (encC c).pure = true := by simp [encC, D.pure, D.pures, Cp.free]
@[simp high] theorem encC_fgt (c : C) : (encC c).fgt = encC c := by simp [encC, D.fgt, D.fgts]
@[simp high] theorem encC_size (c : C) : (encC c).size = 12 := rfl
@[simp high] theorem encC_cells (c : C) : (encC c).cells = [.int .i64 c.lv, .int .i64 c.ty.k, .int .i64 c.ty.n, .int .i64 c.ty.a, .slice (c.ty.ls.map Wm) .any, .slice (c.ty.ks.map Qx) .any, .bool c.has, .int .i64 c.bo.k, .int .i64 c.bo.n, .int .i64 c.bo.a, .slice (c.bo.ls.map Wm) .any, .slice (c.bo.ks.map Qx) .any] := rfl
@[simp high] theorem encC_frz (bx : FK) (i : Nat) (x : D) (c : C) : D.frz bx i x (encC c) = encC c := D.frz_pure bx i x _ (encC_pure c)
@[simp high] theorem mapC_frz (bx : FK) (i : Nat) (x : D) (l : List C) : D.frzs bx i x (l.map encC) = l.map encC := D.frzs_pure bx i x _ (by simp [D.pures_map])
@[simp high] theorem encC_low (m : Nat) (c : C) : (encC c).low m = true := D.low_pure m _ (encC_pure c)
@[simp high] theorem mapC_low (m : Nat) (l : List C) : D.lows m (l.map encC) = true := D.lows_pure m _ (by simp [D.pures_map])
@[simp high] theorem encC_okN (p : Nat -> Bool) (c : C) : (encC c).okN p = true := D.okN_pure p _ (encC_pure c)
@[simp high] theorem encC_ren (σ : Nat -> Nat) (c : C) : D.ren σ (encC c) = encC c := D.ren_pure σ _ (encC_pure c)
@[simp high] theorem mapC_okN (p : Nat -> Bool) (l : List C) : D.okNs p (l.map encC) = true := D.okNs_pure p _ (by simp [D.pures_map])
@[simp high] theorem mapC_ren (σ : Nat -> Nat) (l : List C) : D.rens σ (l.map encC) = l.map encC := D.rens_pure σ _ (by simp [D.pures_map])
@[simp high] theorem mapC_pures (l : List C) : D.pures (l.map encC) = true := by simp [D.pures_map]
@[simp high] theorem encC_deep (c : C) : (encC c).deep = encC c := by simp only [encC, D.deep, D.deeps, mapL_deep, mapT_deep]
@[simp high] theorem mapC_deep (l : List C) : D.deeps (l.map encC) = l.map encC := by
 rw [D.deeps_map, List.map_map]
 exact List.map_congr_left fun x _ => encC_deep x
theorem encZ : Qx Wl = .agg [.int .i64 0, .int .i64 0, .int .i64 0, .slice [] .any, .slice [] .any] := Qd _
def kidI (t : T) (n : Int) : T := if n < 0 then Wl else t.kid n.toNat
theorem kidI_nat (t : T) (n : Nat) : kidI t (n : Int) = t.kid n := by unfold kidI; rw [if_neg (by omega)]; rfl
theorem encT_mk' (k n a : Int) (ls : List LV) (ks : List T) : Qx (.mk k n a ls ks) = .agg [.int .i64 k, .int .i64 n, .int .i64 a, .slice (ls.map Wm) .any, .slice (ks.map Qx) .any] := Qd _
def headD (left : Int) (l : List C) (once done : Bool) : HO := .cells 76 [.int .i64 left, Cs l, .bool once, .bool done, .map 1]
def goneD : D := .iface 122 (.agg [])
mutual
def T.sdw (many : Int) : T -> Int -> Int
 | .mk k n _ _ ks, b => if k = 1 /\ n = b then many else T.sdws many k ks 0 b 1
def T.sdws (many k : Int) : List T -> Nat -> Int -> Int -> Int
 | [], _, _, s => s
 | t :: r, i, b, s => T.sdws many k r (i + 1) b (IntKind.i64.wrap (s + T.sdw many t (Zb b k i)))
end
theorem wrap_both (a b : Int) : IntKind.i64.wrap (IntKind.i64.wrap a + IntKind.i64.wrap b) = IntKind.i64.wrap (a + b) := by
 simp only [IntKind.wrap_i64]; omega
mutual
theorem sz_true : ∀ t : T, t.sz = IntKind.i64.wrap (t.nsz : Int)
 | .mk k n a ls ks => by
  rw [T.sz, T.nsz, szs_true ks 1 1 (by rfl)]
theorem szs_true : ∀ (ks : List T) (s : Int) (m : Nat), s = IntKind.i64.wrap (m : Int) -> T.szs ks s = IntKind.i64.wrap ((m + T.nszs ks : Nat) : Int)
 | [], s, m, h => by rw [T.szs, T.nszs, h]; rfl
 | t :: r, s, m, h => by
  rw [T.szs, T.nszs, szs_true r _ (m + t.nsz) (by
   rw [h, sz_true t, wrap_both, Int.natCast_add])]
  congr 2
  omega
end
mutual
theorem sdw_true (many : Nat) : ∀ (t : T) (b : Int), T.sdw (IntKind.i64.wrap (many : Int)) t b = IntKind.i64.wrap ((t.sd many b : Nat) : Int)
 | .mk k n a ls ks, b => by
  rw [T.sdw, T.sd]
  split
  ·rfl
  ·rw [sdws_true many k ks 0 b 1 1 (by rfl)]
theorem sdws_true (many : Nat) (k : Int) : ∀ (ks : List T) (i : Nat) (b s : Int) (m : Nat), s = IntKind.i64.wrap (m : Int) -> T.sdws (IntKind.i64.wrap (many : Int)) k ks i b s = IntKind.i64.wrap ((m + T.sds many k ks i b : Nat) : Int)
 | [], i, b, s, m, h => by rw [T.sdws, T.sds, h]; rfl
 | t :: r, i, b, s, m, h => by
  rw [T.sdws, T.sds, sdws_true many k r (i + 1) b _ (m + t.sd many (Zb b k i)) (by
   rw [h, sdw_true many t, wrap_both, Int.natCast_add])]
  congr 2
  omega
end
end Go.Proofs.YtebmlojhdnldgaaGreatDoor
namespace Go.Proofs.YtebmlojhdnldgaaGreatDoor
set_option linter.unusedSimpArgs false
set_option linter.unusedVariables false
set_option maxHeartbeats 10000000
set_option maxRecDepth 20000
open Go.RowKit
attribute [local simp] Qb Qc Xg Xw opD Qt Qn Qi Qj hOf Xd Xz Xu TK.isAgg TK.known Xf Xh Wv Qv D.ofV inB Wr Xj binX binD binE Xv bndD capB IntKind.min IntKind.max IntKind.signed IntKind.bits Xb late
theorem kid_spec (t : T) (n : Int) : Qu Tryz.prog glob 80 [Qx t, .int .i64 n] [] (fun o _ => o.fgt = .ret (Qx (kidI t n))) := by
 obtain ⟨r, hr⟩ : ∃ r, r = kidI t n := ⟨_, rfl⟩
 rw [<- hr]
 rw [Qd t]
 refine Qu.movd Qf (Qp Wc Tryz.func80 rfl (Qw _ _ Tryz.func80 rfl (by decide)) rfl rfl ?_)
 (refine sR fun K hK => ?_; ((repeat (rw [Qa]; simp)); (try simp only [zs])); refine hK _ _ _ ?_; clear hK K)
 refine Qg fun K1 hK1 => ?_
 by_cases h1 : n < 0
 ·rw [show kidI t n = Wl from by unfold kidI; rw [if_pos h1]] at hr
  subst hr
  (refine sR fun K hK => ?_; ((repeat (rw [Qa]; simp [h1])); (try simp only [zs])); refine hK _ _ _ ?_; clear hK K)
  refine pT rfl ?_
  (refine sR fun K hK => ?_; ((repeat (rw [Qa]; simp)); (try simp only [zs])); refine hK _ _ _ ?_; clear hK K)
  (refine Qo ?_; (try simp only [zs]); refine Wa.ret rfl (.inl ?_); simp [Qt, Out.fgt, D.fgt, D.fgts])
  exact encZ.symm
 ·obtain ⟨j, rfl⟩ : ∃ j : Nat, n = j := ⟨n.toNat, by omega⟩
  rw [kidI_nat] at hr
  unfold T.kid at hr
  rw [List.getD_eq_getElem?_getD] at hr
  by_cases h2 : j < t.ks.length
  ·have h2' : (j : Int) < t.ks.length := by omega
   have h2n : ¬ t.ks.length <= j := by omega
   rw [List.getElem?_eq_getElem h2, Option.getD_some] at hr
   have hEr := Qd r
   have hx : t.ks[j] = r := hr.symm
   (refine sR fun K hK => ?_; ((repeat (rw [Qa]; simp [h1, h2, h2', h2n])); (try simp only [zs])); refine hK _ _ _ ?_; clear hK K)
   refine pF rfl ?_
   refine Qs (hK1 _ _ _ ?_)
   (refine sR fun K hK => ?_; ((repeat (rw [Qa]; simp [h1, h2, h2', hx, hEr])); (try simp only [zs])); refine hK _ _ _ ?_; clear hK K)
   (refine Qo ?_; (try simp only [zs]); refine Wa.ret rfl (.inl ?_); simp [Qt, Out.fgt, D.fgt, D.fgts])
   exact hEr.symm
  ·have h2' : ¬ (j : Int) < t.ks.length := by omega
   have h2n : t.ks.length <= j := by omega
   rw [List.getElem?_eq_none h2n, Option.getD_none] at hr
   subst hr
   (refine sR fun K hK => ?_; ((repeat (rw [Qa]; simp [h1, h2, h2', h2n])); (try simp only [zs])); refine hK _ _ _ ?_; clear hK K)
   refine pT rfl ?_
   (refine sR fun K hK => ?_; ((repeat (rw [Qa]; simp)); (try simp only [zs])); refine hK _ _ _ ?_; clear hK K)
   (refine Qo ?_; (try simp only [zs]); refine Wa.ret rfl (.inl ?_); simp [Qt, Out.fgt, D.fgt, D.fgts])
   exact encZ.symm
theorem hof_spec (k : Int) (ks : List T) : Qu Tryz.prog glob 121 [.int .i64 k, .slice (ks.map Qx) .any] [] (fun o _ => o.fgt = .ret (Qx (ofT k ks))) := by
 unfold ofT
 rw [encT_mk']
 refine Qu.movd Qf (Qp Wc Tryz.func121 rfl (Qw _ _ Tryz.func121 rfl (by decide)) rfl rfl ?_)
 (refine sR fun K hK => ?_; ((repeat (rw [Qa]; simp)); (try simp only [zs])); refine hK _ _ _ ?_; clear hK K)
 (refine sR fun K hK => ?_; ((repeat (rw [Qa]; simp)); (try simp only [zs])); refine hK _ _ _ ?_; clear hK K)
 (refine Qo ?_; (try simp only [zs]); refine Wa.ret rfl (.inl ?_); simp [Qt, Out.fgt, D.fgt, D.fgts])
def wkT (ks : List T) (x : T) (i j : Nat) : List T := withK ks x i j
theorem wkT_succ (ks : List T) (x : T) (i j : Nat) : wkT ks x i (j + 1) = wkT ks x i j ++ [if j = i then x else ks.getD j Wl] := by
 unfold wkT withK; rw [List.range_succ, List.map_append]; rfl
theorem wkT_len (ks : List T) (x : T) (i j : Nat) : (wkT ks x i j).length = j := withK_len ks x i j
theorem with_spec (t x : T) (i many : Nat) (hm : many <= Wd) : Qu Tryz.prog glob 79 [Qx t, Qx x, .int .i64 i, .int .i64 many] [] (fun o _ => o.fgt = .ret (Qx (t.withT x i many))) := by
 obtain ⟨kk, nn, aa, ls, ks⟩ := t
 have hT : (T.mk kk nn aa ls ks).withT x i many = .mk kk nn aa ls (wkT ks x i many) := rfl
 rw [hT]
 have hEx := Qd x
 have hk := fun j : Nat => kid_spec (.mk kk nn aa ls ks) j
 simp only [kidI_nat] at hk
 unfold T.kid at hk
 simp only [T.ks_mk] at hk
 simp only [encT_mk'] at hk ⊢
 rw [hEx]
 refine Qu.movd Qf (Qp Wc Tryz.func79 rfl (Qw _ _ Tryz.func79 rfl (by decide)) rfl rfl ?_)
 (refine sR fun K hK => ?_; ((repeat (rw [Qa]; simp)); (try simp only [zs])); refine hK _ _ _ ?_; clear hK K)
 (refine sR fun K hK => ?_; ((repeat (rw [Qa]; simp)); (try simp only [zs])); refine hK _ _ _ ?_; clear hK K)
 refine wpD_tokO 3 4 (ty := 27) (ds := [.int .i64 kk, .int .i64 nn, .int .i64 aa, .slice (ls.map Wm) .any, .slice [] .full]) rfl ?_
 simp [D.tokd]
 refine Qg fun K1 hK1 => ?_
 (refine sR fun K hK => ?_; ((repeat (rw [Qa]; simp)); (try simp only [zs])); refine hK _ _ _ ?_; clear hK K)
 refine Za Wc Qf (ti := 3) (tk := 21) (tn := 20) (td := 22) (ts := 41) [10, 21, 22, 23, 24, 25, 26, 27, 28, 29, 30, 31, 32, 33, 34, 35, 36, 37, 38, 39, 40, 41] [] (many) (fun k ys hl => ys = [] /\ hl = [.cells 27 [.int .i64 kk, .int .i64 nn, .int .i64 aa, .slice (ls.map Wm) .any, .slice (ks.map Qx) .any], .cells 27 [.int .i64 x.k, .int .i64 x.n, .int .i64 x.a, .slice (x.ls.map Wm) .any, .slice (x.ks.map Qx) .any], .cells 27 [.int .i64 0, .int .i64 0, .int .i64 0, .slice [] .full, .slice [] .full], .cells 27 [.int .i64 kk, .int .i64 nn, .int .i64 aa, .slice (ls.map Wm) .any, .slice ((wkT ks x i k).map Qx) (.tok 4)], .tok]) rfl rfl rfl rfl rfl rfl rfl rfl rfl rfl rfl rfl (by simp) (by decide) rfl (by first | assumption | omega | (unfold Wd; omega)) rfl (by kernel_rfl) (by decide) ?_ ?_ ?_
 ·exact ⟨rfl, rfl⟩
 ·rintro j ys hl A hj ⟨rfl, rfl⟩ hA hA2
  simp only [Qv, List.set, List.map_cons, List.map_nil, List.cons_append, List.nil_append]
  have hsn := wkT_succ ks x i j
  have hln := wkT_len ks x i j
  have hel : (wkT ks x i j).length + 1 <= Wd := by omega
  have hkj := hk j
  generalize ks.getD j Wl = y at hsn hkj
  generalize wkT ks x i j = es at hsn hln hel ⊢
  (refine sR fun K hK => ?_; ((repeat (rw [Qa]; simp)); (try simp only [zs])); refine hK _ _ _ ?_; clear hK K)
  refine Qg fun K2 hK2 => ?_
  by_cases hji : j = i
  ·subst hji
   rw [if_pos rfl] at hsn
   (refine sR fun K hK => ?_; ((repeat (rw [Qa]; simp)); (try simp only [zs])); refine hK _ _ _ ?_; clear hK K)
   refine pT rfl ?_
   (refine sR fun K hK => ?_; ((repeat (rw [Qa]; simp [hel])); (try simp only [zs])); refine hK _ _ _ ?_; clear hK K)
   refine wpD_exit ?_
   (refine hA2 ([0, 1, 2, 3, 5]) _ _ _ (LeT.refl _) (by decide) (by simp) (by simp [Wg, Wh, Wj, D.mov, HO.mov, okM, Wi, We, zz, okA, Qr, Qq, hOf, Qe, Qv]) ?_ rfl; simp [Wg, Wh, Wj, D.mov, HO.mov, okM, Wi, We, zz, okA, Qr, Qq, hOf, Qe])
   rw [hsn, <- hEx, show es.map Qx ++ [Qx x] = (es ++ [x]).map Qx by simp, mapT_ren]
  ·have hji' : ¬ (j : Int) = i := by omega
   rw [if_neg hji] at hsn
   (refine sR fun K hK => ?_; ((repeat (rw [Qa]; simp [hji, hji'])); (try simp only [zs])); refine hK _ _ _ ?_; clear hK K)
   refine pF rfl ?_
   refine Qs (hK2 _ _ _ ?_)
   (refine dR fun KT hKT => ?_; ((repeat (rw [Qh]; simp [hel])); (try simp only [Qk])))
   refine cYp (hkj) ?_
   ((try simp only [Ql, Qm, Qn, Qi, Qj]); (repeat (rw [Qh]; simp [hel])); (try simp only [Qk]))
   (refine hKT _ _ _ _ (by kernel_rfl) ?_; clear hKT KT; (try simp only [zs]))
   (refine hA2 ([0, 1, 2, 3, 5]) _ _ _ (LeT.refl _) (by decide) (by simp) (by simp [Wg, Wh, Wj, D.mov, HO.mov, okM, Wi, We, zz, okA, Qr, Qq, hOf, Qe, Qv]) ?_ rfl; simp [Wg, Wh, Wj, D.mov, HO.mov, okM, Wi, We, zz, okA, Qr, Qq, hOf, Qe])
   rw [hsn, show es.map Qx ++ [Qx y] = (es ++ [y]).map Qx by simp, mapT_ren]
 ·rintro ys hl tl' ⟨rfl, rfl⟩ htl
  refine hK1 _ _ _ (wpD_weakL htl ?_)
  simp only [Qv, List.set, List.map_cons, List.map_nil, List.cons_append, List.nil_append]
  (refine sR fun K hK => ?_; ((repeat (rw [Qa]; simp)); (try simp only [zs])); refine hK _ _ _ ?_; clear hK K)
  (refine Qo ?_; (try simp only [zs]); refine Wa.ret rfl (.inl ?_); simp [Qt, Out.fgt, D.fgt, D.fgts])
def spotO (t : T) : D :=
 if t.k = 6 then .tuple [.int .i64 0, .int .i64 2, .bool true] else if t.k = 14 \/ t.k = 15 then .tuple [.int .i64 0, .int .i64 1, .bool true]
 else if t.k = 18 then .tuple [.int .i64 4, .int .i64 5, .bool true] else if t.k = 21 then .tuple [.int .i64 5, .int .i64 6, .bool true]
 else if t.k = 24 then .tuple [.int .i64 (IntKind.i64.wrap (t.a + 1)), .int .i64 (IntKind.i64.wrap (t.a + 2)), .bool (decide (0 <= t.a) && decide ((t.ks.length : Int) - 2 = t.a))] else .tuple [.int .i64 0, .int .i64 0, .bool false]
theorem spotO_some {t : T} {i many : Nat} (h : spot t = some (i, many)) (hl : t.ks.length <= Wd) : spotO t = .tuple [.int .i64 i, .int .i64 many, .bool true] := by
 unfold Wd at hl
 unfold spot at h
 unfold spotO
 by_cases h1 : t.k = 6
 ·rw [if_pos h1] at h ⊢; cases h; rfl
 rw [if_neg h1] at h ⊢
 by_cases h1 : t.k = 14 \/ t.k = 15
 ·rw [if_pos h1] at h ⊢; cases h; rfl
 rw [if_neg h1] at h ⊢
 by_cases h1 : t.k = 18
 ·rw [if_pos h1] at h ⊢; cases h; rfl
 rw [if_neg h1] at h ⊢
 by_cases h1 : t.k = 21
 ·rw [if_pos h1] at h ⊢; cases h; rfl
 rw [if_neg h1] at h ⊢
 by_cases h1 : t.k = 24 /\ 0 <= t.a /\ (t.ks.length : Int) - 2 = t.a
 ·rw [if_pos h1] at h
  rw [if_pos h1.1]
  cases h
  rw [i64w (by omega) (by omega), i64w (by omega) (by omega)]
  have e1 : t.a + 1 = ((t.a.toNat + 1 : Nat) : Int) := by omega
  have e2 : t.a + 2 = ((t.a.toNat + 2 : Nat) : Int) := by omega
  rw [e1, e2]
  simp [h1.2.1, h1.2.2]
 ·rw [if_neg h1] at h; cases h
theorem spotO_none {t : T} (h : spot t = none) : ∃ p q, spotO t = .tuple [.int .i64 p, .int .i64 q, .bool false] := by
 unfold spot at h
 unfold spotO
 by_cases h1 : t.k = 6
 ·rw [if_pos h1] at h; cases h
 rw [if_neg h1] at h ⊢
 by_cases h1 : t.k = 14 \/ t.k = 15
 ·rw [if_pos h1] at h; cases h
 rw [if_neg h1] at h ⊢
 by_cases h1 : t.k = 18
 ·rw [if_pos h1] at h; cases h
 rw [if_neg h1] at h ⊢
 by_cases h1 : t.k = 21
 ·rw [if_pos h1] at h; cases h
 rw [if_neg h1] at h ⊢
 by_cases h1 : t.k = 24
 ·rw [if_pos h1]
  refine ⟨IntKind.i64.wrap (t.a + 1), IntKind.i64.wrap (t.a + 2), ?_⟩
  have : (decide (0 <= t.a) && decide ((t.ks.length : Int) - 2 = t.a)) = false := by
   rw [Bool.eq_false_iff]
   intro h2
   simp only [Bool.and_eq_true, decide_eq_true_eq] at h2
   rw [if_pos ⟨h1, h2⟩] at h
   cases h
  rw [this]
 ·rw [if_neg h1]; exact ⟨_, _, rfl⟩
theorem spot_spec (t : T) (hl : t.ks.length <= Wd) : Qu Tryz.prog glob 78 [Qx t] [] (fun o _ => o.fgt = .ret (spotO t)) := by
 obtain ⟨kk, nn, aa, ls, ks⟩ := t
 simp only [T.ks_mk] at hl
 unfold Wd at hl
 unfold spotO
 simp only [T.k_mk, T.a_mk, T.ks_mk]
 rw [encT_mk']
 refine Qu.movd Qf (Qp Wc Tryz.func78 rfl (Qw _ _ Tryz.func78 rfl (by decide)) rfl rfl ?_)
 (refine sR fun K hK => ?_; ((repeat (rw [Qa]; simp)); (try simp only [zs])); refine hK _ _ _ ?_; clear hK K)
 refine Qg fun K1 hK1 => ?_
 (refine sR fun K hK => ?_; ((repeat (rw [Qa]; simp)); (try simp only [zs])); refine hK _ _ _ ?_; clear hK K)
 refine Wy ?_
 by_cases h6 : kk = 6
 ·subst h6
  (refine sR fun K hK => ?_; ((repeat (rw [Qa]; simp)); (try simp only [zs])); refine hK _ _ _ ?_; clear hK K)
  refine pT rfl ?_
  (refine sR fun K hK => ?_; ((repeat (rw [Qa]; simp)); (try simp only [zs])); refine hK _ _ _ ?_; clear hK K)
  (refine Qo ?_; (try simp only [zs]); refine Wa.ret rfl (.inl ?_); simp [Qt, Out.fgt, D.fgt, D.fgts])
 (refine sR fun K hK => ?_; ((repeat (rw [Qa]; simp [h6])); (try simp only [zs])); refine hK _ _ _ ?_; clear hK K)
 refine pF rfl ?_
 refine Qg fun K2 hK2 => ?_
 by_cases h14 : kk = 14
 ·subst h14
  (refine sR fun K hK => ?_; ((repeat (rw [Qa]; simp)); (try simp only [zs])); refine hK _ _ _ ?_; clear hK K)
  refine pT rfl ?_
  refine Qs (hK2 _ _ _ ?_)
  refine pT rfl ?_
  (refine sR fun K hK => ?_; ((repeat (rw [Qa]; simp)); (try simp only [zs])); refine hK _ _ _ ?_; clear hK K)
  (refine Qo ?_; (try simp only [zs]); refine Wa.ret rfl (.inl ?_); simp [Qt, Out.fgt, D.fgt, D.fgts])
 by_cases h15 : kk = 15
 ·subst h15
  (refine sR fun K hK => ?_; ((repeat (rw [Qa]; simp)); (try simp only [zs])); refine hK _ _ _ ?_; clear hK K)
  refine pF rfl ?_
  (refine Qz Wc ?_; ((repeat (rw [Qa]; simp)); (try simp only [zs])))
  refine hK2 _ _ _ ?_
  refine pT rfl ?_
  (refine sR fun K hK => ?_; ((repeat (rw [Qa]; simp)); (try simp only [zs])); refine hK _ _ _ ?_; clear hK K)
  (refine Qo ?_; (try simp only [zs]); refine Wa.ret rfl (.inl ?_); simp [Qt, Out.fgt, D.fgt, D.fgts])
 (refine sR fun K hK => ?_; ((repeat (rw [Qa]; simp [h14])); (try simp only [zs])); refine hK _ _ _ ?_; clear hK K)
 refine pF rfl ?_
 (refine Qz Wc ?_; ((repeat (rw [Qa]; simp [h15])); (try simp only [zs])))
 refine hK2 _ _ _ ?_
 refine pF rfl ?_
 by_cases h18 : kk = 18
 ·subst h18
  (refine sR fun K hK => ?_; ((repeat (rw [Qa]; simp)); (try simp only [zs])); refine hK _ _ _ ?_; clear hK K)
  refine pT rfl ?_
  (refine sR fun K hK => ?_; ((repeat (rw [Qa]; simp)); (try simp only [zs])); refine hK _ _ _ ?_; clear hK K)
  (refine Qo ?_; (try simp only [zs]); refine Wa.ret rfl (.inl ?_); simp [Qt, Out.fgt, D.fgt, D.fgts])
 (refine sR fun K hK => ?_; ((repeat (rw [Qa]; simp [h18])); (try simp only [zs])); refine hK _ _ _ ?_; clear hK K)
 refine pF rfl ?_
 by_cases h21 : kk = 21
 ·subst h21
  (refine sR fun K hK => ?_; ((repeat (rw [Qa]; simp)); (try simp only [zs])); refine hK _ _ _ ?_; clear hK K)
  refine pT rfl ?_
  (refine sR fun K hK => ?_; ((repeat (rw [Qa]; simp)); (try simp only [zs])); refine hK _ _ _ ?_; clear hK K)
  (refine Qo ?_; (try simp only [zs]); refine Wa.ret rfl (.inl ?_); simp [Qt, Out.fgt, D.fgt, D.fgts])
 (refine sR fun K hK => ?_; ((repeat (rw [Qa]; simp [h21])); (try simp only [zs])); refine hK _ _ _ ?_; clear hK K)
 refine pF rfl ?_
 by_cases h24 : kk = 24
 ·subst h24
  have hw : IntKind.i64.wrap ((ks.length : Int) - 2) = (ks.length : Int) - 2 := i64w (by omega) (by omega)
  (refine sR fun K hK => ?_; ((repeat (rw [Qa]; simp)); (try simp only [zs])); refine hK _ _ _ ?_; clear hK K)
  refine pT rfl ?_
  by_cases h0 : 0 <= aa
  ·(refine Qg fun K hK => ?_; refine dR fun KT hKT => ?_; ((repeat (rw [Qh]; simp [h0, hw])); (try simp only [Qk])))
   (refine hKT _ _ _ _ (by kernel_rfl) ?_; clear hKT KT; (try simp only [zs]))
   (refine hK _ _ _ ?_; clear hK K)
   (refine Qo ?_; (try simp only [zs]); refine Wa.ret rfl (.inl ?_); simp [Qt, Out.fgt, D.fgt, D.fgts])
   simp only [h0, decide_true, Bool.true_and]
   exact decide_eq_decide.2 Iff.rfl
  ·(refine Qg fun K hK => ?_; refine dR fun KT hKT => ?_; ((repeat (rw [Qh]; simp [h0, hw])); (try simp only [Qk])))
   (refine hKT _ _ _ _ (by kernel_rfl) ?_; clear hKT KT; (try simp only [zs]))
   (refine hK _ _ _ ?_; clear hK K)
   (refine Qo ?_; (try simp only [zs]); refine Wa.ret rfl (.inl ?_); simp [Qt, Out.fgt, D.fgt, D.fgts])
   simp [h0]
 ·(refine sR fun K hK => ?_; ((repeat (rw [Qa]; simp [h24])); (try simp only [zs])); refine hK _ _ _ ?_; clear hK K)
  refine pF rfl ?_
  refine Qs (hK1 _ _ _ ?_)
  (refine sR fun K hK => ?_; ((repeat (rw [Qa]; simp)); (try simp only [zs])); refine hK _ _ _ ?_; clear hK K)
  (refine Qo ?_; (try simp only [zs]); refine Wa.ret rfl (.inl ?_); simp [Qt, Out.fgt, D.fgt, D.fgts])
  simp [h6, h14, h15, h18, h21, h24]
theorem sizes_spec (l : List T) (hl : l.length <= Wd) (hls : ∀ x, x ∈ l -> okT x) : Qu Tryz.prog glob 118 [.slice (l.map Qx) .any] [] (fun o _ => o.fgt = .ret (.int .i64 (T.szs l 0))) := by
 obtain ⟨R, hR⟩ : ∃ R, R = T.szs l 0 := ⟨_, rfl⟩
 rw [<- hR]
 refine Qu.movd Qf (Qp Wc Tryz.func118 rfl (Qw _ _ Tryz.func118 rfl (by decide)) rfl rfl ?_)
 (refine sR fun K hK => ?_; ((repeat (rw [Qa]; simp)); (try simp only [zs])); refine hK _ _ _ ?_; clear hK K)
 (refine sR fun K hK => ?_; ((repeat (rw [Qa]; simp)); (try simp only [zs])); refine hK _ _ _ ?_; clear hK K)
 refine Qg fun K1 hK1 => ?_
 (refine sR fun K hK => ?_; ((repeat (rw [Qa]; simp)); (try simp only [zs])); refine hK _ _ _ ?_; clear hK K)
 refine Za Wc Qf (ti := 3) (tk := 8) (tn := 7) (td := 9) (ts := 16) [5, 8, 9, 10, 11, 12, 13, 14, 15, 16] [3] (l.length) (fun k ys hl => ∃ (s : Int), ys = [.int .i64 s] /\ R = T.szs (l.drop k) s /\ hl = []) rfl rfl rfl rfl rfl rfl rfl rfl rfl rfl rfl rfl (by simp) (by decide) rfl (by first | assumption | omega | (unfold Wd; omega)) rfl (by kernel_rfl) (by decide) ?_ ?_ ?_
 ·exact ⟨0, rfl, hR, rfl⟩
 ·rintro i ys hl A hi ⟨s, rfl, hF, rfl⟩ hA hA2
  simp only [Qv, List.set, List.map_cons, List.map_nil, List.cons_append, List.nil_append]
  have hi' : (i : Int) < l.length := by omega
  rw [List.drop_eq_getElem_cons hi, T.szs] at hF
  have hrec := size_spec l[i] (hls _ (List.getElem_mem hi))
  obtain ⟨x, hx⟩ : ∃ x, l[i] = x := ⟨_, rfl⟩
  rw [hx] at hF hrec
  have hEx := Qd x
  rw [hEx] at hrec
  generalize x.sz = v at hF hrec
  (refine sR fun K hK => ?_; ((repeat (rw [Qa]; simp [hi, hi', hx, hEx])); (try simp only [zs])); refine hK _ _ _ ?_; clear hK K)
  (refine Qz Wc ?_; ((repeat (rw [Qa]; simp)); (try simp only [zs])))
  refine cXp (hrec) ?_
  ((try simp only [Qb, Qc, Qn, Qi, Qj]); (repeat (rw [Qa]; simp)); (try simp only [zs]))
  (refine hA2 ([]) _ _ _ (LeT.refl _) (by decide) (by simp) (by simp [Wg, Wh, Wj, D.mov, HO.mov, okM, Wi, We, zz, okA, Qr, Qq, hOf, Qe, Qv]) ?_ rfl; simp [Wg, Wh, Wj, D.mov, HO.mov, okM, Wi, We, zz, okA, Qr, Qq, hOf, Qe])
  exact hF
 ·rintro ys hl tl' ⟨s, rfl, hF, rfl⟩ htl
  refine hK1 _ _ _ (wpD_weakL htl ?_)
  simp only [Qv, List.set, List.map_cons, List.map_nil, List.cons_append, List.nil_append]
  rw [List.drop_length, T.szs] at hF
  subst hF
  (refine sR fun K hK => ?_; ((repeat (rw [Qa]; simp)); (try simp only [zs])); refine hK _ _ _ ?_; clear hK K)
  (refine Qo ?_; (try simp only [zs]); refine Wa.ret rfl (.inl ?_); simp [Qt, Out.fgt, D.fgt, D.fgts])
theorem sized_spec (many : Int) (t : T) : ∀ b, okT t -> Qu Tryz.prog glob 139 [Qx t, .int .i64 many, .int .i64 b] [] (fun o _ => o.fgt = .ret (.int .i64 (T.sdw many t b))) := by
 induction t using T.ind with
 | h kk nn aa ls ks ih =>
 intro b ht
 have hkl : ks.length <= Wd := ht.kl
 have hks := ht.ks
 simp only [T.ks_mk] at hks
 obtain ⟨R, hR⟩ : ∃ R, R = T.sdw many (.mk kk nn aa ls ks) b := ⟨_, rfl⟩
 rw [<- hR]
 rw [T.sdw] at hR
 rw [encT_mk']
 refine Qu.movd Qf (Qp Wc Tryz.func139 rfl (Qw _ _ Tryz.func139 rfl (by decide)) rfl rfl ?_)
 (refine sR fun K hK => ?_; ((repeat (rw [Qa]; simp)); (try simp only [zs])); refine hK _ _ _ ?_; clear hK K)
 by_cases h1 : kk = 1 /\ nn = b
 ·obtain ⟨rfl, rfl⟩ := h1
  rw [if_pos ⟨rfl, rfl⟩] at hR
  subst hR
  refine Qg fun K1 hK1 => ?_
  (refine sR fun K hK => ?_; ((repeat (rw [Qa]; simp)); (try simp only [zs])); refine hK _ _ _ ?_; clear hK K)
  refine pT rfl ?_
  (refine sR fun K hK => ?_; ((repeat (rw [Qa]; simp)); (try simp only [zs])); refine hK _ _ _ ?_; clear hK K)
  (refine Qo ?_; (try simp only [zs]); refine Wa.ret rfl (.inl ?_); simp [Qt, Out.fgt, D.fgt, D.fgts])
 rw [if_neg h1] at hR
 refine wpD_seqf [10, 11, 12, 13, 14, 15, 16, 17, 18] ([10, 11, 12, 13, 14, 15, 16, 17, 18].map fun _ => .junk) [.cells 27 [.int .i64 kk, .int .i64 nn, .int .i64 aa, .slice (ls.map Wm) .any, .slice (ks.map Qx) .any]] ?_ ?_
 rotate_left
 ·intro K hK0
  by_cases h2 : kk = 1
  ·subst h2
   have h3 : ¬ nn = b := fun h => h1 ⟨rfl, h⟩
   (refine sR fun K hK => ?_; ((repeat (rw [Qa]; simp [h3])); (try simp only [zs])); refine hK _ _ _ ?_; clear hK K)
   refine pF rfl ?_
   refine Qs (hK0 _ ?_)
   simp [leT, Qv]
  ·(refine sR fun K hK => ?_; ((repeat (rw [Qa]; simp [h2])); (try simp only [zs])); refine hK _ _ _ ?_; clear hK K)
   refine pF rfl ?_
   refine Qs (hK0 _ ?_)
   simp [leT, Qv]
 simp only [Qv, List.set, List.map_cons, List.map_nil, List.cons_append, List.nil_append]
 (refine sR fun K hK => ?_; ((repeat (rw [Qa]; simp)); (try simp only [zs])); refine hK _ _ _ ?_; clear hK K)
 refine Qg fun K1 hK1 => ?_
 (refine sR fun K hK => ?_; ((repeat (rw [Qa]; simp)); (try simp only [zs])); refine hK _ _ _ ?_; clear hK K)
 refine Za Wc Qf (ti := 3) (tk := 23) (tn := 22) (td := 24) (ts := 45) [8, 9, 23, 24, 25, 26, 27, 28, 29, 30, 31, 32, 33, 34, 35, 36, 37, 38, 39, 40, 41, 42, 43, 44, 45] [7] (ks.length) (fun k ys hl => ∃ (s : Int), ys = [.int .i64 s] /\ R = T.sdws many kk (ks.drop k) k b s /\ hl = [.cells 27 [.int .i64 kk, .int .i64 nn, .int .i64 aa, .slice (ls.map Wm) .any, .slice (ks.map Qx) .any]]) rfl rfl rfl rfl rfl rfl rfl rfl rfl rfl rfl rfl (by simp) (by decide) rfl (by first | assumption | omega | (unfold Wd; omega)) rfl (by kernel_rfl) (by decide) ?_ ?_ ?_
 ·exact ⟨1, rfl, hR, rfl⟩
 ·rintro i ys hl A hi ⟨s, rfl, hF, rfl⟩ hA hA2
  simp only [Qv, List.set, List.map_cons, List.map_nil, List.cons_append, List.nil_append]
  have hi' : (i : Int) < ks.length := by omega
  rw [List.drop_eq_getElem_cons hi, T.sdws] at hF
  have hrec := ih ks[i] (List.getElem_mem hi) (Zb b kk i) (hks _ (List.getElem_mem hi))
  have hbi := binds_spec kk i
  have hbd : Zb b kk i = if Wu kk i then IntKind.i64.wrap (b + 1) else b := rfl
  obtain ⟨x, hx⟩ : ∃ x, ks[i] = x := ⟨_, rfl⟩
  rw [hx] at hF hrec
  have hEx := Qd x
  rw [hEx] at hrec
  generalize T.sdw many x (Zb b kk i) = v at hF hrec
  generalize Zb b kk i = b' at hrec hbd
  generalize Wu kk i = bb at hbi hbd
  (refine sR fun K hK => ?_; ((repeat (rw [Qa]; simp [hi, hi', hx, hEx])); (try simp only [zs])); refine hK _ _ _ ?_; clear hK K)
  (refine sR fun K hK => ?_; ((repeat (rw [Qa]; simp)); (try simp only [zs])))
  refine cXp (hbi) ?_
  ((try simp only [Qb, Qc, Qn, Qi, Qj]); (repeat (rw [Qa]; simp)); (try simp only [zs]))
  (refine hK _ _ _ ?_; clear hK K)
  cases bb with
  | true =>
   rw [if_pos rfl] at hbd
   subst hbd
   refine pT rfl ?_
   (refine Qz Wc ?_; ((repeat (rw [Qa]; simp)); (try simp only [zs])))
   refine cXp (hrec) ?_
   ((try simp only [Qb, Qc, Qn, Qi, Qj]); (repeat (rw [Qa]; simp)); (try simp only [zs]))
   (refine hA2 ([0]) _ _ _ (LeT.refl _) (by decide) (by simp) (by simp [Wg, Wh, Wj, D.mov, HO.mov, okM, Wi, We, zz, okA, Qr, Qq, hOf, Qe, Qv]) ?_ rfl; simp [Wg, Wh, Wj, D.mov, HO.mov, okM, Wi, We, zz, okA, Qr, Qq, hOf, Qe])
   exact hF
  | false =>
   rw [if_neg Bool.false_ne_true] at hbd
   subst hbd
   refine pF rfl ?_
   (refine Qz Wc ?_; ((repeat (rw [Qa]; simp)); (try simp only [zs])))
   refine cXp (hrec) ?_
   ((try simp only [Qb, Qc, Qn, Qi, Qj]); (repeat (rw [Qa]; simp)); (try simp only [zs]))
   (refine hA2 ([0]) _ _ _ (LeT.refl _) (by decide) (by simp) (by simp [Wg, Wh, Wj, D.mov, HO.mov, okM, Wi, We, zz, okA, Qr, Qq, hOf, Qe, Qv]) ?_ rfl; simp [Wg, Wh, Wj, D.mov, HO.mov, okM, Wi, We, zz, okA, Qr, Qq, hOf, Qe])
   exact hF
 ·rintro ys hl tl' ⟨s, rfl, hF, rfl⟩ htl
  refine hK1 _ _ _ (wpD_weakL htl ?_)
  simp only [Qv, List.set, List.map_cons, List.map_nil, List.cons_append, List.nil_append]
  rw [List.drop_length, T.sdws] at hF
  subst hF
  (refine sR fun K hK => ?_; ((repeat (rw [Qa]; simp)); (try simp only [zs])); refine hK _ _ _ ?_; clear hK K)
  (refine Qo ?_; (try simp only [zs]); refine Wa.ret rfl (.inl ?_); simp [Qt, Out.fgt, D.fgt, D.fgts])
theorem size2_spec (t a : T) (ht : okT t) (ha : okT a) (hb : ((t.sd a.nsz 0 : Nat) : Int) <= 9223372036854775807) : Qu Tryz.prog glob 119 [Qx t, Qx a] [] (fun o _ => o.fgt = .ret (.int .i64 ((t.sd a.nsz 0 : Nat) : Int))) := by
 have h1 := size_spec a ha
 have h2 := sized_spec a.sz t 0 ht
 rw [sz_true a] at h1 h2
 rw [sdw_true, i64w (n := ((t.sd a.nsz 0 : Nat) : Int)) (by omega) hb] at h2
 generalize ((t.sd a.nsz 0 : Nat) : Int) = v at h2 ⊢
 have hEt := Qd t
 have hEa := Qd a
 rw [hEt, hEa]
 rw [hEa] at h1
 rw [hEt] at h2
 refine Qu.movd Qf (Qp Wc Tryz.func119 rfl (Qw _ _ Tryz.func119 rfl (by decide)) rfl rfl ?_)
 (refine sR fun K hK => ?_; ((repeat (rw [Qa]; simp)); (try simp only [zs])); refine hK _ _ _ ?_; clear hK K)
 (refine Qg fun K hK => ?_; refine dR fun KT hKT => ?_; ((repeat (rw [Qh]; simp)); (try simp only [Qk])))
 refine cYp (h1) ?_
 ((try simp only [Ql, Qm, Qn, Qi, Qj]); (repeat (rw [Qh]; simp)); (try simp only [Qk]))
 refine cYp (h2) ?_
 ((try simp only [Ql, Qm, Qn, Qi, Qj]); (repeat (rw [Qh]; simp)); (try simp only [Qk]))
 (refine hKT _ _ _ _ (by kernel_rfl) ?_; clear hKT KT; (try simp only [zs]))
 (refine hK _ _ _ ?_; clear hK K)
 (refine Qo ?_; (try simp only [zs]); refine Wa.ret rfl (.inl ?_); simp [Qt, Out.fgt, D.fgt, D.fgts])
def Wo : HO := .mp [(.int .i64 6, .fn (.func 71) [.box 0 0] []), (.int .i64 14, .fn (.func 72) [.box 0 0] []), (.int .i64 15, .fn (.func 72) [.box 0 0] []), (.int .i64 7, .fn (.func 73) [.box 0 0] []),
 (.int .i64 3, .fn (.func 74) [.box 0 0] []), (.int .i64 18, .fn (.func 75) [.box 0 0] []), (.int .i64 21, .fn (.func 76) [.box 0 0] []), (.int .i64 24, .fn (.func 77) [.box 0 0] [])]
def Wk (left : Int) (l : List C) (once done : Bool) : List HO := [headD left l once done, Wo]
theorem burn_ok (left : Int) (l : List C) (once done : Bool) (n : Int) (h0 : 0 <= n) (h : n <= left) (hl : left <= 9223372036854775807) : Qu Tryz.prog glob 117 [.box 0 0, .int .i64 n] (Wk left l once done) (fun o hc => o = .ret (.tuple []) /\ hc = Wk (left - n) l once done) := by
 have hw : IntKind.i64.wrap (left - n) = left - n := i64w (by omega) (by omega)
 have h' : ¬ left < n := by omega
 unfold Wk headD Cs Wo
 refine Qu.movd Qf (Qp Wc Tryz.func117 rfl (Qw _ _ Tryz.func117 rfl (by decide)) rfl rfl ?_)
 refine Qg fun K1 hK1 => ?_
 (refine sR fun K hK => ?_; ((repeat (rw [Qa]; simp [h'])); (try simp only [zs])); refine hK _ _ _ ?_; clear hK K)
 refine pF rfl ?_
 refine Qs (hK1 _ _ _ ?_)
 (refine Qz Wc ?_; ((repeat (rw [Qa]; simp [hw])); (try simp only [zs])))
 ((try simp only [zs]); refine Wa.nrm rfl (.inr ⟨[], by decide, by simp, ?_⟩); simp [Out.mov, Wg, Wh, Wj, D.mov, HO.mov, okM, Wi, We, zz, okA, Qr, Qq, hOf, Qe, Qt, Out.fgt, D.fgt, D.fgts])
theorem burn_no (left : Int) (l : List C) (once done : Bool) (n : Int) (h : left < n) : Qu Tryz.prog glob 117 [.box 0 0, .int .i64 n] (Wk left l once done) (fun o hc => o = .pan goneD /\ hc = Wk left l once done) := by
 unfold Wk headD Cs Wo goneD
 refine Qu.movd Qf (Qp Wc Tryz.func117 rfl (Qw _ _ Tryz.func117 rfl (by decide)) rfl rfl ?_)
 refine Qg fun K1 hK1 => ?_
 (refine sR fun K hK => ?_; ((repeat (rw [Qa]; simp [h])); (try simp only [zs])); refine hK _ _ _ ?_; clear hK K)
 refine pT rfl ?_
 (refine Qz Wc ?_; ((repeat (rw [Qa]; simp)); (try simp only [zs])))
 ((try simp only [zs]); refine Wa.pan (.inr ⟨[], by decide, by simp, ?_⟩); simp [Out.mov, Wg, Wh, Wj, D.mov, HO.mov, okM, Wi, We, zz, okA, Qr, Qq, hOf, Qe, Qt, Out.fgt, D.fgt, D.fgts])
theorem Qu.dead {P : Program} {G : Nat -> Option D} {f : FuncId} {args : List D} {objs : List HO} {Post Post' : Out -> List HO -> Prop} (h : Qu P G f args objs Post) (hP : ∀ o hc, Post o hc -> ∃ hc', (∀ r, hOf hc' r = hOf hc r \/ hOf hc' r = .dead) /\ Post' o hc') : Qu P G f args objs Post' := fun ρ w vs hR hv => by
 obtain ⟨h1, h2⟩ := h ρ w vs hR hv
 refine ⟨h1, h2.mono ?_⟩
 rintro e w' ⟨ρ', out, hc, hp, hm, hr, hx⟩
 obtain ⟨hc', hk, hp'⟩ := hP out hc hp
 exact ⟨ρ', out, hc', hp', hm, hr.kill hk, hx.kill hk⟩
theorem burn_dead (left : Int) (l : List C) (once done : Bool) (n : Int) (h : left < n) : Qu Tryz.prog glob 117 [.box 0 0, .int .i64 n] (Wk left l once done) (fun o hc => o = .pan goneD /\ hc = [.dead, .dead]) :=
 (burn_no left l once done n h).dead fun o hc hp => ⟨[.dead, .dead], fun r => by
  rw [hp.2]
  match r with
  | 0 => exact .inr rfl
  | 1 => exact .inr rfl
  | r + 2 => exact .inl rfl, hp.1, rfl⟩
def Cost (left : Int) (l : List C) (once done : Bool) (c : Nat) (d : D) (o : Out) (hc : List HO) : Prop :=
 if (c : Int) <= left then o.fgt = .ret d /\ hc = Wk (left - c) l once done else o = .pan goneD /\ hc = [.dead, .dead]
theorem Cost_ok {left : Int} {l : List C} {once done : Bool} {c : Nat} {d : D} (h : (c : Int) <= left) : Cost left l once done c d = (fun o hc => o.fgt = .ret d /\ hc = Wk (left - c) l once done) := by
 funext o hc; unfold Cost; rw [if_pos h]
theorem Cost_no {left : Int} {l : List C} {once done : Bool} {c : Nat} {d : D} (h : ¬ (c : Int) <= left) : Cost left l once done c d = (fun o hc => o = .pan goneD /\ hc = [.dead, .dead]) := by
 funext o hc; unfold Cost; rw [if_neg h]
def OwnP (left : Int) (l : List C) (once done : Bool) (t : T) (r : Option (T × Nat)) : Out -> List HO -> Prop := match r with
 | none => fun o hc => o.fgt = .ret (.tuple [Qx t, .bool false]) /\ hc = Wk left l once done
 | some p => Cost left l once done p.2 (.tuple [Qx p.1, .bool true])
def PM : Nat := 536870912
def okS (t : T) : Prop := okT t /\ t.pot <= PM
theorem okS.deep {t : T} (h : okS t) : t.deep <= DM := by have := t.deep_nsz; have := nsz_pot t; have := h.2; unfold PM at this; unfold DM; omega
theorem okS.kid {t : T} (h : okS t) (i : Nat) : okS (t.kid i) := ⟨kid_ok h.1 i, Nat.le_trans (kid_pot t i) h.2⟩
theorem okS.sd {t a : T} (h : okS t) (ha : okS a) : ((t.sd a.nsz 0 : Nat) : Int) <= 288230376151711744 := by
 have := sd_bound h.2 ha.2
 unfold PM at this
 omega
theorem okS.nsz {t : T} (h : okS t) : t.nsz <= 536870912 := by have := nsz_pot t; have := h.2; unfold PM at this; omega
structure okCs (l : List C) : Prop where
 len : l.length <= Wd
 ok : ∀ c, c ∈ l -> okC c
 bo : ∀ c, c ∈ l -> c.bo.nsz <= 1048576
 ty : ∀ c, c ∈ l -> c.ty.nsz <= 1048576
theorem hput_spec (left : Int) (l : List C) (once done : Bool) (hl : left <= 9223372036854775807) (t a : T) (ht : okS t) (ha : okS a) :
  Qu Tryz.prog glob 114 [.box 0 0, Qx t, Qx a] (Wk left l once done) (Cost left l once done (t.sd a.nsz 0) (Qx (t.put [a] 0))) := by
 have hz := size2_spec t a ht.1 ha.1 (Int.le_trans (ht.sd ha) (by omega))
 have hp := putT_spec t [a] (by unfold Wd; simp) (fun b hb => by rw [one_mem hb]; exact ⟨ha.1, ha.deep⟩) ht.deep ht.1
 have hEt := Qd t
 have hEa := Qd a
 generalize t.sd a.nsz 0 = c at hz ⊢
 generalize t.put [a] 0 = r at hp ⊢
 have hEr := Qd r
 unfold Ts at hp
 simp only [List.map_cons, List.map_nil] at hp
 rw [hEt, hEa] at hp hz ⊢
 by_cases hc : (c : Int) <= left
 ·rw [Cost_ok hc]
  have hbu := burn_ok left l once done c (by omega) hc hl
  unfold Wk headD Cs Wo at hbu ⊢
  refine Qu.movd Qf (Qp Wc Tryz.func114 rfl (Qw _ _ Tryz.func114 rfl (by decide)) rfl rfl ?_)
  (refine sR fun K hK => ?_; ((repeat (rw [Qa]; simp)); (try simp only [zs])); refine hK _ _ _ ?_; clear hK K)
  (refine Qg fun K hK => ?_; refine dR fun KT hKT => ?_; ((repeat (rw [Qh]; simp)); (try simp only [Qk])))
  refine cYp (hz) ?_
  ((try simp only [Ql, Qm, Qn, Qi, Qj]); (repeat (rw [Qh]; simp)); (try simp only [Qk]))
  refine cYo [0, 1] true false (hbu) (fun o h e => e) ?_; simp [zz, okA, Qr, Qq, hOf, Qe, Out.ren, upO, Qq, rdO]
  ((try simp only [Ql, Qm, Qn, Qi, Qj]); (repeat (rw [Qh]; simp)); (try simp only [Qk]))
  (refine hKT _ _ _ _ (by kernel_rfl) ?_; clear hKT KT; (try simp only [zs]))
  (refine hK _ _ _ ?_; clear hK K)
  (refine sR fun K hK => ?_; ((repeat (rw [Qa]; simp)); (try simp only [zs])))
  refine cXp (hp) ?_
  ((try simp only [Qb, Qc, Qn, Qi, Qj]); (repeat (rw [Qa]; simp)); (try simp only [zs]))
  (refine hK _ _ _ ?_; clear hK K)
  (refine Qo ?_; (try simp only [zs]); refine Wa.ret rfl (.inr ⟨[], by decide, by simp, ?_⟩); simp [Out.mov, Wg, Wh, Wj, D.mov, HO.mov, okM, Wi, We, zz, okA, Qr, Qq, hOf, Qe, Qt, Out.fgt, D.fgt, D.fgts])
  exact hEr.symm
 ·rw [Cost_no hc]
  have hbu := burn_dead left l once done c (by omega)
  unfold Wk headD Cs Wo goneD at hbu ⊢
  refine Qu.movd Qf (Qp Wc Tryz.func114 rfl (Qw _ _ Tryz.func114 rfl (by decide)) rfl rfl ?_)
  (refine sR fun K hK => ?_; ((repeat (rw [Qa]; simp)); (try simp only [zs])); refine hK _ _ _ ?_; clear hK K)
  (refine Qg fun K hK => ?_; refine dR fun KT hKT => ?_; ((repeat (rw [Qh]; simp)); (try simp only [Qk])))
  refine cYp (hz) ?_
  ((try simp only [Ql, Qm, Qn, Qi, Qj]); (repeat (rw [Qh]; simp)); (try simp only [Qk]))
  refine cYo [0, 1] true false (hbu) (fun o h e => e) ?_; simp [zz, okA, Qr, Qq, hOf, Qe, Out.ren, upO, Qq, rdO]
  ((try simp only [Ql, Qm, Qn, Qi, Qj]); (repeat (refine wpT_late _ _ _ _ (by kernel_rfl) ?_; simp only [Qn, List.set, List.nil_append, List.cons_append, Nat.reduceAdd])); (try simp only [Qk]))
  (refine hKT _ _ _ _ (by kernel_rfl) ?_; clear hKT KT; (try simp only [zs]))
  simp [killHl]
  ((try simp only [zs]); refine Wa.pan (.inr ⟨[], by decide, by simp, ?_⟩); simp [Out.mov, Wg, Wh, Wj, D.mov, HO.mov, okM, Wi, We, zz, okA, Qr, Qq, hOf, Qe, Qt, Out.fgt, D.fgt, D.fgts])
theorem htake_spec (left : Int) (l : List C) (once done : Bool) (hl : left <= 9223372036854775807) (t : T) (ht : okS t) :
  Qu Tryz.prog glob 115 [.box 0 0, Qx t] (Wk left l once done) (Cost left l once done t.nsz (Qx t)) := by
 have hz := size_spec t ht.1
 rw [sz_true, i64w (by omega) (by have := ht.nsz; omega)] at hz
 have hEt := Qd t
 generalize t.nsz = c at hz ⊢
 rw [hEt] at hz ⊢
 by_cases hc : (c : Int) <= left
 ·rw [Cost_ok hc]
  have hbu := burn_ok left l once done c (by omega) hc hl
  unfold Wk headD Cs Wo at hbu ⊢
  refine Qu.movd Qf (Qp Wc Tryz.func115 rfl (Qw _ _ Tryz.func115 rfl (by decide)) rfl rfl ?_)
  (refine sR fun K hK => ?_; ((repeat (rw [Qa]; simp)); (try simp only [zs])); refine hK _ _ _ ?_; clear hK K)
  (refine Qg fun K hK => ?_; refine dR fun KT hKT => ?_; ((repeat (rw [Qh]; simp)); (try simp only [Qk])))
  refine cYp (hz) ?_
  ((try simp only [Ql, Qm, Qn, Qi, Qj]); (repeat (rw [Qh]; simp)); (try simp only [Qk]))
  refine cYo [0, 1] true false (hbu) (fun o h e => e) ?_; simp [zz, okA, Qr, Qq, hOf, Qe, Out.ren, upO, Qq, rdO]
  ((try simp only [Ql, Qm, Qn, Qi, Qj]); (repeat (rw [Qh]; simp)); (try simp only [Qk]))
  (refine hKT _ _ _ _ (by kernel_rfl) ?_; clear hKT KT; (try simp only [zs]))
  (refine hK _ _ _ ?_; clear hK K)
  (refine sR fun K hK => ?_; ((repeat (rw [Qa]; simp)); (try simp only [zs])); refine hK _ _ _ ?_; clear hK K)
  (refine Qo ?_; (try simp only [zs]); refine Wa.ret rfl (.inr ⟨[], by decide, by simp, ?_⟩); simp [Out.mov, Wg, Wh, Wj, D.mov, HO.mov, okM, Wi, We, zz, okA, Qr, Qq, hOf, Qe, Qt, Out.fgt, D.fgt, D.fgts])
 ·rw [Cost_no hc]
  have hbu := burn_dead left l once done c (by omega)
  unfold Wk headD Cs Wo goneD at hbu ⊢
  refine Qu.movd Qf (Qp Wc Tryz.func115 rfl (Qw _ _ Tryz.func115 rfl (by decide)) rfl rfl ?_)
  (refine sR fun K hK => ?_; ((repeat (rw [Qa]; simp)); (try simp only [zs])); refine hK _ _ _ ?_; clear hK K)
  (refine Qg fun K hK => ?_; refine dR fun KT hKT => ?_; ((repeat (rw [Qh]; simp)); (try simp only [Qk])))
  refine cYp (hz) ?_
  ((try simp only [Ql, Qm, Qn, Qi, Qj]); (repeat (rw [Qh]; simp)); (try simp only [Qk]))
  refine cYo [0, 1] true false (hbu) (fun o h e => e) ?_; simp [zz, okA, Qr, Qq, hOf, Qe, Out.ren, upO, Qq, rdO]
  ((try simp only [Ql, Qm, Qn, Qi, Qj]); (repeat (refine wpT_late _ _ _ _ (by kernel_rfl) ?_; simp only [Qn, List.set, List.nil_append, List.cons_append, Nat.reduceAdd])); (try simp only [Qk]))
  (refine hKT _ _ _ _ (by kernel_rfl) ?_; clear hKT KT; (try simp only [zs]))
  simp [killHl]
  ((try simp only [zs]); refine Wa.pan (.inr ⟨[], by decide, by simp, ?_⟩); simp [Out.mov, Wg, Wh, Wj, D.mov, HO.mov, okM, Wi, We, zz, okA, Qr, Qq, hOf, Qe, Qt, Out.fgt, D.fgt, D.fgts])
end Go.Proofs.YtebmlojhdnldgaaGreatDoor
namespace Go.Proofs.YtebmlojhdnldgaaGreatDoor
set_option linter.unusedSimpArgs false
set_option linter.unusedVariables false
open Go.RowKit
def RetP (l : List C) (u : T) (lf : Int) (d : Bool) : Out -> List HO -> Prop := fun o hc => o.fgt = .ret (Qx u) /\ hc = Wk lf l false d
def GoneP : Out -> List HO -> Prop := fun o hc => o = .pan goneD /\ hc = [.dead, .dead]
inductive RunH (l : List C) : T -> Int -> Bool -> (Out -> List HO -> Prop) -> Prop where
 | fin {t u : T} {n : Nat} {lf : Int} {d : Bool} (h : Hd l t n u) (hn : (n : Int) <= lf) : RunH l t lf d (RetP l u (lf - n) (d || decide (0 < n)))
 | gone {t : T} {lf q : Int} {d : Bool} (h : GoneAt l t lf q) : RunH l t lf d GoneP
def Ready (l : List C) (t : T) : Prop := Xe l t = ownS l t (Wt t) /\ t.trunc = t
theorem Ready.none {l : List C} {t : T} (h : spot t = none) : Ready l t := ⟨by rw [hstep_none h]; unfold Wt; rw [h], trunc_none h⟩
theorem Ready.some {l : List C} {t v : T} {i many : Nat} (hs : spot t = some (i, many)) {m : Nat} {x : T} (h : Hd l x m v) : Ready l (t.withT v i many) := by
 obtain ⟨h1, h2⟩ := h.done
 obtain ⟨h3, h4⟩ := ready hs h1 h2
 exact ⟨by rw [h3, place_with hs], h4⟩
theorem RunH.place {l : List C} {t : T} {lf : Int} {d : Bool} {P : Out -> List HO -> Prop} (h : RunH l t lf d P) (h0 : 0 <= lf) {i many : Nat} (hs : spot t = some (i, many)) :
  (∃ q, GoneAt l (t.kid i) lf q /\ P = GoneP) \/ ∃ m v, Hd l (t.kid i) m v /\ (m : Int) <= lf /\ Ready l (t.withT v i many) /\ RunH l (t.withT v i many) (lf - m) (d || decide (0 < m)) P := by
 cases h with
 | fin h hn =>
  rename_i u n
  obtain ⟨m, v, h1, h2, h3⟩ := h.place hs
  refine .inr ⟨m, v, h1, by omega, .some hs h1, ?_⟩
  have := RunH.fin (lf := lf - m) (d := d || decide (0 < m)) h3 (by omega)
  rw [show lf - (m : Int) - ((n - m : Nat) : Int) = lf - n by omega, Bool.or_assoc, show (decide (0 < m) || decide (0 < n - m)) = decide (0 < n) by rw [<- Bool.decide_or]; apply decide_eq_decide.2; omega] at this
  exact this
 | gone h =>
  rcases h.place h0 hs with h1 | ⟨m, v, h1, h2, h3⟩
  ·exact .inl ⟨_, h1, rfl⟩
  ·exact .inr ⟨m, v, h1, h2, .some hs h1, .gone h3⟩
theorem RunH.own {l : List C} {t : T} {lf : Int} {d : Bool} {P : Out -> List HO -> Prop} (h : RunH l t lf d P) (hr : Ready l t) :
  match ownS l t (Wt t) with
  | none => P = RetP l t lf d
  | some p => if (p.2 : Int) <= lf then RunH l p.1 (lf - p.2) true P else P = GoneP := by
 rw [<- hr.1]
 cases h with
 | fin h hn =>
  rename_i u n
  cases h with
  | stop h => rw [h]; simp only; rw [hr.2]; simp
  | @step _ w _ c n h r =>
   have := hstep_pos t h
   rw [h]
   simp only
   rw [if_pos (by omega)]
   have := RunH.fin (lf := lf - c) (d := true) r (by omega)
   rw [show lf - (c : Int) - (n : Int) = lf - ((c + n : Nat) : Int) by omega, Bool.true_or] at this
   rw [show (d || decide (0 < c + n)) = true by rw [decide_eq_true (by omega), Bool.or_true]]
   exact this
 | gone h =>
  cases h with
  | now h hf => rw [h]; simp only; rw [if_neg (by omega)]; trivial
  | later h hf r => rw [h]; simp only; rw [if_pos hf]; exact .gone r
theorem Hd.pot {l : List C} {t u : T} {n : Nat} (h : Hd l t n u) : u.pot <= t.pot + 7 * n := by
 induction h with
 | stop h => have := trunc_pot ‹T›; omega
 | step h r ih => have := hstep_pot _ h; omega
theorem Hd.ok {l : List C} (hl : ∀ c, c ∈ l -> okC c) {t u : T} {n : Nat} (h : Hd l t n u) : okT t -> okT u := by
 induction h with
 | stop h => exact trunc_ok _
 | step h r ih => intro ht; exact ih (hstep_ok hl _ ht h)
def mu (t : T) : Nat := if spot t = none then 0 else t.deep + 1
theorem mu_kid {t : T} {i many : Nat} (hs : spot t = some (i, many)) : mu (t.kid i) < mu t := by
 have h0 : mu t = t.deep + 1 := by unfold mu; rw [if_neg (by rw [hs]; simp)]
 rw [h0]
 by_cases hi : i < t.ks.length
 ·rw [kid_in hi]
  have hd : (t.ks[i]).deep + 1 <= t.deep := by
   cases t with
   | mk k n a ls ks => exact T.deep_kid (List.getElem_mem hi)
  unfold mu
  split <;> omega
 ·rw [kid_out hi]
  unfold mu
  rw [if_pos zero_spot]
  omega
mutual
def T.nl : T -> T
 | .mk k n a ls ks => .mk k n a (ls.map Wq) (T.nls ks)
def T.nls : List T -> List T
 | [] => []
 | t :: r => T.nl t :: T.nls r
end
theorem nls_map : ∀ l : List T, T.nls l = l.map T.nl
 | [] => by rw [T.nls]; rfl
 | t :: r => by rw [T.nls, nls_map r]; rfl
theorem nl_k (t : T) : t.nl.k = t.k := by cases t; rw [T.nl]; rfl
theorem nl_n (t : T) : t.nl.n = t.n := by cases t; rw [T.nl]; rfl
theorem nl_a (t : T) : t.nl.a = t.a := by cases t; rw [T.nl]; rfl
theorem nl_ls (t : T) : t.nl.ls = t.ls.map Wq := by cases t; rw [T.nl]; rfl
theorem nl_len (t : T) : t.nl.ks.length = t.ks.length := by cases t; rw [T.nl, nls_map]; simp
theorem nl_zero : Wl.nl = Wl := by unfold Wl; rw [T.nl, T.nls]; rfl
theorem nl_getD (ks : List T) (i : Nat) : (T.nls ks).getD i Wl = (ks.getD i Wl).nl := by
 rw [nls_map, List.getD_eq_getElem?_getD, List.getD_eq_getElem?_getD, List.getElem?_map]
 cases ks[i]? with
 | none => exact nl_zero.symm
 | some x => rfl
theorem nl_kid (t : T) (i : Nat) : t.nl.kid i = (t.kid i).nl := by
 cases t with
 | mk k n a ls ks => rw [T.nl]; exact nl_getD ks i
theorem normOf_idem (l : LV) : Wq (Wq l) = Wq l := norm_id (normOf_nf l)
theorem sameLs_nl : ∀ l m : List LV, sameLs l m = true ↔ l.map Wq = m.map Wq
 | [], [] => by simp [sameLs]
 | [], _ :: _ => by simp [sameLs]
 | _ :: _, [] => by simp [sameLs]
 | a :: r, b :: s => by rw [sameLs, Bool.and_eq_true, sameLs_nl r s]; simp
mutual
theorem same_nl : ∀ t u : T, t.sameB u = true ↔ t.nl = u.nl
 | .mk k n a ls ks, .mk k' n' a' ls' ks' => by
  rw [T.sameB, T.nl, T.nl]
  simp only [Bool.and_eq_true, decide_eq_true_eq, T.mk.injEq]
  rw [sameLs_nl, sames_nl ks ks']
  simp [and_assoc]
theorem sames_nl : ∀ l m : List T, T.samesB l m = true ↔ T.nls l = T.nls m
 | [], [] => by rw [T.samesB]; simp
 | [], _ :: _ => by rw [T.samesB, T.nls, T.nls] <;> simp
 | _ :: _, [] => by rw [T.samesB, T.nls, T.nls] <;> simp
 | t :: r, u :: s => by rw [T.samesB, T.nls, T.nls, Bool.and_eq_true, same_nl t u, sames_nl r s]; simp
end
theorem nl_liftI (n : Nat) (t : T) : ∀ c, (t.liftI n c).nl = t.nl.liftI n c := by
 induction t using T.ind with
 | h k m a ls ks ih =>
  intro c
  rw [T.liftI, T.nl, T.nl, T.liftI]
  congr 1
  apply getD_ext (by rw [liftsI_len, nls_map, List.length_map, nls_map, List.length_map, liftsI_len])
  intro i hi
  rw [liftsI_len, nls_map, List.length_map] at hi
  rw [nl_getD, liftsI_getD, liftsI_getD, Nat.zero_add, nl_getD, getD_in hi]
  exact ih _ (List.getElem_mem hi) _
theorem nl_putI (x t : T) : ∀ d, (T.putI x t d).nl = T.putI x.nl t.nl d := by
 induction t using T.ind with
 | h k m a ls ks ih =>
  intro d
  have hks : T.nls (T.putsI x k ks 0 d) = T.putsI x.nl k (T.nls ks) 0 d := by
   apply getD_ext (by rw [putsI_len, nls_map, List.length_map, nls_map, List.length_map, putsI_len])
   intro i hi
   rw [putsI_len, nls_map, List.length_map] at hi
   rw [nl_getD, putsI_getD, putsI_getD, Nat.zero_add, nl_getD, getD_in hi]
   exact ih _ (List.getElem_mem hi) _
  rw [T.nl, T.putI, T.putI]
  split
  ·exact nl_liftI d x 0
  ·rw [T.nl, hks]
theorem levOf_nl (bys : List LV) (v : Int) : levOf (bys.map Wq) v = levOf bys v := by
 unfold levOf
 rw [List.length_map]
 split
 ·rename_i h
  have hi : (v - 1).toNat < bys.length := by omega
  rw [List.getD_eq_getElem?_getD, List.getD_eq_getElem?_getD, List.getElem?_map, List.getElem?_eq_getElem hi]
  exact normOf_idem _
 ·rfl
theorem putL_nl (l : LV) (bys : List LV) : putL l (bys.map Wq) = putL l bys := by
 unfold putL rowP xsP
 simp only [levOf_nl]
theorem levTurn_nl (bys : List LV) : levTurn (bys.map Wq) = levTurn bys := by
 unfold levTurn
 simp only [putL_nl]
theorem nl_levels (bys : List LV) (t : T) : ∀ d, (T.walk (levTurn bys) t d).nl = T.walk (levTurn bys) t d := by
 induction t using T.ind with
 | h k m a ls ks ih =>
  intro d
  rw [walk_inr (f := levTurn bys) (x := (m, ls.map fun l => Wq (putL l bys))) rfl, T.nl, List.map_map]
  congr 1
  ·apply List.map_congr_left
   intro l _
   exact normOf_idem _
  ·apply getD_ext (by rw [nls_map, List.length_map])
   intro i hi
   have hi2 : i < ks.length := by rw [T.walks_length] at hi; exact hi
   rw [nl_getD, getD_in hi, walks_get0 hi]
   exact ih _ (List.getElem_mem hi2) _
theorem body_nl {l : List C} {n : Int} {lv : List LV} {b : T} (h : bodyC l n lv = some b) : bodyC l n (lv.map Wq) = some b.nl := by
 unfold bodyC at h ⊢
 rw [List.length_map]
 split at h
 ·rename_i h1
  rw [dif_pos h1]
  split at h
  ·rename_i h2
   rw [if_pos h2]
   cases h
   show some (T.walk (levTurn (lv.map Wq)) _ 0) = some (T.nl (T.walk (levTurn lv) _ 0))
   rw [levTurn_nl, nl_levels]
  ·cases h
 ·cases h
theorem nl_tree (t s : T) : (treeI t s).nl = treeI t.nl s.nl := by
 unfold treeI ofT
 simp only [T.nl, T.nls, nl_putI, nl_liftI, nl_kid, List.map_nil]
theorem root_nl {l : List C} {t u : T} (h : rootI l t = some u) : rootI l t.nl = some u.nl := by
 apply Xm
 simp only [nl_k, nl_kid, nl_n, nl_a, nl_len, nl_ls]
 rcases rootI_cases h with ⟨h1, h2, rfl⟩ | ⟨h1, h2, rfl⟩ | ⟨h1, h2, rfl⟩ | ⟨h1, rfl⟩ | ⟨h1, h2⟩ | ⟨h1, h2, rfl⟩ | ⟨h1, h2, rfl⟩ | ⟨h1, h2, h3, h4, h5, h6, rfl⟩
 ·exact .inl ⟨h1, h2, nl_putI _ _ _⟩
 ·exact .inr (.inl ⟨h1, h2, rfl⟩)
 ·exact .inr (.inr (.inl ⟨h1, h2, rfl⟩))
 ·exact .inr (.inr (.inr (.inl ⟨h1, nl_putI _ _ _⟩)))
 ·exact .inr (.inr (.inr (.inr (.inl ⟨h1, body_nl h2⟩))))
 ·exact .inr (.inr (.inr (.inr (.inr (.inl ⟨h1, h2, by rw [nl_tree]⟩)))))
 ·exact .inr (.inr (.inr (.inr (.inr (.inr (.inl ⟨h1, h2, rfl⟩))))))
 ·exact .inr (.inr (.inr (.inr (.inr (.inr (.inr ⟨h1, h2, h3, h4, h5, h6, rfl⟩))))))
theorem par_nl {l : List C} {t u : T} (h : Par l t u) : Par l t.nl u.nl := by
 induction h with
 | @node k n a ls ks ks' hl h ih =>
  rw [T.nl, T.nl]
  refine .node (by rw [nls_map, nls_map, List.length_map, List.length_map, hl]) fun i hi => ?_
  rw [nls_map, List.length_map] at hi
  rw [nl_getD, nl_getD]
  exact ih i hi
 | @red k n a ls ks ks' u hl h hr ih =>
  have := root_nl hr
  rw [T.nl] at this
  rw [T.nl]
  refine .red (ks' := T.nls ks') (by rw [nls_map, nls_map, List.length_map, List.length_map, hl]) (fun i hi => ?_) this
  rw [nls_map, List.length_map] at hi
  rw [nl_getD, nl_getD]
  exact ih i hi
theorem pars_nl {l : List C} {t u : T} (h : Pars l t u) : Pars l t.nl u.nl := by
 induction h with
 | refl t => exact .refl _
 | step h r ih => exact .step (par_nl h) ih
inductive Stk (l : List C) : T -> Prop where
 | mk {v : T} (h : rootI l v = none) (hp : ∀ i many, spot v = some (i, many) -> i < v.ks.length -> Stk l (v.kid i)) : Stk l v
theorem own_none {l : List C} {t x : T} : ownS l t x = none ↔ ownI l t x = none := by
 unfold ownS ownI
 repeat' split
 all_goals simp_all
theorem stk_of {l : List C} {v : T} {sc : Nat} (h : Ws v sc) : Xe l v = none -> Stk l v := by
 induction h with
 | @mk k m a ls ks sc h hk ih =>
  intro hst
  have hw : Ws (.mk k m a ls ks) sc := .mk h hk
  rcases spot_of (.mk k m a ls ks) with hsp | ⟨i, many, hsp⟩
  ·rw [hstep_none hsp] at hst
   refine .mk ?_ fun i many e => by rw [hsp] at e; cases e
   unfold rootI Wt
   rw [hsp]
   exact own_none.1 hst
  ·obtain ⟨h1, h2, h3⟩ := spot_ws hw hsp
   have hi : i < (T.mk k m a ls ks).ks.length := by omega
   have e := kid_at hi
   cases hu : Xe l (T.mk k m a ls ks).ks[i] with
   | some v => rw [hstep_in hsp hi (u := v.1) (c := v.2) hu] at hst; cases hst
   | none =>
    rw [hstep_at hsp hi hu, <- e, ws_trunc (hw.kid hi), with_same h1] at hst
    refine .mk ?_ fun i' many' e' _ => ?_
    ·unfold rootI Wt
     rw [hsp]
     exact own_none.1 hst
    ·rw [hsp] at e'
     cases e'
     exact ih i hi (by rw [<- e] at hu; exact hu)
theorem root_none_of {l : List C} {v w : T} (h1 : w.k = v.k) (h2 : w.n = v.n) (h3 : w.a = v.a) (h4 : w.ls = v.ls) (h5 : w.ks.length = v.ks.length) (hp : ∀ i many, spot v = some (i, many) -> (w.kid i).k = (v.kid i).k /\ (w.kid i).n = (v.kid i).n) (h : rootI l v = none) : rootI l w = none := by
 cases hw : rootI l w with
 | none => rfl
 | some u =>
  exfalso
  have key : ∀ x, rootI l v = some x -> False := fun x hx => by rw [h] at hx; cases hx
  rcases rootI_cases hw with ⟨e1, e2, -⟩ | ⟨e1, e2, -⟩ | ⟨e1, e2, -⟩ | ⟨e1, -⟩ | ⟨e1, e2⟩ | ⟨e1, e2, -⟩ | ⟨e1, e2, -⟩ | ⟨e1, e2, e3, e4, e5, e6, -⟩
  ·have := hp 0 2 (by unfold spot; rw [if_pos (h1 ▸ e1)])
   exact key _ (Xm (.inl ⟨h1 ▸ e1, by rw [<- this.1]; exact e2, rfl⟩))
  ·have := hp 0 1 (by unfold spot; rw [if_neg (by omega), if_pos (by omega)])
   exact key _ (Xm (.inr (.inl ⟨h1 ▸ e1, by rw [<- this.1]; exact e2, rfl⟩)))
  ·have := hp 0 1 (by unfold spot; rw [if_neg (by omega), if_pos (by omega)])
   exact key _ (Xm (.inr (.inr (.inl ⟨h1 ▸ e1, by rw [<- this.1]; exact e2, rfl⟩))))
  ·exact key _ (Xm (.inr (.inr (.inr (.inl ⟨h1 ▸ e1, rfl⟩)))))
  ·rw [h2, h4] at e2
   exact key _ (Xm (.inr (.inr (.inr (.inr (.inl ⟨h1 ▸ e1, e2⟩))))))
  ·have := hp 4 5 (by unfold spot; rw [if_neg (by omega), if_neg (by omega), if_pos (by omega)])
   exact key _ (Xm (.inr (.inr (.inr (.inr (.inr (.inl ⟨h1 ▸ e1, by rw [<- this.1]; exact e2, rfl⟩)))))))
  ·have := hp 5 6 (by unfold spot; rw [if_neg (by omega), if_neg (by omega), if_neg (by omega), if_pos (by omega)])
   exact key _ (Xm (.inr (.inr (.inr (.inr (.inr (.inr (.inl ⟨h1 ▸ e1, by rw [<- this.1]; exact e2, rfl⟩))))))))
  ·rw [h3] at e2 e3 e4 e5 e6
   rw [h5] at e3
   have := hp (v.a.toNat + 1) (v.a.toNat + 2) (by unfold spot; rw [if_neg (by omega), if_neg (by omega), if_neg (by omega), if_neg (by omega), if_pos ⟨h1 ▸ e1, e2, e3⟩])
   exact key _ (Xm (.inr (.inr (.inr (.inr (.inr (.inr (.inr ⟨h1 ▸ e1, e2, e3, by rw [<- this.1]; exact e4, by rw [<- this.2]; exact e5, by rw [<- this.2]; exact e6, rfl⟩))))))))
def HeadEq (v w : T) : Prop := w.k = v.k /\ w.n = v.n /\ w.a = v.a /\ w.ls = v.ls /\ w.ks.length = v.ks.length
theorem stk_par {l : List C} {v : T} (h : Stk l v) : ∀ {w : T}, Par l v w -> HeadEq v w /\ (∀ i, Par l (v.kid i) (w.kid i)) /\ Stk l w := by
 induction h with
 | @mk v h hp ih =>
  intro w hw
  have key : ∀ {k n a : Int} {ls : List LV} {ks ks' : List T}, v = .mk k n a ls ks -> ks'.length = ks.length -> (∀ i, i < ks.length -> Par l (ks.getD i Wl) (ks'.getD i Wl)) ->
    rootI l (.mk k n a ls ks') = none /\ Stk l (.mk k n a ls ks') := by
   intro k n a ls ks ks' hv hl hk
   subst hv
   have hpl : ∀ i many, spot (T.mk k n a ls ks) = some (i, many) -> ((T.mk k n a ls ks').kid i).k = ((T.mk k n a ls ks).kid i).k /\ ((T.mk k n a ls ks').kid i).n = ((T.mk k n a ls ks).kid i).n := by
    intro i many hs
    by_cases hi : i < ks.length
    ·obtain ⟨⟨h1, h2, -⟩, -⟩ := ih i many hs hi (hk i hi)
     exact ⟨h1, h2⟩
    ·rw [show (T.mk k n a ls ks').kid i = Wl from getD_out (ks := ks') (by omega), show (T.mk k n a ls ks).kid i = Wl from getD_out (ks := ks) hi]
     exact ⟨rfl, rfl⟩
   have h1 := root_none_of (v := .mk k n a ls ks) (w := .mk k n a ls ks') rfl rfl rfl rfl hl hpl h
   refine ⟨h1, .mk h1 fun i many hs hi => ?_⟩
   have hs2 : spot (T.mk k n a ls ks) = some (i, many) := by rw [<- hs]; exact spot_congr rfl rfl hl.symm
   have hi2 : i < ks.length := by rw [<- hl]; exact hi
   exact (ih i many hs2 hi2 (hk i hi2)).2.2
  cases hw with
  | node hl hk =>
   obtain ⟨h1, h2⟩ := key rfl hl hk
   exact ⟨⟨rfl, rfl, rfl, rfl, hl⟩, fun i => par_all hl hk i, h2⟩
  | red hl hk hr =>
   obtain ⟨h1, -⟩ := key rfl hl hk
   rw [h1] at hr
   cases hr
theorem stk_pars {l : List C} {v w : T} (h : Pars l v w) : Stk l v -> HeadEq v w /\ (∀ i, Pars l (v.kid i) (w.kid i)) /\ Stk l w := by
 induction h with
 | refl t => intro hs; exact ⟨⟨rfl, rfl, rfl, rfl, rfl⟩, fun i => .refl _, hs⟩
 | step h r ih =>
  intro hs
  obtain ⟨⟨a1, a2, a3, a4, a5⟩, b, c⟩ := stk_par hs h
  obtain ⟨⟨d1, d2, d3, d4, d5⟩, e, f⟩ := ih c
  exact ⟨⟨d1.trans a1, d2.trans a2, d3.trans a3, d4.trans a4, d5.trans a5⟩, fun i => .step (b i) (e i), f⟩
theorem stk_nl {l : List C} {v : T} (h : Stk l v) : Stk l v.nl := by
 induction h with
 | @mk v h hp ih =>
  have hn : rootI l v.nl = none := by
   cases hw : rootI l v.nl with
   | none => rfl
   | some u =>
    exfalso
    have key : ∀ x, rootI l v = some x -> False := fun x hx => by rw [h] at hx; cases hx
    have hc := rootI_cases hw
    simp only [nl_k, nl_kid, nl_n, nl_a, nl_len, nl_ls] at hc
    rcases hc with ⟨e1, e2, -⟩ | ⟨e1, e2, -⟩ | ⟨e1, e2, -⟩ | ⟨e1, -⟩ | ⟨e1, e2⟩ | ⟨e1, e2, -⟩ | ⟨e1, e2, -⟩ | ⟨e1, e2, e3, e4, e5, e6, -⟩
    ·exact key _ (Xm (.inl ⟨e1, e2, rfl⟩))
    ·exact key _ (Xm (.inr (.inl ⟨e1, e2, rfl⟩)))
    ·exact key _ (Xm (.inr (.inr (.inl ⟨e1, e2, rfl⟩))))
    ·exact key _ (Xm (.inr (.inr (.inr (.inl ⟨e1, rfl⟩)))))
    ·unfold bodyC at e2
     rw [List.length_map] at e2
     split at e2
     ·rename_i h1
      split at e2
      ·rename_i h2
       exact key _ (Xm (.inr (.inr (.inr (.inr (.inl ⟨e1, by unfold bodyC; rw [dif_pos h1, if_pos h2]⟩))))))
      ·cases e2
     ·cases e2
    ·exact key _ (Xm (.inr (.inr (.inr (.inr (.inr (.inl ⟨e1, e2, rfl⟩)))))))
    ·exact key _ (Xm (.inr (.inr (.inr (.inr (.inr (.inr (.inl ⟨e1, e2, rfl⟩))))))))
    ·exact key _ (Xm (.inr (.inr (.inr (.inr (.inr (.inr (.inr ⟨e1, e2, e3, e4, e5, e6, rfl⟩))))))))
  refine .mk hn fun i many hs hi => ?_
  rw [nl_kid]
  rw [nl_len] at hi
  exact ih i many (by rw [<- hs]; exact (spot_congr (nl_k v) (nl_a v) (nl_len v)).symm) hi
def Eqv (l : List C) (p q : T) : Prop := ∃ a, Pars l p.nl a /\ Pars l q.nl a
theorem Eqv.refl (l : List C) (p : T) : Eqv l p p := ⟨_, .refl _, .refl _⟩
theorem Eqv.symm {l : List C} {p q : T} (h : Eqv l p q) : Eqv l q p := by obtain ⟨a, h1, h2⟩ := h; exact ⟨a, h2, h1⟩
theorem Eqv.trans {l : List C} (hc : Closed l) {p q r : T} (h : Eqv l p q) (g : Eqv l q r) : Eqv l p r := by
 obtain ⟨a, h1, h2⟩ := h
 obtain ⟨b, g1, g2⟩ := g
 obtain ⟨w, w1, w2⟩ := pars_meet hc h2 g1
 exact ⟨w, h1.trans w1, g2.trans w2⟩
theorem Eqv.of_pars {l : List C} {p q : T} (h : Pars l p q) : Eqv l p q := ⟨_, pars_nl h, .refl _⟩
theorem Eqv.of_same {l : List C} {p q : T} (h : p.sameB q = true) : Eqv l p q := by
 rw [same_nl] at h
 exact ⟨_, .refl _, h ▸ .refl _⟩
theorem Eqv.stk {l : List C} {x y : T} (h : Eqv l x y) (hx : Stk l x) (hy : Stk l y) : x.k = y.k /\ x.n = y.n /\ x.a = y.a /\ x.ks.length = y.ks.length /\ sameLs x.ls y.ls = true /\ ∀ i, Eqv l (x.kid i) (y.kid i) := by
 obtain ⟨a, h1, h2⟩ := h
 obtain ⟨⟨a1, a2, a3, a4, a5⟩, ka, -⟩ := stk_pars h1 (stk_nl hx)
 obtain ⟨⟨b1, b2, b3, b4, b5⟩, kb, -⟩ := stk_pars h2 (stk_nl hy)
 simp only [nl_k, nl_n, nl_a, nl_len, nl_ls] at a1 a2 a3 a4 a5 b1 b2 b3 b4 b5
 refine ⟨by omega, by omega, by omega, by omega, by rw [sameLs_nl, <- a4, b4], fun i => ⟨a.kid i, ?_, ?_⟩⟩
 ·have := ka i; rwa [nl_kid] at this
 ·have := kb i; rwa [nl_kid] at this
def appliedT (t : T) : T := ofT 6 [t.lift 1 0 0, ofT 1 []]
def partsT (k : Int) (t : T) : List T :=
 if t.k = k then (if k = 13 then [t.kid 0, t.kid 1] else [t.kid 1]) else (if k = 13 then [ofT 14 [t], ofT 15 [t]] else [appliedT t])
def mattersT (t : T) : List T := if t.k = 18 then [t.kid 2, t.kid 3, t.kid 4] else if t.k = 21 then [t.kid 2, t.kid 3, t.kid 5] else t.ks
def alikeT (x y : T) : Prop := x.k = y.k /\ x.n = y.n /\ x.a = y.a /\ x.ks.length = y.ks.length /\ sameLs x.ls y.ls = true
instance (x y : T) : Decidable (alikeT x y) := by unfold alikeT; infer_instance
def prs (x y : T) : Option (List T × List T) :=
 if x.k = 5 \/ y.k = 5 then some (partsT 5 x, partsT 5 y) else if x.k = 13 \/ y.k = 13 then some (partsT 13 x, partsT 13 y) else if alikeT x y then some (mattersT x, mattersT y) else none
inductive HdO (l : List C) (t : T) (f : Int) : Option (T × Int) -> Prop where
 | fin {m : Nat} {u : T} (h : Hd l t m u) (hm : (m : Int) <= f) : HdO l t f (some (u, f - m))
 | gone {q : Int} (h : GoneAt l t f q) : HdO l t f none
inductive CR (l : List C) : Nat -> List T -> List T -> Int -> Option (Bool × Int) -> Prop where
 | nil {h : Nat} {f : Int} : CR l h [] [] f (some (true, f))
 | out {h : Nat} {p q : T} {ps qs : List T} : CR l (h + 1) (p :: ps) (q :: qs) 0 none
 | same {h : Nat} {p q : T} {ps qs : List T} {f : Int} {o : Option (Bool × Int)} (hf : 1 <= f) (hs : p.sameB q = true) (hr : CR l (h + 1) ps qs (f - 1) o) : CR l (h + 1) (p :: ps) (q :: qs) f o
 | gone1 {h : Nat} {p q : T} {ps qs : List T} {f : Int} (hf : 1 <= f) (hs : p.sameB q = false) (h1 : HdO l p (f - 1) none) : CR l (h + 1) (p :: ps) (q :: qs) f none
 | gone2 {h : Nat} {p q x : T} {ps qs : List T} {f f1 : Int} (hf : 1 <= f) (hs : p.sameB q = false) (h1 : HdO l p (f - 1) (some (x, f1))) (h2 : HdO l q f1 none) : CR l (h + 1) (p :: ps) (q :: qs) f none
 | mis {h : Nat} {p q x y : T} {ps qs : List T} {f f1 f2 : Int} (hf : 1 <= f) (hs : p.sameB q = false) (h1 : HdO l p (f - 1) (some (x, f1))) (h2 : HdO l q f1 (some (y, f2))) (hp : prs x y = none) : CR l (h + 1) (p :: ps) (q :: qs) f (some (false, f2))
 | kids {h : Nat} {p q x y : T} {ps qs ds bs : List T} {f f1 f2 : Int} {o : Option (Bool × Int)} (hf : 1 <= f) (hs : p.sameB q = false) (h1 : HdO l p (f - 1) (some (x, f1))) (h2 : HdO l q f1 (some (y, f2))) (hp : prs x y = some (ds, bs))
   (hk : CR l h ds bs f2 o) (hn : ∀ g, o ≠ some (true, g)) : CR l (h + 1) (p :: ps) (q :: qs) f o
 | yes {h : Nat} {p q x y : T} {ps qs ds bs : List T} {f f1 f2 g : Int} {o : Option (Bool × Int)} (hf : 1 <= f) (hs : p.sameB q = false) (h1 : HdO l p (f - 1) (some (x, f1))) (h2 : HdO l q f1 (some (y, f2))) (hp : prs x y = some (ds, bs))
   (hk : CR l h ds bs f2 (some (true, g))) (hr : CR l (h + 1) ps qs g o) : CR l (h + 1) (p :: ps) (q :: qs) f o
inductive LR (l : List C) : Nat -> T -> T -> Int -> Option (Bool × Int) -> Prop where
 | out {h : Nat} {p q : T} : LR l h p q 0 none
 | same {h : Nat} {p q : T} {f : Int} (hf : 1 <= f) (hs : p.sameB q = true) : LR l h p q f (some (true, f - 1))
 | gone1 {h : Nat} {p q : T} {f : Int} (hf : 1 <= f) (hs : p.sameB q = false) (h1 : HdO l p (f - 1) none) : LR l h p q f none
 | gone2 {h : Nat} {p q x : T} {f f1 : Int} (hf : 1 <= f) (hs : p.sameB q = false) (h1 : HdO l p (f - 1) (some (x, f1))) (h2 : HdO l q f1 none) : LR l h p q f none
 | sort {h : Nat} {p q x y : T} {a b : LV} {f f1 f2 : Int} (hf : 1 <= f) (hs : p.sameB q = false) (h1 : HdO l p (f - 1) (some (x, f1))) (h2 : HdO l q f1 (some (y, f2))) (hx : x.k = 2 /\ x.ls = [a]) (hy : y.k = 2 /\ y.ls = [b]) : LR l h p q f (some (leqM a b, f2))
 | pino {h : Nat} {p q x y : T} {f f1 f2 : Int} {o : Option (Bool × Int)} (hf : 1 <= f) (hs : p.sameB q = false) (h1 : HdO l p (f - 1) (some (x, f1))) (h2 : HdO l q f1 (some (y, f2))) (hx : x.k = 4) (hy : y.k = 4)
   (hk : CR l h [x.kid 0] [y.kid 0] f2 o) (hn : ∀ g, o ≠ some (true, g)) : LR l h p q f o
 | pi {h : Nat} {p q x y : T} {f f1 f2 g : Int} {o : Option (Bool × Int)} (hf : 1 <= f) (hs : p.sameB q = false) (h1 : HdO l p (f - 1) (some (x, f1))) (h2 : HdO l q f1 (some (y, f2))) (hx : x.k = 4) (hy : y.k = 4)
   (hk : CR l h [x.kid 0] [y.kid 0] f2 (some (true, g))) (hr : LR l h (x.kid 1) (y.kid 1) g o) : LR l h p q f o
 | one {h : Nat} {p q x y : T} {f f1 f2 : Int} {o : Option (Bool × Int)} (hf : 1 <= f) (hs : p.sameB q = false) (h1 : HdO l p (f - 1) (some (x, f1))) (h2 : HdO l q f1 (some (y, f2)))
   (hn : ¬ (x.k = 2 /\ y.k = 2 /\ x.ls.length = 1 /\ y.ls.length = 1)) (hn2 : ¬ (x.k = 4 /\ y.k = 4)) (hr : CR l h [x] [y] f2 o) : LR l h p q f o
theorem hdO_total (l : List C) (t : T) (f : Int) (h0 : 0 <= f) : ∃ o, HdO l t f o := by
 rcases hd_or_gone l f.toNat t f h0 (by omega) with ⟨n, u, h, hn⟩ | ⟨q, g⟩
 ·exact ⟨_, .fin h hn⟩
 ·exact ⟨_, .gone g⟩
theorem goneAt_lt {l : List C} {t : T} {f q : Int} (g : GoneAt l t f q) : ∀ {m : Nat} {u : T}, Hd l t m u -> f < m := by
 induction g with
 | now h hf =>
  intro m u hd
  cases hd with
  | stop h3 => rw [h] at h3; cases h3
  | step h3 r => rw [h] at h3; cases h3; omega
 | later h hf r ih =>
  intro m u hd
  cases hd with
  | stop h3 => rw [h] at h3; cases h3
  | step h3 r3 => rw [h] at h3; cases h3; have := ih r3; omega
theorem HdO.le {l : List C} {t u : T} {f g : Int} (h : HdO l t f (some (u, g))) : 0 <= g /\ g <= f := by
 cases h with
 | fin h hm => omega
theorem HdO.det {l : List C} {t : T} {f : Int} {o o' : Option (T × Int)} (h : HdO l t f o) (h' : HdO l t f o') : o = o' := by
 cases h with
 | fin h hm =>
  cases h' with
  | fin h' hm' => obtain ⟨rfl, rfl⟩ := h.det h'; rfl
  | gone g => have := goneAt_lt g h; omega
 | gone g =>
  cases h' with
  | fin h' hm' => have := goneAt_lt g h'; omega
  | gone g' => rfl
theorem HdO.more {l : List C} {t u : T} {f g d : Int} (h : HdO l t f (some (u, g))) (hd : 0 <= d) : HdO l t (f + d) (some (u, g + d)) := by
 generalize ho : some (u, g) = o at h
 cases h with
 | @fin m u' h hm =>
  cases ho
  have := HdO.fin (f := f + d) h (by omega)
  rw [show f + d - (m : Int) = f - m + d by omega] at this
  exact this
 | gone g => cases ho
theorem parts_len (k : Int) (x y : T) : (partsT k x).length = (partsT k y).length := by
 unfold partsT
 split <;> split <;> split <;> rfl
theorem prs_len {x y : T} {ds bs : List T} (h : prs x y = some (ds, bs)) : ds.length = bs.length := by
 unfold prs at h
 split at h
 ·cases h; exact parts_len _ _ _
 ·split at h
  ·cases h; exact parts_len _ _ _
  ·split at h
   ·rename_i ha
    cases h
    unfold alikeT at ha
    unfold mattersT
    rw [ha.1]
    split
    ·rfl
    ·split
     ·rfl
     ·exact ha.2.2.2.1
   ·cases h
theorem CR.mono {l : List C} {h : Nat} {ps qs : List T} {f : Int} {o : Option (Bool × Int)} (H : CR l h ps qs f o) : ∀ {h' : Nat}, h <= h' -> CR l h' ps qs f o := by
 induction H with
 | nil => intro h' _; exact .nil
 | out => intro h' hh; obtain ⟨k, rfl⟩ : ∃ k, h' = k + 1 := ⟨h' - 1, by omega⟩; exact .out
 | same hf hs hr ih => intro h' hh; obtain ⟨k, rfl⟩ : ∃ k, h' = k + 1 := ⟨h' - 1, by omega⟩; exact .same hf hs (ih hh)
 | gone1 hf hs h1 => intro h' hh; obtain ⟨k, rfl⟩ : ∃ k, h' = k + 1 := ⟨h' - 1, by omega⟩; exact .gone1 hf hs h1
 | gone2 hf hs h1 h2 => intro h' hh; obtain ⟨k, rfl⟩ : ∃ k, h' = k + 1 := ⟨h' - 1, by omega⟩; exact .gone2 hf hs h1 h2
 | mis hf hs h1 h2 hp => intro h' hh; obtain ⟨k, rfl⟩ : ∃ k, h' = k + 1 := ⟨h' - 1, by omega⟩; exact .mis hf hs h1 h2 hp
 | kids hf hs h1 h2 hp hk hn ih => intro h' hh; obtain ⟨k, rfl⟩ : ∃ k, h' = k + 1 := ⟨h' - 1, by omega⟩; exact .kids hf hs h1 h2 hp (ih (by omega)) hn
 | yes hf hs h1 h2 hp hk hr ih1 ih2 => intro h' hh; obtain ⟨k, rfl⟩ : ∃ k, h' = k + 1 := ⟨h' - 1, by omega⟩; exact .yes hf hs h1 h2 hp (ih1 (by omega)) (ih2 hh)
theorem CR.det {l : List C} {h : Nat} {ps qs : List T} {f : Int} {o : Option (Bool × Int)} (H : CR l h ps qs f o) : ∀ {h' : Nat} {o' : Option (Bool × Int)}, CR l h' ps qs f o' -> o = o' := by
 induction H with
 | nil => intro h' o' K; cases K; rfl
 | out => intro h' o' K; cases K <;> first | rfl | omega
 | same hf hs hr ih =>
  intro h' o' K
  cases K with
  | out => omega
  | same _ _ hr' => exact ih hr'
  | gone1 _ hs' _ | gone2 _ hs' _ _ | mis _ hs' _ _ _ | kids _ hs' _ _ _ _ _ | yes _ hs' _ _ _ _ _ => rw [hs] at hs'; cases hs'
 | gone1 hf hs h1 =>
  intro h' o' K
  cases K with
  | out => rfl
  | same _ hs' _ => rw [hs] at hs'; cases hs'
  | gone1 _ _ _ => rfl
  | gone2 _ _ h1' _ | mis _ _ h1' _ _ | kids _ _ h1' _ _ _ _ | yes _ _ h1' _ _ _ _ => cases h1.det h1'
 | gone2 hf hs h1 h2 =>
  intro h' o' K
  cases K with
  | out => rfl
  | same _ hs' _ => rw [hs] at hs'; cases hs'
  | gone1 _ _ _ => rfl
  | gone2 _ _ _ _ => rfl
  | mis _ _ h1' h2' _ | kids _ _ h1' h2' _ _ _ | yes _ _ h1' h2' _ _ _ => cases h1.det h1'; cases h2.det h2'
 | mis hf hs h1 h2 hp =>
  intro h' o' K
  cases K with
  | out => omega
  | same _ hs' _ => rw [hs] at hs'; cases hs'
  | gone1 _ _ h1' => cases h1.det h1'
  | gone2 _ _ h1' h2' => cases h1.det h1'; cases h2.det h2'
  | mis _ _ h1' h2' _ => cases h1.det h1'; cases h2.det h2'; rfl
  | kids _ _ h1' h2' hp' _ _ | yes _ _ h1' h2' hp' _ _ => cases h1.det h1'; cases h2.det h2'; rw [hp] at hp'; cases hp'
 | kids hf hs h1 h2 hp hk hn ih =>
  intro h' o' K
  cases K with
  | out => omega
  | same _ hs' _ => rw [hs] at hs'; cases hs'
  | gone1 _ _ h1' => cases h1.det h1'
  | gone2 _ _ h1' h2' => cases h1.det h1'; cases h2.det h2'
  | mis _ _ h1' h2' hp' => cases h1.det h1'; cases h2.det h2'; rw [hp] at hp'; cases hp'
  | kids _ _ h1' h2' hp' hk' _ => cases h1.det h1'; cases h2.det h2'; rw [hp] at hp'; cases hp'; exact ih hk'
  | yes _ _ h1' h2' hp' hk' _ => cases h1.det h1'; cases h2.det h2'; rw [hp] at hp'; cases hp'; exact absurd (ih hk') (hn _)
 | yes hf hs h1 h2 hp hk hr ih1 ih2 =>
  intro h' o' K
  cases K with
  | out => omega
  | same _ hs' _ => rw [hs] at hs'; cases hs'
  | gone1 _ _ h1' => cases h1.det h1'
  | gone2 _ _ h1' h2' => cases h1.det h1'; cases h2.det h2'
  | mis _ _ h1' h2' hp' => cases h1.det h1'; cases h2.det h2'; rw [hp] at hp'; cases hp'
  | kids _ _ h1' h2' hp' hk' hn' => cases h1.det h1'; cases h2.det h2'; rw [hp] at hp'; cases hp'; exact absurd (ih1 hk').symm (hn' _)
  | yes _ _ h1' h2' hp' hk' hr' => cases h1.det h1'; cases h2.det h2'; rw [hp] at hp'; cases hp'; cases ih1 hk'; exact ih2 hr'
theorem CR.le {l : List C} {h : Nat} {ps qs : List T} {f : Int} {o : Option (Bool × Int)} (H : CR l h ps qs f o) : 0 <= f -> ∀ b g, o = some (b, g) -> 0 <= g /\ g <= f := by
 induction H with
 | nil => intro h0 b g e; cases e; omega
 | out | gone1 _ _ _ | gone2 _ _ _ _ => intro h0 b g e; cases e
 | same hf hs hr ih => intro h0 b g e; have := ih (by omega) b g e; omega
 | mis hf hs h1 h2 hp => intro h0 b g e; cases e; have := h1.le; have := h2.le; omega
 | kids hf hs h1 h2 hp hk hn ih => intro h0 b g e; have := h1.le; have := h2.le; have := ih (by omega) b g e; omega
 | yes hf hs h1 h2 hp hk hr ih1 ih2 => intro h0 b g e; have := h1.le; have := h2.le; have := ih1 (by omega) _ _ rfl; have := ih2 (by omega) b g e; omega
theorem CR.more {l : List C} {h : Nat} {ps qs : List T} {f d : Int} {o : Option (Bool × Int)} (H : CR l h ps qs f o) (hd : 0 <= d) : ∀ b g, o = some (b, g) -> CR l h ps qs (f + d) (some (b, g + d)) := by
 induction H with
 | nil => intro b g e; cases e; exact .nil
 | out | gone1 _ _ _ | gone2 _ _ _ _ => intro b g e; cases e
 | @same h p q ps qs f o hf hs hr ih =>
  intro b g e
  have := ih b g e
  rw [show f - 1 + d = f + d - 1 by omega] at this
  exact .same (by omega) hs this
 | @mis h p q x y ps qs f f1 f2 hf hs h1 h2 hp =>
  intro b g e; cases e
  have := h1.more hd
  rw [show f - 1 + d = f + d - 1 by omega] at this
  exact .mis (by omega) hs this (h2.more hd) hp
 | @kids h p q x y ps qs ds bs f f1 f2 o hf hs h1 h2 hp hk hn ih =>
  intro b g e
  have h3 := h1.more hd
  rw [show f - 1 + d = f + d - 1 by omega] at h3
  refine .kids (by omega) hs h3 (h2.more hd) hp (ih b g e) fun g' e' => ?_
  cases e'
  exact hn g e
 | @yes h p q x y ps qs ds bs f f1 f2 g' o hf hs h1 h2 hp hk hr ih1 ih2 =>
  intro b g e
  have h3 := h1.more hd
  rw [show f - 1 + d = f + d - 1 by omega] at h3
  exact .yes (by omega) hs h3 (h2.more hd) hp (ih1 _ _ rfl) (ih2 b g e)
theorem cr_total (l : List C) (n : Nat) : ∀ (ps qs : List T), ps.length = qs.length -> ∀ f : Int, 0 <= f -> f <= n -> ∃ h o, CR l h ps qs f o := by
 induction n using Nat.strongRecOn with
 | ind n ihn =>
  intro ps
  induction ps with
  | nil => intro qs hl f _ _; cases qs with
   | nil => exact ⟨0, _, .nil⟩
   | cons _ _ => cases hl
  | cons p ps ihp =>
   intro qs hl f h0 h1
   cases qs with
   | nil => cases hl
   | cons q qs =>
    have hl' : ps.length = qs.length := by simpa using hl
    by_cases hf : f = 0
    ·subst hf; exact ⟨1, _, .out⟩
    have hf1 : 1 <= f := by omega
    cases hs : p.sameB q with
    | true =>
     obtain ⟨h, o, H⟩ := ihn (n - 1) (by omega) ps qs hl' (f - 1) (by omega) (by omega)
     exact ⟨h + 1, o, .same hf1 hs (H.mono (by omega))⟩
    | false =>
     obtain ⟨o1, g1⟩ := hdO_total l p (f - 1) (by omega)
     cases o1 with
     | none => exact ⟨1, _, .gone1 hf1 hs g1⟩
     | some v1 =>
      obtain ⟨x, f1⟩ := v1
      have l1 := g1.le
      obtain ⟨o2, g2⟩ := hdO_total l q f1 l1.1
      cases o2 with
      | none => exact ⟨1, _, .gone2 hf1 hs g1 g2⟩
      | some v2 =>
       obtain ⟨y, f2⟩ := v2
       have l2 := g2.le
       cases hp : prs x y with
       | none => exact ⟨1, _, .mis hf1 hs g1 g2 hp⟩
       | some v =>
        obtain ⟨ds, bs⟩ := v
        obtain ⟨h, o, H⟩ := ihn (n - 1) (by omega) ds bs (prs_len hp) f2 l2.1 (by omega)
        by_cases hn : ∃ g, o = some (true, g)
        ·obtain ⟨g, rfl⟩ := hn
         have l3 := H.le l2.1 _ _ rfl
         obtain ⟨h', o', H'⟩ := ihn (n - 1) (by omega) ps qs hl' g l3.1 (by omega)
         exact ⟨max h h' + 1, o', .yes hf1 hs g1 g2 hp (H.mono (Nat.le_max_left ..)) (H'.mono (by have := Nat.le_max_right h h'; omega))⟩
        ·exact ⟨h + 1, o, .kids hf1 hs g1 g2 hp H fun g e => hn ⟨g, e⟩⟩
theorem CR.split {l : List C} {h : Nat} {p q : T} {ps qs : List T} {f : Int} {o : Option (Bool × Int)} (H : CR l (h + 1) (p :: ps) (q :: qs) f o) :
  (CR l (h + 1) [p] [q] f none /\ o = none) \/ (∃ g, CR l (h + 1) [p] [q] f (some (false, g)) /\ o = some (false, g)) \/ ∃ g, CR l (h + 1) [p] [q] f (some (true, g)) /\ CR l (h + 1) ps qs g o := by
 cases H with
 | out => exact .inl ⟨.out, rfl⟩
 | same hf hs hr => exact .inr (.inr ⟨_, .same hf hs .nil, hr⟩)
 | gone1 hf hs h1 => exact .inl ⟨.gone1 hf hs h1, rfl⟩
 | gone2 hf hs h1 h2 => exact .inl ⟨.gone2 hf hs h1 h2, rfl⟩
 | mis hf hs h1 h2 hp => exact .inr (.inl ⟨_, .mis hf hs h1 h2 hp, rfl⟩)
 | kids hf hs h1 h2 hp hk hn =>
  cases o with
  | none => exact .inl ⟨.kids hf hs h1 h2 hp hk hn, rfl⟩
  | some v =>
   obtain ⟨b, g⟩ := v
   cases b with
   | true => exact absurd rfl (hn g)
   | false => exact .inr (.inl ⟨g, .kids hf hs h1 h2 hp hk hn, rfl⟩)
 | yes hf hs h1 h2 hp hk hr => exact .inr (.inr ⟨_, .yes hf hs h1 h2 hp hk .nil, hr⟩)
theorem eqAll_symm {α : Type} {p : α -> α -> Bool} (hp : ∀ a b, p a b = p b a) (l m : List α) : eqAll p l m = eqAll p m l := by
 induction l generalizing m with
 | nil => cases m <;> rfl
 | cons a r ih => cases m with
  | nil => rfl
  | cons b s => simp only [eqAll]; rw [hp a b, ih s]
theorem sameLs_symm (l m : List LV) : sameLs l m = sameLs m l := by
 rw [sameLs_all, sameLs_all]
 exact eqAll_symm (fun a b => by simp [eq_comm]) l m
mutual
theorem sameB_symm : ∀ t u : T, t.sameB u = u.sameB t
 | .mk k n a ls ks, .mk k' n' a' ls' ks' => by
  rw [T.sameB, T.sameB, sameLs_symm ls ls', samesB_symm ks ks']
  simp [eq_comm]
theorem samesB_symm : ∀ l m : List T, T.samesB l m = T.samesB m l
 | [], [] => rfl
 | [], _ :: _ => by rw [T.samesB, T.samesB] <;> simp
 | _ :: _, [] => by rw [T.samesB, T.samesB] <;> simp
 | t :: r, u :: s => by rw [T.samesB, T.samesB, sameB_symm t u, samesB_symm r s]
end
mutual
theorem sameB_refl : ∀ t : T, t.sameB t = true
 | .mk k n a ls ks => by rw [T.sameB, sameLs_refl, samesB_refl ks]; simp
theorem samesB_refl : ∀ l : List T, T.samesB l l = true
 | [] => rfl
 | t :: r => by rw [T.samesB, sameB_refl t, samesB_refl r]; rfl
end
theorem alike_symm {x y : T} : alikeT x y ↔ alikeT y x := by
 unfold alikeT
 rw [sameLs_symm x.ls y.ls]
 constructor
 ·rintro ⟨a, b, c, d, e⟩; exact ⟨a.symm, b.symm, c.symm, d.symm, e⟩
 ·rintro ⟨a, b, c, d, e⟩; exact ⟨a.symm, b.symm, c.symm, d.symm, e⟩
theorem prs_symm (x y : T) : prs y x = (prs x y).map fun v => (v.2, v.1) := by
 unfold prs
 by_cases h5 : x.k = 5 \/ y.k = 5
 ·rw [if_pos h5, if_pos h5.symm]; rfl
 ·rw [if_neg h5, if_neg fun h => h5 h.symm]
  by_cases h13 : x.k = 13 \/ y.k = 13
  ·rw [if_pos h13, if_pos h13.symm]; rfl
  ·rw [if_neg h13, if_neg fun h => h13 h.symm]
   by_cases ha : alikeT x y
   ·rw [if_pos ha, if_pos (alike_symm.1 ha)]; rfl
   ·rw [if_neg ha, if_neg fun h => ha (alike_symm.1 h)]; rfl
theorem HdO.cost {l : List C} {t u : T} {f g : Int} (h : HdO l t f (some (u, g))) : ∃ m : Nat, Hd l t m u /\ g = f - m /\ (m : Int) <= f := by
 generalize ho : some (u, g) = o at h
 cases h with
 | fin h hm => cases ho; exact ⟨_, h, rfl, hm⟩
 | gone g => cases ho
theorem HdO.of {l : List C} {t u : T} {f g : Int} {m : Nat} (h : Hd l t m u) (hg : g = f - m) (hm : (m : Int) <= f) : HdO l t f (some (u, g)) := by subst hg; exact .fin h hm
theorem HdO.lt {l : List C} {t u : T} {f : Int} {m : Nat} (h : HdO l t f none) (h2 : Hd l t m u) : f < m := by
 cases h with
 | gone g => exact goneAt_lt g h2
theorem HdO.none_of {l : List C} {t : T} {f : Int} (h0 : 0 <= f) (h : ∀ m u, Hd l t m u -> f < (m : Nat)) : HdO l t f none := by
 obtain ⟨o, H⟩ := hdO_total l t f h0
 cases o with
 | none => exact H
 | some v => obtain ⟨u, g⟩ := v; obtain ⟨m, h1, -, h2⟩ := H.cost; have := h m u h1; omega
theorem swap2 {l : List C} {p q x y : T} {f f1 f2 : Int} (h1 : HdO l p f (some (x, f1))) (h2 : HdO l q f1 (some (y, f2))) : ∃ f1', HdO l q f (some (y, f1')) /\ HdO l p f1' (some (x, f2)) := by
 obtain ⟨m, a1, a2, a3⟩ := h1.cost
 obtain ⟨n, b1, b2, b3⟩ := h2.cost
 exact ⟨f - n, .of b1 rfl (by omega), .of a1 (by omega) (by omega)⟩
theorem CR.symm {l : List C} {h : Nat} {ps qs : List T} {f : Int} {o : Option (Bool × Int)} (H : CR l h ps qs f o) : CR l h qs ps f o := by
 induction H with
 | nil => exact .nil
 | out => exact .out
 | same hf hs hr ih => exact .same hf (by rw [sameB_symm]; exact hs) ih
 | @gone1 h p q ps qs f hf hs h1 =>
  have hs' : q.sameB p = false := by rw [sameB_symm]; exact hs
  obtain ⟨o, H⟩ := hdO_total l q (f - 1) (by omega)
  cases o with
  | none => exact .gone1 hf hs' H
  | some v =>
   obtain ⟨y, f2⟩ := v
   have := H.le
   exact .gone2 hf hs' H (.none_of this.1 fun m u hd => by have := h1.lt hd; omega)
 | @gone2 h p q x ps qs f f1 hf hs h1 h2 =>
  have hs' : q.sameB p = false := by rw [sameB_symm]; exact hs
  obtain ⟨m, a1, a2, a3⟩ := h1.cost
  obtain ⟨o, H⟩ := hdO_total l q (f - 1) (by omega)
  cases o with
  | none => exact .gone1 hf hs' H
  | some v =>
   obtain ⟨y, f2⟩ := v
   obtain ⟨n, b1, b2, b3⟩ := H.cost
   have := h2.lt b1
   exact .gone2 hf hs' H (.none_of (by omega) fun m' u hd => by
    obtain ⟨rfl, -⟩ := a1.det hd
    omega)
 | mis hf hs h1 h2 hp =>
  obtain ⟨f1', c1, c2⟩ := swap2 h1 h2
  exact .mis hf (by rw [sameB_symm]; exact hs) c1 c2 (by rw [prs_symm, hp]; rfl)
 | kids hf hs h1 h2 hp hk hn ih =>
  obtain ⟨f1', c1, c2⟩ := swap2 h1 h2
  exact .kids hf (by rw [sameB_symm]; exact hs) c1 c2 (by rw [prs_symm, hp]; rfl) ih hn
 | yes hf hs h1 h2 hp hk hr ih1 ih2 =>
  obtain ⟨f1', c1, c2⟩ := swap2 h1 h2
  exact .yes hf (by rw [sameB_symm]; exact hs) c1 c2 (by rw [prs_symm, hp]; rfl) ih1 ih2
theorem LR.mono {l : List C} {h : Nat} {p q : T} {f : Int} {o : Option (Bool × Int)} (H : LR l h p q f o) : ∀ {h' : Nat}, h <= h' -> LR l h' p q f o := by
 induction H with
 | out => intro h' _; exact .out
 | same hf hs => intro h' _; exact .same hf hs
 | gone1 hf hs h1 => intro h' _; exact .gone1 hf hs h1
 | gone2 hf hs h1 h2 => intro h' _; exact .gone2 hf hs h1 h2
 | sort hf hs h1 h2 hx hy => intro h' _; exact .sort hf hs h1 h2 hx hy
 | pino hf hs h1 h2 hx hy hk hn => intro h' hh; exact .pino hf hs h1 h2 hx hy (hk.mono hh) hn
 | pi hf hs h1 h2 hx hy hk hr ih => intro h' hh; exact .pi hf hs h1 h2 hx hy (hk.mono hh) (ih hh)
 | one hf hs h1 h2 hn hn2 hr => intro h' hh; exact .one hf hs h1 h2 hn hn2 (hr.mono hh)
theorem LR.more {l : List C} {h : Nat} {p q : T} {f d : Int} {o : Option (Bool × Int)} (H : LR l h p q f o) (hd : 0 <= d) : ∀ b g, o = some (b, g) -> LR l h p q (f + d) (some (b, g + d)) := by
 induction H with
 | out | gone1 _ _ _ | gone2 _ _ _ _ => intro b g e; cases e
 | @same p q f hf hs =>
  intro b g e; cases e
  have := LR.same (l := l) (h := h) (f := f + d) (by omega) hs
  rw [show f + d - 1 = f - 1 + d by omega] at this
  exact this
 | @sort p q x y a b f f1 f2 hf hs h1 h2 hx hy =>
  intro b' g e; cases e
  have h3 := h1.more hd
  rw [show f - 1 + d = f + d - 1 by omega] at h3
  exact .sort (by omega) hs h3 (h2.more hd) hx hy
 | @pino p q x y f f1 f2 o hf hs h1 h2 hx hy hk hn =>
  intro b g e
  have h3 := h1.more hd
  rw [show f - 1 + d = f + d - 1 by omega] at h3
  exact .pino (by omega) hs h3 (h2.more hd) hx hy (hk.more hd b g e) fun g' e' => by cases e'; exact hn g e
 | @pi p q x y f f1 f2 g' o hf hs h1 h2 hx hy hk hr ih =>
  intro b g e
  have h3 := h1.more hd
  rw [show f - 1 + d = f + d - 1 by omega] at h3
  exact .pi (by omega) hs h3 (h2.more hd) hx hy (hk.more hd _ _ rfl) (ih b g e)
 | @one p q x y f f1 f2 o hf hs h1 h2 hn hn2 hr =>
  intro b g e
  have h3 := h1.more hd
  rw [show f - 1 + d = f + d - 1 by omega] at h3
  exact .one (by omega) hs h3 (h2.more hd) hn hn2 (hr.more hd b g e)
theorem LR.le {l : List C} {h : Nat} {p q : T} {f : Int} {o : Option (Bool × Int)} (H : LR l h p q f o) : ∀ b g, o = some (b, g) -> 0 <= g /\ g <= f := by
 induction H with
 | out | gone1 _ _ _ | gone2 _ _ _ _ => intro b g e; cases e
 | same hf hs => intro b g e; cases e; omega
 | sort hf hs h1 h2 hx hy => intro b' g e; cases e; have := h1.le; have := h2.le; omega
 | pino hf hs h1 h2 hx hy hk hn => intro b g e; have := h1.le; have := h2.le; have := hk.le (by omega) b g e; omega
 | pi hf hs h1 h2 hx hy hk hr ih => intro b g e; have := h1.le; have := h2.le; have := hk.le (by omega) _ _ rfl; have := ih b g e; omega
 | one hf hs h1 h2 hn hn2 hr => intro b g e; have := h1.le; have := h2.le; have := hr.le (by omega) b g e; omega
def T.withKs (t : T) (ks : List T) : T := .mk t.k t.n t.a t.ls ks
inductive Nms (l : List C) : Nat -> List T -> Nat -> List T -> Prop where
 | nil {h : Nat} : Nms l h [] 0 []
 | cons {h : Nat} {t u : T} {r ks xs : List T} {m n p : Nat} (hd : Hd l t m u) (hk : Nms l h u.ks n ks) (hr : Nms l (h + 1) r p xs) : Nms l (h + 1) (t :: r) (m + n + p) (u.withKs ks :: xs)
inductive NsGone (l : List C) : Nat -> List T -> Int -> Prop where
 | head {h : Nat} {t : T} {r : List T} {f q : Int} (g : GoneAt l t f q) : NsGone l (h + 1) (t :: r) f
 | kids {h : Nat} {t u : T} {r : List T} {m : Nat} {f : Int} (hd : Hd l t m u) (hm : (m : Int) <= f) (g : NsGone l h u.ks (f - m)) : NsGone l (h + 1) (t :: r) f
 | rest {h : Nat} {t u : T} {r ks : List T} {m n : Nat} {f : Int} (hd : Hd l t m u) (hk : Nms l h u.ks n ks) (hm : (m : Int) + n <= f) (g : NsGone l (h + 1) r (f - (m + n))) : NsGone l (h + 1) (t :: r) f
theorem Nms.mono {l : List C} {h : Nat} {ts xs : List T} {n : Nat} (H : Nms l h ts n xs) : ∀ {h' : Nat}, h <= h' -> Nms l h' ts n xs := by
 induction H with
 | nil => intro h' _; exact .nil
 | cons hd hk hr ih1 ih2 =>
  intro h' hh
  obtain ⟨k, rfl⟩ : ∃ k, h' = k + 1 := ⟨h' - 1, by omega⟩
  exact .cons hd (ih1 (by omega)) (ih2 hh)
theorem NsGone.mono {l : List C} {h : Nat} {ts : List T} {f : Int} (H : NsGone l h ts f) : ∀ {h' : Nat}, h <= h' -> NsGone l h' ts f := by
 induction H with
 | head g => intro h' hh; obtain ⟨k, rfl⟩ : ∃ k, h' = k + 1 := ⟨h' - 1, by omega⟩; exact .head g
 | kids hd hm g ih => intro h' hh; obtain ⟨k, rfl⟩ : ∃ k, h' = k + 1 := ⟨h' - 1, by omega⟩; exact .kids hd hm (ih (by omega))
 | rest hd hk hm g ih => intro h' hh; obtain ⟨k, rfl⟩ : ∃ k, h' = k + 1 := ⟨h' - 1, by omega⟩; exact .rest hd (hk.mono (by omega)) hm (ih hh)
theorem Nms.det {l : List C} {h : Nat} {ts xs : List T} {n : Nat} (H : Nms l h ts n xs) : ∀ {h' m : Nat} {ys : List T}, Nms l h' ts m ys -> n = m /\ xs = ys := by
 induction H with
 | nil => intro h' m ys K; cases K; exact ⟨rfl, rfl⟩
 | cons hd hk hr ih1 ih2 =>
  intro h' m ys K
  cases K with
  | cons hd' hk' hr' =>
   obtain ⟨rfl, rfl⟩ := hd.det hd'
   obtain ⟨rfl, rfl⟩ := ih1 hk'
   obtain ⟨rfl, rfl⟩ := ih2 hr'
   exact ⟨rfl, rfl⟩
theorem Nms.len {l : List C} {h : Nat} {ts xs : List T} {n : Nat} (H : Nms l h ts n xs) : xs.length = ts.length := by
 induction H with
 | nil => rfl
 | cons _ _ _ _ ih => simp [ih]
theorem Hd.zero {l : List C} {t u : T} (h : Hd l t 0 u) : u = t.trunc := by
 generalize hm : (0 : Nat) = m at h
 cases h with
 | stop _ => rfl
 | step h r => have := hstep_pos t h; omega
theorem nms_or {l : List C} : ∀ (ts : List T) (f : Int), 0 <= f -> (∀ t, t ∈ ts -> ∀ f' : Int, 0 <= f' -> f' <= f -> (∃ h n x, Nms l h [t] n [x] /\ (n : Int) <= f') \/ ∃ h, NsGone l h [t] f') ->
  (∃ h n xs, Nms l h ts n xs /\ (n : Int) <= f) \/ ∃ h, NsGone l h ts f
 | [], f, h0, _ => .inl ⟨0, 0, [], .nil, h0⟩
 | t :: r, f, h0, H => by
  rcases H t (List.mem_cons_self ..) f h0 (Int.le_refl _) with ⟨h, n, x, hx, hn⟩ | ⟨h, g⟩
  ·cases hx with
   | @cons h' _ u _ ks xs m n' p hd hk hr =>
    cases hr
    rcases nms_or r (f - (m + n' : Nat)) (by omega) (fun t' ht' f' a b => H t' (List.mem_cons_of_mem _ ht') f' a (by omega)) with ⟨h2, n2, xs2, hx2, hn2⟩ | ⟨h2, g2⟩
    ·exact .inl ⟨max h' h2 + 1, _, _, .cons hd (hk.mono (Nat.le_max_left ..)) (hx2.mono (by have := Nat.le_max_right h' h2; omega)), by omega⟩
    ·exact .inr ⟨max h' h2 + 1, .rest hd (hk.mono (Nat.le_max_left ..)) (by omega) (by have x := g2.mono (h' := max h' h2 + 1) (by have := Nat.le_max_right h' h2; omega); rw [Int.natCast_add] at x; exact x)⟩
  ·cases g with
   | head g => exact .inr ⟨_, .head (h := 0) g⟩
   | kids hd hm g => exact .inr ⟨_, .kids hd hm g⟩
   | rest hd hk hm g => cases g
theorem ks_pot {t x : T} (h : x ∈ t.ks) : x.pot + 1 <= t.pot := by
 cases t with
 | mk k n a ls ks =>
  rw [T.pot]
  have := pots_mem (show x ∈ ks from h)
  omega
theorem nm_or (l : List C) (k : Nat) : ∀ (d : Nat) (t : T) (f : Int), 0 <= f -> f <= k -> t.pot <= d -> (∃ h n x, Nms l h [t] n [x] /\ (n : Int) <= f) \/ ∃ h, NsGone l h [t] f := by
 induction k using Nat.strongRecOn with
 | ind k ihk =>
  intro d
  induction d with
  | zero => intro t f h0 h1 h2; have := pot_pos t; omega
  | succ d ihd =>
   intro t f h0 h1 h2
   rcases hd_or_gone l f.toNat t f h0 (by omega) with ⟨m, u, hd, hm⟩ | ⟨q, g⟩
   ·have key : (∃ h n xs, Nms l h u.ks n xs /\ (n : Int) <= f - m) \/ ∃ h, NsGone l h u.ks (f - m) := by
     refine nms_or u.ks (f - m) (by omega) fun t' ht' f' a b => ?_
     rcases Nat.eq_zero_or_pos m with rfl | hp
     ·have e := hd.zero
      subst e
      have := trunc_pot t
      have := ks_pot ht'
      exact ihd t' f' a (by omega) (by omega)
     ·exact ihk (k - 1) (by omega) t'.pot t' f' a (by omega) (Nat.le_refl _)
    rcases key with ⟨h, n, xs, hx, hn⟩ | ⟨h, g⟩
    ·exact .inl ⟨h + 1, m + n + 0, _, .cons hd hx .nil, by omega⟩
    ·exact .inr ⟨h + 1, .kids hd hm g⟩
   ·exact .inr ⟨1, .head (h := 0) g⟩
theorem deep_pot (t : T) : t.deep <= t.pot := Nat.le_trans t.deep_nsz (nsz_pot t)
theorem hd_pars {l : List C} (hB : WsL l) {t v : T} {m : Nat} (h : Hd l t m v) : ∀ {sc : Nat}, Ws t sc -> sc + 1 + t.pot + 7 * m <= SB -> Pars l t v /\ Ws v sc := by
 induction h with
 | @stop t h => intro sc hw hb; rw [ws_trunc hw]; exact ⟨.refl _, hw⟩
 | @step t u v c n h r ih =>
  intro sc hw hb
  have hd := deep_pot t
  obtain ⟨h1, h2⟩ := hstep_par hB hw (by omega) h
  have hp := hstep_pot t h
  obtain ⟨h3, h4⟩ := ih h2 (by omega)
  exact ⟨.step h1 h3, h4⟩
def okW (f : Int) (t : T) : Prop := ∃ sc : Nat, Ws t sc /\ sc + t.pot + 8 * f.toNat + 10 <= SB
theorem okW.le {f g : Int} {t : T} (h : okW f t) (hg : g <= f) : okW g t := by obtain ⟨sc, h1, h2⟩ := h; exact ⟨sc, h1, by omega⟩
theorem hdO_pars {l : List C} (hB : WsL l) {t u : T} {f g : Int} (hw : okW f t) (h : HdO l t f (some (u, g))) : Pars l t u /\ okW g u /\ Stk l u := by
 obtain ⟨m, h1, h2, h3⟩ := h.cost
 obtain ⟨sc, w, hb⟩ := hw
 obtain ⟨p1, p2⟩ := hd_pars hB h1 w (by omega)
 have hp := h1.pot
 exact ⟨p1, ⟨sc, p2, by omega⟩, stk_of p2 h1.done.1⟩
theorem par_at {l : List C} {k n a : Int} {ls : List LV} {pre r : List T} {x y : T} (h : Par l x y) : Par l (.mk k n a ls (pre ++ x :: r)) (.mk k n a ls (pre ++ y :: r)) := by
 refine .node (by simp) fun i hi => ?_
 by_cases h1 : i < pre.length
 ·rw [List.getD_eq_getElem?_getD, List.getD_eq_getElem?_getD, List.getElem?_append_left h1, List.getElem?_append_left h1]
  exact .refl _ _
 ·obtain ⟨j, rfl⟩ : ∃ j, i = pre.length + j := ⟨i - pre.length, by omega⟩
  rw [List.getD_eq_getElem?_getD, List.getD_eq_getElem?_getD, List.getElem?_append_right (by omega), List.getElem?_append_right (by omega), show pre.length + j - pre.length = j by omega]
  cases j with
  | zero => exact h
  | succ j => exact .refl _ _
theorem pars_at {l : List C} {k n a : Int} {ls : List LV} {pre r : List T} {x y : T} (h : Pars l x y) : Pars l (.mk k n a ls (pre ++ x :: r)) (.mk k n a ls (pre ++ y :: r)) := by
 induction h with
 | refl t => exact .refl _
 | step h r ih => exact .step (par_at h) ih
theorem pars_kids {l : List C} {k n a : Int} {ls : List LV} : ∀ {ks ks' pre : List T}, ks'.length = ks.length -> (∀ i, i < ks.length -> Pars l (ks.getD i Wl) (ks'.getD i Wl)) -> Pars l (.mk k n a ls (pre ++ ks)) (.mk k n a ls (pre ++ ks'))
 | [], ks', pre, hl, _ => by
  have : ks' = [] := List.length_eq_zero_iff.1 hl
  subst this
  exact .refl _
 | x :: r, [], pre, hl, _ => by simp at hl
 | x :: r, y :: s, pre, hl, h => by
  have h0 : Pars l x y := h 0 (by simp)
  have h1 := pars_kids (l := l) (k := k) (n := n) (a := a) (ls := ls) (ks := r) (ks' := s) (pre := pre ++ [y]) (by simpa using hl) fun i hi => by
   have := h (i + 1) (by simpa using hi)
   simpa using this
  rw [List.append_assoc, List.append_assoc] at h1
  exact (pars_at h0).trans h1
theorem pars_node {l : List C} {k n a : Int} {ls : List LV} {ks ks' : List T} (hl : ks'.length = ks.length) (h : ∀ i, i < ks.length -> Pars l (ks.getD i Wl) (ks'.getD i Wl)) : Pars l (.mk k n a ls ks) (.mk k n a ls ks') :=
 pars_kids (pre := []) hl h
theorem eqv_node {l : List C} {t u : T} (h1 : t.k = u.k) (h2 : t.n = u.n) (h3 : t.a = u.a) (h4 : t.ls.map Wq = u.ls.map Wq) (h5 : t.ks.length = u.ks.length) (h : ∀ i, i < t.ks.length -> Eqv l (t.kid i) (u.kid i)) : Eqv l t u := by
 let c : List T := List.ofFn (n := t.ks.length) fun i => (h i.1 i.2).choose
 have hc : ∀ i (hi : i < t.ks.length), c.getD i Wl = (h i hi).choose := fun i hi => by simp [c, List.getD_eq_getElem?_getD, List.getElem?_ofFn, hi]
 have hcl : c.length = t.ks.length := by simp [c]
 refine ⟨.mk t.k t.n t.a (t.ls.map Wq) c, ?_, ?_⟩
 ·cases t with
  | mk k n a ls ks =>
   rw [T.nl]
   refine pars_node (by rw [hcl, nls_map, List.length_map]; rfl) fun i hi => ?_
   rw [nls_map, List.length_map] at hi
   rw [nl_getD, hc i hi]
   exact (h i hi).choose_spec.1
 ·cases u with
  | mk k n a ls ks =>
   simp only [T.k_mk, T.n_mk, T.a_mk, T.ls_mk, T.ks_mk] at h1 h2 h3 h4 h5
   rw [T.nl, h1, h2, h3, h4]
   refine pars_node (by rw [hcl, nls_map, List.length_map, h5]) fun i hi => ?_
   rw [nls_map, List.length_map] at hi
   rw [nl_getD, hc i (by omega)]
   exact (h i (by omega)).choose_spec.2
theorem pars_liftI {l : List C} (hc : Closed l) {t u : T} (h : Pars l t u) (n c : Nat) : Pars l (t.liftI n c) (u.liftI n c) := by
 induction h with
 | refl t => exact .refl _
 | step h r ih => exact .step (par_lift hc h n c) ih
theorem eqv_liftI {l : List C} (hc : Closed l) {t u : T} (h : Eqv l t u) (n c : Nat) : Eqv l (t.liftI n c) (u.liftI n c) := by
 obtain ⟨a, h1, h2⟩ := h
 exact ⟨a.liftI n c, by rw [nl_liftI]; exact pars_liftI hc h1 n c, by rw [nl_liftI]; exact pars_liftI hc h2 n c⟩
theorem eqv_of2 {l : List C} {k : Int} {x y x' y' : T} (h1 : Eqv l x x') (h2 : Eqv l y y') : Eqv l (ofT k [x, y]) (ofT k [x', y']) := by
 refine eqv_node rfl rfl rfl rfl rfl fun i hi => ?_
 match i, hi with
 | 0, _ => exact h1
 | 1, _ => exact h2
 | i + 2, h => exact absurd h (by unfold ofT; simp)
theorem eqv_of1 {l : List C} {k : Int} {x x' : T} (h1 : Eqv l x x') : Eqv l (ofT k [x]) (ofT k [x']) := by
 refine eqv_node rfl rfl rfl rfl rfl fun i hi => ?_
 match i, hi with
 | 0, _ => exact h1
 | i + 1, h => exact absurd h (by unfold ofT; simp)
theorem lift_okW {f : Int} {t : T} (h : okW f t) : t.lift 1 0 0 = t.liftI 1 0 := by
 obtain ⟨sc, h1, h2⟩ := h
 have := deep_pot t
 exact lift_eq h1 (by omega) 0 (by omega)
theorem eqv_applied {l : List C} (hc : Closed l) {x y : T} {f g : Int} (hx : okW f x) (hy : okW g y) (h : Eqv l x y) : Eqv l (appliedT x) (appliedT y) := by
 unfold appliedT
 rw [lift_okW hx, lift_okW hy]
 exact eqv_of2 (eqv_liftI hc h 1 0) (.refl _ _)
def EqvL (l : List C) (ps qs : List T) : Prop := ps.length = qs.length /\ ∀ i, Eqv l (ps.getD i Wl) (qs.getD i Wl)
theorem EqvL.refl (l : List C) (ps : List T) : EqvL l ps ps := ⟨rfl, fun _ => .refl _ _⟩
theorem EqvL.cons {l : List C} {p : T} {ps r : List T} (h : EqvL l ps (p :: r)) : ∃ p0 r0, ps = p0 :: r0 /\ Eqv l p0 p /\ EqvL l r0 r := by
 obtain ⟨h1, h2⟩ := h
 cases ps with
 | nil => simp at h1
 | cons p0 r0 => exact ⟨p0, r0, rfl, by simpa using h2 0, by simpa using h1, fun i => by simpa using h2 (i + 1)⟩
theorem eqvL_1 {l : List C} {x y : T} (h : Eqv l x y) : EqvL l [x] [y] := ⟨rfl, fun i => by
 match i with
 | 0 => exact h
 | i + 1 => exact .refl _ _⟩
theorem eqvL_2 {l : List C} {x y x' y' : T} (h : Eqv l x x') (h2 : Eqv l y y') : EqvL l [x, y] [x', y'] := ⟨rfl, fun i => by
 match i with
 | 0 => exact h
 | 1 => exact h2
 | i + 2 => exact .refl _ _⟩
theorem eqvL_3 {l : List C} {x y z x' y' z' : T} (h : Eqv l x x') (h2 : Eqv l y y') (h3 : Eqv l z z') : EqvL l [x, y, z] [x', y', z'] := ⟨rfl, fun i => by
 match i with
 | 0 => exact h
 | 1 => exact h2
 | 2 => exact h3
 | i + 3 => exact .refl _ _⟩
theorem parts_eqv {l : List C} (hc : Closed l) {x y : T} {f g : Int} (hx : okW f x) (hy : okW g y) (hk : x.k = y.k) (h : Eqv l x y) (hks : ∀ i, Eqv l (x.kid i) (y.kid i)) (k : Int) : EqvL l (partsT k x) (partsT k y) := by
 unfold partsT
 rw [hk]
 split
 ·split
  ·exact eqvL_2 (hks 0) (hks 1)
  ·exact eqvL_1 (hks 1)
 ·split
  ·exact eqvL_2 (eqv_of1 h) (eqv_of1 h)
  ·exact eqvL_1 (eqv_applied hc hx hy h)
theorem matters_eqv {l : List C} {x y : T} (hk : x.k = y.k) (hl : x.ks.length = y.ks.length) (hks : ∀ i, Eqv l (x.kid i) (y.kid i)) : EqvL l (mattersT x) (mattersT y) := by
 unfold mattersT
 rw [hk]
 split
 ·exact eqvL_3 (hks 2) (hks 3) (hks 4)
 ·split
  ·exact eqvL_3 (hks 2) (hks 3) (hks 5)
  ·exact ⟨hl, hks⟩
theorem prs_eqv {l : List C} (hc : Closed l) {x y x0 y0 : T} {f g f' g' : Int} (hx : okW f x) (hy : okW g y) (hx0 : okW f' x0) (hy0 : okW g' y0) (sx : Stk l x) (sy : Stk l y) (sx0 : Stk l x0) (sy0 : Stk l y0) (ex : Eqv l x0 x) (ey : Eqv l y0 y) {ds bs : List T} (h : prs x0 y0 = some (ds, bs)) :
  ∃ ds' bs', prs x y = some (ds', bs') /\ EqvL l ds ds' /\ EqvL l bs bs' := by
 obtain ⟨a1, a2, a3, a4, a5, a6⟩ := ex.stk sx0 sx
 obtain ⟨b1, b2, b3, b4, b5, b6⟩ := ey.stk sy0 sy
 unfold prs at h ⊢
 rw [a1, b1] at h
 by_cases h5 : x.k = 5 \/ y.k = 5
 ·rw [if_pos h5] at h ⊢
  cases h
  exact ⟨_, _, rfl, parts_eqv hc hx0 hx a1 ex a6 5, parts_eqv hc hy0 hy b1 ey b6 5⟩
 rw [if_neg h5] at h ⊢
 by_cases h13 : x.k = 13 \/ y.k = 13
 ·rw [if_pos h13] at h ⊢
  cases h
  exact ⟨_, _, rfl, parts_eqv hc hx0 hx a1 ex a6 13, parts_eqv hc hy0 hy b1 ey b6 13⟩
 rw [if_neg h13] at h ⊢
 split at h
 ·rename_i ha
  cases h
  have ha' : alikeT x y := by
   unfold alikeT at ha ⊢
   rw [sameLs_nl] at a5 b5 ha ⊢
   exact ⟨by omega, by omega, by omega, by omega, by rw [<- a5, <- b5]; exact ha.2.2.2.2⟩
  rw [if_pos ha']
  exact ⟨_, _, rfl, matters_eqv a1 a4 a6, matters_eqv b1 b4 b6⟩
 ·cases h
theorem prs_one {l : List C} (hc : Closed l) {x y : T} {f g : Int} (hx : okW f x) (hy : okW g y) (sx : Stk l x) (sy : Stk l y) (e : Eqv l x y) : ∃ ds bs, prs x y = some (ds, bs) /\ EqvL l ds bs := by
 obtain ⟨a1, a2, a3, a4, a5, a6⟩ := e.stk sx sy
 unfold prs
 by_cases h5 : x.k = 5 \/ y.k = 5
 ·rw [if_pos h5]; exact ⟨_, _, rfl, parts_eqv hc hx hy a1 e a6 5⟩
 rw [if_neg h5]
 by_cases h13 : x.k = 13 \/ y.k = 13
 ·rw [if_pos h13]; exact ⟨_, _, rfl, parts_eqv hc hx hy a1 e a6 13⟩
 rw [if_neg h13, if_pos ⟨a1, a2, a3, a4, a5⟩]
 exact ⟨_, _, rfl, matters_eqv a1 a4 a6⟩
mutual
theorem pot_liftW (n fr : Int) : ∀ (t : T) (d : Int), (T.walk (liftTurn n fr) t d).pot = t.pot
 | .mk k m a ls ks, d => by rw [walk_lift, T.pot, T.pot, pots_liftW n fr k ks 0 d, T.walks_length]
theorem pots_liftW (n fr k : Int) : ∀ (ks : List T) (i : Nat) (d : Int), T.pots (T.walks (liftTurn n fr) k ks i d) = T.pots ks
 | [], _, _ => by rw [T.walks]
 | t :: r, i, d => by rw [T.walks, T.pots, T.pots, pot_liftW n fr t, pots_liftW n fr k r]
end
theorem parts_okW {f : Int} {x a : T} (h0 : 0 <= f) (hx : okW (f + 1) x) {k : Int} (hk : k = 5 \/ k = 13) (h : a ∈ partsT k x) : okW f a := by
 obtain ⟨sc, w, hb⟩ := hx
 have hl := ws_len w
 have hf : (f + 1).toNat = f.toNat + 1 := by omega
 unfold partsT at h
 split at h
 ·rename_i hxk
  rcases hk with rfl | rfl
  ·rw [if_neg (by omega)] at h
   simp only [List.mem_cons, List.not_mem_nil, or_false] at h
   subst h
   rw [hxk] at hl
   have : askN 5 x.a = 2 := rfl
   have k1 := w.kid (i := 1) (by omega)
   have hp := ks_pot (t := x) (x := x.kid 1) (by rw [kid_at (by omega)]; exact List.getElem_mem _)
   rw [hxk, up1_yes (by kernel_rfl)] at k1
   exact ⟨sc + 1, k1, by omega⟩
  ·rw [if_pos rfl] at h
   simp only [List.mem_cons, List.not_mem_nil, or_false] at h
   rw [hxk] at hl
   have : askN 13 x.a = 2 := rfl
   have k0 := w.kid (i := 0) (by omega)
   have k1 := w.kid (i := 1) (by omega)
   have hp0 := ks_pot (t := x) (x := x.kid 0) (by rw [kid_at (by omega)]; exact List.getElem_mem _)
   have hp1 := ks_pot (t := x) (x := x.kid 1) (by rw [kid_at (by omega)]; exact List.getElem_mem _)
   rw [hxk, Wp (by kernel_rfl)] at k0 k1
   rcases h with rfl | rfl
   ·exact ⟨sc, k0, by omega⟩
   ·exact ⟨sc, k1, by omega⟩
 ·rcases hk with rfl | rfl
  ·rw [if_neg (by omega)] at h
   simp only [List.mem_cons, List.not_mem_nil, or_false] at h
   subst h
   have he := lift_okW (f := f) ⟨sc, w, by omega⟩
   unfold appliedT
   rw [he]
   have hp : (x.liftI 1 0).pot = x.pot := by rw [<- he]; exact pot_liftW 1 0 x 0
   refine ⟨sc + 1, ws_of2 (sx := sc + 1) (sy := sc + 1) (.inr rfl) (Wp (by kernel_rfl) _) (Wp (by kernel_rfl) _) (ws_lift w 1 0 (Nat.zero_le _)) (ws_var0 (by omega)), ?_⟩
   unfold ofT
   rw [T.pot, T.pots, T.pots, T.pots, T.pot, T.pots, show lackN 1 ([] : List T).length = 0 from rfl, hp]
   rw [show lackN 6 [x.liftI 1 0, T.mk 1 0 0 [] []].length = 0 from rfl]
   omega
  ·rw [if_pos rfl] at h
   simp only [List.mem_cons, List.not_mem_nil, or_false] at h
   have hz : ∀ k : Int, k = 14 \/ k = 15 -> okW f (ofT k [x]) := fun k hk => by
    refine ⟨sc, .mk ⟨by rcases hk with rfl | rfl <;> rfl, fun e => by omega, by rcases hk with rfl | rfl <;> rfl, fun e => by omega⟩ fun i hi => ?_, ?_⟩
    ·match i, hi with
     | 0, _ =>
      rw [Wp (by rcases hk with rfl | rfl <;> kernel_rfl)]
      exact w
    ·unfold ofT
     rw [T.pot, T.pots, T.pots, show lackN k [x].length = 0 from by rcases hk with rfl | rfl <;> rfl]
     omega
   rcases h with rfl | rfl
   ·exact hz 14 (.inl rfl)
   ·exact hz 15 (.inr rfl)
theorem kid_okW {f : Int} {x : T} (hx : okW f x) {i : Nat} (hi : i < x.ks.length) : okW f (x.kid i) := by
 obtain ⟨sc, w, hb⟩ := hx
 have k := w.kid hi
 have hp := ks_pot (t := x) (x := x.kid i) (by rw [kid_at hi]; exact List.getElem_mem _)
 have : up1 sc x.k i <= sc + 1 := by unfold up1; split <;> omega
 exact ⟨_, k, by omega⟩
theorem matters_okW {f : Int} {x a : T} (hx : okW f x) (h : a ∈ mattersT x) : okW f a := by
 have hw := hx
 obtain ⟨sc, w, hb⟩ := hw
 have hl := ws_len w
 unfold mattersT at h
 split at h
 ·rename_i k18
  rw [k18] at hl
  have : askN 18 x.a = 5 := rfl
  simp only [List.mem_cons, List.not_mem_nil, or_false] at h
  rcases h with rfl | rfl | rfl <;> exact kid_okW hx (by omega)
 ·split at h
  ·rename_i k21
   rw [k21] at hl
   have : askN 21 x.a = 6 := rfl
   simp only [List.mem_cons, List.not_mem_nil, or_false] at h
   rcases h with rfl | rfl | rfl <;> exact kid_okW hx (by omega)
  ·obtain ⟨i, hi, rfl⟩ := List.getElem_of_mem h
   rw [<- kid_at hi]
   exact kid_okW hx hi
theorem prs_okW {f : Int} {x y : T} (h0 : 0 <= f) (hx : okW (f + 1) x) (hy : okW (f + 1) y) {ds bs : List T} (h : prs x y = some (ds, bs)) : (∀ a, a ∈ ds -> okW f a) /\ ∀ a, a ∈ bs -> okW f a := by
 unfold prs at h
 split at h
 ·cases h; exact ⟨fun a ha => parts_okW h0 hx (.inl rfl) ha, fun a ha => parts_okW h0 hy (.inl rfl) ha⟩
 ·split at h
  ·cases h; exact ⟨fun a ha => parts_okW h0 hx (.inr rfl) ha, fun a ha => parts_okW h0 hy (.inr rfl) ha⟩
  ·split at h
   ·cases h; exact ⟨fun a ha => matters_okW (hx.le (by omega)) ha, fun a ha => matters_okW (hy.le (by omega)) ha⟩
   ·cases h
theorem hdO_okW1 {l : List C} (hB : WsL l) {t u : T} {f g : Int} (hw : okW (f + 1) t) (h : HdO l t f (some (u, g))) : okW (g + 1) u := (hdO_pars hB hw (h.more (by omega))).2.1
def TT (l : List C) (p q : T) : Prop := p.sameB q = true \/ ∃ h f g, 0 <= f /\ okW f p /\ okW f q /\ CR l h [p] [q] f (some (true, g))
theorem CR.each2 {l : List C} {h : Nat} : ∀ {ps qs : List T} {f g : Int}, 0 <= f -> CR l h ps qs f (some (true, g)) -> ∀ i (hi : i < ps.length) (hj : i < qs.length), ∃ f' g', 0 <= f' /\ f' <= f /\ CR l h [ps[i]] [qs[i]] f' (some (true, g'))
 | [], qs, f, g, _, H, i, hi, hj => absurd hi (by simp)
 | p :: ps, [], f, g, _, H, i, hi, hj => absurd hj (by simp)
 | p :: ps, q :: qs, f, g, h0, H, i, hi, hj => by
  cases h with
  | zero => cases H
  | succ h =>
   rcases H.split with ⟨-, e⟩ | ⟨g', -, e⟩ | ⟨g', h1, h2⟩
   ·cases e
   ·cases e
   ·cases i with
    | zero => exact ⟨f, g', h0, Int.le_refl _, h1⟩
    | succ i =>
     have hle := h1.le h0 _ _ rfl
     obtain ⟨f', g'', a, b, c⟩ := CR.each2 hle.1 h2 i (by simpa using hi) (by simpa using hj)
     exact ⟨f', g'', a, by omega, c⟩
theorem pair_one {l : List C} (hB : WsL l) {p q p0 q0 x y : T} {f1 f2 f3 f4 : Int} (sx : Stk l x) (sy : Stk l y) (ox : okW f1 x) (oy : okW f2 y) (px : Pars l p x) (py : Pars l q y) (e : Eqv l p0 p) (e2 : Eqv l q0 q) (t : TT l p0 q0) :
  ∃ ds bs ds0 bs0, prs x y = some (ds, bs) /\ EqvL l ds0 ds /\ EqvL l bs0 bs /\ ∀ i, i < ds.length -> TT l (ds0.getD i Wl) (bs0.getD i Wl) := by
 have hc := hB.closed
 rcases t with hs | ⟨h, f, g, h0, o1, o2, H⟩
 ·have exy : Eqv l x y := ((Eqv.of_pars px).symm.trans hc e.symm).trans hc ((Eqv.of_same hs).trans hc (e2.trans hc (.of_pars py)))
  obtain ⟨ds, bs, h1, h2⟩ := prs_one hc ox oy sx sy exy
  exact ⟨ds, bs, ds, ds, h1, .refl _ _, h2, fun i _ => .inl (T.same_refl _)⟩
 ·cases hsm : p0.sameB q0 with
  | true =>
   have exy : Eqv l x y := ((Eqv.of_pars px).symm.trans hc e.symm).trans hc ((Eqv.of_same hsm).trans hc (e2.trans hc (.of_pars py)))
   obtain ⟨ds, bs, h1, h2⟩ := prs_one hc ox oy sx sy exy
   exact ⟨ds, bs, ds, ds, h1, .refl _ _, h2, fun i _ => .inl (T.same_refl _)⟩
  | false =>
   cases H with
   | same _ hs' _ => rw [hsm] at hs'; cases hs'
   | kids _ _ _ _ _ _ hn => exact absurd rfl (hn _)
   | @yes h' _ _ x0 y0 _ _ ds0 bs0 _ g1 g2 g3 _ hf _ c1 c2 hp hk hr =>
    have o1' : okW (f - 1 + 1) p0 := by rw [show f - 1 + 1 = f by omega]; exact o1
    have w1 := hdO_okW1 hB o1' c1
    have l1 := c1.le
    have l2 := c2.le
    have w2 := hdO_okW1 hB (o2.le (show g1 + 1 <= f by omega)) c2
    obtain ⟨p1, -, s1⟩ := hdO_pars hB (o1.le (show f - 1 <= f by omega)) c1
    obtain ⟨p2, -, s2⟩ := hdO_pars hB (o2.le (show g1 <= f by omega)) c2
    have ex : Eqv l x0 x := (Eqv.of_pars p1).symm.trans hc (e.trans hc (.of_pars px))
    have ey : Eqv l y0 y := (Eqv.of_pars p2).symm.trans hc (e2.trans hc (.of_pars py))
    obtain ⟨ds, bs, h1, h2, h3⟩ := prs_eqv hc ox oy w1 w2 sx sy s1 s2 ex ey hp
    refine ⟨ds, bs, ds0, bs0, h1, h2, h3, fun i hi => .inr ?_⟩
    obtain ⟨k1, k2⟩ := prs_okW l2.1 (w1.le (show g2 + 1 <= g1 + 1 by omega)) w2 hp
    have hi0 : i < ds0.length := by rw [h2.1]; exact hi
    have hj0 : i < bs0.length := by rw [<- prs_len hp]; exact hi0
    obtain ⟨f', g', a, b, c⟩ := hk.each2 l2.1 i hi0 hj0
    rw [getD_in hi0, getD_in hj0]
    exact ⟨_, f', g', a, (k1 _ (List.getElem_mem hi0)).le b, (k2 _ (List.getElem_mem hj0)).le b, c⟩
theorem conv_no {l : List C} (hB : WsL l) {h : Nat} {ps qs : List T} {f : Int} {o : Option (Bool × Int)} (H : CR l h ps qs f o) : ∀ {ps0 qs0 : List T}, 0 <= f -> (∀ p, p ∈ ps -> okW f p) -> (∀ q, q ∈ qs -> okW f q) -> EqvL l ps0 ps -> EqvL l qs0 qs -> (∀ i, i < ps.length -> TT l (ps0.getD i Wl) (qs0.getD i Wl)) -> ∀ g, o ≠ some (false, g) := by
 induction H with
 | nil => intro ps0 qs0 _ _ _ _ _ _ g e; cases e
 | out | gone1 _ _ _ | gone2 _ _ _ _ => intro ps0 qs0 _ _ _ _ _ _ g e; cases e
 | same hf hs hr ih =>
  intro ps0 qs0 h0 hp hq e1 e2 ht
  obtain ⟨p0, r0, rfl, -, e3⟩ := e1.cons
  obtain ⟨q0, s0, rfl, -, e4⟩ := e2.cons
  exact ih (by omega) (fun x hx => (hp x (List.mem_cons_of_mem _ hx)).le (by omega)) (fun x hx => (hq x (List.mem_cons_of_mem _ hx)).le (by omega)) e3 e4 fun i hi => by
   have := ht (i + 1) (by simpa using hi)
   simpa using this
 | @mis h p q x y ps qs f f1 f2 hf hs c1 c2 hpr =>
  intro ps0 qs0 h0 hp hq e1 e2 ht
  obtain ⟨p0, r0, rfl, e3, -⟩ := e1.cons
  obtain ⟨q0, s0, rfl, e4, -⟩ := e2.cons
  have l1 := c1.le
  obtain ⟨p1, o1, s1⟩ := hdO_pars hB ((hp p (List.mem_cons_self ..)).le (show f - 1 <= f by omega)) c1
  obtain ⟨p2, o2, s2⟩ := hdO_pars hB ((hq q (List.mem_cons_self ..)).le (show f1 <= f by omega)) c2
  obtain ⟨ds, bs, ds0, bs0, h1, -⟩ := pair_one (f3 := 0) (f4 := 0) hB s1 s2 o1 o2 p1 p2 e3 e4 (ht 0 (by simp))
  rw [hpr] at h1
  cases h1
 | @kids h p q x y ps qs ds1 bs1 f f1 f2 o hf hs c1 c2 hpr hk hn ih =>
  intro ps0 qs0 h0 hp hq e1 e2 ht
  obtain ⟨p0, r0, rfl, e3, -⟩ := e1.cons
  obtain ⟨q0, s0, rfl, e4, -⟩ := e2.cons
  have l1 := c1.le
  have l2 := c2.le
  have w1 := hp p (List.mem_cons_self ..)
  have w2 := hq q (List.mem_cons_self ..)
  obtain ⟨p1, o1, s1⟩ := hdO_pars hB (w1.le (show f - 1 <= f by omega)) c1
  obtain ⟨p2, o2, s2⟩ := hdO_pars hB (w2.le (show f1 <= f by omega)) c2
  have v1 := hdO_okW1 hB (f := f - 1) (by rw [show f - 1 + 1 = f by omega]; exact w1) c1
  have v2 := hdO_okW1 hB (w2.le (show f1 + 1 <= f by omega)) c2
  obtain ⟨ds, bs', ds0, bs0, h1, h2, h3, h4⟩ := pair_one (f3 := 0) (f4 := 0) hB s1 s2 o1 o2 p1 p2 e3 e4 (ht 0 (by simp))
  rw [hpr] at h1
  cases h1
  obtain ⟨k1, k2⟩ := prs_okW l2.1 (v1.le (show f2 + 1 <= f1 + 1 by omega)) v2 hpr
  exact ih l2.1 k1 k2 h2 h3 h4
 | @yes h p q x y ps qs ds1 bs1 f f1 f2 g' o hf hs c1 c2 hpr hk hr ih1 ih2 =>
  intro ps0 qs0 h0 hp hq e1 e2 ht
  obtain ⟨p0, r0, rfl, -, e3⟩ := e1.cons
  obtain ⟨q0, s0, rfl, -, e4⟩ := e2.cons
  have l1 := c1.le
  have l2 := c2.le
  have l3 := hk.le l2.1 _ _ rfl
  exact ih2 l3.1 (fun x hx => (hp x (List.mem_cons_of_mem _ hx)).le (by omega)) (fun x hx => (hq x (List.mem_cons_of_mem _ hx)).le (by omega)) e3 e4 fun i hi => by
   have := ht (i + 1) (by simpa using hi)
   simpa using this
theorem conv_same {l : List C} (hB : WsL l) {a b a' b' : T} {h h' : Nat} {f f' g g' : Int} {v v' : Bool} (h0 : 0 <= f) (h0' : 0 <= f') (oa : okW f a) (ob : okW f b) (oa' : okW f' a') (ob' : okW f' b') (e1 : Eqv l a a') (e2 : Eqv l b b') (H : CR l h [a] [b] f (some (v, g))) (H' : CR l h' [a'] [b'] f' (some (v', g'))) : v = v' := by
 have one : ∀ {t x : T}, x ∈ [t] -> x = t := fun h => List.mem_singleton.1 h
 cases v with
 | true =>
  cases v' with
  | true => rfl
  | false => exact absurd rfl (conv_no hB H' (ps0 := [a]) (qs0 := [b]) h0' (fun p hp => by rw [one hp]; exact oa') (fun p hp => by rw [one hp]; exact ob') (eqvL_1 e1) (eqvL_1 e2) (fun i hi => by
    have : i = 0 := by simpa using hi
    subst this
    exact .inr ⟨h, f, g, h0, oa, ob, H⟩) g')
 | false =>
  cases v' with
  | false => rfl
  | true => exact absurd rfl (conv_no hB H (ps0 := [a']) (qs0 := [b']) h0 (fun p hp => by rw [one hp]; exact oa) (fun p hp => by rw [one hp]; exact ob) (eqvL_1 e1.symm) (eqvL_1 e2.symm) (fun i hi => by
    have : i = 0 := by simpa using hi
    subst this
    exact .inr ⟨h', f', g', h0', oa', ob', H'⟩) g)
theorem conv_yes {l : List C} (hB : WsL l) {a b : T} {h : Nat} {f g : Int} {v : Bool} (h0 : 0 <= f) (oa : okW f a) (ob : okW f b) (e : Eqv l a b) (H : CR l h [a] [b] f (some (v, g))) : v = true := by
 have one : ∀ {t x : T}, x ∈ [t] -> x = t := fun h => List.mem_singleton.1 h
 cases v with
 | true => rfl
 | false => exact absurd rfl (conv_no hB H (ps0 := [a]) (qs0 := [a]) h0 (fun p hp => by rw [one hp]; exact oa) (fun p hp => by rw [one hp]; exact ob) (.refl _ _) (eqvL_1 e) (fun i hi => by
   have : i = 0 := by simpa using hi
   subst this
   exact .inl (T.same_refl _)) g)
theorem wpD_fgtO {P : Program} {G : Nat -> Option D} {M : Nat} {Q : DQ} {tl : List D} {hl : List HO} {df : Df} {c : Code} (i : Nat) {ty : TypeId} {ds : List D} (hi : hOf hl i = .cells ty ds) (h : wpD P G M c Q tl (hl.set i (.cells ty (D.fgts ds))) df) : wpD P G M c Q tl hl df := fun ρ0 w0 H0 ρ w a hbs hst => by
 have hlt : i < hl.length := by
  rcases Nat.lt_or_ge i hl.length with h | h
  ·exact h
  ·unfold hOf at hi; rw [List.getD_eq_getElem?_getD, List.getElem?_eq_none h] at hi; cases hi
 refine h ρ0 w0 H0 ρ w a hbs ?_
 have hH : ∀ k, hOf (hl.set i (.cells ty (D.fgts ds))) k = if k = i then .cells ty (D.fgts ds) else hOf hl k := fun k => by
  unfold hOf
  rw [List.getD_eq_getElem?_getD, List.getD_eq_getElem?_getD]
  by_cases hk : k = i
  ·subst hk
   rw [if_pos rfl, List.getElem?_set_self hlt]; rfl
  ·rw [if_neg hk, List.getElem?_set_ne (fun e => hk e.symm)]
 have hlv : ∀ k, (hOf (hl.set i (.cells ty (D.fgts ds))) k).live = (hOf hl k).live := fun k => by
  rw [hH k]
  split
  ·rename_i hk; subst hk; rw [hi]; rfl
  ·rfl
 have hL : ∀ b, Live ρ (hOf (hl.set i (.cells ty (D.fgts ds)))) b -> Live ρ (hOf hl) b := fun b ⟨k, f, q1, q2⟩ => ⟨k, f, q1, by rw [<- hlv k]; exact q2⟩
 have hR := hst.rel
 refine ⟨⟨fun k hk => hR.free k ?_, hR.fresh, fun k b f hk => ?_, fun k l b f g e1 e2 e3 e4 => hR.inj k l b f g e1 e2 (by rw [<- hlv k]; exact e3) (by rw [<- hlv l]; exact e4), hR.glob⟩, ⟨hst.ex.grow, hst.ex.frame, fun b hb hlt => hst.ex.live b (hL b hb) hlt⟩, hst.tmp, hst.size, hst.df⟩
 ·rw [hH k] at hk
  split at hk
  ·cases hk
  ·exact hk
 ·rw [hH k]
  have h2 := hR.obj k b f hk
  split
  ·rename_i hki
   subst hki
   rw [hi] at h2
   obtain ⟨c0, vs, q1, q2⟩ := h2
   exact ⟨c0, vs, q1, RpL_fgt _ _ q2⟩
  ·exact h2
mutual
theorem D.fgt_of_deep : ∀ d : D, d.deep.fgt = d.deep
 | .agg ds => by rw [D.deep, D.fgt, D.fgts_of_deeps ds]
 | .tuple ds => by rw [D.deep, D.fgt, D.fgts_of_deeps ds]
 | .iface t d => by rw [D.deep, D.fgt, D.fgt_of_deep d]
 | .slice els _ => by rw [D.deep, D.fgt]
 | .fn f a b => by simp [D.deep, D.fgt]
 | .ref d => by simp [D.deep, D.fgt]
 | .mapc ks vs => by simp [D.deep, D.fgt]
 | .junk | .int k n | .bool b | .str s | .nilp | .nilf | .nili | .nilm | .box i o | .map i | .own i n | .ebox i sz k o => by simp [D.deep, D.fgt]
theorem D.fgts_of_deeps : ∀ ds : List D, D.fgts (D.deeps ds) = D.deeps ds
 | [] => by rw [D.deeps, D.fgts]
 | d :: r => by rw [D.deeps, D.fgts, D.fgt_of_deep d, D.fgts_of_deeps r]
end
mutual
theorem D.deep_of_fgt : ∀ d : D, d.fgt.deep = d.deep
 | .agg ds => by rw [D.fgt, D.deep, D.deep, D.deeps_of_fgts ds]
 | .tuple ds => by rw [D.fgt, D.deep, D.deep, D.deeps_of_fgts ds]
 | .iface t d => by rw [D.fgt, D.deep, D.deep, D.deep_of_fgt d]
 | .slice els _ => by rw [D.fgt, D.deep, D.deep]
 | .fn f a b => by simp [D.deep, D.fgt]
 | .ref d => by simp [D.deep, D.fgt]
 | .mapc ks vs => by simp [D.deep, D.fgt]
 | .junk | .int k n | .bool b | .str s | .nilp | .nilf | .nili | .nilm | .box i o | .map i | .own i n | .ebox i sz k o => by simp [D.deep, D.fgt]
theorem D.deeps_of_fgts : ∀ ds : List D, D.deeps (D.fgts ds) = D.deeps ds
 | [] => by rw [D.fgts]
 | d :: r => by rw [D.fgts, D.deeps, D.deeps, D.deep_of_fgt d, D.deeps_of_fgts r]
end
def Out.deep : Out -> Out
 | .ret d => .ret d.deep
 | .pan d => .pan d.deep
theorem OutM.deep {ρ : Rho} {w : World} {o : Out} {e : Ending} (h : OutM ρ w o e) : OutM ρ w o.deep e := by
 cases o with
 | ret d => obtain ⟨u, h1, h2⟩ := h; exact ⟨u, h1, Rp_deep _ _ h2⟩
 | pan d => obtain ⟨u, h1, h2⟩ := h; exact ⟨u, h1, Rp_deep _ _ h2⟩
theorem Out.deep_ret {o : Out} {e : D} (h : o.fgt = .ret e) : o.deep.fgt = .ret e.deep := by
 cases o with
 | ret x =>
  have h' : x.fgt = e := by simpa [Out.fgt] using h
  subst h'
  show Out.ret _ = _
  rw [D.fgt_of_deep, D.deep_of_fgt]
 | pan x => simp [Out.fgt] at h
theorem Qu.deepR {P : Program} {G : Nat -> Option D} {f : FuncId} {args : List D} {objs : List HO} {e d : D} (h : Qu P G f args objs (fun o _ => o.fgt = .ret e)) (he : e.deep = d) : Qu P G f args objs (fun o _ => o.fgt = .ret d) := fun ρ w vs hR hv => by
 obtain ⟨h1, h2⟩ := h ρ w vs hR hv
 refine ⟨h1, h2.mono ?_⟩
 rintro e' w' ⟨ρ', out, hc, hp, hm, hr, hx⟩
 exact ⟨ρ', out.deep, hc, (Out.deep_ret hp).trans (by rw [he]), hm.deep, hr, hx⟩
end Go.Proofs.YtebmlojhdnldgaaGreatDoor
