/-
  MW3: the texts Tow Twk Tlf Tpt Tsz Tfr Lmap Lhid Lay Lsort Llev Lmad Lleq Llaw Lpd Lkit, one behind the other.
-/
import Derived.WalkKit
import Derived.Maps.RangeWalk
import Derived.Shelf.SlIterI.Nil
import Derived.Shelf.SortM.Plain
import Derived.Shelf.SortM.SortNone
import Derived.Ground.GgzProg
import Derived.Ground.SlgmProg
import Derived.Test.YtebmlojhdnldgaaGreatDoorChecked
import Derived.Test.YtebmlojhdnldgaaGreatDoorMW2
namespace Go.Proofs.YtebmlojhdnldgaaGreatDoor
set_option linter.unusedSimpArgs false
set_option linter.unusedVariables false
set_option maxHeartbeats 10000000
set_option maxRecDepth 20000
open Go.RowKit
attribute [local simp] Qb Qc Xg Xw opD Qt Qn Qi Qj hOf Xd Xz Xu TK.isAgg TK.known Xf Xh Wv Qv D.ofV inB Wr Xj binX binD binE Xv bndD capB IntKind.min IntKind.max IntKind.signed IntKind.bits Xb late
theorem set_same {α : Type} : ∀ {l : List α} {k : Nat} {x : α}, l[k]? = some x -> l.set k x = l
 | [], k, x, h => by simp at h
 | a :: r, 0, x, h => by simp at h; rw [h]; rfl
 | a :: r, k + 1, x, h => by rw [List.set_cons_succ, set_same (by simpa using h)]
theorem own_spec (t : T) (ht : okT t) : Qu Tryz.prog glob 84 [Qx t] [] (fun o _ => o.fgt = .ret (Qx t)) := by
 obtain ⟨kk, nn, aa, ls, ks⟩ := t
 have hll : ls.length <= Wd := ht.ll
 have hls := ht.ls
 simp only [T.ls_mk] at hls
 have hcl := cloneL_spec ls hll
 rw [Qd]
 simp only [T.k_mk, T.n_mk, T.a_mk, T.ls_mk, T.ks_mk]
 refine Qu.movd Qf (Qp Wc Tryz.func84 rfl (Qw _ _ Tryz.func84 rfl (by decide)) rfl rfl ?_)
 (refine sR fun K hK => ?_; ((repeat (rw [Qa]; simp)); (try simp only [zs])); refine hK _ _ _ ?_; clear hK K)
 (refine sR fun K hK => ?_; ((repeat (rw [Qa]; simp)); (try simp only [zs])))
 refine Xk.objs Qf [] true hcl ?_ ?_ (by decide) (by simp) (by simp [zz, okA, Qr, Qq, hOf, Qe]) (by simp [zz, okA, Qr, Qq, hOf, Qe]) (by simp [zz, okA, Qr, Qq, hOf, Qe]) (by simp [zz, okA, Qr, Qq, hOf, Qe])
 ·rintro o hc (⟨hn, ho, rfl⟩ | ⟨rfl, rfl⟩)
  ·refine ⟨true, ?_⟩
   rw [show told true o = _ from ho]
   clear ho
   have hn' : ls = [] := by cases ls with | nil => rfl | cons _ _ => simp at hn
   subst hn'
   simp [zz, okA, Qr, Qq, hOf, Qe, Out.ren, told, Out.fgt, upO, Qi, Qj]
   ((try simp only [Qb, Qc, Qn, Qi, Qj]); (repeat (rw [Qa]; simp)); (try simp only [zs]))
   (refine hK _ _ _ ?_; clear hK K)
   refine Qg fun K1 hK1 => ?_
   (refine sR fun K hK => ?_; ((repeat (rw [Qa]; simp)); (try simp only [zs])); refine hK _ _ _ ?_; clear hK K)
   refine Za Wc Qf (ti := 3) (tk := 11) (tn := 10) (td := 12) (ts := 26) [3, 11, 12, 13, 14, 15, 16, 17, 18, 19, 20, 21, 22, 23, 24, 25, 26] [] (0) (fun k ys hl => ys = [] /\ hl = [.cells 27 [.int .i64 kk, .int .i64 nn, .int .i64 aa, .slice [] .any, .slice (ks.map Qx) .any], .cells 27 [.int .i64 0, .int .i64 0, .int .i64 0, .slice [] .full, .slice [] .full]]) rfl rfl rfl rfl rfl rfl rfl rfl rfl rfl rfl rfl (by simp) (by decide) rfl (by first | assumption | omega | (unfold Wd; omega)) rfl (by kernel_rfl) (by decide) ?_ ?_ ?_
   ·exact ⟨rfl, rfl⟩
   ·rintro i ys hl A hi
    exact absurd hi (by omega)
   ·rintro ys hl tl' ⟨rfl, rfl⟩ htl
    refine hK1 _ _ _ (wpD_weakL htl ?_)
    simp only [Qv, List.set, List.map_cons, List.map_nil, List.cons_append, List.nil_append]
    (refine sR fun K hK => ?_; ((repeat (rw [Qa]; simp)); (try simp only [zs])); refine hK _ _ _ ?_; clear hK K)
    (refine Qo ?_; (try simp only [zs]); refine Wa.ret rfl (.inl ?_); simp [Qt, Out.fgt, D.fgt, D.fgts])
  ·refine ⟨false, ?_⟩
   simp [zz, okA, Qr, Qq, hOf, Qe, Out.ren, told, Out.fgt, upO, Qi, Qj]
   ((try simp only [Qb, Qc, Qn, Qi, Qj]); (repeat (rw [Qa]; simp)); (try simp only [zs]))
   (refine hK _ _ _ ?_; clear hK K)
   refine Qg fun K1 hK1 => ?_
   (refine sR fun K hK => ?_; ((repeat (rw [Qa]; simp)); (try simp only [zs])); refine hK _ _ _ ?_; clear hK K)
   refine Za Wc Qf (ti := 3) (tk := 11) (tn := 10) (td := 12) (ts := 26) [3, 11, 12, 13, 14, 15, 16, 17, 18, 19, 20, 21, 22, 23, 24, 25, 26] [] (ls.length) (fun k ys hl => ys = [] /\ hl = [.cells 27 [.int .i64 kk, .int .i64 nn, .int .i64 aa, .own 2 ls.length, .slice (ks.map Qx) .any], .cells 27 [.int .i64 0, .int .i64 0, .int .i64 0, .slice [] .full, .slice [] .full], .row 1 (ls.map Wm)]) rfl rfl rfl rfl rfl rfl rfl rfl rfl rfl rfl rfl (by simp) (by decide) rfl (by first | assumption | omega | (unfold Wd; omega)) rfl (by kernel_rfl) (by decide) ?_ ?_ ?_
   ·exact ⟨rfl, rfl⟩
   ·rintro i ys hl A hi ⟨rfl, rfl⟩ hA hA2
    simp only [Qv, List.set, List.map_cons, List.map_nil, List.cons_append, List.nil_append]
    have hi' : (i : Int) < ls.length := by omega
    have hcp := cloneP_spec ls[i] (hls _ (List.getElem_mem hi)).1
    (refine sR fun K hK => ?_; ((repeat (rw [Qa]; simp)); (try simp only [zs])); refine hK _ _ _ ?_; clear hK K)
    (refine dR fun KT hKT => ?_; ((repeat (rw [Qh]; simp [hi, hi', Wm])); (try simp only [Qk])))
    refine cYp (hcp) ?_
    ((try simp only [Ql, Qm, Qn, Qi, Qj]); (repeat (rw [Qh]; simp [hi, hi', Wm])); (try simp only [Qk]))
    (refine hKT _ _ _ _ (by kernel_rfl) ?_; clear hKT KT; (try simp only [zs]))
    rw [show reD (D.agg [D.slice (List.map Xp ls[i]) Cp.any]) [D.slice (List.map Xp ls[i]) Cp.any] = Wm ls[i] from rfl, set_same (by simp [hi])]
    (refine hA _ _ _ (LeT.refl _) (by kernel_rfl) ?_ rfl; simp only [We, List.map_cons, List.map_nil])
    exact ⟨trivial, trivial⟩
   ·rintro ys hl tl' ⟨rfl, rfl⟩ htl
    refine hK1 _ _ _ (wpD_weakL htl ?_)
    simp only [Qv, List.set, List.map_cons, List.map_nil, List.cons_append, List.nil_append]
    (refine wpD_stayO 2 rfl ?_; simp [D.frzs, D.frz, HO.frz, dfFrz, FK.isB, FK.isM, FK.isO, D.isLen])
    (refine sR fun K hK => ?_; ((repeat (rw [Qa]; simp)); (try simp only [zs])); refine hK _ _ _ ?_; clear hK K)
    (refine Qo ?_; (try simp only [zs]); refine Wa.ret rfl (.inl ?_); simp [Qt, Out.fgt, D.fgt, D.fgts])
 ·rintro o hc (⟨hn, ho, rfl⟩ | ⟨rfl, rfl⟩) <;> simp
def walkF (d : Int) (g : FuncId) (cap : List D) : D := .agg [.int .i64 d, .fn (.func g) [] cap]
def Zb (d k : Int) (i : Int) : Int := if Wu k i then IntKind.i64.wrap (d + 1) else d
theorem means_spec (d n : Int) : Qu Tryz.prog glob 83 [.agg [.int .i64 d], .int .i64 n] [] (fun o _ => o.fgt = .ret (.tuple [.int .i64 (IntKind.i64.wrap (n - d)), .bool (decide (d <= n))])) := by
 refine Qu.movd Qf (Qp Wc Tryz.func83 rfl (Qw _ _ Tryz.func83 rfl (by decide)) rfl rfl ?_)
 (refine sR fun K hK => ?_; ((repeat (rw [Qa]; simp)); (try simp only [zs])); refine hK _ _ _ ?_; clear hK K)
 (refine Qg fun K hK => ?_; refine dR fun KT hKT => ?_; ((repeat (rw [Qh]; simp)); (try simp only [Qk])))
 (refine hKT _ _ _ _ (by kernel_rfl) ?_; clear hKT KT; (try simp only [zs]))
 (refine hK _ _ _ ?_; clear hK K)
 (refine Qo ?_; (try simp only [zs]); refine Wa.ret rfl (.inl ?_); simp [Qt, Out.fgt, D.fgt, D.fgts])
theorem below_spec (d k : Int) (i : Int) (g : FuncId) (cap : List D) (hp : D.pures cap = true) : Qu Tryz.prog glob 125 [walkF d g cap, .int .i64 k, .int .i64 i] [] (fun o _ => o.fgt = .ret (walkF (Zb d k i) g cap)) := by
 have hb := binds_spec k i
 refine Qu.movd Qf (Qp Wc Tryz.func125 rfl (Qw _ _ Tryz.func125 rfl (by decide)) rfl rfl ?_)
 unfold walkF Zb
 (refine sR fun K hK => ?_; ((repeat (rw [Qa]; simp)); (try simp only [zs])); refine hK _ _ _ ?_; clear hK K)
 refine Qg fun K1 hK1 => ?_
 cases hbb : Wu k i with
 | true =>
  rw [hbb] at hb
  (refine sR fun K hK => ?_; ((repeat (rw [Qa]; simp)); (try simp only [zs])))
  refine cXp (hb) ?_
  ((try simp only [Qb, Qc, Qn, Qi, Qj]); (repeat (rw [Qa]; simp)); (try simp only [zs]))
  (refine hK _ _ _ ?_; clear hK K)
  refine pT rfl ?_
  (refine Qz Wc ?_; ((repeat (rw [Qa]; simp)); (try simp only [zs])))
  refine hK1 _ _ _ ?_
  (refine sR fun K hK => ?_; ((repeat (rw [Qa]; simp)); (try simp only [zs])); refine hK _ _ _ ?_; clear hK K)
  (refine Qo ?_; (try simp only [zs]); refine Wa.ret rfl (.inl ?_); simp [Qt, Out.fgt, D.fgt, D.fgts])
  simp [hbb]
 | false =>
  rw [hbb] at hb
  (refine sR fun K hK => ?_; ((repeat (rw [Qa]; simp)); (try simp only [zs])))
  refine cXp (hb) ?_
  ((try simp only [Qb, Qc, Qn, Qi, Qj]); (repeat (rw [Qa]; simp)); (try simp only [zs]))
  (refine hK _ _ _ ?_; clear hK K)
  refine pF rfl ?_
  refine Qs (hK1 _ _ _ ?_)
  (refine sR fun K hK => ?_; ((repeat (rw [Qa]; simp)); (try simp only [zs])); refine hK _ _ _ ?_; clear hK K)
  (refine Qo ?_; (try simp only [zs]); refine Wa.ret rfl (.inl ?_); simp [Qt, Out.fgt, D.fgt, D.fgts])
  simp [hbb]
abbrev Turn := Int -> T -> Sum T (Int × List LV)
mutual
def T.walk (turn : Turn) : T -> Int -> T
 | .mk k n a ls ks, d => match turn d (.mk k n a ls ks) with
  | .inl u => u
  | .inr x => .mk k x.1 a x.2 (T.walks turn k ks 0 d)
def T.walks (turn : Turn) (k : Int) : List T -> Nat -> Int -> List T
 | [], _, _ => []
 | t :: r, i, d => T.walk turn t (Zb d k i) :: T.walks turn k r (i + 1) d
end
theorem T.walks_length (turn : Turn) (k d : Int) : ∀ (ks : List T) (i : Nat), (T.walks turn k ks i d).length = ks.length
 | [], i => rfl
 | t :: r, i => by rw [T.walks, List.length_cons, List.length_cons, T.walks_length turn k d r (i + 1)]
theorem T.walks_snoc (turn : Turn) (k d : Int) : ∀ (ks : List T) (i j : Nat) (h : j < ks.length), T.walks turn k (ks.take (j + 1)) i d = T.walks turn k (ks.take j) i d ++ [T.walk turn ks[j] (Zb d k ((i + j : Nat) : Int))]
 | [], i, j, h => by simp at h
 | t :: r, i, 0, h => by simp [T.walks]
 | t :: r, i, j + 1, h => by
  have h' : j < r.length := by simpa using h
  simp only [List.take_succ_cons, T.walks, List.cons_append, List.getElem_cons_succ]
  rw [T.walks_snoc turn k d r (i + 1) j h', show i + 1 + j = i + (j + 1) by omega]
mutual
def T.deep : T -> Nat
 | .mk _ _ _ _ ks => 1 + T.deeps ks
def T.deeps : List T -> Nat
 | [] => 0
 | t :: r => max (T.deep t) (T.deeps r)
end
theorem T.deep_mem {t : T} {ks : List T} (h : t ∈ ks) : t.deep <= T.deeps ks := by
 induction ks with
 | nil => cases h
 | cons x r ih =>
  rw [T.deeps]
  cases h with
  | head => omega
  | tail _ hm => have := ih hm; omega
theorem T.deep_kid {t : T} {k n a : Int} {ls : List LV} {ks : List T} (h : t ∈ ks) : t.deep + 1 <= (T.mk k n a ls ks).deep := by
 have := T.deep_mem h
 rw [T.deep]; omega
def DM : Nat := 1099511627776
def Fits (d : Int) (t : T) : Prop := 0 <= d /\ d + t.deep <= DM
theorem Fits.kid {d k n a : Int} {ls : List LV} {ks : List T} (h : Fits d (.mk k n a ls ks)) {t : T} (ht : t ∈ ks) (i : Int) : Fits (Zb d k i) t := by
 have h1 := T.deep_kid (k := k) (n := n) (a := a) (ls := ls) ht
 obtain ⟨h2, h3⟩ := h
 unfold DM at h3
 unfold Fits Zb DM
 split
 ·rw [i64w (by omega) (by omega)]; omega
 ·omega
def wksT (turn : Turn) (k d : Int) (ks : List T) (j : Nat) : List T := T.walks turn k (ks.take j) 0 d
theorem wksT_succ {turn : Turn} {k d : Int} {ks : List T} {j : Nat} (h : j < ks.length) : wksT turn k d ks (j + 1) = wksT turn k d ks j ++ [T.walk turn ks[j] (Zb d k j)] := by
 unfold wksT; rw [T.walks_snoc turn k d ks 0 j h, Nat.zero_add]
theorem wksT_end {turn : Turn} {k d : Int} {ks : List T} {j : Nat} (h : ks.length <= j) : wksT turn k d ks j = T.walks turn k ks 0 d := by unfold wksT; rw [List.take_of_length_le h]
theorem wksT_len {turn : Turn} {k d : Int} {ks : List T} {j : Nat} (h : j <= ks.length) : (wksT turn k d ks j).length = j := by unfold wksT; rw [T.walks_length, List.length_take]; omega
def turnOut (turn : Turn) (d : Int) (t : T) : D := match turn d t with
 | .inl u => .tuple [Qx u, .bool true]
 | .inr x => .tuple [Qx (.mk t.k x.1 t.a x.2 t.ks), .bool false]
theorem walkT_spec (turn : Turn) (g : FuncId) (cap : List D) (hcf : D.fgts cap = cap) (hp : D.pures cap = true) (hg : ∀ d t, Fits d t -> okT t -> Qu Tryz.prog glob g ([walkF d g cap, Qx t] ++ cap) [] (fun o _ => o.fgt = .ret (turnOut turn d t))) (t : T) :
  ∀ d, Fits d t -> okT t -> Qu Tryz.prog glob 85 [walkF d g cap, Qx t] [] (fun o _ => o.fgt = .ret (Qx (T.walk turn t d))) := by
 induction t using T.ind with
 | h kk nn aa ls ks ih =>
  intro d hfit ht
  have hgt := hg d _ hfit ht
  have hcN : ∀ p, D.okNs p cap = true := fun p => D.okNs_pure p cap hp
  have hcR : ∀ σ, D.rens σ cap = cap := fun σ => D.rens_pure σ cap hp
  have hkl : ks.length <= Wd := ht.kl
  have hks : ∀ x, x ∈ ks -> okT x := ht.ks
  have hw : T.walk turn (.mk kk nn aa ls ks) d = match turn d (.mk kk nn aa ls ks) with
   | .inl u => u
   | .inr x => .mk kk x.1 aa x.2 (T.walks turn kk ks 0 d) := by rw [T.walk]
  rw [hw]
  have hE : Qx (.mk kk nn aa ls ks) = .agg [.int .i64 kk, .int .i64 nn, .int .i64 aa, .slice (ls.map Wm) .any, .slice (ks.map Qx) .any] := Qd _
  unfold walkF at hgt ⊢
  unfold turnOut at hgt
  rw [hE] at hgt ⊢
  cases hturn : turn d (.mk kk nn aa ls ks) with
  | inl u =>
   simp only [hturn] at hgt
   refine Qu.movd Qf (Qp Wc Tryz.func85 rfl (Qw _ _ Tryz.func85 rfl (by decide)) rfl rfl ?_)
   (refine sR fun K hK => ?_; ((repeat (rw [Qa]; simp)); (try simp only [zs])); refine hK _ _ _ ?_; clear hK K)
   (refine sR fun K hK => ?_; ((repeat (rw [Qa]; simp)); (try simp only [zs])))
   refine Xk.pure Qf hgt ?_ (by simp [D.fgts, D.fgt, hcf]) (by simp [D.pures, D.pure, Cp.free, hp]) (by simp [Out.pure, D.pure, D.pures])
   ((try simp only [Qb, Qc, Qn, Qi, Qj]); (repeat (rw [Qa]; simp)); (try simp only [zs]))
   (refine hK _ _ _ ?_; clear hK K)
   refine Qg fun K1 hK1 => ?_
   (refine sR fun K hK => ?_; ((repeat (rw [Qa]; simp)); (try simp only [zs])); refine hK _ _ _ ?_; clear hK K)
   refine pT rfl ?_
   (refine sR fun K hK => ?_; ((repeat (rw [Qa]; simp)); (try simp only [zs])); refine hK _ _ _ ?_; clear hK K)
   (refine Qo ?_; (try simp only [zs]); refine Wa.ret rfl (.inl ?_); simp [Qt, Out.fgt, D.fgt, D.fgts])
   exact (Qd u).symm
  | inr x =>
   simp only [hturn, T.k_mk, T.a_mk, T.ks_mk] at hgt
   rw [Qd] at hgt
   simp only [T.k_mk, T.n_mk, T.a_mk, T.ls_mk, T.ks_mk] at hgt
   refine Qu.movd Qf (Qp Wc Tryz.func85 rfl (Qw _ _ Tryz.func85 rfl (by decide)) rfl rfl ?_)
   (refine sR fun K hK => ?_; ((repeat (rw [Qa]; simp)); (try simp only [zs])); refine hK _ _ _ ?_; clear hK K)
   (refine sR fun K hK => ?_; ((repeat (rw [Qa]; simp)); (try simp only [zs])))
   refine Xk.pure Qf hgt ?_ (by simp [D.fgts, D.fgt, hcf]) (by simp [D.pures, D.pure, Cp.free, hp]) (by simp [Out.pure, D.pure, D.pures, Cp.free])
   ((try simp only [Qb, Qc, Qn, Qi, Qj]); (repeat (rw [Qa]; simp)); (try simp only [zs]))
   (refine hK _ _ _ ?_; clear hK K)
   refine Qg fun K1 hK1 => ?_
   (refine sR fun K hK => ?_; ((repeat (rw [Qa]; simp)); (try simp only [zs])); refine hK _ _ _ ?_; clear hK K)
   refine pF rfl ?_
   refine Qs (hK1 _ _ _ ?_)
   clear hK1 K1
   (refine sR fun K hK => ?_; ((repeat (rw [Qa]; simp)); (try simp only [zs])); refine hK _ _ _ ?_; clear hK K)
   (refine sR fun K hK => ?_; ((repeat (rw [Qa]; simp)); (try simp only [zs])); refine hK _ _ _ ?_; clear hK K)
   refine wpD_tokO 3 4 (ty := 27) (ds := [.int .i64 kk, .int .i64 x.1, .int .i64 aa, .slice (x.2.map Wm) .any, .slice [] .full]) rfl ?_
   simp [D.tokd]
   refine Qg fun K1 hK1 => ?_
   (refine sR fun K hK => ?_; ((repeat (rw [Qa]; simp)); (try simp only [zs])); refine hK _ _ _ ?_; clear hK K)
   refine Za Wc Qf (ti := 3) (tk := 25) (tn := 24) (td := 26) (ts := 42) [8, 9, 25, 26, 27, 28, 29, 30, 31, 32, 33, 34, 35, 36, 37, 38, 39, 40, 41, 42] [] (ks.length) (fun k ys hl => ys = [] /\ hl = [.cells 117 [.int .i64 d, .fn (.func g) [] cap], .cells 27 [.int .i64 kk, .int .i64 nn, .int .i64 aa, .slice (ls.map Wm) .any, .slice (ks.map Qx) .any], .cells 27 [.int .i64 0, .int .i64 0, .int .i64 0, .slice [] .full, .slice [] .full], .cells 27 [.int .i64 kk, .int .i64 x.1, .int .i64 aa, .slice (x.2.map Wm) .any, .slice ((wksT turn kk d ks k).map Qx) (.tok 4)], .tok]) rfl rfl rfl rfl rfl rfl rfl rfl rfl rfl rfl rfl (by simp) (by decide) rfl (by first | assumption | omega | (unfold Wd; omega)) rfl (by kernel_rfl) (by decide) ?_ ?_ ?_
   ·exact ⟨rfl, rfl⟩
   ·rintro i ys hl A hi ⟨rfl, rfl⟩ hA hA2
    simp only [Qv, List.set, List.map_cons, List.map_nil, List.cons_append, List.nil_append]
    have hi' : (i : Int) < ks.length := by omega
    have hsn := wksT_succ (turn := turn) (k := kk) (d := d) hi
    have hln := wksT_len (turn := turn) (k := kk) (d := d) (Nat.le_of_lt hi)
    have hrec := ih ks[i] (List.getElem_mem hi) (Zb d kk i) (hfit.kid (List.getElem_mem hi) i) (hks _ (List.getElem_mem hi))
    have hbel := below_spec d kk i g cap hp
    unfold walkF at hrec hbel
    obtain ⟨y, hy⟩ : ∃ y, ks[i] = y := ⟨_, rfl⟩
    rw [hy] at hrec hsn
    have hEy := Qd y
    rw [hEy] at hrec
    have hel : (wksT turn kk d ks i).length + 1 <= Wd := by omega
    generalize wksT turn kk d ks i = es at hsn hln hel ⊢
    (refine sR fun K hK => ?_; ((repeat (rw [Qa]; simp [hi, hi', hy, hEy])); (try simp only [zs])); refine hK _ _ _ ?_; clear hK K)
    (refine dR fun KT hKT => ?_; ((repeat (rw [Qh]; simp [hi, hi', hy])); (try simp only [Qk])))
    refine CallY.pure Qf (hbel) ?_ (by simp [D.fgts, D.fgt, hp]) (by simp [D.pures, D.pure, Cp.free, D.pures_map, hp]) (by simp [Out.pure, D.pure, D.pures, Cp.free, D.pures_map, hp])
    ((try simp only [Ql, Qm, Qn, Qi, Qj]); (repeat (rw [Qh]; simp [hi, hi', hy])); (try simp only [Qk]))
    refine CallY.pure Qf (hrec) ?_ (by simp [D.fgts, D.fgt, hp]) (by simp [D.pures, D.pure, Cp.free, D.pures_map, hp]) (by simp [Out.pure, D.pure, D.pures, Cp.free, D.pures_map, hp])
    ((try simp only [Ql, Qm, Qn, Qi, Qj]); (repeat (rw [Qh]; simp [hel])); (try simp only [Qk]))
    (refine hKT _ _ _ _ (by kernel_rfl) ?_; clear hKT KT; (try simp only [zs]))
    (refine hA2 ([0, 1, 2, 3, 6]) _ _ _ (LeT.refl _) (by decide) (by simp) (by simp [Wg, Wh, Wj, D.mov, HO.mov, okM, Wi, We, zz, okA, Qr, Qq, hOf, Qe, Qv, hcN, hcR]) ?_ rfl; simp [Wg, Wh, Wj, D.mov, HO.mov, okM, Wi, We, zz, okA, Qr, Qq, hOf, Qe, hcN, hcR])
    rw [hsn, show es.map Qx ++ [Qx (T.walk turn y (Zb d kk i))] = (es ++ [T.walk turn y (Zb d kk i)]).map Qx by simp, mapT_ren]
   ·rintro ys hl tl' ⟨rfl, rfl⟩ htl
    refine hK1 _ _ _ (wpD_weakL htl ?_)
    simp only [Qv, List.set, List.map_cons, List.map_nil, List.cons_append, List.nil_append]
    rw [wksT_end (Nat.le_refl _)]
    (refine sR fun K hK => ?_; ((repeat (rw [Qa]; simp)); (try simp only [zs])); refine hK _ _ _ ?_; clear hK K)
    (refine Qo ?_; (try simp only [zs]); refine Wa.ret rfl (.inl ?_); simp [Qt, Out.fgt, D.fgt, D.fgts])
    rw [Qd]
    rfl
def liftNum (n fr d k m : Int) : Int := if k = 1 /\ d <= m /\ fr <= IntKind.i64.wrap (m - d) then IntKind.i64.wrap (m + n) else m
def liftTurn (n fr : Int) : Turn := fun d t => .inr (liftNum n fr d t.k t.n, t.ls)
theorem i64_wrap (n : Int) : I64 (IntKind.i64.wrap n) := by
 have := wrap_in IntKind.i64 n
 simp [IntKind.min, IntKind.max, IntKind.signed, IntKind.bits] at this
 exact ⟨by omega, by omega⟩
theorem okT.num {t : T} (h : okT t) {m : Int} (hm : I64 m) : okT (.mk t.k m t.a t.ls t.ks) := by
 cases h with
 | mk hk hn ha hl hls hks h => exact .mk hk hm ha hl hls hks h
theorem liftNum_ok {n fr d k m : Int} (h : I64 m) : I64 (liftNum n fr d k m) := by
 unfold liftNum; split
 ·exact i64_wrap _
 ·exact h
def liftCap (n fr : Int) : List D := [.ref (.int .i64 fr), .ref (.int .i64 n)]
theorem lift1_spec (n fr d : Int) (t : T) (ht : okT t) : Qu Tryz.prog glob 82 ([walkF d 82 (liftCap n fr), Qx t] ++ liftCap n fr) [] (fun o _ => o.fgt = .ret (turnOut (liftTurn n fr) d t)) := by
 obtain ⟨kk, nn, aa, ls, ks⟩ := t
 have hm := means_spec d nn
 have how := own_spec (.mk kk (liftNum n fr d kk nn) aa ls ks) (ht.num (liftNum_ok ht.n))
 have hln : liftNum n fr d kk nn = if kk = 1 /\ d <= nn /\ fr <= IntKind.i64.wrap (nn - d) then IntKind.i64.wrap (nn + n) else nn := rfl
 unfold turnOut liftTurn
 simp only [T.k_mk, T.n_mk, T.a_mk, T.ls_mk, T.ks_mk]
 generalize liftNum n fr d kk nn = num at how hln ⊢
 rw [Qd] at how
 rw [Qd, Qd]
 simp only [T.k_mk, T.n_mk, T.a_mk, T.ls_mk, T.ks_mk] at how ⊢
 unfold walkF liftCap
 refine Qu.movd Qf (Qp Wc Tryz.func82 rfl (Qw _ _ Tryz.func82 rfl (by decide)) rfl rfl ?_)
 simp only [List.cons_append, List.nil_append]
 (refine sR fun K hK => ?_; ((repeat (rw [Qa]; simp)); (try simp only [zs])); refine hK _ _ _ ?_; clear hK K)
 refine Qg fun K1 hK1 => ?_
 (refine sR fun K hK => ?_; ((repeat (rw [Qa]; simp)); (try simp only [zs])))
 refine cXp (hm) ?_
 ((try simp only [Qb, Qc, Qn, Qi, Qj]); (repeat (rw [Qa]; simp)); (try simp only [zs]))
 (refine hK _ _ _ ?_; clear hK K)
 by_cases h1 : kk = 1
 ·subst h1
  by_cases h2 : d <= nn
  ·by_cases h3 : fr <= IntKind.i64.wrap (nn - d)
   ·rw [if_pos ⟨rfl, h2, h3⟩] at hln
    (refine sR fun K hK => ?_; ((repeat (rw [Qa]; simp [h2, h3])); (try simp only [zs])); refine hK _ _ _ ?_; clear hK K)
    refine pT rfl ?_
    (refine Qz Wc ?_; ((repeat (rw [Qa]; simp)); (try simp only [zs])))
    refine hK1 _ _ _ ?_
    rw [<- hln]
    (refine sR fun K hK => ?_; ((repeat (rw [Qa]; simp)); (try simp only [zs])))
    refine cXp (how) ?_
    ((try simp only [Qb, Qc, Qn, Qi, Qj]); (repeat (rw [Qa]; simp)); (try simp only [zs]))
    (refine hK _ _ _ ?_; clear hK K)
    (refine Qo ?_; (try simp only [zs]); refine Wa.ret rfl (.inl ?_); simp [Qt, Out.fgt, D.fgt, D.fgts])
   ·rw [if_neg (fun h => h3 h.2.2)] at hln
    (refine sR fun K hK => ?_; ((repeat (rw [Qa]; simp [h2, h3])); (try simp only [zs])); refine hK _ _ _ ?_; clear hK K)
    refine pF rfl ?_
    refine Qs (hK1 _ _ _ ?_)
    rw [hln] at how
    (refine sR fun K hK => ?_; ((repeat (rw [Qa]; simp)); (try simp only [zs])))
    refine cXp (how) ?_
    ((try simp only [Qb, Qc, Qn, Qi, Qj]); (repeat (rw [Qa]; simp)); (try simp only [zs]))
    (refine hK _ _ _ ?_; clear hK K)
    (refine Qo ?_; (try simp only [zs]); refine Wa.ret rfl (.inl ?_); simp [Qt, Out.fgt, D.fgt, D.fgts])
    rw [hln]
  ·rw [if_neg (fun h => h2 h.2.1)] at hln
   (refine sR fun K hK => ?_; ((repeat (rw [Qa]; simp [h2])); (try simp only [zs])); refine hK _ _ _ ?_; clear hK K)
   refine pF rfl ?_
   refine Qs (hK1 _ _ _ ?_)
   rw [hln] at how
   (refine sR fun K hK => ?_; ((repeat (rw [Qa]; simp)); (try simp only [zs])))
   refine cXp (how) ?_
   ((try simp only [Qb, Qc, Qn, Qi, Qj]); (repeat (rw [Qa]; simp)); (try simp only [zs]))
   (refine hK _ _ _ ?_; clear hK K)
   (refine Qo ?_; (try simp only [zs]); refine Wa.ret rfl (.inl ?_); simp [Qt, Out.fgt, D.fgt, D.fgts])
   rw [hln]
 ·rw [if_neg (fun h => h1 h.1)] at hln
  (refine sR fun K hK => ?_; ((repeat (rw [Qa]; simp [h1])); (try simp only [zs])); refine hK _ _ _ ?_; clear hK K)
  refine pF rfl ?_
  refine Qs (hK1 _ _ _ ?_)
  rw [hln] at how
  (refine sR fun K hK => ?_; ((repeat (rw [Qa]; simp)); (try simp only [zs])))
  refine cXp (how) ?_
  ((try simp only [Qb, Qc, Qn, Qi, Qj]); (repeat (rw [Qa]; simp)); (try simp only [zs]))
  (refine hK _ _ _ ?_; clear hK K)
  (refine Qo ?_; (try simp only [zs]); refine Wa.ret rfl (.inl ?_); simp [Qt, Out.fgt, D.fgt, D.fgts])
  rw [hln]
def T.lift (t : T) (n fr d : Int) : T := T.walk (liftTurn n fr) t d
theorem lift_spec (t : T) (n fr : Int) (hd : t.deep <= DM) (ht : okT t) : Qu Tryz.prog glob 44 [Qx t, .int .i64 n, .int .i64 fr] [] (fun o _ => o.fgt = .ret (Qx (t.lift n fr 0))) := by
 have hw := walkT_spec (liftTurn n fr) 82 (liftCap n fr) rfl (by simp [liftCap, D.pures, D.pure]) (fun d t _ => lift1_spec n fr d t) t 0 ⟨by omega, by omega⟩ ht
 unfold walkF liftCap at hw
 rw [show T.walk (liftTurn n fr) t 0 = t.lift n fr 0 from rfl] at hw
 generalize t.lift n fr 0 = r at hw ⊢
 refine Qu.movd Qf (Qp Wc Tryz.func44 rfl (Qw _ _ Tryz.func44 rfl (by decide)) rfl rfl ?_)
 (refine sR fun K hK => ?_; ((repeat (rw [Qa]; simp)); (try simp only [zs])); refine hK _ _ _ ?_; clear hK K)
 (refine Xq (T := Wb) 1 (ty := 3) (ds := [.int .i64 n]) rfl rfl (by first | exact ⟨rfl, .inr ⟨_, rfl, rfl⟩⟩ | exact ⟨rfl, .inl rfl⟩) ?_; simp [D.frzs, D.frz, HO.frz, dfFrz, refOf, TK.isAgg, FK.isB, FK.isM, FK.isO, D.isLen])
 (refine Xq (T := Wb) 2 (ty := 3) (ds := [.int .i64 fr]) rfl rfl (by first | exact ⟨rfl, .inr ⟨_, rfl, rfl⟩⟩ | exact ⟨rfl, .inl rfl⟩) ?_; simp [D.frzs, D.frz, HO.frz, dfFrz, refOf, TK.isAgg, FK.isB, FK.isM, FK.isO, D.isLen])
 rw [Qd t] at hw
 (refine sR fun K hK => ?_; ((repeat (rw [Qa]; simp)); (try simp only [zs])))
 refine cXp (hw) ?_
 ((try simp only [Qb, Qc, Qn, Qi, Qj]); (repeat (rw [Qa]; simp)); (try simp only [zs]))
 (refine hK _ _ _ ?_; clear hK K)
 (refine Qo ?_; (try simp only [zs]); refine Wa.ret rfl (.inl ?_); simp [Qt, Out.fgt, D.fgt, D.fgts])
 exact (Qd r).symm
def putTurn (bys : List T) : Turn := fun d t =>
 if t.k = 1 /\ d <= t.n then
  if h : (t.n - d).toNat < bys.length then .inl ((bys[bys.length - 1 - (t.n - d).toNat]'(by omega)).lift d 0 0) else .inr (IntKind.i64.wrap (t.n - bys.length), t.ls)
 else .inr (t.n, t.ls)
def T.put (t : T) (bys : List T) (d : Int) : T := T.walk (putTurn bys) t d
theorem put_hit {bys : List T} {d : Int} {t : T} (h1 : t.k = 1 /\ d <= t.n) {q : Nat} (hq : q < bys.length) (hn : q + (t.n - d).toNat + 1 = bys.length) : turnOut (putTurn bys) d t = .tuple [Qx (bys[q].lift d 0 0), .bool true] := by
 have : putTurn bys d t = .inl (bys[q].lift d 0 0) := by
  unfold putTurn
  rw [if_pos h1, dif_pos (by omega)]
  congr 2
  congr 1
  omega
 unfold turnOut
 rw [this]
theorem put_over {bys : List T} {d : Int} {t : T} (h1 : t.k = 1 /\ d <= t.n) (hn : bys.length <= (t.n - d).toNat) : turnOut (putTurn bys) d t = .tuple [Qx (.mk t.k (IntKind.i64.wrap (t.n - bys.length)) t.a t.ls t.ks), .bool false] := by
 have : putTurn bys d t = .inr (IntKind.i64.wrap (t.n - bys.length), t.ls) := by
  unfold putTurn
  rw [if_pos h1, dif_neg (by omega)]
 unfold turnOut
 rw [this]
theorem put_low {bys : List T} {d : Int} {t : T} (h1 : ¬ (t.k = 1 /\ d <= t.n)) : turnOut (putTurn bys) d t = .tuple [Qx (.mk t.k t.n t.a t.ls t.ks), .bool false] := by
 have : putTurn bys d t = .inr (t.n, t.ls) := by
  unfold putTurn
  rw [if_neg h1]
 unfold turnOut
 rw [this]
theorem put1T_spec (bys : List T) (hb : bys.length <= Wd) (hbo : ∀ b, b ∈ bys -> okT b /\ b.deep <= DM) (d : Int) (t : T) (hf : Fits d t) (ht : okT t) : Qu Tryz.prog glob 140 ([walkF d 140 [.ref (Ts bys)], Qx t] ++ [.ref (Ts bys)]) [] (fun o _ => o.fgt = .ret (turnOut (putTurn bys) d t)) := by
 obtain ⟨kk, nn, aa, ls, ks⟩ := t
 have hm := means_spec d nn
 have hn := ht.n
 simp only [T.n_mk] at hn
 obtain ⟨hd0, hd1⟩ := hf
 unfold DM at hd1
 unfold Wd at hb
 have how := fun num (h : I64 num) => own_spec (.mk kk num aa ls ks) (ht.num h)
 have hA := @put_hit bys d (.mk kk nn aa ls ks)
 have hB := @put_over bys d (.mk kk nn aa ls ks)
 have hC := @put_low bys d (.mk kk nn aa ls ks)
 simp only [T.k_mk, T.n_mk, T.a_mk, T.ls_mk, T.ks_mk] at hA hB hC
 generalize turnOut (putTurn bys) d (.mk kk nn aa ls ks) = O at hA hB hC ⊢
 have hE : ∀ num, Qx (.mk kk num aa ls ks) = .agg [.int .i64 kk, .int .i64 num, .int .i64 aa, .slice (ls.map Wm) .any, .slice (ks.map Qx) .any] := fun num => Qd _
 simp only [hE] at how hB hC ⊢
 unfold walkF Ts
 unfold I64 at hn
 refine Qu.movd Qf (Qp Wc Tryz.func140 rfl (Qw _ _ Tryz.func140 rfl (by decide)) rfl rfl ?_)
 simp only [List.cons_append, List.nil_append]
 (refine sR fun K hK => ?_; ((repeat (rw [Qa]; simp)); (try simp only [zs])); refine hK _ _ _ ?_; clear hK K)
 (refine sR fun K hK => ?_; ((repeat (rw [Qa]; simp)); (try simp only [zs])))
 refine cXp (hm) ?_
 ((try simp only [Qb, Qc, Qn, Qi, Qj]); (repeat (rw [Qa]; simp)); (try simp only [zs]))
 (refine hK _ _ _ ?_; clear hK K)
 refine Qg fun K1 hK1 => ?_
 refine Wy ?_
 by_cases h1 : kk = 1
 ·by_cases h2 : d <= nn
  ·have hw : IntKind.i64.wrap (nn - d) = nn - d := i64w (by omega) (by omega)
   obtain ⟨j, hj⟩ : ∃ j : Nat, nn - d = j := ⟨(nn - d).toNat, by omega⟩
   subst h1
   have hwj : IntKind.i64.wrap (j : Int) = (j : Int) := i64w (by omega) (by omega)
   (refine sR fun K hK => ?_; ((repeat (rw [Qa]; simp [h2])); (try simp only [zs])); refine hK _ _ _ ?_; clear hK K)
   refine pF rfl ?_
   by_cases h3 : j < bys.length
   ·have h3' : (j : Int) < bys.length := by omega
    obtain ⟨q, hq⟩ : ∃ q : Nat, q = bys.length - 1 - j := ⟨_, rfl⟩
    have hql : q < bys.length := by omega
    have hw2 : IntKind.i64.wrap ((bys.length : Int) - 1) = (bys.length : Int) - 1 := i64w (by omega) (by omega)
    have hw3 : IntKind.i64.wrap ((bys.length : Int) - 1 - (j : Int)) = (q : Int) := by rw [i64w (by omega) (by omega)]; omega
    obtain ⟨b, hbq⟩ : ∃ b, bys[q] = b := ⟨_, rfl⟩
    have hbb := hbo b (by rw [<- hbq]; exact List.getElem_mem hql)
    have hlf := lift_spec b d 0 hbb.2 hbb.1
    rw [Qd b] at hlf
    have hEb := Qd b
    have hO := hA ⟨rfl, h2⟩ hql (by omega)
    rw [hbq] at hO
    rw [hO]
    generalize b.lift d 0 0 = r at hlf ⊢
    (refine sR fun K hK => ?_; ((repeat (rw [Qa]; simp [hw, hwj, hj, h3, h3'])); (try simp only [zs])); refine hK _ _ _ ?_; clear hK K)
    refine pT rfl ?_
    (refine Qg fun K hK => ?_; refine dR fun KT hKT => ?_; ((repeat (rw [Qh]; simp [hw, hwj, hj, hw2, hw3, hql, hbq, hEb])); (try simp only [Qk])))
    refine cYp (hlf) ?_
    ((try simp only [Ql, Qm, Qn, Qi, Qj]); (repeat (rw [Qh]; simp)); (try simp only [Qk]))
    (refine hKT _ _ _ _ (by kernel_rfl) ?_; clear hKT KT; (try simp only [zs]))
    (refine hK _ _ _ ?_; clear hK K)
    (refine Qo ?_; (try simp only [zs]); refine Wa.ret rfl (.inl ?_); simp [Qt, Out.fgt, D.fgt, D.fgts])
    exact (Qd r).symm
   ·have h3' : ¬ (j : Int) < bys.length := by omega
    (refine sR fun K hK => ?_; ((repeat (rw [Qa]; simp [hw, hwj, hj, h3, h3'])); (try simp only [zs])); refine hK _ _ _ ?_; clear hK K)
    refine pF rfl ?_
    (refine Qz Wc ?_; ((repeat (rw [Qa]; simp)); (try simp only [zs])))
    refine hK1 _ _ _ ?_
    have hw4 := how (IntKind.i64.wrap (nn - bys.length)) (i64_wrap _)
    (refine sR fun K hK => ?_; ((repeat (rw [Qa]; simp)); (try simp only [zs])))
    refine cXp (hw4) ?_
    ((try simp only [Qb, Qc, Qn, Qi, Qj]); (repeat (rw [Qa]; simp)); (try simp only [zs]))
    (refine hK _ _ _ ?_; clear hK K)
    (refine Qo ?_; (try simp only [zs]); refine Wa.ret rfl (.inl ?_); simp [Qt, Out.fgt, D.fgt, D.fgts])
    exact (hB ⟨rfl, h2⟩ (by omega)).symm
  ·skip
   subst h1
   (refine sR fun K hK => ?_; ((repeat (rw [Qa]; simp [h2])); (try simp only [zs])); refine hK _ _ _ ?_; clear hK K)
   refine pT rfl ?_
   refine Qs (hK1 _ _ _ ?_)
   have hw4 := how nn hn
   (refine sR fun K hK => ?_; ((repeat (rw [Qa]; simp)); (try simp only [zs])))
   refine cXp (hw4) ?_
   ((try simp only [Qb, Qc, Qn, Qi, Qj]); (repeat (rw [Qa]; simp)); (try simp only [zs]))
   (refine hK _ _ _ ?_; clear hK K)
   (refine Qo ?_; (try simp only [zs]); refine Wa.ret rfl (.inl ?_); simp [Qt, Out.fgt, D.fgt, D.fgts])
   exact (hC (fun h => h2 h.2)).symm
 ·skip
  (refine sR fun K hK => ?_; ((repeat (rw [Qa]; simp [h1])); (try simp only [zs])); refine hK _ _ _ ?_; clear hK K)
  refine pT rfl ?_
  refine Qs (hK1 _ _ _ ?_)
  have hw4 := how nn hn
  (refine sR fun K hK => ?_; ((repeat (rw [Qa]; simp)); (try simp only [zs])))
  refine cXp (hw4) ?_
  ((try simp only [Qb, Qc, Qn, Qi, Qj]); (repeat (rw [Qa]; simp)); (try simp only [zs]))
  (refine hK _ _ _ ?_; clear hK K)
  (refine Qo ?_; (try simp only [zs]); refine Wa.ret rfl (.inl ?_); simp [Qt, Out.fgt, D.fgt, D.fgts])
  exact (hC (fun h => h1 h.1)).symm
theorem putT_spec (t : T) (bys : List T) (hb : bys.length <= Wd) (hbo : ∀ b, b ∈ bys -> okT b /\ b.deep <= DM) (hd : t.deep <= DM) (ht : okT t) : Qu Tryz.prog glob 122 [Qx t, Ts bys] [] (fun o _ => o.fgt = .ret (Qx (t.put bys 0))) := by
 have hw := walkT_spec (putTurn bys) 140 [.ref (Ts bys)] rfl (by simp [D.pures, D.pure, Ts_pure]) (put1T_spec bys hb hbo) t 0 ⟨by omega, by omega⟩ ht
 unfold walkF at hw
 rw [show T.walk (putTurn bys) t 0 = t.put bys 0 from rfl] at hw
 generalize t.put bys 0 = r at hw ⊢
 rw [Qd t] at hw
 unfold Ts at hw ⊢
 refine Qu.movd Qf (Qp Wc Tryz.func122 rfl (Qw _ _ Tryz.func122 rfl (by decide)) rfl rfl ?_)
 (refine sR fun K hK => ?_; ((repeat (rw [Qa]; simp)); (try simp only [zs])); refine hK _ _ _ ?_; clear hK K)
 (refine Xq (T := Wb) 1 (ty := 25) (ds := [.slice (bys.map Qx) .any]) rfl rfl (by first | exact ⟨rfl, .inr ⟨_, rfl, rfl⟩⟩ | exact ⟨rfl, .inl rfl⟩) ?_; simp [D.frzs, D.frz, HO.frz, dfFrz, refOf, TK.isAgg, FK.isB, FK.isM, FK.isO, D.isLen])
 (refine sR fun K hK => ?_; ((repeat (rw [Qa]; simp)); (try simp only [zs])))
 refine cXp (hw) ?_
 ((try simp only [Qb, Qc, Qn, Qi, Qj]); (repeat (rw [Qa]; simp)); (try simp only [zs]))
 (refine hK _ _ _ ?_; clear hK K)
 (refine Qo ?_; (try simp only [zs]); refine Wa.ret rfl (.inl ?_); simp [Qt, Out.fgt, D.fgt, D.fgts])
 exact (Qd r).symm
mutual
def T.sz : T -> Int
 | .mk _ _ _ _ ks => T.szs ks 1
def T.szs : List T -> Int -> Int
 | [], n => n
 | t :: r, n => T.szs r (IntKind.i64.wrap (n + T.sz t))
end
theorem T.szs_snoc : ∀ (ks : List T) (n : Int) (j : Nat) (h : j < ks.length), T.szs (ks.take (j + 1)) n = IntKind.i64.wrap (T.szs (ks.take j) n + T.sz ks[j])
 | [], n, j, h => by simp at h
 | t :: r, n, 0, h => by simp [T.szs]
 | t :: r, n, j + 1, h => by
  have h' : j < r.length := by simpa using h
  simp only [List.take_succ_cons, T.szs, List.getElem_cons_succ]
  rw [T.szs_snoc r _ j h']
def szT (ks : List T) (j : Nat) : Int := T.szs (ks.take j) 1
theorem szT_succ {ks : List T} {j : Nat} (h : j < ks.length) : szT ks (j + 1) = IntKind.i64.wrap (szT ks j + T.sz ks[j]) := T.szs_snoc ks 1 j h
theorem szT_end {ks : List T} {j : Nat} (h : ks.length <= j) : szT ks j = T.szs ks 1 := by unfold szT; rw [List.take_of_length_le h]
theorem size_spec (t : T) : okT t -> Qu Tryz.prog glob 136 [Qx t] [] (fun o _ => o.fgt = .ret (.int .i64 t.sz)) := by
 induction t using T.ind with
 | h kk nn aa ls ks ih =>
  intro ht
  have hkl : ks.length <= Wd := ht.kl
  have hks : ∀ x, x ∈ ks -> okT x := ht.ks
  rw [show (T.mk kk nn aa ls ks).sz = T.szs ks 1 by rw [T.sz]]
  rw [Qd]
  simp only [T.k_mk, T.n_mk, T.a_mk, T.ls_mk, T.ks_mk]
  refine Qu.movd Qf (Qp Wc Tryz.func136 rfl (Qw _ _ Tryz.func136 rfl (by decide)) rfl rfl ?_)
  (refine sR fun K hK => ?_; ((repeat (rw [Qa]; simp)); (try simp only [zs])); refine hK _ _ _ ?_; clear hK K)
  (refine sR fun K hK => ?_; ((repeat (rw [Qa]; simp)); (try simp only [zs])); refine hK _ _ _ ?_; clear hK K)
  refine Qg fun K1 hK1 => ?_
  (refine sR fun K hK => ?_; ((repeat (rw [Qa]; simp)); (try simp only [zs])); refine hK _ _ _ ?_; clear hK K)
  refine Za Wc Qf (ti := 3) (tk := 9) (tn := 8) (td := 10) (ts := 17) [5, 9, 10, 11, 12, 13, 14, 15, 16, 17] [3] (ks.length) (fun k ys hl => ys = [.int .i64 (szT ks k)] /\ hl = [.cells 27 [.int .i64 kk, .int .i64 nn, .int .i64 aa, .slice (ls.map Wm) .any, .slice (ks.map Qx) .any]]) rfl rfl rfl rfl rfl rfl rfl rfl rfl rfl rfl rfl (by simp) (by decide) rfl (by first | assumption | omega | (unfold Wd; omega)) rfl (by kernel_rfl) (by decide) ?_ ?_ ?_
  ·exact ⟨rfl, rfl⟩
  ·rintro i ys hl A hi ⟨rfl, rfl⟩ hA hA2
   simp only [Qv, List.set, List.map_cons, List.map_nil, List.cons_append, List.nil_append]
   have hi' : (i : Int) < ks.length := by omega
   have hsn := szT_succ hi
   have hrec := ih ks[i] (List.getElem_mem hi) (hks _ (List.getElem_mem hi))
   obtain ⟨y, hy⟩ : ∃ y, ks[i] = y := ⟨_, rfl⟩
   have hEy := Qd y
   rw [hy] at hrec hsn
   rw [hEy] at hrec
   generalize szT ks i = s at hsn ⊢
   (refine sR fun K hK => ?_; ((repeat (rw [Qa]; simp [hi, hi', hy, hEy])); (try simp only [zs])); refine hK _ _ _ ?_; clear hK K)
   (refine Qz Wc ?_; ((repeat (rw [Qa]; simp)); (try simp only [zs])))
   refine cXp (hrec) ?_
   ((try simp only [Qb, Qc, Qn, Qi, Qj]); (repeat (rw [Qa]; simp)); (try simp only [zs]))
   (refine hA2 ([0]) _ _ _ (LeT.refl _) (by decide) (by simp) (by simp [Wg, Wh, Wj, D.mov, HO.mov, okM, Wi, We, zz, okA, Qr, Qq, hOf, Qe, Qv]) ?_ rfl; simp [Wg, Wh, Wj, D.mov, HO.mov, okM, Wi, We, zz, okA, Qr, Qq, hOf, Qe])
   rw [hsn]
  ·rintro ys hl tl' ⟨rfl, rfl⟩ htl
   refine hK1 _ _ _ (wpD_weakL htl ?_)
   simp only [Qv, List.set, List.map_cons, List.map_nil, List.cons_append, List.nil_append]
   rw [szT_end (Nat.le_refl _)]
   (refine sR fun K hK => ?_; ((repeat (rw [Qa]; simp)); (try simp only [zs])); refine hK _ _ _ ?_; clear hK K)
   (refine Qo ?_; (try simp only [zs]); refine Wa.ret rfl (.inl ?_); simp [Qt, Out.fgt, D.fgt, D.fgts])
def hitB (fr to k n d : Int) : Bool := decide (k = 1) && decide (d <= n) && decide (fr <= IntKind.i64.wrap (n - d)) && decide (IntKind.i64.wrap (n - d) < to)
mutual
def T.freeB (fr to : Int) : T -> Int -> Bool
 | .mk k n _ _ ks, d => hitB fr to k n d || T.freesB fr to k ks 0 d
def T.freesB (fr to k : Int) : List T -> Nat -> Int -> Bool
 | [], _, _ => false
 | t :: r, i, d => T.freeB fr to t (Zb d k i) || T.freesB fr to k r (i + 1) d
end
abbrev MP := List (Int × Int)
def encE (p : Int × Int) : D × D := (.int .i64 p.1, .int .i64 p.2)
def encM (m : MP) : List (D × D) := m.map encE
def findM (m : MP) (v : Int) : Option Int := (m.find? fun p => decide (v = p.1)).map (·.2)
def updM (v x : Int) : MP -> MP
 | [] => []
 | p :: r => if v = p.1 then (p.1, x) :: r else p :: updM v x r
def putM (m : MP) (p : Int × Int) : MP := match findM m p.1 with
 | some k => updM p.1 (max k p.2) m
 | none => m ++ [(p.1, max 0 p.2)]
def badP (p : Int × Int) : Bool := decide (p.1 < 0) || decide (p.2 < 0) || decide (1048576 < p.1) || decide (1048576 < p.2)
structure MOK (m : MP) : Prop where
 nd : (m.map (·.1)).Nodup
 v : ∀ p, p ∈ m -> 0 <= p.1 /\ p.1 <= 1048576
 n : ∀ p, p ∈ m -> 0 <= p.2 /\ p.2 <= 1048576
theorem nodup_bound : ∀ (k : Nat) (l : List Int), l.Nodup -> (∀ x, x ∈ l -> 0 <= x /\ x < k) -> l.length <= k
 | 0, l, _, h => by
  cases l with
  | nil => simp
  | cons x r => have := h x (List.mem_cons_self ..); omega
 | k + 1, l, hn, h => by
  by_cases hk : (k : Int) ∈ l
  ·have h1 := nodup_bound k (l.erase (k : Int)) (hn.erase _) (fun x hx => by
    rw [hn.mem_erase_iff] at hx
    have := h x hx.2
    have := hx.1
    omega)
   rw [List.length_erase_of_mem hk] at h1
   have := List.length_pos_of_mem hk
   omega
  ·have h1 := nodup_bound k l hn (fun x hx => by
    have := h x hx
    have : x ≠ (k : Int) := fun e => hk (e ▸ hx)
    omega)
   omega
theorem MOK.len {m : MP} (h : MOK m) : m.length <= 1048577 := by
 have := nodup_bound 1048577 (m.map (·.1)) h.nd (fun x hx => by
  obtain ⟨p, hp, rfl⟩ := List.mem_map.1 hx
  have := h.v p hp
  omega)
 simpa using this
theorem findM_none {v : Int} : ∀ {m : MP}, findM m v = none -> ¬ v ∈ m.map (·.1)
 | [], _ => by simp
 | p :: r, h => by
  unfold findM at h
  rw [List.find?_cons] at h
  by_cases hv : v = p.1
  ·simp [hv] at h
  ·have h' : findM r v = none := by unfold findM; simpa [hv] using h
   rw [List.map_cons, List.mem_cons]
   exact fun h => h.elim hv (findM_none h')
theorem findM_some {v x : Int} : ∀ {m : MP}, findM m v = some x -> (v, x) ∈ m
 | [], h => by cases h
 | p :: r, h => by
  unfold findM at h
  rw [List.find?_cons] at h
  by_cases hv : v = p.1
  ·simp [hv] at h
   subst hv; subst h; exact List.mem_cons_self ..
  ·have h' : findM r v = some x := by unfold findM; simpa [hv] using h
   exact List.mem_cons_of_mem _ (findM_some h')
theorem updM_keys (v x : Int) : ∀ m : MP, (updM v x m).map (·.1) = m.map (·.1)
 | [] => rfl
 | p :: r => by
  rw [updM]
  split
  ·rfl
  ·rw [List.map_cons, updM_keys v x r]; rfl
theorem updM_mem {v x : Int} {p : Int × Int} : ∀ {m : MP}, p ∈ updM v x m -> p ∈ m \/ p = (v, x)
 | [], h => .inl h
 | q :: r, h => by
  rw [updM] at h
  split at h
  ·rename_i hv
   rcases List.mem_cons.1 h with h | h
   ·right; rw [h, hv]
   ·left; exact List.mem_cons_of_mem _ h
  ·rcases List.mem_cons.1 h with h | h
   ·left; rw [h]; exact List.mem_cons_self ..
   ·rcases updM_mem h with h | h
    ·left; exact List.mem_cons_of_mem _ h
    ·right; exact h
theorem putM_ok {m : MP} {p : Int × Int} (h : MOK m) (hp : badP p = false) : MOK (putM m p) := by
 simp only [badP, Bool.or_eq_false_iff, decide_eq_false_iff_not] at hp
 obtain ⟨⟨⟨h1, h2⟩, h3⟩, h4⟩ := hp
 unfold putM
 cases hf : findM m p.1 with
 | some k =>
  have hk := h.n _ (findM_some hf)
  dsimp only at hk ⊢
  refine ⟨by rw [updM_keys]; exact h.nd, fun q hq => ?_, fun q hq => ?_⟩
  ·rcases updM_mem hq with hq | rfl
   ·exact h.v q hq
   ·dsimp only; omega
  ·rcases updM_mem hq with hq | rfl
   ·exact h.n q hq
   ·dsimp only; omega
 | none =>
  refine ⟨?_, fun q hq => ?_, fun q hq => ?_⟩
  ·rw [List.map_append]
   refine List.nodup_append.2 ⟨h.nd, by simp, fun a ha b hb => ?_⟩
   simp only [List.map_cons, List.map_nil, List.mem_singleton] at hb
   subst hb
   exact fun e => findM_none hf (e ▸ ha)
  ·rcases List.mem_append.1 hq with hq | hq
   ·exact h.v q hq
   ·rw [List.mem_singleton.1 hq]; dsimp only; omega
  ·rcases List.mem_append.1 hq with hq | hq
   ·exact h.n q hq
   ·rw [List.mem_singleton.1 hq]; dsimp only; omega
theorem MOK.nil : MOK [] := ⟨by simp, (fun p h => by cases h), (fun p h => by cases h)⟩
theorem foldM_ok : ∀ {l : List (Int × Int)} {m : MP}, MOK m -> (∀ p, p ∈ l -> badP p = false) -> MOK (l.foldl putM m)
 | [], m, h, _ => h
 | p :: r, m, h, hb => foldM_ok (l := r) (m := putM m p) (putM_ok h (hb p (List.mem_cons_self ..))) (fun q hq => hb q (List.mem_cons_of_mem _ hq))
def Xn (l : List (Int × Int)) : Bool := l.any badP
theorem encM_all (m : MP) : ((encM m).all fun p => isIntK .i64 p.1) = true := by simp [encM, encE, isIntK]
theorem encM_find (v : Int) : ∀ m : MP, findD (.int .i64 v) (encM m) = (findM m v).map (.int .i64)
 | [] => rfl
 | p :: r => by
  unfold encM findM
  rw [List.map_cons, findD, List.find?_cons]
  by_cases h : v = p.1
  ·simp [keyEq, encE, h]
  ·have := encM_find v r
   unfold encM findM at this
   simp [keyEq, encE, h, this]
theorem encM_upd (v x : Int) : ∀ m : MP, updE (.int .i64 v) (.int .i64 x) (encM m) = encM (updM v x m)
 | [] => rfl
 | p :: r => by
  unfold encM
  rw [List.map_cons, updE, updM]
  by_cases h : v = p.1
  ·simp [keyEq, encE, h]
  ·have := encM_upd v x r
   unfold encM at this
   simp [keyEq, encE, h, this]
theorem encM_push (m : MP) (v x : Int) : encM m ++ [((.int .i64 v : D), (.int .i64 x : D))] = encM (m ++ [(v, x)]) := by simp [encM, encE]
theorem encM_length (m : MP) : (encM m).length = m.length := by simp [encM]
@[simp high] theorem encM_okN1 (p : Nat -> Bool) (m : MP) : D.okNs p ((encM m).map (·.1)) = true := by
 induction m with
 | nil => rfl
 | cons x r ih => simp only [encM, List.map_cons, D.okNs, encE, D.okN] at ih ⊢; simpa using ih
@[simp high] theorem encM_okN2 (p : Nat -> Bool) (m : MP) : D.okNs p ((encM m).map (·.2)) = true := by
 induction m with
 | nil => rfl
 | cons x r ih => simp only [encM, List.map_cons, D.okNs, encE, D.okN] at ih ⊢; simpa using ih
@[simp high] theorem encM_ren (σ : Nat -> Nat) (m : MP) : (encM m).map (fun e => (D.ren σ e.1, D.ren σ e.2)) = encM m := by
 induction m with
 | nil => rfl
 | cons x r ih => simp only [encM, List.map_cons, encE, D.ren] at ih ⊢; rw [ih]
def noneD : D := .iface 177 (.agg [])
theorem rowPut_spec (l : List (Int × Int)) (m : MP) (hl : l.length <= Wd) (hm : MOK m) : Qu Tryz.prog glob 143 [.agg [.map 0], Ps l] [.mp (encM m)]
  (fun o hc => if Xn l then o = .pan noneD /\ ∃ m', hc = [.mp (encM m')] else o.fgt = .ret (.tuple []) /\ hc = [.mp (encM (l.foldl putM m))]) := by
 refine Qu.movd Qf (Qp Wc Tryz.func143 rfl (Qw _ _ Tryz.func143 rfl (by decide)) rfl rfl ?_)
 unfold Ps
 (refine sR fun K hK => ?_; ((repeat (rw [Qa]; simp)); (try simp only [zs])); refine hK _ _ _ ?_; clear hK K)
 (refine sR fun K hK => ?_; ((repeat (rw [Qa]; simp)); (try simp only [zs])); refine hK _ _ _ ?_; clear hK K)
 refine wpD_range Wc Qf (ti := 3) (tk := 8) (tn := 7) (td := 9) (ts := 44) [5, 8, 9, 10, 11, 12, 13, 14, 15, 16, 17, 18, 19, 20, 21, 22, 23, 24, 25, 26, 27, 28, 29, 30, 31, 32, 33, 34, 35, 36, 37, 38, 39, 40, 41, 42, 43, 44] (l.length) (fun k ys hl => ∃ (m' : MP) (x5 x8 x9 x10 x11 x12 x13 x14 x15 x16 x17 x18 x19 x20 x21 x22 x23 x24 x25 x26 x27 x28 x29 x30 x31 x32 x33 x34 x35 x36 x37 x38 x39 x40 x41 x42 x43 x44 : D), ys = [x5, x8, x9, x10, x11, x12, x13, x14, x15, x16, x17, x18, x19, x20, x21, x22, x23, x24, x25, x26, x27, x28, x29, x30, x31, x32, x33, x34, x35, x36, x37, x38, x39, x40, x41, x42, x43, x44] /\ Xn l = Xn (l.drop k) /\ (l.drop k).foldl putM m' = l.foldl putM m /\ MOK m' /\ hl = [.mp (encM m'), .cells 168 [.map 0]]) rfl rfl rfl rfl rfl rfl rfl rfl rfl rfl rfl rfl (by simp) (by decide) rfl (by first | assumption | omega | (unfold Wd; omega)) rfl (by kernel_rfl) (by decide) ?_ ?_ ?_
 ·exact ⟨m, _, _, _, _, _, _, _, _, _, _, _, _, _, _, _, _, _, _, _, _, _, _, _, _, _, _, _, _, _, _, _, _, _, _, _, _, _, _, rfl, rfl, rfl, hm, rfl⟩
 ·rintro k ys hl A hk ⟨m', x5, x8, x9, x10, x11, x12, x13, x14, x15, x16, x17, x18, x19, x20, x21, x22, x23, x24, x25, x26, x27, x28, x29, x30, x31, x32, x33, x34, x35, x36, x37, x38, x39, x40, x41, x42, x43, x44, rfl, hb, hf, hml, rfl⟩ hA hA2
  simp only [Qv, List.set]
  (refine sR fun K hK => ?_; ((repeat (rw [Qa]; simp [hk, Xp])); (try simp only [zs])); refine hK _ _ _ ?_; clear hK K)
  refine Qg fun K1 hK1 => ?_
  have hd : l.drop k = l[k] :: l.drop (k + 1) := List.drop_eq_getElem_cons hk
  cases hbad : badP l[k] with
  | true =>
   have hall : Xn l = true := by rw [hb, hd, Xn, List.any_cons, hbad]; rfl
   rw [hall]
   simp only [if_true]
   have fin : True := trivial
   by_cases h1 : l[k].1 < 0
   ·(refine sR fun K hK => ?_; ((repeat (rw [Qa]; simp [h1])); (try simp only [zs])); refine hK _ _ _ ?_; clear hK K)
    refine pT rfl ?_
    (refine Qz Wc ?_; ((repeat (rw [Qa]; simp)); (try simp only [zs])))
    ((try simp only [zs]); refine Wa.pan (.inr ⟨[], by decide, by simp, ?_⟩); simp [Out.mov, Wg, Wh, Wj, D.mov, HO.mov, okM, Wi, We, zz, okA, Qr, Qq, hOf, Qe, Qt, Out.fgt, D.fgt, D.fgts])
    exact ⟨rfl, m', rfl⟩
   ·by_cases h2 : l[k].2 < 0
    ·(refine sR fun K hK => ?_; ((repeat (rw [Qa]; simp [h1, h2])); (try simp only [zs])); refine hK _ _ _ ?_; clear hK K)
     refine pT rfl ?_
     (refine Qz Wc ?_; ((repeat (rw [Qa]; simp)); (try simp only [zs])))
     ((try simp only [zs]); refine Wa.pan (.inr ⟨[], by decide, by simp, ?_⟩); simp [Out.mov, Wg, Wh, Wj, D.mov, HO.mov, okM, Wi, We, zz, okA, Qr, Qq, hOf, Qe, Qt, Out.fgt, D.fgt, D.fgts])
     exact ⟨rfl, m', rfl⟩
    ·by_cases h3 : 1048576 < l[k].1
     ·(refine sR fun K hK => ?_; ((repeat (rw [Qa]; simp [h1, h2, h3])); (try simp only [zs])); refine hK _ _ _ ?_; clear hK K)
      refine pT rfl ?_
      (refine Qz Wc ?_; ((repeat (rw [Qa]; simp)); (try simp only [zs])))
      ((try simp only [zs]); refine Wa.pan (.inr ⟨[], by decide, by simp, ?_⟩); simp [Out.mov, Wg, Wh, Wj, D.mov, HO.mov, okM, Wi, We, zz, okA, Qr, Qq, hOf, Qe, Qt, Out.fgt, D.fgt, D.fgts])
      exact ⟨rfl, m', rfl⟩
     ·have h4 : 1048576 < l[k].2 := by simpa [badP, h1, h2, h3] using hbad
      (refine sR fun K hK => ?_; ((repeat (rw [Qa]; simp [h1, h2, h3, h4])); (try simp only [zs])); refine hK _ _ _ ?_; clear hK K)
      refine pT rfl ?_
      (refine Qz Wc ?_; ((repeat (rw [Qa]; simp)); (try simp only [zs])))
      ((try simp only [zs]); refine Wa.pan (.inr ⟨[], by decide, by simp, ?_⟩); simp [Out.mov, Wg, Wh, Wj, D.mov, HO.mov, okM, Wi, We, zz, okA, Qr, Qq, hOf, Qe, Qt, Out.fgt, D.fgt, D.fgts])
      exact ⟨rfl, m', rfl⟩
  | false =>
   have hbad' := hbad
   simp only [badP, Bool.or_eq_false_iff, decide_eq_false_iff_not] at hbad'
   obtain ⟨⟨⟨h1, h2⟩, h3⟩, h4⟩ := hbad'
   (refine sR fun K hK => ?_; ((repeat (rw [Qa]; simp [h1, h2, h3, h4])); (try simp only [zs])); refine hK _ _ _ ?_; clear hK K)
   refine pF rfl ?_
   refine Qs (hK1 _ _ _ ?_)
   clear hK1 K1
   have e1 := encM_all m'
   have e2 := encM_find l[k].1 m'
   have hlt : m'.length < Wd := by have := hml.len; unfold Wd; omega
   cases hf0 : findM m' l[k].1 with
   | none =>
    (refine Qz Wc ?_; ((repeat (rw [Qa]; simp [e1, e2, hf0, encM_length, hlt])); (try simp only [zs])))
    rw [encM_push]
    (refine hA2 ([1]) _ _ (by decide) (by simp) (by simp [Wg, Wh, Wj, D.mov, HO.mov, okM, Wi, We, zz, okA, Qr, Qq, hOf, Qe, Qv]) ?_ rfl; simp [Wg, Wh, Wj, D.mov, HO.mov, okM, Wi, We, zz, okA, Qr, Qq, hOf, Qe])
    have hp : putM m' l[k] = m' ++ [(l[k].1, max 0 l[k].2)] := by unfold putM; rw [hf0]
    refine ⟨by rw [hb, hd, Xn, List.any_cons, hbad]; rfl, _, ?_, ?_, by rw [<- hp]⟩
    ·rw [<- hf, hd, List.foldl_cons]
    ·exact putM_ok hml hbad
   | some x =>
    (refine Qz Wc ?_; ((repeat (rw [Qa]; simp [e1, e2, hf0, encM_length, hlt])); (try simp only [zs])))
    rw [encM_upd]
    (refine hA2 ([1]) _ _ (by decide) (by simp) (by simp [Wg, Wh, Wj, D.mov, HO.mov, okM, Wi, We, zz, okA, Qr, Qq, hOf, Qe, Qv]) ?_ rfl; simp [Wg, Wh, Wj, D.mov, HO.mov, okM, Wi, We, zz, okA, Qr, Qq, hOf, Qe])
    have hp : putM m' l[k] = updM l[k].1 (max x l[k].2) m' := by unfold putM; rw [hf0]
    refine ⟨by rw [hb, hd, Xn, List.any_cons, hbad]; rfl, _, ?_, ?_, by rw [<- hp]⟩
    ·rw [<- hf, hd, List.foldl_cons]
    ·exact putM_ok hml hbad
 ·rintro ys hl ⟨m', x5, x8, x9, x10, x11, x12, x13, x14, x15, x16, x17, x18, x19, x20, x21, x22, x23, x24, x25, x26, x27, x28, x29, x30, x31, x32, x33, x34, x35, x36, x37, x38, x39, x40, x41, x42, x43, x44, rfl, hb, hf, hml, rfl⟩
  simp only [Qv, List.set]
  have hall : Xn l = false := by rw [hb, List.drop_length]; rfl
  rw [List.drop_length, List.foldl_nil] at hf
  rw [hall, hf]
  ((try simp only [zs]); refine Wa.nrm rfl (.inr ⟨[], by decide, by simp, ?_⟩); simp [Out.mov, Wg, Wh, Wj, D.mov, HO.mov, okM, Wi, We, zz, okA, Qr, Qq, hOf, Qe, Qt, Out.fgt, D.fgt, D.fgts])
end Go.Proofs.YtebmlojhdnldgaaGreatDoor
namespace Go.Proofs.YtebmlojhdnldgaaGreatDoor
set_option linter.unusedSimpArgs false
set_option linter.unusedVariables false
open Go.RowKit Go.Maps Go.MapKept
open Go.ChangeMaps (setBlock)
section
variable {P : Program} (w : World) {ops : Array Oper} {rest : List Oper} {o : Oper} {a : Act} {Q : Exit -> Act -> World -> Prop}
theorem wpList_range_m (hg : o.guard = none) (m : Operand) (t : TypeId) (hop : o.op = Op.range t m) (k e : TypeId) (ht : P.underlying t = some (.map k e)) {b clock : Nat} {es : Array MapEntry} (hm : a.eval m = .map (some b)) (hb : w.heap[b]? = some (.map es clock))
  (hK : wpList P ops Q rest (a.put o.dst (.pointer (some ⟨w.heap.size, 0, none⟩))) (w.alloc (.mapIter (some b) clock #[] clock))) :
  wpList P ops Q (o :: rest) a w := by
 refine wpList_plain hg fun K' hK' => ?_
 unfold Oper.wp
 have hrun : (Instr.range t (.map (some b))).run P w = .ok (.pointer (some ⟨w.heap.size, 0, none⟩)) (w.alloc (.mapIter (some b) clock #[] clock)) := by
  simp [Instr.range, run_underlying ht, getObj, Sem.run, hb, newObj]
 simp [execOp, hop, hm, hrun, Result.andThen]
 exact hK' _ _ hK
theorem wpList_next_m (hg : o.guard = none) (it : Operand) (hop : o.op = Op.next it false) {b r clock : Nat} {es : Array MapEntry} {seen : Array Nat} (hit : a.eval it = .pointer (some ⟨r, 0, none⟩)) (hb : w.heap[b]? = some (.map es clock)) (hr : w.heap[r]? = some (.mapIter (some b) clock seen clock)) (hst : Stamped es clock)
  (hDone : (leftOf es seen).size = 0 -> wpList P ops Q rest (a.put o.dst (.tuple #[.bool false])) w)
  (hMore : ∀ (e : MapEntry) (w1 : World), e ∈ (leftOf es seen).toList -> (w1 = w \/ w1 = w.drew) -> wpList P ops Q rest (a.put o.dst (.tuple #[.bool true, e.key, e.val])) (setBlock w1 r (.mapIter (some b) clock (seen.push e.born) clock))) :
  wpList P ops Q (o :: rest) a w := by
 refine wpList_plain hg fun K' hK' => ?_
 unfold Oper.wp
 rcases run_next_at (P := P) w o.type r b clock clock seen es clock hr hb hst.1 (Nat.le_refl _) with ⟨h0, hrun⟩ | ⟨e, he, w1, hw1, hrun⟩
 ·simp [execOp, hop, hit, hrun, Result.andThen]
  exact hK' _ _ (hDone h0)
 ·simp [execOp, hop, hit, hrun, Result.andThen]
  exact hK' _ _ (hMore e w1 he hw1)
end
def hitV (n : Int) (e : MapEntry) : Bool := match e.key, e.val with
 | .int _ x, .int _ c => decide (0 < x) && decide (n <= c)
 | _, _ => false
theorem setBlock_far {w : World} {r k : Nat} {o : Obj} (h : k ≠ r) : (setBlock w r o).heap[k]? = w.heap[k]? := by simp [setBlock, Array.getElem?_setIfInBounds_ne (Ne.symm h)]
theorem setBlock_at {w : World} {r : Nat} {o : Obj} (h : r < w.heap.size) : (setBlock w r o).heap[r]? = some o := by simp [setBlock, h]
theorem left_push {es : Array MapEntry} {seen : Array Nat} {e : MapEntry} (hn : (es.toList.map (·.born)).Nodup) (he : e ∈ (leftOf es seen).toList) : (leftOf es (seen.push e.born)).size < (leftOf es seen).size := by
 unfold leftOf at he ⊢
 show (Array.filter _ es).toList.length < (Array.filter _ es).toList.length
 rw [Array.toList_filter, Array.toList_filter]
 rw [Array.toList_filter] at he
 have h1 : (es.toList.filter fun x => !(seen.push e.born).contains x.born) = (es.toList.filter fun x => !seen.contains x.born).filter fun x => !(x.born == e.born) := by
  rw [List.filter_filter]
  refine List.filter_congr fun x _ => ?_
  rw [show (x.born == e.born) = decide (x.born = e.born) from rfl]
  simp [Array.contains_push, Bool.and_comm]
 rw [h1]
 refine List.length_filter_lt_length_iff_exists.2 ⟨e, he, by simp⟩
set_option maxRecDepth 100000 in
theorem hidden_calls (b clock : Nat) (ents : Array MapEntry) (n : Int) (w : World) (hb : w.heap[b]? = some (.map ents clock)) (hst : Stamped ents clock) (hsh : ∀ e ∈ ents.toList, ∃ x c, e.key = .int .i64 x /\ e.val = .int .i64 c) :
  Calls Tryz.prog 162 #[.agg #[.map (some b)], .int .i64 n] w fun e w' => e = .returned (.bool (ents.toList.any (hitV n))) /\ Below w.heap.size w w' := by
 have hbl : b < w.heap.size := (Array.getElem?_eq_some_iff.1 hb).1
 go_enter Tryz.func162, Tryz.ntmps162
 go_wp2_with (first
  | (at_range; refine wpList_range_m _ rfl _ 166 rfl 3 3 Tryz.underlying166 rfl ((Below.heap_alloc _ _ b hbl).trans hb) ?_)
  | go_in)
 go_frame
 simp only [World.size_alloc]
 go_loopw [5] (fun _ wr => ∃ seen, wr.heap[b]? = some (.map ents clock) /\ wr.heap[w.heap.size + 1]? = some (.mapIter (some b) clock seen clock) /\ (∀ e ∈ ents.toList, seen.contains e.born = true -> hitV n e = false) /\ Below w.heap.size w wr)
  (fun _ wr => wr.rangeLeft b (w.heap.size + 1))
 case atStart =>
  refine ⟨#[], ?_, ?_, fun e _ h => by simp at h, ((Below.refl _ w).alloc (Nat.le_refl _) _).alloc (by simp) _⟩
  ·exact (Below.heap_alloc _ _ b (by simp; omega)).trans ((Below.heap_alloc _ _ b hbl).trans hb)
  ·have := heap_new (w.alloc (.cells #[.map (some b)] 170)) (.mapIter (some b) clock #[] clock)
   simpa using this
 case round =>
  obtain ⟨seen, hbr, hrr, hseen, hbel⟩ := hrel
  have hleft : wr.rangeLeft b (w.heap.size + 1) = (leftOf ents seen).size := by simp [World.rangeLeft, hbr, hrr]
  go_wp2_with (first
   | (at_next; refine wpList_next_m _ rfl _ rfl rfl hbr hrr hst ?_ ?_)
   | go_in)
  ·intro h0
   have hall : (ents.toList.any (hitV n)) = false := by
    rw [List.any_eq_false]
    intro e he
    have : seen.contains e.born = true := by
     cases hc : seen.contains e.born with
     | true => rfl
     | false =>
      exfalso
      have hm : e ∈ (leftOf ents seen).toList := by unfold leftOf; rw [Array.toList_filter]; exact List.mem_filter.2 ⟨he, by rw [hc]; rfl⟩
      have hz : (leftOf ents seen).toList = [] := by rw [h0]
      rw [hz] at hm; cases hm
    rw [hseen e he this]; simp
   go_wp2
   go_ret
   exact ⟨by rw [hall]; rfl, hbel⟩
  ·intro e w1 he0 hw1
   have he : e ∈ (leftOf ents seen).toList := by simpa using he0
   have hem : e ∈ ents.toList := by unfold leftOf at he; rw [Array.toList_filter] at he; exact (List.mem_filter.1 he).1
   obtain ⟨x, c, hx, hc⟩ := hsh e hem
   have hh : w1.heap = wr.heap := by rcases hw1 with rfl | rfl <;> rfl
   have hrl : w.heap.size + 1 < w1.heap.size := by rw [hh]; exact (Array.getElem?_eq_some_iff.1 hrr).1
   have hne : b ≠ w.heap.size + 1 := by omega
   have hb2 : (setBlock w1 (w.heap.size + 1) (.mapIter (some b) clock (seen.push e.born) clock)).heap[b]? = some (.map ents clock) := by rw [setBlock_far hne, hh]; exact hbr
   have hr2 : (setBlock w1 (w.heap.size + 1) (.mapIter (some b) clock (seen.push e.born) clock)).heap[w.heap.size + 1]? = some (.mapIter (some b) clock (seen.push e.born) clock) := setBlock_at hrl
   have hlt := left_push hst.2.1 he
   have hbel2 : Below w.heap.size w (setBlock w1 (w.heap.size + 1) (.mapIter (some b) clock (seen.push e.born) clock)) := by
    refine hbel.trans ⟨?_, ?_, ?_, ?_, fun k hk => ?_⟩
    ·rcases hw1 with rfl | rfl <;> rfl
    ·rcases hw1 with rfl | rfl <;> rfl
    ·rcases hw1 with rfl | rfl <;> rfl
    ·simp [setBlock, hh]
    ·rw [setBlock_far (by omega), hh]
   have hen := run_entry_at (P := Tryz.prog) _ _ _ _ seen ents clock e hr2 hb2 hem hst.2.1
   have hseen2 : (∀ e' ∈ ents.toList, (seen.push e.born).contains e'.born = true -> hitV n e' = false) ↔ hitV n e = false := by
    constructor
    ·intro h; exact h e hem (by simp)
    ·intro h e' he' hc'
     simp [Array.contains_push] at hc'
     rcases hc' with hc' | hc'
     ·exact hseen e' he' (by simpa using hc')
     ·have : e' = e := by
       obtain ⟨i, hi⟩ := List.getElem?_of_mem he'
       obtain ⟨j, hj⟩ := List.getElem?_of_mem hem
       have hi' : (ents.toList.map (·.born))[i]? = some e'.born := by rw [List.getElem?_map, hi]; rfl
       have hj' : (ents.toList.map (·.born))[j]? = some e.born := by rw [List.getElem?_map, hj]; rfl
       have hil := (List.getElem?_eq_some_iff.1 hi').1
       have hij : i = j := by
        exact (List.getElem?_inj hil hst.2.1).1 (by rw [hi', hj', hc'])
       subst hij
       rw [hi] at hj; exact Option.some.inj hj
      rw [this]; exact h
   have hhit : hitV n e = (decide (0 < x) && decide (n <= c)) := by simp [hitV, hx, hc]
   generalize setBlock w1 (w.heap.size + 1) (.mapIter (some b) clock (seen.push e.born) clock) = W2 at *
   rw [hx, hc] at hen ⊢
   clear hw1 hh hrl hx hc
   go_wp2
   ·have hall : (ents.toList.any (hitV n)) = true := List.any_eq_true.2 ⟨e, hem, by rw [hhit]; simp [*]⟩
    go_ret
    exact ⟨by rw [hall]; rfl, hbel2⟩
   ·refine ⟨⟨_, hb2, hr2, hseen2.2 (by rw [hhit]; simp; omega), hbel2⟩, ?_⟩
    rw [hleft]
    simpa [World.rangeLeft, hb2, hr2] using hlt
   ·refine ⟨⟨_, hb2, hr2, hseen2.2 (by rw [hhit]; simp; omega), hbel2⟩, ?_⟩
    rw [hleft]
    simpa [World.rangeLeft, hb2, hr2] using hlt
theorem Rel.below {G : Nat -> Option D} {ρ : Rho} {w w' : World} {H : Nat -> HO} (hR : Rel G ρ w H) (hb : Below w.heap.size w w') : Rel G ρ w' H /\ Ex ρ w H ρ w' H :=
 Ex.quiet hR ⟨hb.os, hb.tape, hb.output, hb.size, fun b h hc => ⟨hc, hb.block b h⟩, fun b k h hc => ⟨.inl ⟨k, hc, Nat.le_refl _⟩, fun vs ty fz hh => ⟨vs, (hb.block b h).trans hh, rfl, fun _ _ => rfl⟩⟩, fun _ _ h => h⟩ (fun b h => hb.block b h)
theorem Rp_map {ρ : Rho} {w : World} {i : Nat} {v : Value} : Rp ρ w (.map i) v = ∃ b f, ρ.nm i = some (b, f) /\ v = .map (some b) := by rw [Rp]
theorem Rp_agg {ρ : Rho} {w : World} {ds : List D} {v : Value} : Rp ρ w (.agg ds) v = ∃ us : List Value, v = .agg us.toArray /\ RpL ρ w ds us := by rw [Rp]
theorem Rp_int {ρ : Rho} {w : World} {k : IntKind} {n : Int} {v : Value} : Rp ρ w (.int k n) v = (v = .int k n /\ k.min <= n /\ n <= k.max) := by rw [Rp]
theorem ints_of {ρ : Rho} {w : World} {f : Int × Int -> Int} : ∀ {m : List (Int × Int)} {vs : List Value}, RpL ρ w (m.map fun p => (.int .i64 (f p) : D)) vs -> vs = m.map fun p => .int .i64 (f p)
 | [], vs, h => by rw [List.map_nil, Wx] at h; exact h
 | p :: r, vs, h => by
  rw [List.map_cons, RpL_cons] at h
  obtain ⟨v, us, rfl, h1, h2⟩ := h
  rw [Rp] at h1
  rw [ints_of h2, h1.1]; rfl
theorem obj_map {G : Nat -> Option D} {ρ : Rho} {w : World} {H : Nat -> HO} {i b f : Nat} {m : MP} (hR : Rel G ρ w H) (hi : H i = .mp (encM m)) (hn : ρ.nm i = some (b, f)) :
  ∃ ents clock, w.heap[b]? = some (.map ents clock) /\ ents.toList.map (·.key) = m.map (fun p => .int .i64 p.1) /\ ents.toList.map (·.val) = m.map (fun p => .int .i64 p.2) /\ Stamped ents clock /\ m.length <= Wd := by
 have h := hR.obj i b f hn
 rw [hi] at h
 obtain ⟨-, ents, clock, h1, h2, h3, h4, h5⟩ := h
 refine ⟨ents, clock, h1, ints_of (ρ := ρ) (w := w) (f := (·.1)) ?_, ints_of (ρ := ρ) (w := w) (f := (·.2)) ?_, h4, by simpa [encM] using h5⟩
 ·simpa [encM, encE, List.map_map, Function.comp_def] using h2
 ·simpa [encM, encE, List.map_map, Function.comp_def] using h3
def hiddenM (m : MP) (n : Int) : Bool := m.any fun p => decide (0 < p.1) && decide (n <= p.2)
theorem hit_any {n : Int} : ∀ {m : MP} {l : List MapEntry}, l.map (·.key) = m.map (fun p => .int .i64 p.1) -> l.map (·.val) = m.map (fun p => .int .i64 p.2) -> l.any (hitV n) = hiddenM m n
 | [], l, h, _ => by
  have : l = [] := List.map_eq_nil_iff.1 h
  subst this; rfl
 | p :: m, [], h, _ => by simp at h
 | p :: m, e :: l, h1, h2 => by
  simp only [List.map_cons, List.cons.injEq] at h1 h2
  have ih := hit_any (n := n) h1.2 h2.2
  unfold hiddenM at ih ⊢
  rw [List.any_cons, List.any_cons, ih]
  congr 1
  simp [hitV, h1.1, h2.1]
theorem hidden_spec (m : MP) (n : Int) : Qu Tryz.prog glob 162 [.agg [.map 0], .int .i64 n] [.mp (encM m)] (fun o hc => o.fgt = .ret (.bool (hiddenM m n)) /\ hc = [.mp (encM m)]) := by
 intro ρ w vs hR hvs
 refine ⟨Qw _ _ Tryz.func162 rfl (by decide) _ _, ?_⟩
 rw [RpL_cons] at hvs
 obtain ⟨v1, us, rfl, h1, h2⟩ := hvs
 rw [RpL_cons] at h2
 obtain ⟨v2, us2, rfl, h2, h3⟩ := h2
 rw [Wx] at h3
 subst h3
 rw [Rp_agg] at h1
 rw [Rp_int] at h2
 obtain ⟨l1, rfl, hl1⟩ := h1
 rw [RpL_cons] at hl1
 obtain ⟨v3, us3, rfl, h4, h5⟩ := hl1
 rw [Wx] at h5
 subst h5
 rw [Rp_map] at h4
 obtain ⟨b, f, hnm, rfl⟩ := h4
 obtain ⟨ents, clock, k1, k2, k3, k4, -⟩ := obj_map hR (i := 0) rfl hnm
 have hsh : ∀ e ∈ ents.toList, ∃ x c, e.key = .int .i64 x /\ e.val = .int .i64 c := fun e he => by
  have a1 : e.key ∈ ents.toList.map (·.key) := List.mem_map.2 ⟨e, he, rfl⟩
  have a2 : e.val ∈ ents.toList.map (·.val) := List.mem_map.2 ⟨e, he, rfl⟩
  rw [k2] at a1
  rw [k3] at a2
  obtain ⟨p, -, hp⟩ := List.mem_map.1 a1
  obtain ⟨q, -, hq⟩ := List.mem_map.1 a2
  exact ⟨_, _, hp.symm, hq.symm⟩
 rw [h2.1]
 refine (hidden_calls b clock ents n w k1 k4 hsh).mono ?_
 rintro e w' ⟨rfl, hbel⟩
 obtain ⟨r1, r2⟩ := hR.below hbel
 refine ⟨ρ, .ret (.bool (hiddenM m n)), [.mp (encM m)], ⟨rfl, rfl⟩, ⟨_, rfl, ?_⟩, r1, r2⟩
 rw [Rp, hit_any k2 k3]
end Go.Proofs.YtebmlojhdnldgaaGreatDoor
namespace Go.Proofs.YtebmlojhdnldgaaGreatDoor
set_option linter.unusedSimpArgs false
set_option linter.unusedVariables false
open Go.RowKit Go.Maps Go.Sort Go.Shelf
def keysL_ren : Go.Shelf.Ren := ⟨fun | 7 => 161 | 10 => 166 | n => n, fun | 23 => 166 | 26 => 3 | 3 => 3 | 28 => 185 | 0 => 0 | 27 => 184 | 33 => 187 | 4 => 4 | n => n, fun | n => n⟩
theorem keysL : Go.Proofs.SlLaysZI.n7 Tryz.prog keysL_ren := {
 mixed := by kernel_rfl,
 f7 := ⟨Tryz.f161.name, by decide, Tryz.func161.trans (congrArg some (by kernel_rfl))⟩,
 f10 := ⟨Tryz.f166.name, by decide, Tryz.func166.trans (congrArg some (by kernel_rfl))⟩,
 t0 := Tryz.underlying0,
 a0 := Tryz.isAgg0,
 z0 := Tryz.sizeOf0,
 v0 := Tryz.zeroValue0,
 t4 := Tryz.underlying4,
 a4 := Tryz.isAgg4,
 z4 := Tryz.sizeOf4,
 v4 := Tryz.zeroValue4,
 t23 := Tryz.underlying166,
 a23 := Tryz.isAgg166,
 z23 := Tryz.sizeOf166,
 v23 := Tryz.zeroValue166,
 t26 := Tryz.underlying3,
 a26 := Tryz.isAgg3,
 z26 := Tryz.sizeOf3,
 v26 := Tryz.zeroValue3,
 t27 := Tryz.underlying184,
 a27 := Tryz.isAgg184,
 z27 := Tryz.sizeOf184,
 v27 := Tryz.zeroValue184,
 t28 := Tryz.underlying185,
 a28 := Tryz.isAgg185,
 z28 := Tryz.sizeOf185,
 v28 := Tryz.zeroValue185,
 t33 := Tryz.underlying187,
 a33 := Tryz.isAgg187,
 z33 := Tryz.sizeOf187,
 v33 := Tryz.zeroValue187 }
def sortedL_ren : Go.Shelf.Ren := ⟨fun | 6 => 160 | 8 => 164 | 9 => 165 | 11 => 167 | 13 => 169 | 12 => 168 | 23 => 179 | 24 => 180 | 14 => 170 | 15 => 171 | 16 => 172 | 17 => 173 | 18 => 174 | 19 => 175 | 20 => 176 | 21 => 177 | 22 => 178 | 25 => 181 | 26 => 182 | 27 => 183 | 28 => 184 | 29 => 185 | 30 => 163 | 31 => 186 | n => n, fun | 26 => 3 | 28 => 185 | 24 => 38 | 0 => 0 | 3 => 3 | 37 => 192 | 48 => 202 | 50 => 204 | 4 => 4 | 40 => 195 | 39 => 194 | 45 => 118 | 5 => 5 | 9 => 9 | 51 => 205 | 55 => 209 | 57 => 211 | 58 => 212 | 33 => 187 | n => n, fun | n => n⟩
theorem sortedL : Go.Proofs.SlLaysZI.n6 Tryz.prog sortedL_ren := {
 mixed := by kernel_rfl,
 f6 := ⟨Tryz.f160.name, by decide, Tryz.func160.trans (congrArg some (by kernel_rfl))⟩,
 f8 := ⟨Tryz.f164.name, by decide, Tryz.func164.trans (congrArg some (by kernel_rfl))⟩,
 f11 := ⟨Tryz.f167.name, by decide, Tryz.func167.trans (congrArg some (by kernel_rfl))⟩,
 t0 := Tryz.underlying0,
 a0 := Tryz.isAgg0,
 z0 := Tryz.sizeOf0,
 v0 := Tryz.zeroValue0,
 t24 := Tryz.underlying38,
 a24 := Tryz.isAgg38,
 z24 := Tryz.sizeOf38,
 v24 := Tryz.zeroValue38,
 t26 := Tryz.underlying3,
 a26 := Tryz.isAgg3,
 z26 := Tryz.sizeOf3,
 v26 := Tryz.zeroValue3,
 t28 := Tryz.underlying185,
 a28 := Tryz.isAgg185,
 z28 := Tryz.sizeOf185,
 v28 := Tryz.zeroValue185,
 i26 := by kernel_rfl }
def sortL_ren : Go.Shelf.Ren := ⟨fun | 5 => 165 | 8 => 169 | 7 => 168 | 19 => 179 | 20 => 180 | 10 => 170 | 11 => 171 | 12 => 172 | 13 => 173 | 14 => 174 | 15 => 175 | 16 => 176 | 17 => 177 | 18 => 178 | 30 => 181 | 31 => 182 | 32 => 183 | 33 => 184 | 34 => 185 | 35 => 163 | 40 => 186 | n => n, fun | 23 => 38 | 25 => 3 | 3 => 3 | 32 => 192 | 22 => 38 | 0 => 0 | 44 => 202 | 46 => 204 | 4 => 4 | 36 => 195 | 35 => 194 | 41 => 118 | 5 => 5 | 9 => 9 | 53 => 205 | 57 => 209 | 63 => 211 | 64 => 212 | n => n, fun | n => n⟩
theorem sortL : Go.Proofs.SlLaysM.n5 Tryz.prog sortL_ren := {
 mixed := by kernel_rfl,
 f5 := ⟨Tryz.f165.name, by decide, Tryz.func165.trans (congrArg some (by kernel_rfl))⟩,
 f7 := ⟨Tryz.f168.name, by decide, Tryz.func168.trans (congrArg some (by kernel_rfl))⟩,
 f8 := Tryz.func169.trans (congrArg some (by kernel_rfl)),
 f10 := ⟨Tryz.f170.name, by decide, Tryz.func170.trans (congrArg some (by kernel_rfl))⟩,
 f11 := ⟨Tryz.f171.name, by decide, Tryz.func171.trans (congrArg some (by kernel_rfl))⟩,
 f12 := ⟨Tryz.f172.name, by decide, Tryz.func172.trans (congrArg some (by kernel_rfl))⟩,
 f13 := ⟨Tryz.f173.name, by decide, Tryz.func173.trans (congrArg some (by kernel_rfl))⟩,
 f14 := ⟨Tryz.f174.name, by decide, Tryz.func174.trans (congrArg some (by kernel_rfl))⟩,
 f15 := ⟨Tryz.f175.name, by decide, Tryz.func175.trans (congrArg some (by kernel_rfl))⟩,
 f16 := ⟨Tryz.f176.name, by decide, Tryz.func176.trans (congrArg some (by kernel_rfl))⟩,
 f17 := ⟨Tryz.f177.name, by decide, Tryz.func177.trans (congrArg some (by kernel_rfl))⟩,
 f18 := ⟨Tryz.f178.name, by decide, Tryz.func178.trans (congrArg some (by kernel_rfl))⟩,
 f19 := Tryz.func179.trans (congrArg some (by kernel_rfl)),
 f20 := Tryz.func180.trans (congrArg some (by kernel_rfl)),
 f30 := ⟨Tryz.f181.name, by decide, Tryz.func181.trans (congrArg some (by kernel_rfl))⟩,
 f31 := Tryz.func182.trans (congrArg some (by kernel_rfl)),
 f32 := Tryz.func183.trans (congrArg some (by kernel_rfl)),
 f33 := ⟨Tryz.f184.name, by decide, Tryz.func184.trans (congrArg some (by kernel_rfl))⟩,
 f34 := ⟨Tryz.f185.name, by decide, Tryz.func185.trans (congrArg some (by kernel_rfl))⟩,
 f35 := ⟨Tryz.f163.name, by decide, Tryz.func163.trans (congrArg some (by kernel_rfl))⟩,
 f40 := ⟨Tryz.f186.name, by decide, Tryz.func186.trans (congrArg some (by kernel_rfl))⟩,
 t0 := Tryz.underlying0,
 a0 := Tryz.isAgg0,
 z0 := Tryz.sizeOf0,
 v0 := Tryz.zeroValue0,
 t3 := Tryz.underlying3,
 a3 := Tryz.isAgg3,
 z3 := Tryz.sizeOf3,
 v3 := Tryz.zeroValue3,
 t4 := Tryz.underlying4,
 a4 := Tryz.isAgg4,
 z4 := Tryz.sizeOf4,
 v4 := Tryz.zeroValue4,
 t5 := Tryz.underlying5,
 a5 := Tryz.isAgg5,
 z5 := Tryz.sizeOf5,
 v5 := Tryz.zeroValue5,
 t9 := Tryz.underlying9,
 a9 := Tryz.isAgg9,
 z9 := Tryz.sizeOf9,
 v9 := Tryz.zeroValue9,
 t22 := Tryz.underlying38,
 a22 := Tryz.isAgg38,
 z22 := Tryz.sizeOf38,
 v22 := Tryz.zeroValue38,
 t23 := Tryz.underlying38,
 a23 := Tryz.isAgg38,
 z23 := Tryz.sizeOf38,
 v23 := Tryz.zeroValue38,
 t25 := Tryz.underlying3,
 a25 := Tryz.isAgg3,
 z25 := Tryz.sizeOf3,
 v25 := Tryz.zeroValue3,
 t32 := Tryz.underlying192,
 a32 := Tryz.isAgg192,
 z32 := Tryz.sizeOf192,
 v32 := Tryz.zeroValue192,
 t35 := Tryz.underlying194,
 a35 := Tryz.isAgg194,
 z35 := Tryz.sizeOf194,
 v35 := Tryz.zeroValue194,
 t36 := Tryz.underlying195,
 a36 := Tryz.isAgg195,
 z36 := Tryz.sizeOf195,
 v36 := Tryz.zeroValue195,
 t41 := Tryz.underlying118,
 a41 := Tryz.isAgg118,
 z41 := Tryz.sizeOf118,
 v41 := Tryz.zeroValue118,
 t44 := Tryz.underlying202,
 a44 := Tryz.isAgg202,
 z44 := Tryz.sizeOf202,
 v44 := Tryz.zeroValue202,
 t46 := Tryz.underlying204,
 a46 := Tryz.isAgg204,
 z46 := Tryz.sizeOf204,
 v46 := Tryz.zeroValue204,
 t53 := Tryz.underlying205,
 a53 := Tryz.isAgg205,
 z53 := Tryz.sizeOf205,
 v53 := Tryz.zeroValue205,
 t57 := Tryz.underlying209,
 a57 := Tryz.isAgg209,
 z57 := Tryz.sizeOf209,
 v57 := Tryz.zeroValue209,
 t63 := Tryz.underlying211,
 a63 := Tryz.isAgg211,
 z63 := Tryz.sizeOf211,
 v63 := Tryz.zeroValue211,
 t64 := Tryz.underlying212,
 a64 := Tryz.isAgg212,
 z64 := Tryz.sizeOf212,
 v64 := Tryz.zeroValue212 }
end Go.Proofs.YtebmlojhdnldgaaGreatDoor
namespace Go.Proofs.YtebmlojhdnldgaaGreatDoor
set_option linter.unusedSimpArgs false
set_option linter.unusedVariables false
open Go.RowKit Go.Maps Go.MapKept Go.Sort Go.Shelf Go.WideAt Go.WideElems Go.WideShapes
theorem sortsIn (k : Nat) : AnyZI.SortsIn Tryz.prog sortedL_ren Fence.wide k :=
 ⟨fun blk off cap ss W hH hblk hsz => callsIn_wide.2 (AnyM.slices_Sort_int sortL blk off cap ss W hH hblk hsz), fun p cap W => callsIn_wide.2 (AnyM.slices_Sort_int_none sortL p cap W)⟩
def anyR (v : Value) : Option (DataW Unit × List MemPlace) := some (.nil, [])
theorem intKeys_perm {es : Array MapEntry} {m : MP} (hk : es.toList.map (·.key) = m.map (fun p => .int .i64 p.1)) (hb : ∀ p ∈ m, (Lit.int .i64 p.1).wf = true) :
  (intKeys (.map ((es.toList.map (rg Tryz.prog 3 anyR)).foldr DataW.insert []))).Perm (m.map (·.1)) := by
 have h1 : ∀ l : List MapEntry, ∀ m : MP, (∀ p ∈ m, (Lit.int .i64 p.1).wf = true) -> l.map (·.key) = m.map (fun p => .int .i64 p.1) -> (l.map (rg Tryz.prog 3 anyR)).map (fun q => Go.intOf q.1) = m.map (·.1) := by
  intro l
  induction l with
  | nil =>
   intro m _ h
   have : m = [] := List.map_eq_nil_iff.1 h.symm
   subst this; rfl
  | cons e r ih =>
   intro m hw h
   cases m with
   | nil => simp at h
   | cons p m =>
    simp only [List.map_cons, List.cons.injEq] at h ⊢
    refine ⟨?_, ih m (fun q hq => hw q (List.mem_cons_of_mem _ hq)) h.2⟩
    have hkey : keyOf Tryz.prog 3 e.key = some (.int .i64 p.1) := by rw [h.1]; exact keyOf_int_mk Tryz.underlying3 (hw p (List.mem_cons_self ..))
    have : rg Tryz.prog 3 anyR e = (.int .i64 p.1, .nil) := by simp [rg, WideElems.rd, hkey, anyR]
    rw [this]; rfl
 have h2 := h1 es.toList m hb hk
 show (List.map (fun p : Lit × DataW Unit => Go.intOf p.1) _).Perm _
 rw [<- h2]
 exact (sorted_perm _).map _
theorem sorted_calls (b bx clock : Nat) (ents : Array MapEntry) (m : MP) (w : World) (hb : w.heap[b]? = some (.map ents clock)) (hst : Stamped ents clock) (hk : ents.toList.map (·.key) = m.map (fun p => .int .i64 p.1)) (hw : ∀ p ∈ m, (Lit.int .i64 p.1).wf = true) (hm : m.length <= 16777216)
  (hbx : w.cell? ⟨bx, 0, none⟩ = some (.map (some b))) :
  Calls Tryz.prog 160 #[.func (.func 166) #[] #[.pointer (some ⟨bx, 0, none⟩)]] w fun e w' => ∃ (v : Value) (ss : List Int), e = .returned v /\ ss.Perm (m.map (·.1)) /\
   w'.ownsRow w.heap.size 3 1 v ss.length ((ss.mergeSort (fun x y => decide (x <= y))).map encZ) /\ Below w.heap.size w w' := by
 have hsz : ents.size = m.length := by have := congrArg List.length hk; simpa using this
 have hmax : ents.size <= maxLen := by simp only [maxLen]; omega
 have hF : Fit Tryz.prog 3 anyR ents clock := ⟨hmax, hst, fun x hx => by
  have a1 : x.key ∈ ents.toList.map (·.key) := List.mem_map.2 ⟨x, hx, rfl⟩
  rw [hk] at a1
  obtain ⟨p, hp, e⟩ := List.mem_map.1 a1
  have hkey : keyOf Tryz.prog 3 x.key = some (.int .i64 p.1) := by rw [<- e]; exact keyOf_int_mk Tryz.underlying3 (hw p hp)
  exact ⟨_, by simp [WideElems.rd, hkey, anyR]; rfl⟩⟩
 have hown : w.ownsMap Tryz.prog 3 anyR b ents.size (.map ((ents.toList.map (rg Tryz.prog 3 anyR)).foldr DataW.insert [])) := ⟨ents, clock, hb, hF, Nat.le_refl _, rfl⟩
 have hseq : SeqGives Fence.wide 2 Tryz.prog 166 #[.pointer (some ⟨bx, 0, none⟩)] encZ (fun ss => ss.Perm (intKeys (.map ((ents.toList.map (rg Tryz.prog 3 anyR)).foldr DataW.insert [])))) (Maps.size (.map ((ents.toList.map (rg Tryz.prog 3 anyR)).foldr DataW.insert []))) w :=
  AnyZI.keys_gives (ρ := keysL_ren) { keysL with } Fence.wide _ trivial rfl (by omega) bx b ents.size _ w (World.block_lt_of_cell? w _ hbx) hbx hown
 have hDs : Maps.size (.map ((ents.toList.map (rg Tryz.prog 3 anyR)).foldr DataW.insert [])) = m.length := by
  rw [Maps.size_eq, (sorted_perm _).length_eq, List.length_map, Array.length_toList]; exact hsz
 have cS := AnyZI.sorted_in sortedL Fence.wide 5 trivial trivial trivial trivial rfl (by omega) (sortsIn _) (enters_of Tryz.func165 (by kernel_rfl) rfl) 166 #[.pointer (some ⟨bx, 0, none⟩)] trivial (enters_of Tryz.func166 (by kernel_rfl) rfl) _ _ (by rw [hDs]; omega) (by rw [hDs]; omega) _ hseq
 refine ((callsIn_wide (n := 5)).1 cS).mono ?_
 rintro e w' ⟨v, ss, rfl, hS, hrow, hnil, hbel⟩
 exact ⟨v, ss, rfl, hS.trans (intKeys_perm hk hw), hrow, hbel⟩
def sortK (m : MP) : List Int := (m.map (·.1)).mergeSort fun x y => decide (x <= y)
theorem perm_sortI {l l' : List Int} (h : l.Perm l') : (l.mergeSort fun x y => decide (x <= y)) = l'.mergeSort fun x y => decide (x <= y) := by
 have tr : ∀ a b c : Int, decide (a <= b) = true -> decide (b <= c) = true -> decide (a <= c) = true := fun a b c h1 h2 => by simp only [decide_eq_true_eq] at *; omega
 have to : ∀ a b : Int, (decide (a <= b) || decide (b <= a)) = true := fun a b => by simp only [Bool.or_eq_true, decide_eq_true_eq]; omega
 refine List.Perm.eq_of_pairwise (le := fun x y => decide (x <= y) = true) ?_ (List.pairwise_mergeSort tr to l) (List.pairwise_mergeSort tr to l') (((List.mergeSort_perm l _).trans h).trans (List.mergeSort_perm l' _).symm)
 intro a b _ _ h1 h2
 simp only [decide_eq_true_eq] at h1 h2
 omega
theorem Rp_row {ρ : Rho} {w w' : World} {e : TypeId} {v : Value} {l : List Int} (hfr : ∀ b, w.heap.size <= b -> ρ.c b = none) (h : w'.ownsRow w.heap.size e 1 v l.length (l.map encZ)) (hb : ∀ x, x ∈ l -> IntKind.i64.min <= x /\ x <= IntKind.i64.max) (hl : l.length <= Wd) : Rp ρ w' (Ints l) v := by
 unfold Ints
 rw [Rp]
 rw [List.length_map]
 rcases h.2 with ⟨rfl, hz⟩ | ⟨g, cap, cur, rfl, hbase, hg, r1, r2, r3, r4⟩
 ·have : l = [] := List.eq_nil_of_length_eq_zero hz
  subst this
  exact ⟨none, 0, 1, rfl, Nat.le_refl _, Nat.zero_le _, Nat.zero_le _, (fun _ h => by cases h), trivial, fun h => absurd rfl h⟩
 ·refine ⟨_, cap, 1, rfl, r1, r2, hl, fun d hd => ?_, trivial, fun _ => ⟨g, 0, rfl, RpE.of (sz := 1) (fun d hd => ?_) fun i d hi => ?_⟩⟩
  ·obtain ⟨x, -, rfl⟩ := List.mem_map.1 hd; rfl
  ·obtain ⟨x, -, rfl⟩ := List.mem_map.1 hd; rfl
  ·rw [List.getElem?_map] at hi
   cases hx : l[i]? with
   | none => rw [hx] at hi; cases hi
   | some x =>
    rw [hx] at hi; cases hi
    have hm := hb x (List.mem_of_getElem? hx)
    refine ⟨.int .i64 x, ⟨(fun k hk => by rw [hfr g hbase] at hk; cases hk), ?_, rfl⟩, by rw [Rp]; exact ⟨rfl, hm⟩⟩
    have h1 : (l.map encZ)[i]? = some (.int .i64 x) := by rw [List.getElem?_map, hx]; rfl
    rw [<- r4, Nat.mul_one] at h1
    have hi' : i < l.length := (List.getElem?_eq_some_iff.1 hx).1
    rw [List.getElem?_take_of_lt hi', Array.getElem?_toList] at h1
    simp [World.cell?, hg, h1]
theorem sorted_spec (m : MP) (hm : MOK m) : Qu Tryz.prog glob 160 [.fn (.func 166) [] [.box 1 0]] [.mp (encM m), .cells 166 [.map 0]]
  (fun o hc => o.fgt = .ret (Ints (sortK m)) /\ hc = [.mp (encM m), .cells 166 [.map 0]]) := by
 intro ρ w vs hR hvs
 refine ⟨Qw _ _ Tryz.func160 rfl (by decide) _ _, ?_⟩
 rw [RpL_cons] at hvs
 obtain ⟨v1, us, rfl, h1, h2⟩ := hvs
 rw [Wx] at h2
 subst h2
 rw [Rp] at h1
 obtain ⟨us, vs, rfl, h2, h3⟩ := h1
 rw [Wx] at h2
 subst h2
 rw [RpL_cons] at h3
 obtain ⟨v2, us2, rfl, h4, h5⟩ := h3
 rw [Wx] at h5
 subst h5
 obtain ⟨bx, f, cs, rfl, hnm, -, hh, hr⟩ := obj_cells hR (i := 1) (ty := 166) (ds := [.map 0]) rfl h4
 rw [RpL_cons] at hr
 obtain ⟨v3, us3, rfl, h6, h7⟩ := hr
 rw [Wx] at h7
 subst h7
 rw [Rp_map] at h6
 obtain ⟨b, f0, hnm0, rfl⟩ := h6
 obtain ⟨ents, clock, k1, k2, k3, k4, -⟩ := obj_map hR (i := 0) rfl hnm0
 have hw : ∀ p ∈ m, (Lit.int .i64 p.1).wf = true := fun p hp => by
  have := hm.v p hp
  simp [Lit.wf, IntKind.min, IntKind.max, IntKind.signed, IntKind.bits]
  omega
 have hlen := hm.len
 refine (sorted_calls b bx clock ents m w k1 k4 k2 hw (by omega) (by simp [World.cell?, hh])).mono ?_
 rintro e w' ⟨v, ss, rfl, hperm, hrow, hbel⟩
 obtain ⟨r1, r2⟩ := hR.below hbel
 have hs : (ss.mergeSort fun x y => decide (x <= y)) = sortK m := by
  exact perm_sortI hperm
 rw [hs] at hrow
 have hmem : ∀ x, x ∈ sortK m -> 0 <= x /\ x <= 1048576 := fun x hx => by
  have hx' : x ∈ m.map (·.1) := (List.mergeSort_perm _ _).mem_iff.1 hx
  obtain ⟨p, hp, rfl⟩ := List.mem_map.1 hx'
  exact hm.v p hp
 have hsl : (sortK m).length = ss.length := by rw [<- hs, List.length_mergeSort]
 have hsl2 : ss.length = m.length := by rw [hperm.length_eq, List.length_map]
 refine ⟨ρ, .ret (Ints (sortK m)), _, ⟨?_, rfl⟩, ⟨v, rfl, Rp_row hR.fresh (by rw [hsl]; exact hrow) (fun x hx => ?_) (by unfold Wd; omega)⟩, r1, r2⟩
 ·simp [Out.fgt, Ints, D.fgt]
 ·have := hmem x hx
  have h1 : IntKind.i64.min = -9223372036854775808 := by decide
  have h2 : IntKind.i64.max = 9223372036854775807 := by decide
  omega
end Go.Proofs.YtebmlojhdnldgaaGreatDoor
namespace Go.Proofs.YtebmlojhdnldgaaGreatDoor
set_option linter.unusedSimpArgs false
set_option linter.unusedVariables false
set_option maxHeartbeats 10000000
set_option maxRecDepth 20000
open Go.RowKit
attribute [local simp] Qb Qc Xg Xw opD Qt Qn Qi Qj hOf Xd Xz Xu TK.isAgg TK.known Xf Xh Wv Qv D.ofV inB Wr Xj binX binD binE Xv bndD capB IntKind.min IntKind.max IntKind.signed IntKind.bits Xb late
theorem keys_spec (es : List (D × D)) : Qu Tryz.prog glob 161 [.map 0] [.mp es] (fun o hc => o = .ret (.fn (.func 166) [] [.box 1 0]) /\ hc = [.mp es, .cells 166 [.map 0]]) := by
 refine Qu.movd Qf (Qp Wc Tryz.func161 rfl (Qw _ _ Tryz.func161 rfl (by decide)) rfl rfl ?_)
 (refine sR fun K hK => ?_; ((repeat (rw [Qa]; simp)); (try simp only [zs])); refine hK _ _ _ ?_; clear hK K)
 (refine sR fun K hK => ?_; ((repeat (rw [Qa]; simp)); (try simp only [zs])); refine hK _ _ _ ?_; clear hK K)
 (refine Qo ?_; (try simp only [zs]); refine Wa.ret rfl (.inl ?_); simp [Qt, Out.fgt, D.fgt, D.fgts])
def keepM (m : MP) (v : Int) : Option (Int × Int) :=
 if 0 < v \/ (0 < (findM m v).getD 0 /\ hiddenM m ((findM m v).getD 0) = false) then some (v, (findM m v).getD 0) else none
def levM (m : MP) : LV := (sortK m).filterMap (keepM m)
theorem sortK_len (m : MP) : (sortK m).length = m.length := by unfold sortK; rw [List.length_mergeSort, List.length_map]
theorem levM_len (m : MP) : (levM m).length <= m.length := by
 have := List.length_filterMap_le (keepM m) (sortK m)
 rw [sortK_len] at this
 exact this
theorem level_spec (m : MP) (hm : MOK m) : Qu Tryz.prog glob 153 [.agg [.map 0]] [.mp (encM m)] (fun o hc => o = .ret (.agg [.own 1 (levM m).length]) /\ hc = [.mp (encM m), .row 2 ((levM m).map Xp)]) := by
 have hml := hm.len
 have hsl := sortK_len m
 refine Qu.movd Qf (Qp Wc Tryz.func153 rfl (Qw _ _ Tryz.func153 rfl (by decide)) rfl rfl ?_)
 (refine sR fun K hK => ?_; ((repeat (rw [Qa]; simp)); (try simp only [zs])); refine hK _ _ _ ?_; clear hK K)
 refine wpD_ownO 2 0 2 (ty := 82) (ds := [.slice [] .full]) rfl ?_
 simp [D.ownd]
 refine Qg fun K1 hK1 => ?_
 (refine sR fun K hK => ?_; ((repeat (rw [Qa]; simp)); (try simp only [zs])))
 refine cXo [0] true (keys_spec (encM m)) ?_
 (rintro o hc ⟨rfl, rfl⟩; refine ⟨false, ?_⟩; simp [zz, okA, Qr, Qq, hOf, Qe, Out.ren, told, Out.fgt, upO, Qi, Qj])
 ((try simp only [Qb, Qc, Qn, Qi, Qj]); (repeat (rw [Qa]; simp)); (try simp only [zs]))
 refine cXo [0, 4] true (sorted_spec m hm) ?_
 (rintro o hc ⟨ho, rfl⟩; refine ⟨true, ?_⟩; rw [show told true o = _ from ho]; clear ho; simp [zz, okA, Qr, Qq, hOf, Qe, Out.ren, told, Out.fgt, upO, Qi, Qj, Ints])
 ((try simp only [Qb, Qc, Qn, Qi, Qj]); (repeat (rw [Qa]; simp)); (try simp only [zs]))
 (refine hK _ _ _ ?_; clear hK K)
 refine wpD_range Wc Qf (ti := 3) (tk := 12) (tn := 11) (td := 13) (ts := 41) [4, 5, 12, 13, 14, 15, 16, 17, 18, 19, 20, 21, 22, 23, 24, 25, 26, 27, 28, 29, 30, 31, 32, 33, 34, 35, 36, 37, 38, 39, 40, 41] ((sortK m).length) (fun k ys hl => ∃  (x4 x5 x12 x13 x14 x15 x16 x17 x18 x19 x20 x21 x22 x23 x24 x25 x26 x27 x28 x29 x30 x31 x32 x33 x34 x35 x36 x37 x38 x39 x40 x41 : D), ys = [x4, x5, x12, x13, x14, x15, x16, x17, x18, x19, x20, x21, x22, x23, x24, x25, x26, x27, x28, x29, x30, x31, x32, x33, x34, x35, x36, x37, x38, x39, x40, x41] /\ hl = [.mp (encM m), .cells 170 [.map 0], .cells 82 [.own 3 (((sortK m).take k).filterMap (keepM m)).length], .row 2 ((((sortK m).take k).filterMap (keepM m)).map Xp), .cells 166 [.map 0]]) rfl rfl rfl rfl rfl rfl rfl rfl rfl rfl rfl rfl (by simp) (by decide) rfl (by first | assumption | omega | (unfold Wd; omega)) rfl (by kernel_rfl) (by decide) ?_ ?_ ?_
 ·exact ⟨_, _, _, _, _, _, _, _, _, _, _, _, _, _, _, _, _, _, _, _, _, _, _, _, _, _, _, _, _, _, _, _, rfl, rfl⟩
 ·rintro k ys hl A hk ⟨x4, x5, x12, x13, x14, x15, x16, x17, x18, x19, x20, x21, x22, x23, x24, x25, x26, x27, x28, x29, x30, x31, x32, x33, x34, x35, x36, x37, x38, x39, x40, x41, rfl, rfl⟩ hA hA2
  simp only [Qv, List.set]
  have htk : (sortK m).take (k + 1) = (sortK m).take k ++ [(sortK m)[k]] := List.take_succ_eq_append_getElem hk
  generalize hes : ((sortK m).take k).filterMap (keepM m) = es
  have hel : es.length + 1 <= Wd := by
   have h1 := List.length_filterMap_le (keepM m) ((sortK m).take k)
   rw [hes, List.length_take] at h1
   unfold Wd; omega
  have hnx : ((sortK m).take (k + 1)).filterMap (keepM m) = es ++ (keepM m (sortK m)[k]).toList := by
   rw [htk, List.filterMap_append, hes]
   cases hq : keepM m (sortK m)[k] <;> simp [hq]
  obtain ⟨v, hv⟩ : ∃ v, v = (sortK m)[k] := ⟨_, rfl⟩
  have hvm : v ∈ m.map (·.1) := by
   rw [hv]; exact (List.mergeSort_perm _ _).mem_iff.1 (List.getElem_mem hk)
  obtain ⟨n, hn⟩ : ∃ n, findM m v = some n := by
   cases hq : findM m v with
   | some n => exact ⟨n, rfl⟩
   | none => exact absurd hvm (findM_none hq)
  have e1 := encM_all m
  have e2 := encM_find v m
  (refine sR fun K hK => ?_; ((repeat (rw [Qa]; simp [hk, <- hv])); (try simp only [zs])); refine hK _ _ _ ?_; clear hK K)
  (refine sR fun K hK => ?_; ((repeat (rw [Qa]; simp [e1, e2, hn])); (try simp only [zs])); refine hK _ _ _ ?_; clear hK K)
  rw [<- hv] at hnx
  have hpush : List.map Xp es ++ [D.agg [.int .i64 v, .int .i64 n]] = (es ++ [(v, n)]).map Xp := by simp [Xp]
  by_cases h1 : 0 < v
  ·have hkp : keepM m v = some (v, n) := by simp [keepM, h1, hn]
   rw [hkp] at hnx
   (refine sR fun K hK => ?_; ((repeat (rw [Qa]; simp [h1])); (try simp only [zs])); refine hK _ _ _ ?_; clear hK K)
   refine pT rfl ?_
   (refine Qz Wc ?_; ((repeat (rw [Qa]; simp [hel])); (try simp only [zs])))
   rw [hpush]
   (refine hA2 ([1, 2, 5, 4]) _ _ (by decide) (by simp) (by simp [Wg, Wh, Wj, D.mov, HO.mov, okM, Wi, We, zz, okA, Qr, Qq, hOf, Qe, Qv]) ?_ rfl; simp [Wg, Wh, Wj, D.mov, HO.mov, okM, Wi, We, zz, okA, Qr, Qq, hOf, Qe])
   rw [hnx]
   simp
  ·by_cases h2 : 0 < n
   ·cases h3 : hiddenM m n with
    | true =>
     have hkp : keepM m v = none := by simp [keepM, h1, hn, h3]
     rw [hkp] at hnx
     (refine sR fun K hK => ?_; ((repeat (rw [Qa]; simp [h1, h2])); (try simp only [zs])))
     refine cXo [0] true (hidden_spec m n) ?_
     (rintro o hc ⟨ho, rfl⟩; refine ⟨true, ?_⟩; rw [show told true o = _ from ho]; clear ho; simp [zz, okA, Qr, Qq, hOf, Qe, Out.ren, told, Out.fgt, upO, Qi, Qj])
     ((try simp only [Qb, Qc, Qn, Qi, Qj]); (repeat (rw [Qa]; simp [h3])); (try simp only [zs]))
     (refine hK _ _ _ ?_; clear hK K)
     refine pF rfl ?_
     refine Qs ?_
     (refine hA _ _ (by kernel_rfl) ?_ rfl; simp only [We, List.map_cons, List.map_nil])
     exact ⟨_, _, _, _, _, _, _, _, _, _, _, _, _, _, _, _, _, _, _, _, _, _, _, _, _, _, _, _, _, _, _, _, rfl, by rw [hnx]; simp⟩
    | false =>
     have hkp : keepM m v = some (v, n) := by simp [keepM, h1, hn, h2, h3]
     rw [hkp] at hnx
     (refine sR fun K hK => ?_; ((repeat (rw [Qa]; simp [h1, h2])); (try simp only [zs])))
     refine cXo [0] true (hidden_spec m n) ?_
     (rintro o hc ⟨ho, rfl⟩; refine ⟨true, ?_⟩; rw [show told true o = _ from ho]; clear ho; simp [zz, okA, Qr, Qq, hOf, Qe, Out.ren, told, Out.fgt, upO, Qi, Qj])
     ((try simp only [Qb, Qc, Qn, Qi, Qj]); (repeat (rw [Qa]; simp [h3])); (try simp only [zs]))
     (refine hK _ _ _ ?_; clear hK K)
     refine pT rfl ?_
     (refine Qz Wc ?_; ((repeat (rw [Qa]; simp [hel])); (try simp only [zs])))
     rw [hpush]
     (refine hA2 ([1, 2, 5, 4]) _ _ (by decide) (by simp) (by simp [Wg, Wh, Wj, D.mov, HO.mov, okM, Wi, We, zz, okA, Qr, Qq, hOf, Qe, Qv]) ?_ rfl; simp [Wg, Wh, Wj, D.mov, HO.mov, okM, Wi, We, zz, okA, Qr, Qq, hOf, Qe])
     rw [hnx]
     simp
   ·have hkp : keepM m v = none := by simp [keepM, h1, hn, h2]
    rw [hkp] at hnx
    (refine sR fun K hK => ?_; ((repeat (rw [Qa]; simp [h1, h2])); (try simp only [zs])); refine hK _ _ _ ?_; clear hK K)
    refine pF rfl ?_
    refine Qs ?_
    (refine hA _ _ (by kernel_rfl) ?_ rfl; simp only [We, List.map_cons, List.map_nil])
    exact ⟨_, _, _, _, _, _, _, _, _, _, _, _, _, _, _, _, _, _, _, _, _, _, _, _, _, _, _, _, _, _, _, _, rfl, by rw [hnx]; simp⟩
 ·rintro ys hl ⟨x4, x5, x12, x13, x14, x15, x16, x17, x18, x19, x20, x21, x22, x23, x24, x25, x26, x27, x28, x29, x30, x31, x32, x33, x34, x35, x36, x37, x38, x39, x40, x41, rfl, rfl⟩
  simp only [Qv, List.set]
  refine hK1 _ _ _ ?_
  clear hK1 K1
  have htk : ((sortK m).take (sortK m).length).filterMap (keepM m) = levM m := by rw [List.take_length]; rfl
  rw [htk]
  (refine sR fun K hK => ?_; ((repeat (rw [Qa]; simp)); (try simp only [zs])); refine hK _ _ _ ?_; clear hK K)
  (refine Qo ?_; (try simp only [zs]); refine Wa.ret rfl (.inr ⟨[3], by decide, by simp, ?_⟩); simp [Out.mov, Wg, Wh, Wj, D.mov, HO.mov, okM, Wi, We, zz, okA, Qr, Qq, hOf, Qe, Qt, Out.fgt, D.fgt, D.fgts])
theorem catch_idle (d : D) (x : HO) : SpecD Tryz.prog glob 152 [.box 0 0] [.cells 82 [d], x] none (fun hc => hc = [.cells 82 [d], x]) := by
 refine wpD_specd Wc Tryz.func152 rfl rfl (fun a w => rfl) rfl (Qw _ _ Tryz.func152 rfl (by decide)) rfl rfl ?_
 ((try simp only [Qb, Qc, Qn, Qi, Qj]); (repeat (rw [Qa]; simp)); (try simp only [zs]))
 (refine sR fun K hK => ?_; ((repeat (rw [Qa]; simp)); (try simp only [zs])); refine hK _ _ _ ?_; clear hK K)
 refine pF rfl ?_
 refine Qs ?_
 refine Wa.nrm rfl ?_
 simp [Qi]
theorem catch_none (d : D) : SpecD Tryz.prog glob 152 [.box 0 0] [.cells 82 [d]] (some noneD) (fun hc => hc = [.cells 82 [.slice [] .full], .cells 177 []]) := by
 refine wpD_specd Wc Tryz.func152 rfl rfl (fun a w => rfl) rfl (Qw _ _ Tryz.func152 rfl (by decide)) rfl rfl ?_
 unfold noneD
 ((try simp only [Qb, Qc, Qn, Qi, Qj]); (repeat (rw [Qa]; simp)); (try simp only [zs]))
 (refine sR fun K hK => ?_; ((repeat (rw [Qa]; simp)); (try simp only [zs])); refine hK _ _ _ ?_; clear hK K)
 refine pT rfl ?_
 refine Qg fun K1 hK1 => ?_
 (refine sR fun K hK => ?_; ((repeat (rw [Qa]; simp)); (try simp only [zs])); refine hK _ _ _ ?_; clear hK K)
 refine Qg fun K2 hK2 => ?_
 (refine Qz Wc ?_; ((repeat (rw [Qa]; simp)); (try simp only [zs])))
 refine hK2 _ _ _ ?_
 refine pF rfl ?_
 refine Qs (hK1 _ _ _ ?_)
 (refine Qz Wc ?_; ((repeat (rw [Qa]; simp)); (try simp only [zs])))
 refine Wa.nrm rfl ?_
 simp
def OwnL (l : LV) (o : Out) (hc : List HO) : Prop := (l = [] /\ o = .ret (.agg [.slice [] .full]) /\ hc = []) \/ (o = .ret (.agg [.own 0 l.length]) /\ hc = [.row 2 (l.map Xp)])
def PutsM (R : Option MP) (o : Out) (hc : List HO) : Prop := match R with
 | none => o = .pan noneD /\ ∃ m', hc = [.mp (encM m')]
 | some m => o.fgt = .ret (.tuple []) /\ hc = [.mp (encM m)]
def levR : Option MP -> LV
 | none => []
 | some m => levM m
theorem made_spec (g : FuncId) (cap : List D) (R : Option MP) (hcf : D.fgts cap = cap) (hcp : D.pures cap = true) (hR : ∀ m, R = some m -> MOK m) (hg : Qu Tryz.prog glob g (.agg [.map 0] :: cap) [.mp []] (PutsM R)) :
  Qu Tryz.prog glob 141 [.fn (.func g) [] cap] [] (OwnL (levR R)) := by
 have hren : ∀ σ, D.rens σ cap = cap := fun σ => D.rens_pure σ cap hcp
 have hok : ∀ p, D.okNs p cap = true := fun p => D.okNs_pure p cap hcp
 refine Qu.movd Qf (wpD_specD Wc Tryz.func141 rfl (Qw _ _ Tryz.func141 rfl (by decide)) rfl rfl ?_)
 (refine sR fun K hK => ?_; ((repeat (rw [Qa]; simp)); (try simp only [zs])); refine hK _ _ _ ?_; clear hK K)
 (refine sR fun K hK => ?_; ((repeat (rw [Qa]; simp)); (try simp only [zs])); refine hK _ _ _ ?_; clear hK K)
 (refine sR fun K hK => ?_; ((repeat (rw [Qa]; simp)); (try simp only [zs])); refine hK _ _ _ ?_; clear hK K)
 (refine sR fun K hK => ?_; ((repeat (rw [Qa]; simp)); (try simp only [zs])))
 refine Xk.objs Qf [1] true hg ?_ ?_ (by decide) (by simp) (by simp [zz, okA, Qr, Qq, hOf, Qe, encM]) (by simp [zz, okA, Qr, Qq, hOf, Qe]) (by simp [zz, okA, Qr, Qq, hOf, Qe, hcf, hren]) (by simp [zz, okA, Qr, Qq, hOf, Qe, hcf, hok])
 ·cases R with
  | none =>
   rintro o hc ⟨rfl, m', rfl⟩
   refine ⟨false, ?_⟩
   unfold noneD
   simp [zz, okA, Qr, Qq, hOf, Qe, Out.ren, told, Out.fgt, upO, Qi, Qj]
   ((try simp only [Qb, Qc, Qn, Qi, Qj]); (repeat (rw [Qa]; simp)); (try simp only [zs]))
   (try simp only [zs])
   refine DefX.objs Qf [0] (catch_none (.slice [] .full)) ?_ ?_ (fun d h => by cases h; rfl) (by decide) (by simp) (by simp [zz, okA, Qr, Qq, hOf, Qe]) (by simp [zz, okA, Qr, Qq, hOf, Qe]) (by simp [zz, okA, Qr, Qq, hOf, Qe]) (by simp [zz, okA, Qr, Qq, hOf, Qe])
   ·rintro hc rfl
    simp [zz, okA, Qr, Qq, hOf, Qe, upO, Qi, Qj]
    refine endD.intro rfl (.inr ⟨[], by decide, by simp, ?_⟩)
    simp [Out.mov, Wg, Wh, Wj, D.mov, HO.mov, okM, Wi, We, zz, okA, Qr, Qq, hOf, Qe]
    exact .inl ⟨rfl, rfl, rfl⟩
   ·rintro hc rfl
    simp
  | some m =>
   rintro o hc ⟨ho, rfl⟩
   refine ⟨true, ?_⟩
   rw [show told true o = _ from ho]
   clear ho
   simp [zz, okA, Qr, Qq, hOf, Qe, Out.ren, told, Out.fgt, upO, Qi, Qj]
   ((try simp only [Qb, Qc, Qn, Qi, Qj]); (repeat (rw [Qa]; simp)); (try simp only [zs]))
   (refine hK _ _ _ ?_; clear hK K)
   (refine sR fun K hK => ?_; ((repeat (rw [Qa]; simp)); (try simp only [zs])))
   refine cXo [1] true (level_spec m (hR m rfl)) ?_
   (rintro o hc ⟨rfl, rfl⟩; refine ⟨false, ?_⟩; simp [zz, okA, Qr, Qq, hOf, Qe, Out.ren, told, Out.fgt, upO, Qi, Qj])
   ((try simp only [Qb, Qc, Qn, Qi, Qj]); (repeat (rw [Qa]; simp)); (try simp only [zs]))
   (refine hK _ _ _ ?_; clear hK K)
   refine Qo ?_
   refine DefX.objs Qf [0, 3] (catch_idle (.own 1 (levM m).length) (.row 2 ((levM m).map Xp))) ?_ ?_ (fun d h => by cases h) (by decide) (by simp) (by simp [zz, okA, Qr, Qq, hOf, Qe]) (by simp [zz, okA, Qr, Qq, hOf, Qe]) (by simp [zz, okA, Qr, Qq, hOf, Qe]) (by simp [zz, okA, Qr, Qq, hOf, Qe])
   ·rintro hc rfl
    simp [zz, okA, Qr, Qq, hOf, Qe, upO, Qi, Qj]
    refine endD.intro rfl (.inr ⟨[3], by decide, by simp, ?_⟩)
    simp [Out.mov, Wg, Wh, Wj, D.mov, HO.mov, okM, Wi, We, zz, okA, Qr, Qq, hOf, Qe]
    exact .inr ⟨rfl, rfl⟩
   ·rintro hc rfl
    simp
 ·cases R with
  | none => rintro o hc ⟨rfl, m', rfl⟩; simp
  | some m => rintro o hc ⟨ho, rfl⟩; simp
def Wq (l : LV) : LV := if Xn l then [] else levM (l.foldl putM [])
def putsOf (l : LV) (m : MP) : Option MP := if Xn l then none else some (l.foldl putM m)
theorem of1_spec (ls : List LV) (hl : ls.length <= Wd) (hls : ∀ l, l ∈ ls -> l.length <= Wd) : Qu Tryz.prog glob 142 [.agg [.map 0], .ref (Lvs ls)] [.mp []] (PutsM (putsOf ls.flatten [])) := by
 refine Qu.movd Qf (Qp Wc Tryz.func142 rfl (Qw _ _ Tryz.func142 rfl (by decide)) rfl rfl ?_)
 unfold Lvs
 (refine sR fun K hK => ?_; ((repeat (rw [Qa]; simp)); (try simp only [zs])); refine hK _ _ _ ?_; clear hK K)
 (refine sR fun K hK => ?_; ((repeat (rw [Qa]; simp)); (try simp only [zs])); refine hK _ _ _ ?_; clear hK K)
 refine wpD_range Wc Qf (ti := 3) (tk := 7) (tn := 6) (td := 8) (ts := 16) [4, 7, 8, 9, 10, 11, 12, 13, 14, 15, 16] (ls.length) (fun k ys hl => ∃ (m' : MP) (x4 x7 x8 x9 x10 x11 x12 x13 x14 x15 x16 : D), ys = [x4, x7, x8, x9, x10, x11, x12, x13, x14, x15, x16] /\ Xn ls.flatten = Xn (ls.drop k).flatten /\ (ls.drop k).flatten.foldl putM m' = ls.flatten.foldl putM [] /\ MOK m' /\ hl = [.mp (encM m'), .cells 170 [.map 0]]) rfl rfl rfl rfl rfl rfl rfl rfl rfl rfl rfl rfl (by simp) (by decide) rfl (by first | assumption | omega | (unfold Wd; omega)) rfl (by kernel_rfl) (by decide) ?_ ?_ ?_
 ·exact ⟨[], _, _, _, _, _, _, _, _, _, _, _, rfl, rfl, rfl, MOK.nil, rfl⟩
 ·rintro k ys hl A hk ⟨m', x4, x7, x8, x9, x10, x11, x12, x13, x14, x15, x16, rfl, hb, hf, hml, rfl⟩ hA hA2
  simp only [Qv, List.set]
  have hd : ls.drop k = ls[k] :: ls.drop (k + 1) := List.drop_eq_getElem_cons hk
  rw [hd, List.flatten_cons] at hb hf
  (refine sR fun K hK => ?_; ((repeat (rw [Qa]; simp [hk, Wm])); (try simp only [zs])); refine hK _ _ _ ?_; clear hK K)
  have hsp := rowPut_spec ls[k] m' (hls _ (List.getElem_mem hk)) hml
  (refine Qz Wc ?_; ((repeat (rw [Qa]; simp)); (try simp only [zs])))
  refine Xk.objs Qf [0] true hsp ?_ ?_ (by decide) (by simp) (by simp [zz, okA, Qr, Qq, hOf, Qe]) (by simp [zz, okA, Qr, Qq, hOf, Qe]) (by simp [zz, okA, Qr, Qq, hOf, Qe, Ps]) (by simp [zz, okA, Qr, Qq, hOf, Qe])
  ·cases hbad : Xn ls[k] with
   | true =>
    simp only [if_true]
    rintro o hc ⟨rfl, m2, rfl⟩
    refine ⟨false, ?_⟩
    unfold noneD
    simp [zz, okA, Qr, Qq, hOf, Qe, Out.ren, told, Out.fgt, upO, Qi, Qj]
    ((try simp only [Qb, Qc, Qn, Qi, Qj]); (repeat (rw [Qa]; simp)); (try simp only [zs]))
    ((try simp only [zs]); refine Wa.pan (.inr ⟨[], by decide, by simp, ?_⟩); simp [Out.mov, Wg, Wh, Wj, D.mov, HO.mov, okM, Wi, We, zz, okA, Qr, Qq, hOf, Qe, Qt, Out.fgt, D.fgt, D.fgts])
    have hall : Xn ls.flatten = true := by rw [hb]; unfold Xn at hbad ⊢; rw [List.any_append, hbad]; rfl
    simp [PutsM, putsOf, hall, noneD]
    exact ⟨m2, rfl⟩
   | false =>
    simp only [if_false, Bool.false_eq_true]
    rintro o hc ⟨ho, rfl⟩
    refine ⟨true, ?_⟩
    rw [show told true o = _ from ho]
    clear ho
    simp [zz, okA, Qr, Qq, hOf, Qe, Out.ren, told, Out.fgt, upO, Qi, Qj]
    ((try simp only [Qb, Qc, Qn, Qi, Qj]); (repeat (rw [Qa]; simp)); (try simp only [zs]))
    (refine hA2 ([1]) _ _ (by decide) (by simp) (by simp [Wg, Wh, Wj, D.mov, HO.mov, okM, Wi, We, zz, okA, Qr, Qq, hOf, Qe, Qv]) ?_ rfl; simp [Wg, Wh, Wj, D.mov, HO.mov, okM, Wi, We, zz, okA, Qr, Qq, hOf, Qe])
    refine ⟨by rw [hb]; unfold Xn at hbad ⊢; rw [List.any_append, hbad]; rfl, _, ?_, ?_, rfl⟩
    ·rw [<- hf, List.foldl_append]
    ·exact foldM_ok hml (fun p hp => by
      have : ¬ badP p = true := fun h => by
       have := List.any_eq_true.2 ⟨p, hp, h⟩
       unfold Xn at hbad
       rw [hbad] at this; cases this
      simpa using this)
  ·intro o hc h
   split at h
   ·obtain ⟨-, m2, rfl⟩ := h; simp
   ·obtain ⟨-, rfl⟩ := h; simp
 ·rintro ys hl ⟨m', x4, x7, x8, x9, x10, x11, x12, x13, x14, x15, x16, rfl, hb, hf, hml, rfl⟩
  simp only [Qv, List.set]
  rw [List.drop_length] at hb hf
  ((try simp only [zs]); refine Wa.nrm rfl (.inr ⟨[], by decide, by simp, ?_⟩); simp [Out.mov, Wg, Wh, Wj, D.mov, HO.mov, okM, Wi, We, zz, okA, Qr, Qq, hOf, Qe, Qt, Out.fgt, D.fgt, D.fgts])
  have hall : Xn ls.flatten = false := hb
  simp [PutsM, putsOf, hall, Out.fgt, D.fgt, D.fgts]
  rw [<- hf]; rfl
theorem anyBad_of {l : LV} (h : Xn l = false) : ∀ p, p ∈ l -> badP p = false := fun p hp => by
 have : ¬ badP p = true := fun h' => by
  have := List.any_eq_true.2 ⟨p, hp, h'⟩
  unfold Xn at h
  rw [h] at this; cases this
 simpa using this
theorem levR_puts (l : LV) : levR (putsOf l []) = Wq l := by unfold putsOf Wq; split <;> rfl
theorem puts_ok {l : LV} {m m' : MP} (h : MOK m) (hm : putsOf l m = some m') : MOK m' := by
 unfold putsOf at hm
 split at hm
 ·cases hm
 ·rename_i hb; cases hm; exact foldM_ok h (anyBad_of (by simpa using hb))
theorem of_spec (ls : List LV) (hl : ls.length <= Wd) (hls : ∀ l, l ∈ ls -> l.length <= Wd) : Qu Tryz.prog glob 126 [Lvs ls] [] (OwnL (Wq ls.flatten)) := by
 refine Qu.movd Qf (Qp Wc Tryz.func126 rfl (Qw _ _ Tryz.func126 rfl (by decide)) rfl rfl ?_)
 unfold Lvs
 (refine sR fun K hK => ?_; ((repeat (rw [Qa]; simp)); (try simp only [zs])); refine hK _ _ _ ?_; clear hK K)
 (refine Xq (T := Wb) 0 (ty := 24) (ds := [.slice (ls.map Wm) .any]) rfl rfl (by first | exact ⟨rfl, .inr ⟨_, rfl, rfl⟩⟩ | exact ⟨rfl, .inl rfl⟩) ?_; simp [D.frzs, D.frz, HO.frz, dfFrz, refOf, TK.isAgg, FK.isB, FK.isM, FK.isO, D.isLen])
 have hsp := made_spec 142 [.ref (Lvs ls)] _ rfl (by simp [D.pures, D.pure, Lvs_pure]) (fun m hm => puts_ok MOK.nil hm) (of1_spec ls hl hls)
 rw [levR_puts] at hsp
 unfold Lvs at hsp
 (refine sR fun K hK => ?_; ((repeat (rw [Qa]; simp)); (try simp only [zs])))
 refine Xk.objs Qf [] true hsp ?_ ?_ (by decide) (by simp) (by simp [zz, okA, Qr, Qq, hOf, Qe]) (by simp [zz, okA, Qr, Qq, hOf, Qe]) (by simp [zz, okA, Qr, Qq, hOf, Qe]) (by simp [zz, okA, Qr, Qq, hOf, Qe])
 ·rintro o hc (⟨hn, rfl, rfl⟩ | ⟨rfl, rfl⟩)
  ·refine ⟨false, ?_⟩
   simp [zz, okA, Qr, Qq, hOf, Qe, Out.ren, told, Out.fgt, upO, Qi, Qj]
   ((try simp only [Qb, Qc, Qn, Qi, Qj]); (repeat (rw [Qa]; simp)); (try simp only [zs]))
   (refine hK _ _ _ ?_; clear hK K)
   (refine Qo ?_; (try simp only [zs]); refine Wa.ret rfl (.inr ⟨[], by decide, by simp, ?_⟩); simp [Out.mov, Wg, Wh, Wj, D.mov, HO.mov, okM, Wi, We, zz, okA, Qr, Qq, hOf, Qe, Qt, Out.fgt, D.fgt, D.fgts])
   exact .inl ⟨hn, rfl, rfl⟩
  ·refine ⟨false, ?_⟩
   simp [zz, okA, Qr, Qq, hOf, Qe, Out.ren, told, Out.fgt, upO, Qi, Qj]
   ((try simp only [Qb, Qc, Qn, Qi, Qj]); (repeat (rw [Qa]; simp)); (try simp only [zs]))
   (refine hK _ _ _ ?_; clear hK K)
   (refine Qo ?_; (try simp only [zs]); refine Wa.ret rfl (.inr ⟨[2], by decide, by simp, ?_⟩); simp [Out.mov, Wg, Wh, Wj, D.mov, HO.mov, okM, Wi, We, zz, okA, Qr, Qq, hOf, Qe, Qt, Out.fgt, D.fgt, D.fgts])
   exact .inr ⟨rfl, rfl⟩
 ·rintro o hc (⟨hn, rfl, rfl⟩ | ⟨rfl, rfl⟩) <;> simp
theorem normO_spec (l : LV) (hl : l.length <= Wd) : Qu Tryz.prog glob 87 [Wm l] [] (OwnL (Wq l)) := by
 have hsp := of_spec [l] (by simp [Wd]) (fun x hx => by rw [List.mem_singleton.1 hx]; exact hl)
 rw [show [l].flatten = l by simp] at hsp
 unfold Lvs at hsp
 refine Qu.movd Qf (Qp Wc Tryz.func87 rfl (Qw _ _ Tryz.func87 rfl (by decide)) rfl rfl ?_)
 (refine sR fun K hK => ?_; ((repeat (rw [Qa]; simp [Wm])); (try simp only [zs])); refine hK _ _ _ ?_; clear hK K)
 (refine sR fun K hK => ?_; ((repeat (rw [Qa]; simp [Wm])); (try simp only [zs])))
 refine Xk.objs Qf [] true hsp ?_ ?_ (by decide) (by simp) (by simp [zz, okA, Qr, Qq, hOf, Qe]) (by simp [zz, okA, Qr, Qq, hOf, Qe]) (by simp [zz, okA, Qr, Qq, hOf, Qe, Wm]) (by simp [zz, okA, Qr, Qq, hOf, Qe, Wm])
 ·rintro o hc (⟨hn, rfl, rfl⟩ | ⟨rfl, rfl⟩)
  ·refine ⟨false, ?_⟩
   simp [zz, okA, Qr, Qq, hOf, Qe, Out.ren, told, Out.fgt, upO, Qi, Qj]
   ((try simp only [Qb, Qc, Qn, Qi, Qj]); (repeat (rw [Qa]; simp)); (try simp only [zs]))
   (refine hK _ _ _ ?_; clear hK K)
   (refine Qo ?_; (try simp only [zs]); refine Wa.ret rfl (.inr ⟨[], by decide, by simp, ?_⟩); simp [Out.mov, Wg, Wh, Wj, D.mov, HO.mov, okM, Wi, We, zz, okA, Qr, Qq, hOf, Qe, Qt, Out.fgt, D.fgt, D.fgts])
   exact .inl ⟨hn, rfl, rfl⟩
  ·refine ⟨false, ?_⟩
   simp [zz, okA, Qr, Qq, hOf, Qe, Out.ren, told, Out.fgt, upO, Qi, Qj]
   ((try simp only [Qb, Qc, Qn, Qi, Qj]); (repeat (rw [Qa]; simp)); (try simp only [zs]))
   (refine hK _ _ _ ?_; clear hK K)
   (refine Qo ?_; (try simp only [zs]); refine Wa.ret rfl (.inr ⟨[2], by decide, by simp, ?_⟩); simp [Out.mov, Wg, Wh, Wj, D.mov, HO.mov, okM, Wi, We, zz, okA, Qr, Qq, hOf, Qe, Qt, Out.fgt, D.fgt, D.fgts])
   exact .inr ⟨rfl, rfl⟩
 ·rintro o hc (⟨hn, rfl, rfl⟩ | ⟨rfl, rfl⟩) <;> simp
theorem readL {f : FuncId} {args : List D} {l : LV} (h : Qu Tryz.prog glob f args [] (OwnL l)) : Qu Tryz.prog glob f args [] (fun o _ => o.fgt = .ret (Wm l)) := by
 refine Qu.frzO h fun o hc hp => ?_
 rcases hp with ⟨rfl, rfl, rfl⟩ | ⟨rfl, rfl⟩
 ·left; rfl
 ·right
  refine ⟨0, 2, l.map Xp, _, rfl, rfl, ?_⟩
  simp [D.frz, D.frzs, FK.isO, D.isLen, Out.fgt, D.fgt, D.fgts, Wm]
theorem norm_spec (l : LV) (hl : l.length <= Wd) : Qu Tryz.prog glob 87 [Wm l] [] (fun o _ => o.fgt = .ret (Wm (Wq l))) := readL (normO_spec l hl)
def idxB {α : Type} (p : α -> Bool) : List α -> Int -> Int
 | [], _ => -1
 | x :: r, i => if p x = true then i else idxB p r (i + 1)
theorem idxB_any {α : Type} (p : α -> Bool) : ∀ (l : List α) (i : Int), 0 <= i -> decide (0 <= idxB p l i) = l.any p
 | [], i, h => by simp [idxB]
 | x :: r, i, h => by
  rw [idxB, List.any_cons]
  by_cases hx : p x = true
  ·simp [hx, h]
  ·rw [if_neg hx, idxB_any p r (i + 1) (by omega)]; simp [hx]
theorem indexFuncP_spec (l : List (Int × Int)) (p : Int × Int -> Bool) (g : FuncId) (cap : List D) (hc : D.fgts cap = cap) (hcp : D.pures cap = true) (hl : l.length <= Wd)
  (hg : ∀ x, x ∈ l -> Qu Tryz.prog glob g (Xp x :: cap) [] (fun o _ => o.fgt = .ret (.bool (p x)))) :
  Qu Tryz.prog glob 149 [.slice (l.map Xp) .any, .fn (.func g) [] cap] [] (fun o _ => o.fgt = .ret (.int .i64 (idxB p l 0))) := by
 unfold Wd at hl
 refine Qu.movd Qf (Qp Wc Tryz.func149 rfl (Qw _ _ Tryz.func149 rfl (by decide)) rfl rfl ?_)
 (refine sR fun K hK => ?_; ((repeat (rw [Qa]; simp)); (try simp only [zs])); refine hK _ _ _ ?_; clear hK K)
 refine Qg fun K1 hK1 => ?_
 (refine sR fun K hK => ?_; ((repeat (rw [Qa]; simp)); (try simp only [zs])); refine hK _ _ _ ?_; clear hK K)
 refine Wy ?_
 refine wpD_loopW [4, 5, 8, 9, 10, 11, 12, 13, 14, 15, 16, 17, 18] (fun n ys hl => ∃ (k : Nat) (x4 x5 x9 x10 x11 x12 x13 x14 x15 x16 x17 x18 : D), ys = [x4, x5, .int .i64 k, x9, x10, x11, x12, x13, x14, x15, x16, x17, x18] /\ n + k = l.length /\ idxB p l 0 = idxB p (l.drop k) k /\ hl = []) (l.length) (by kernel_rfl) ?_ ?_
 ·exact ⟨0, _, _, _, _, _, _, _, _, _, _, _, _, rfl, rfl, rfl, rfl⟩
 ·rintro n ys hl A hA ⟨k, x4, x5, x9, x10, x11, x12, x13, x14, x15, x16, x17, x18, rfl, hn, hi, rfl⟩
  simp only [Qv, List.set]
  (refine sR fun K hK => ?_; ((repeat (rw [Qa]; simp)); (try simp only [zs])); refine hK _ _ _ ?_; clear hK K)
  refine Qg fun K2 hK2 => ?_
  refine wpD_part rfl (fun hk => ?_) (fun hk => ?_)
  ·replace hk : k < l.length := by simpa using hk
   refine Qs (hK2 _ _ _ ?_)
   clear hK2 K2
   refine Qg fun K3 hK3 => ?_
   refine Wy ?_
   (refine sR fun K hK => ?_; ((repeat (rw [Qa]; simp)); (try simp only [zs])); refine hK _ _ _ ?_; clear hK K)
   (refine sR fun K hK => ?_; ((repeat (rw [Qa]; simp [hk, Xp])); (try simp only [zs])))
   refine Xk.pure Qf (hg _ (List.getElem_mem hk)) ?_ (by simp [D.fgts, D.fgt, hc, hcp, Xp]) (by simp [D.pures, D.pure, Cp.free, D.pures_map, hc, hcp, Xp]) (by simp [Out.pure, D.pure, D.pures, Cp.free, D.pures_map, hc, hcp, Xp])
   ((try simp only [Qb, Qc, Qn, Qi, Qj]); (repeat (rw [Qa]; simp)); (try simp only [zs]))
   (refine hK _ _ _ ?_; clear hK K)
   refine wpD_part rfl (fun hb => ?_) (fun hb => ?_)
   ·(refine sR fun K hK => ?_; ((repeat (rw [Qa]; simp)); (try simp only [zs])); refine hK _ _ _ ?_; clear hK K)
    (refine Qo ?_; (try simp only [zs]); refine Wa.ret rfl (.inl ?_); simp [Qt, Out.fgt, D.fgt, D.fgts])
    rw [hi, List.drop_eq_getElem_cons hk, idxB, if_pos hb]
   ·refine Qs (hK3 _ _ _ ?_)
    clear hK3 K3
    have hw : IntKind.i64.wrap ((k : Int) + 1) = (k : Int) + 1 := i64w (by omega) (by omega)
    (refine Qz Wc ?_; ((repeat (rw [Qa]; simp [hw])); (try simp only [zs])))
    refine hA (n - 1) _ _ (by omega) (by kernel_rfl) ?_
    exact ⟨k + 1, _, _, _, _, _, _, _, _, _, _, _, _, rfl, by omega, by rw [hi, List.drop_eq_getElem_cons hk, idxB, if_neg (by simpa using hb)]; simp, rfl⟩
  ·refine wpD_exit (hK1 _ _ _ ?_)
   (refine sR fun K hK => ?_; ((repeat (rw [Qa]; simp)); (try simp only [zs])); refine hK _ _ _ ?_; clear hK K)
   (refine Qo ?_; (try simp only [zs]); refine Wa.ret rfl (.inl ?_); simp [Qt, Out.fgt, D.fgt, D.fgts])
   rw [hi, List.drop_eq_nil_of_le (by simpa using hk), idxB]
theorem containsFuncP_spec (l : List (Int × Int)) (p : Int × Int -> Bool) (g : FuncId) (cap : List D) (hc : D.fgts cap = cap) (hcp : D.pures cap = true) (hl : l.length <= Wd)
  (hg : ∀ x, x ∈ l -> Qu Tryz.prog glob g (Xp x :: cap) [] (fun o _ => o.fgt = .ret (.bool (p x)))) :
  Qu Tryz.prog glob 133 [.slice (l.map Xp) .any, .fn (.func g) [] cap] [] (fun o _ => o.fgt = .ret (.bool (l.any p))) := by
 refine Qu.movd Qf (Qp Wc Tryz.func133 rfl (Qw _ _ Tryz.func133 rfl (by decide)) rfl rfl ?_)
 (refine sR fun K hK => ?_; ((repeat (rw [Qa]; simp)); (try simp only [zs])); refine hK _ _ _ ?_; clear hK K)
 (refine sR fun K hK => ?_; ((repeat (rw [Qa]; simp)); (try simp only [zs])))
 refine Xk.pure Qf (indexFuncP_spec l p g cap hc hcp hl hg) ?_ (by simp [D.fgts, D.fgt, hc, hcp]) (by simp [D.pures, D.pure, Cp.free, D.pures_map, hc, hcp]) (by simp [Out.pure, D.pure, D.pures, Cp.free, D.pures_map, hc, hcp])
 ((try simp only [Qb, Qc, Qn, Qi, Qj]); (repeat (rw [Qa]; simp)); (try simp only [zs]))
 (refine hK _ _ _ ?_; clear hK K)
 (refine Qo ?_; (try simp only [zs]); refine Wa.ret rfl (.inl ?_); simp [Qt, Out.fgt, D.fgt, D.fgts])
 exact idxB_any p l 0 (by omega)
theorem normOf_len (l : LV) : (Wq l).length <= 1048577 := by
 unfold Wq
 split
 ·simp
 ·rename_i h
  have hm : MOK (l.foldl putM []) := foldM_ok MOK.nil (anyBad_of (by simpa using h))
  exact Nat.le_trans (levM_len _) hm.len
theorem normOf_lmax (l : LV) : (Wq l).length <= Wd := by
 have := normOf_len l
 unfold Wd; omega
def underP (p q : Int × Int) : Bool := (decide (p.1 = 0) || decide (p.1 = q.1)) && decide (p.2 <= q.2)
def leqN (a b : LV) : Bool := !(a.any fun p => !(b.any (underP p)))
def leqM (a b : LV) : Bool := leqN (Wq a) (Wq b)
theorem leq11_spec (p q : Int × Int) : Qu Tryz.prog glob 135 [Xp q, .ref (Xp p)] [] (fun o _ => o.fgt = .ret (.bool (underP p q))) := by
 refine Qu.movd Qf (Qp Wc Tryz.func135 rfl (Qw _ _ Tryz.func135 rfl (by decide)) rfl rfl ?_)
 unfold Xp
 (refine sR fun K hK => ?_; ((repeat (rw [Qa]; simp)); (try simp only [zs])); refine hK _ _ _ ?_; clear hK K)
 by_cases h1 : p.1 = 0
 ·(refine sR fun K hK => ?_; ((repeat (rw [Qa]; simp [h1])); (try simp only [zs])); refine hK _ _ _ ?_; clear hK K)
  (refine Qo ?_; (try simp only [zs]); refine Wa.ret rfl (.inl ?_); simp [Qt, Out.fgt, D.fgt, D.fgts])
  simp [underP, h1]
 ·by_cases h2 : p.1 = q.1
  ·have h3 : ¬ q.1 = 0 := fun e => h1 (h2.trans e)
   (refine sR fun K hK => ?_; ((repeat (rw [Qa]; simp [h2, h3])); (try simp only [zs])); refine hK _ _ _ ?_; clear hK K)
   (refine Qo ?_; (try simp only [zs]); refine Wa.ret rfl (.inl ?_); simp [Qt, Out.fgt, D.fgt, D.fgts])
   simp [underP, h2]
  ·(refine sR fun K hK => ?_; ((repeat (rw [Qa]; simp [h1, h2])); (try simp only [zs])); refine hK _ _ _ ?_; clear hK K)
   (refine Qo ?_; (try simp only [zs]); refine Wa.ret rfl (.inl ?_); simp [Qt, Out.fgt, D.fgt, D.fgts])
   simp [underP, h1, h2]
theorem leq1_spec (b : LV) (p : Int × Int) (hb : b.length <= Wd) : Qu Tryz.prog glob 134 [Xp p, .ref (Wm b)] [] (fun o _ => o.fgt = .ret (.bool (!(b.any (underP p))))) := by
 refine Qu.movd Qf (Qp Wc Tryz.func134 rfl (Qw _ _ Tryz.func134 rfl (by decide)) rfl rfl ?_)
 unfold Xp Wm
 (refine sR fun K hK => ?_; ((repeat (rw [Qa]; simp)); (try simp only [zs])); refine hK _ _ _ ?_; clear hK K)
 (refine Xq (T := Wb) 0 (ty := 99) (ds := [.int .i64 p.1, .int .i64 p.2]) rfl rfl (by first | exact ⟨rfl, .inr ⟨_, rfl, rfl⟩⟩ | exact ⟨rfl, .inl rfl⟩) ?_; simp [D.frzs, D.frz, HO.frz, dfFrz, refOf, TK.isAgg, FK.isB, FK.isM, FK.isO, D.isLen])
 (refine sR fun K hK => ?_; ((repeat (rw [Qa]; simp)); (try simp only [zs])))
 refine Xk.pure Qf (containsFuncP_spec b (underP p) _ [.ref (Xp p)] rfl rfl hb fun q _ => leq11_spec p q) ?_ (by simp [D.fgts, D.fgt, Xp]) (by simp [D.pures, D.pure, Cp.free, D.pures_map, Xp]) (by simp [Out.pure, D.pure, D.pures, Cp.free, D.pures_map, Xp])
 ((try simp only [Qb, Qc, Qn, Qi, Qj]); (repeat (rw [Qa]; simp)); (try simp only [zs]))
 (refine hK _ _ _ ?_; clear hK K)
 (refine Qo ?_; (try simp only [zs]); refine Wa.ret rfl (.inl ?_); simp [Qt, Out.fgt, D.fgt, D.fgts])
theorem leq_spec (a b : LV) (ha : a.length <= Wd) (hb : b.length <= Wd) : Qu Tryz.prog glob 109 [Wm a, Wm b] [] (fun o _ => o.fgt = .ret (.bool (leqM a b))) := by
 have hna := norm_spec a ha
 have hnb := norm_spec b hb
 unfold Wm at hna hnb
 refine Qu.movd Qf (Qp Wc Tryz.func109 rfl (Qw _ _ Tryz.func109 rfl (by decide)) rfl rfl ?_)
 unfold Wm
 (refine sR fun K hK => ?_; ((repeat (rw [Qa]; simp)); (try simp only [zs])); refine hK _ _ _ ?_; clear hK K)
 (refine Qg fun K hK => ?_; refine dR fun KT hKT => ?_; ((repeat (rw [Qh]; simp)); (try simp only [Qk])))
 refine CallY.pure Qf (hna) ?_ (by simp [D.fgts, D.fgt, Xs]) (by simp [D.pures, D.pure, Cp.free, D.pures_map, Xs]) (by simp [Out.pure, D.pure, D.pures, Cp.free, D.pures_map, Xs])
 ((try simp only [Ql, Qm, Qn, Qi, Qj]); (repeat (rw [Qh]; simp)); (try simp only [Qk]))
 refine CallY.pure Qf (hnb) ?_ (by simp [D.fgts, D.fgt, Xs]) (by simp [D.pures, D.pure, Cp.free, D.pures_map, Xs]) (by simp [Out.pure, D.pure, D.pures, Cp.free, D.pures_map, Xs])
 ((try simp only [Ql, Qm, Qn, Qi, Qj]); (repeat (rw [Qh]; simp)); (try simp only [Qk]))
 (refine hKT _ _ _ _ (by kernel_rfl) ?_; clear hKT KT; (try simp only [zs]))
 (refine hK _ _ _ ?_; clear hK K)
 (refine Xq (T := Wb) 1 (ty := 82) (ds := [.slice ((Wq b).map Xp) .any]) rfl rfl (by first | exact ⟨rfl, .inr ⟨_, rfl, rfl⟩⟩ | exact ⟨rfl, .inl rfl⟩) ?_; simp [D.frzs, D.frz, HO.frz, dfFrz, refOf, TK.isAgg, FK.isB, FK.isM, FK.isO, D.isLen])
 (refine sR fun K hK => ?_; ((repeat (rw [Qa]; simp)); (try simp only [zs])))
 refine Xk.pure Qf (containsFuncP_spec (Wq a) (fun p => !((Wq b).any (underP p))) _ [.ref (Wm (Wq b))] (by simp [D.fgts, D.fgt, Wm]) (by simp [D.pures, D.pure]) (normOf_lmax a) fun p _ => leq1_spec (Wq b) p (normOf_lmax b)) ?_ (by simp [D.fgts, D.fgt, Wm]) (by simp [D.pures, D.pure, Cp.free, D.pures_map, Wm]) (by simp [Out.pure, D.pure, D.pures, Cp.free, D.pures_map, Wm])
 ((try simp only [Qb, Qc, Qn, Qi, Qj]); (repeat (rw [Qa]; simp)); (try simp only [zs]))
 (refine hK _ _ _ ?_; clear hK K)
 (refine Qo ?_; (try simp only [zs]); refine Wa.ret rfl (.inl ?_); simp [Qt, Out.fgt, D.fgt, D.fgts])
 simp [leqM, leqN]
theorem equalP_spec (a b : LV) (ha : a.length <= Wd) (hb : b.length <= Wd) : Qu Tryz.prog glob 86 [.slice (a.map Xp) .any, .slice (b.map Xp) .any] [] (fun o _ => o.fgt = .ret (.bool (decide (a = b)))) := by
 unfold Wd at ha hb
 refine Qu.movd Qf (Qp Wc Tryz.func86 rfl (Qw _ _ Tryz.func86 rfl (by decide)) rfl rfl ?_)
 (refine sR fun K hK => ?_; ((repeat (rw [Qa]; simp)); (try simp only [zs])); refine hK _ _ _ ?_; clear hK K)
 refine Qg fun K1 hK1 => ?_
 (refine sR fun K hK => ?_; ((repeat (rw [Qa]; simp)); (try simp only [zs])); refine hK _ _ _ ?_; clear hK K)
 refine wpD_part rfl (fun h => ?_) (fun h => ?_)
 ·(refine sR fun K hK => ?_; ((repeat (rw [Qa]; simp)); (try simp only [zs])); refine hK _ _ _ ?_; clear hK K)
  (refine Qo ?_; (try simp only [zs]); refine Wa.ret rfl (.inl ?_); simp [Qt, Out.fgt, D.fgt, D.fgts])
  have h : ¬ (a.length : Int) = b.length := by simpa using h
  intro e
  exact h (by rw [e])
 ·replace h : a.length = b.length := by
   have h : (a.length : Int) = b.length := by simpa using h
   omega
  refine Qs (hK1 _ _ _ ?_)
  clear hK1 K1
  refine Qg fun K1 hK1 => ?_
  (refine sR fun K hK => ?_; ((repeat (rw [Qa]; simp)); (try simp only [zs])); refine hK _ _ _ ?_; clear hK K)
  refine wpD_range Wc Qf (ti := 3) (tk := 13) (tn := 12) (td := 14) (ts := 25) [4, 5, 13, 14, 15, 16, 17, 18, 19, 20, 21, 22, 23, 24, 25] (a.length) (fun k ys hl => ∃  (x4 x5 x13 x14 x15 x16 x17 x18 x19 x20 x21 x22 x23 x24 x25 : D), ys = [x4, x5, x13, x14, x15, x16, x17, x18, x19, x20, x21, x22, x23, x24, x25] /\ a.take k = b.take k /\ hl = []) rfl rfl rfl rfl rfl rfl rfl rfl rfl rfl rfl rfl (by simp) (by decide) rfl (by first | assumption | omega | (unfold Wd; omega)) rfl (by kernel_rfl) (by decide) ?_ ?_ ?_
  ·exact ⟨_, _, _, _, _, _, _, _, _, _, _, _, _, _, _, rfl, by simp, rfl⟩
  ·rintro k ys hl A hk ⟨x4, x5, x13, x14, x15, x16, x17, x18, x19, x20, x21, x22, x23, x24, x25, rfl, he, rfl⟩ hA hA2
   simp only [Qv, List.set]
   have hkb : k < b.length := by omega
   (refine sR fun K hK => ?_; ((repeat (rw [Qa]; simp)); (try simp only [zs])); refine hK _ _ _ ?_; clear hK K)
   (refine Qg fun K hK => ?_; refine dR fun KT hKT => ?_; ((repeat (rw [Qh]; simp [hk, hkb, Xp])); (try simp only [Qk])))
   (refine hKT _ _ _ _ (by kernel_rfl) ?_; clear hKT KT; (try simp only [zs]))
   (refine hK _ _ _ ?_; clear hK K)
   refine wpD_part rfl (fun hb => ?_) (fun hb => ?_)
   ·(refine sR fun K hK => ?_; ((repeat (rw [Qa]; simp)); (try simp only [zs])); refine hK _ _ _ ?_; clear hK K)
    (refine Qo ?_; (try simp only [zs]); refine Wa.ret rfl (.inl ?_); simp [Qt, Out.fgt, D.fgt, D.fgts])
    intro e
    subst e
    simp at hb
   ·refine Qs ?_
    (refine hA _ _ (by kernel_rfl) ?_ rfl; simp only [We, List.map_cons, List.map_nil])
    refine ⟨_, _, _, _, _, _, _, _, _, _, _, _, _, _, _, rfl, ?_, rfl⟩
    rw [List.take_succ_eq_append_getElem hk, List.take_succ_eq_append_getElem hkb, he]
    have hb : a[k] = b[k] := by
     have hb' : a[k].1 = b[k].1 /\ a[k].2 = b[k].2 := by simpa using hb
     exact Prod.ext hb'.1 hb'.2
    rw [hb]
  ·rintro ys hl ⟨x4, x5, x13, x14, x15, x16, x17, x18, x19, x20, x21, x22, x23, x24, x25, rfl, he, rfl⟩
   simp only [Qv, List.set]
   refine hK1 _ _ _ ?_
   clear hK1 K1
   (refine sR fun K hK => ?_; ((repeat (rw [Qa]; simp)); (try simp only [zs])); refine hK _ _ _ ?_; clear hK K)
   (refine Qo ?_; (try simp only [zs]); refine Wa.ret rfl (.inl ?_); simp [Qt, Out.fgt, D.fgt, D.fgts])
   rw [List.take_length, h, List.take_length] at he
   exact he
theorem same_spec (a b : LV) (ha : a.length <= Wd) (hb : b.length <= Wd) : Qu Tryz.prog glob 46 [Wm a, Wm b] [] (fun o _ => o.fgt = .ret (.bool (decide (Wq a = Wq b)))) := by
 have hna := norm_spec a ha
 have hnb := norm_spec b hb
 unfold Wm at hna hnb
 refine Qu.movd Qf (Qp Wc Tryz.func46 rfl (Qw _ _ Tryz.func46 rfl (by decide)) rfl rfl ?_)
 unfold Wm
 (refine sR fun K hK => ?_; ((repeat (rw [Qa]; simp)); (try simp only [zs])); refine hK _ _ _ ?_; clear hK K)
 (refine Qg fun K hK => ?_; refine dR fun KT hKT => ?_; ((repeat (rw [Qh]; simp)); (try simp only [Qk])))
 refine CallY.pure Qf (hna) ?_ (by simp [D.fgts, D.fgt, Xs]) (by simp [D.pures, D.pure, Cp.free, D.pures_map, Xs]) (by simp [Out.pure, D.pure, D.pures, Cp.free, D.pures_map, Xs])
 ((try simp only [Ql, Qm, Qn, Qi, Qj]); (repeat (rw [Qh]; simp)); (try simp only [Qk]))
 refine CallY.pure Qf (hnb) ?_ (by simp [D.fgts, D.fgt, Xs]) (by simp [D.pures, D.pure, Cp.free, D.pures_map, Xs]) (by simp [Out.pure, D.pure, D.pures, Cp.free, D.pures_map, Xs])
 ((try simp only [Ql, Qm, Qn, Qi, Qj]); (repeat (rw [Qh]; simp)); (try simp only [Qk]))
 refine cYp (equalP_spec (Wq a) (Wq b) (normOf_lmax a) (normOf_lmax b)) ?_
 ((try simp only [Ql, Qm, Qn, Qi, Qj]); (repeat (rw [Qh]; simp)); (try simp only [Qk]))
 (refine hKT _ _ _ _ (by kernel_rfl) ?_; clear hKT KT; (try simp only [zs]))
 (refine hK _ _ _ ?_; clear hK K)
 (refine Qo ?_; (try simp only [zs]); refine Wa.ret rfl (.inl ?_); simp [Qt, Out.fgt, D.fgt, D.fgts])
end Go.Proofs.YtebmlojhdnldgaaGreatDoor
namespace Go.Proofs.YtebmlojhdnldgaaGreatDoor
set_option linter.unusedSimpArgs false
set_option linter.unusedVariables false
open Go.RowKit
theorem updM_has {v x : Int} : ∀ {m : MP}, v ∈ m.map (·.1) -> (v, x) ∈ updM v x m
 | [], h => by cases h
 | p :: r, h => by
  rw [updM]
  split
  ·rename_i hv; rw [hv]; exact List.mem_cons_self ..
  ·rename_i hv
   rw [List.map_cons, List.mem_cons] at h
   exact List.mem_cons_of_mem _ (updM_has (h.resolve_left hv))
theorem updM_keep {v x : Int} {q : Int × Int} (hq : q.1 ≠ v) : ∀ {m : MP}, q ∈ m -> q ∈ updM v x m
 | [], h => by cases h
 | p :: r, h => by
  rw [updM]
  rcases List.mem_cons.1 h with rfl | h
  ·rw [if_neg (fun e => hq e.symm)]; exact List.mem_cons_self ..
  ·split
   ·exact List.mem_cons_of_mem _ h
   ·exact List.mem_cons_of_mem _ (updM_keep hq h)
theorem MOK.uniq {m : MP} (h : MOK m) {v a b : Int} (ha : (v, a) ∈ m) (hb : (v, b) ∈ m) : a = b := by
 have hn := h.nd
 clear h
 induction m with
 | nil => cases ha
 | cons p r ih =>
  rw [List.map_cons, List.nodup_cons] at hn
  rcases List.mem_cons.1 ha with ha' | ha' <;> rcases List.mem_cons.1 hb with hb' | hb'
  ·rw [<- ha'] at hb'; exact (Prod.mk.inj hb').2.symm
  ·subst ha'; exact absurd (List.mem_map.2 ⟨_, hb', rfl⟩) hn.1
  ·subst hb'; exact absurd (List.mem_map.2 ⟨_, ha', rfl⟩) hn.1
  ·exact ih ha' hb' hn.2
theorem putM_mem {m : MP} {p q : Int × Int} (hp : 0 <= p.2) (h : q ∈ putM m p) : q ∈ m \/ q = p := by
 unfold putM at h
 cases hf : findM m p.1 with
 | some k =>
  rw [hf] at h
  rcases updM_mem h with h | h
  ·exact .inl h
  ·by_cases hk : k <= p.2
   ·right; rw [h, Int.max_eq_right hk]
   ·left; rw [h, Int.max_eq_left (by omega)]; exact findM_some hf
 | none =>
  rw [hf] at h
  rcases List.mem_append.1 h with h | h
  ·exact .inl h
  ·right; rw [List.mem_singleton.1 h, Int.max_eq_right hp]
theorem putM_has {m : MP} {p : Int × Int} : ∃ n, (p.1, n) ∈ putM m p /\ p.2 <= n := by
 unfold putM
 cases hf : findM m p.1 with
 | some k => exact ⟨_, updM_has (List.mem_map.2 ⟨_, findM_some hf, rfl⟩), Int.le_max_right ..⟩
 | none => exact ⟨_, List.mem_append_right _ (List.mem_singleton.2 rfl), Int.le_max_right ..⟩
theorem putM_ge {m : MP} (hm : MOK m) {p q : Int × Int} (h : q ∈ m) : ∃ n, (q.1, n) ∈ putM m p /\ q.2 <= n := by
 unfold putM
 cases hf : findM m p.1 with
 | some k =>
  by_cases hv : q.1 = p.1
  ·refine ⟨max k p.2, ?_, ?_⟩
   ·rw [hv]; exact updM_has (List.mem_map.2 ⟨_, findM_some hf, rfl⟩)
   ·have : q.2 = k := hm.uniq (v := q.1) (by exact h) (by rw [hv]; exact findM_some hf)
    rw [this]; exact Int.le_max_left ..
  ·exact ⟨q.2, updM_keep hv h, Int.le_refl _⟩
 | none => exact ⟨q.2, List.mem_append_left _ h, Int.le_refl _⟩
theorem badP_nn {p : Int × Int} (h : badP p = false) : 0 <= p.1 /\ 0 <= p.2 /\ p.1 <= 1048576 /\ p.2 <= 1048576 := by
 simp only [badP, Bool.or_eq_false_iff, decide_eq_false_iff_not] at h
 omega
theorem fold_mem : ∀ {l : LV} {m : MP} {q : Int × Int}, (∀ p, p ∈ l -> badP p = false) -> q ∈ l.foldl putM m -> q ∈ m \/ q ∈ l
 | [], m, q, _, h => .inl h
 | p :: r, m, q, hb, h => by
  rcases fold_mem (l := r) (fun x hx => hb x (List.mem_cons_of_mem _ hx)) h with h | h
  ·rcases putM_mem (badP_nn (hb p (List.mem_cons_self ..))).2.1 h with h | rfl
   ·exact .inl h
   ·exact .inr (List.mem_cons_self ..)
  ·exact .inr (List.mem_cons_of_mem _ h)
theorem fold_ge : ∀ {l : LV} {m : MP} {q : Int × Int}, MOK m -> (∀ p, p ∈ l -> badP p = false) -> (q ∈ m \/ q ∈ l) -> ∃ n, (q.1, n) ∈ l.foldl putM m /\ q.2 <= n
 | [], m, q, _, _, h => ⟨q.2, h.elim id (fun h => by cases h), Int.le_refl _⟩
 | p :: r, m, q, hm, hb, h => by
  have hb' : ∀ x, x ∈ r -> badP x = false := fun x hx => hb x (List.mem_cons_of_mem _ hx)
  have hm' := putM_ok hm (hb p (List.mem_cons_self ..))
  have Xe : ∀ {y : Int × Int}, (∃ n, (y.1, n) ∈ putM m p /\ y.2 <= n) -> ∃ n, (y.1, n) ∈ r.foldl putM (putM m p) /\ y.2 <= n := fun {y} ⟨n, h1, h2⟩ => by
   obtain ⟨n', h3, h4⟩ := fold_ge (l := r) hm' hb' (.inl h1)
   exact ⟨n', h3, Int.le_trans h2 h4⟩
  rcases h with h | h
  ·exact Xe (putM_ge hm h)
  ·rcases List.mem_cons.1 h with rfl | h
   ·exact Xe putM_has
   ·exact fold_ge (l := r) hm' hb' (.inr h)
theorem mem_find {m : MP} (hm : MOK m) {v n : Int} (h : (v, n) ∈ m) : findM m v = some n := by
 cases hf : findM m v with
 | none => exact absurd (List.mem_map.2 ⟨_, h, rfl⟩) (findM_none hf)
 | some k => rw [hm.uniq h (findM_some hf)]
theorem hid_iff {m : MP} {n : Int} : hiddenM m n = false ↔ ∀ q, q ∈ m -> 0 < q.1 -> q.2 < n := by
 unfold hiddenM
 rw [List.any_eq_false]
 constructor
 ·intro h q hq hv
  have := h q hq
  simp only [Bool.and_eq_true, decide_eq_true_eq, not_and] at this
  have := this hv
  omega
 ·intro h q hq
  simp only [Bool.and_eq_true, decide_eq_true_eq, not_and]
  intro hv
  have := h q hq hv
  omega
theorem levM_mem {m : MP} (hm : MOK m) {p : Int × Int} : p ∈ levM m ↔ p ∈ m /\ (0 < p.1 \/ (0 < p.2 /\ ∀ q, q ∈ m -> 0 < q.1 -> q.2 < p.2)) := by
 obtain ⟨v, n⟩ := p
 unfold levM
 rw [List.mem_filterMap]
 constructor
 ·rintro ⟨x, hx, hk⟩
  have hx' : x ∈ m.map (·.1) := (List.mergeSort_perm _ _).mem_iff.1 hx
  obtain ⟨⟨x', k⟩, hk', rfl⟩ := List.mem_map.1 hx'
  have hf := mem_find hm hk'
  unfold keepM at hk
  dsimp only at hk
  rw [hf] at hk
  simp only [Option.getD_some] at hk
  split at hk
  ·rename_i hc
   cases hk
   exact ⟨hk', hc.imp id (fun h => ⟨h.1, hid_iff.1 h.2⟩)⟩
  ·cases hk
 ·rintro ⟨h1, h2⟩
  refine ⟨v, (List.mergeSort_perm _ _).mem_iff.2 (List.mem_map.2 ⟨_, h1, rfl⟩), ?_⟩
  unfold keepM
  rw [mem_find hm h1]
  simp only [Option.getD_some]
  rw [if_pos (h2.imp id (fun h => ⟨h.1, hid_iff.2 h.2⟩))]
structure NF (l : LV) : Prop where
 up : l.Pairwise (fun p q => p.1 < q.1)
 ok : ∀ p, p ∈ l -> badP p = false
 z : ∀ p, p ∈ l -> p.1 = 0 -> 0 < p.2 /\ ∀ q, q ∈ l -> 0 < q.1 -> q.2 < p.2
theorem nodup_sorted : ∀ {l : List Int}, l.Pairwise (fun x y => x <= y) -> l.Nodup -> l.Pairwise (fun x y => x < y)
 | [], _, _ => List.Pairwise.nil
 | x :: r, h, hn => by
  rw [List.pairwise_cons] at h ⊢
  rw [List.nodup_cons] at hn
  refine ⟨fun y hy => ?_, nodup_sorted h.2 hn.2⟩
  have := h.1 y hy
  have : x ≠ y := fun e => hn.1 (e ▸ hy)
  omega
theorem sortK_up {m : MP} (hm : MOK m) : (sortK m).Pairwise (fun x y => x < y) := by
 refine nodup_sorted ?_ ?_
 ·have := List.pairwise_mergeSort (le := fun x y : Int => decide (x <= y)) (fun a b c h1 h2 => by simp only [decide_eq_true_eq] at *; omega) (fun a b => by simp only [Bool.or_eq_true, decide_eq_true_eq]; omega) (m.map (·.1))
  exact this.imp (fun h => by simpa using h)
 ·exact ((List.mergeSort_perm _ _).nodup_iff).2 hm.nd
theorem keepM_fst {m : MP} {v : Int} {p : Int × Int} (h : keepM m v = some p) : p.1 = v := by
 unfold keepM at h
 split at h
 ·cases h; rfl
 ·cases h
theorem levM_up {m : MP} (hm : MOK m) : (levM m).Pairwise (fun p q => p.1 < q.1) := by
 unfold levM
 have := sortK_up hm
 generalize sortK m = s at this
 induction s with
 | nil => exact List.Pairwise.nil
 | cons x r ih =>
  rw [List.pairwise_cons] at this
  rw [List.filterMap_cons]
  cases hk : keepM m x with
  | none => exact ih this.2
  | some p =>
   refine List.pairwise_cons.2 ⟨fun q hq => ?_, ih this.2⟩
   obtain ⟨y, hy, hq⟩ := List.mem_filterMap.1 hq
   rw [keepM_fst hk, keepM_fst hq]
   exact this.1 y hy
theorem NF.nil : NF [] := ⟨List.Pairwise.nil, (fun _ h => nomatch h), (fun _ h => nomatch h)⟩
theorem levM_nf {m : MP} (hm : MOK m) : NF (levM m) where
 up := levM_up hm
 ok := fun p hp => by
  have h := ((levM_mem hm).1 hp).1
  have h1 := hm.v p h
  have h2 := hm.n p h
  simp only [badP, Bool.or_eq_false_iff, decide_eq_false_iff_not]
  omega
 z := fun p hp h0 => by
  have h := ((levM_mem hm).1 hp).2
  rcases h with h | ⟨h1, h2⟩
  ·omega
  ·exact ⟨h1, fun q hq hv => h2 q ((levM_mem hm).1 hq).1 hv⟩
theorem NF.uniq {l : LV} (h : NF l) {p q : Int × Int} (hp : p ∈ l) (hq : q ∈ l) (e : p.1 = q.1) : p = q := by
 have hu := h.up
 clear h
 induction l with
 | nil => cases hp
 | cons x r ih =>
  rw [List.pairwise_cons] at hu
  rcases List.mem_cons.1 hp with hp' | hp' <;> rcases List.mem_cons.1 hq with hq' | hq'
  ·rw [hp', hq']
  ·subst hp'; have := hu.1 q hq'; omega
  ·subst hq'; have := hu.1 p hp'; omega
  ·exact ih hp' hq' hu.2
theorem up_ext : ∀ {a b : LV}, a.Pairwise (fun p q => p.1 < q.1) -> b.Pairwise (fun p q => p.1 < q.1) -> (∀ p, p ∈ a ↔ p ∈ b) -> a = b
 | [], [], _, _, _ => rfl
 | [], y :: s, _, _, h => by have := (h y).2 (List.mem_cons_self ..); cases this
 | x :: r, [], _, _, h => by have := (h x).1 (List.mem_cons_self ..); cases this
 | x :: r, y :: s, ha, hb, h => by
  rw [List.pairwise_cons] at ha hb
  have hxy : x = y := by
   rcases List.mem_cons.1 ((h x).1 (List.mem_cons_self ..)) with e | hx
   ·exact e
   ·rcases List.mem_cons.1 ((h y).2 (List.mem_cons_self ..)) with e | hy
    ·exact e.symm
    ·have h1 := hb.1 x hx
     have h2 := ha.1 y hy
     omega
  subst hxy
  rw [up_ext ha.2 hb.2 fun p => ?_]
  constructor
  ·intro hp
   rcases List.mem_cons.1 ((h p).1 (List.mem_cons_of_mem _ hp)) with rfl | hp'
   ·have := ha.1 p hp; omega
   ·exact hp'
  ·intro hp
   rcases List.mem_cons.1 ((h p).2 (List.mem_cons_of_mem _ hp)) with rfl | hp'
   ·have := hb.1 p hp; omega
   ·exact hp'
def domP (l : LV) (p : Int × Int) : Prop := (p.1 = 0 /\ p.2 = 0) \/ ∃ q, q ∈ l /\ (p.1 = 0 \/ p.1 = q.1) /\ p.2 <= q.2
def leR (a b : LV) : Prop := ∀ p, p ∈ a -> domP b p
def okV (l : LV) : Prop := ∀ p, p ∈ l -> badP p = false
theorem domP.self {l : LV} {p : Int × Int} (h : p ∈ l) : domP l p := .inr ⟨p, h, .inr rfl, Int.le_refl _⟩
theorem domP.step {l : LV} {p q : Int × Int} (hp : 0 <= p.2) (h1 : p.1 = 0 \/ p.1 = q.1) (h2 : p.2 <= q.2) (h : domP l q) : domP l p := by
 rcases h with ⟨e1, e2⟩ | ⟨r, hr, e1, e2⟩
 ·left; omega
 ·right; exact ⟨r, hr, by omega, by omega⟩
theorem domP.trans {a b : LV} {p : Int × Int} (hp : 0 <= p.2) (h : domP a p) (hab : leR a b) : domP b p := by
 rcases h with h | ⟨q, hq, h1, h2⟩
 ·exact .inl h
 ·exact (hab q hq).step hp h1 h2
theorem leR.refl (a : LV) : leR a a := fun _ h => .self h
theorem leR.trans {a b c : LV} (ha : okV a) (h1 : leR a b) (h2 : leR b c) : leR a c := fun p hp => (h1 p hp).trans (badP_nn (ha p hp)).2.1 h2
theorem okV_of {l : LV} (h : okV l) : Xn l = false := by
 unfold Xn; rw [List.any_eq_false]; intro p hp; rw [h p hp]; simp
theorem norm_ok {l : LV} (h : okV l) : Wq l = levM (l.foldl putM []) := by unfold Wq; rw [if_neg (by rw [okV_of h]; simp)]
theorem fold_mok {l : LV} (h : okV l) : MOK (l.foldl putM []) := foldM_ok MOK.nil h
theorem normOf_nf (l : LV) : NF (Wq l) := by
 unfold Wq
 split
 ·exact NF.nil
 ·rename_i h
  exact levM_nf (foldM_ok MOK.nil (anyBad_of (by simpa using h)))
theorem NF.okV {l : LV} (h : NF l) : okV l := h.ok
theorem norm_mem {l : LV} (h : Go.Proofs.YtebmlojhdnldgaaGreatDoor.okV l) {p : Int × Int} (hp : p ∈ Wq l) : p ∈ l := by
 rw [norm_ok h] at hp
 rcases fold_mem h ((levM_mem (fold_mok h)).1 hp).1 with h | h
 ·cases h
 ·exact h
theorem norm_dom {l : LV} (h : Go.Proofs.YtebmlojhdnldgaaGreatDoor.okV l) {p : Int × Int} (hp0 : 0 <= p.2) (hp : domP l p) : domP (Wq l) p := by
 rcases hp with hp | ⟨q, hq, h1, h2⟩
 ·exact .inl hp
 ·have hm := fold_mok h
  obtain ⟨n, h3, h4⟩ := fold_ge MOK.nil h (.inr hq)
  rw [norm_ok h]
  have hv := (hm.v _ h3).1
  dsimp only at hv
  by_cases hq1 : 0 < q.1
  ·exact .inr ⟨(q.1, n), (levM_mem hm).2 ⟨h3, .inl hq1⟩, h1, by dsimp only; omega⟩
  ·have hq0 : q.1 = 0 := by omega
   by_cases hn : 0 < n
   ·by_cases hh : ∀ r, r ∈ l.foldl putM [] -> 0 < r.1 -> r.2 < n
    ·exact .inr ⟨(q.1, n), (levM_mem hm).2 ⟨h3, .inr ⟨hn, hh⟩⟩, h1, by dsimp only; omega⟩
    ·simp only [Classical.not_forall] at hh
     obtain ⟨r, hr, hr1, hr2⟩ := hh
     exact .inr ⟨r, (levM_mem hm).2 ⟨hr, .inl hr1⟩, by left; omega, by omega⟩
   ·left; omega
theorem norm_leR {l : LV} (h : Go.Proofs.YtebmlojhdnldgaaGreatDoor.okV l) : leR l (Wq l) := fun p hp => norm_dom h (badP_nn (h p hp)).2.1 (.self hp)
theorem norm_geR {l : LV} (h : Go.Proofs.YtebmlojhdnldgaaGreatDoor.okV l) : leR (Wq l) l := fun _ hp => .self (norm_mem h hp)
theorem leqN_iff {a b : LV} : leqN a b = true ↔ ∀ p, p ∈ a -> ∃ q, q ∈ b /\ (p.1 = 0 \/ p.1 = q.1) /\ p.2 <= q.2 := by
 unfold leqN
 simp [underP]
theorem leqN_leR {a b : LV} (ha : NF a) : leqN a b = true ↔ leR a b := by
 rw [leqN_iff]
 constructor
 ·exact fun h p hp => .inr (h p hp)
 ·intro h p hp
  rcases h p hp with ⟨h1, h2⟩ | h
  ·have := (ha.z p hp h1).1; omega
  ·exact h
theorem NF.sub {a b : LV} (ha : NF a) (hb : NF b) (h1 : leR a b) (h2 : leR b a) : ∀ p, p ∈ a -> p ∈ b := by
 have ha' := leqN_iff.1 ((leqN_leR ha).2 h1)
 have hb' := leqN_iff.1 ((leqN_leR hb).2 h2)
 have hpos : ∀ {a b : LV}, NF a -> NF b -> (∀ p, p ∈ a -> ∃ q, q ∈ b /\ (p.1 = 0 \/ p.1 = q.1) /\ p.2 <= q.2) -> (∀ p, p ∈ b -> ∃ q, q ∈ a /\ (p.1 = 0 \/ p.1 = q.1) /\ p.2 <= q.2) -> ∀ p, p ∈ a -> 0 < p.1 -> p ∈ b := by
  intro a b ha hb ha' hb' p hp hp0
  obtain ⟨q, hq, h1, h2⟩ := ha' p hp
  obtain ⟨r, hr, h3, h4⟩ := hb' q hq
  have : r = p := ha.uniq hr hp (by omega)
  subst this
  have : q = r := Prod.ext (by omega) (by omega)
  rw [<- this]; exact hq
 intro p hp
 by_cases hp0 : 0 < p.1
 ·exact hpos ha hb ha' hb' p hp hp0
 ·have hpz : p.1 = 0 := by have := (badP_nn (ha.ok p hp)).1; omega
  obtain ⟨q, hq, h1, h2⟩ := ha' p hp
  have hz := ha.z p hp hpz
  by_cases hq0 : 0 < q.1
  ·have := hz.2 q (hpos hb ha hb' ha' q hq hq0) hq0
   omega
  ·have hqz : q.1 = 0 := by have := (badP_nn (hb.ok q hq)).1; omega
   obtain ⟨r, hr, h3, h4⟩ := hb' q hq
   by_cases hr0 : 0 < r.1
   ·have := hz.2 r hr hr0; omega
   ·have hrz : r.1 = 0 := by have := (badP_nn (ha.ok r hr)).1; omega
    have : r = p := ha.uniq hr hp (by omega)
    subst this
    have : q = r := Prod.ext (by omega) (by omega)
    rw [<- this]; exact hq
theorem NF.ext {a b : LV} (ha : NF a) (hb : NF b) (h1 : leR a b) (h2 : leR b a) : a = b :=
 up_ext ha.up hb.up fun p => ⟨ha.sub hb h1 h2 p, hb.sub ha h2 h1 p⟩
theorem norm_id {l : LV} (h : NF l) : Wq l = l := (normOf_nf l).ext h (norm_geR h.ok) (norm_leR h.ok)
theorem norm_okV (a : LV) : okV (Wq a) := (normOf_nf a).ok
def orZero (x : LV) : LV := if x = [] then [(0, 0)] else x
def levOf (bys : List LV) (v : Int) : LV := if 0 < v /\ v <= bys.length then Wq (bys.getD (v - 1).toNat []) else []
def xsP (bys : List LV) (p : Int × Int) : LV := orZero (levOf bys p.1)
theorem orZero_mem {x : LV} {q : Int × Int} (h : q ∈ orZero x) : q = (0, 0) \/ q ∈ x := by
 unfold orZero at h
 split at h
 ·left; simpa using h
 ·exact .inr h
def addP (n : Int) (q : Int × Int) : Int × Int := (q.1, q.2 + n)
def rowP (bys : List LV) (p : Int × Int) : LV := (xsP bys p).map (addP p.2)
def putL (l : LV) (bys : List LV) : LV := ((Wq l).map (rowP bys)).flatten
theorem levOf_mem {bys : List LV} {v : Int} {q : Int × Int} (h : q ∈ levOf bys v) : ∃ l, l ∈ bys /\ q ∈ Wq l := by
 unfold levOf at h
 split at h
 ·rename_i hv
  refine ⟨_, ?_, h⟩
  rw [List.getD_eq_getElem?_getD, List.getElem?_eq_getElem (by omega)]
  exact List.getElem_mem _
 ·cases h
theorem xsP_ok (bys : List LV) (p : Int × Int) : okV (xsP bys p) := fun q hq => by
 rcases orZero_mem hq with rfl | hq
 ·rfl
 ·obtain ⟨l, -, h⟩ := levOf_mem hq
  exact norm_okV _ q h
end Go.Proofs.YtebmlojhdnldgaaGreatDoor
namespace Go.Proofs.YtebmlojhdnldgaaGreatDoor
set_option linter.unusedSimpArgs false
set_option linter.unusedVariables false
set_option maxHeartbeats 10000000
set_option maxRecDepth 20000
open Go.RowKit
attribute [local simp] Qb Qc Xg Xw opD Qt Qn Qi Qj hOf Xd Xz Xu TK.isAgg TK.known Xf Xh Wv Qv D.ofV inB Wr Xj binX binD binE Xv bndD capB IntKind.min IntKind.max IntKind.signed IntKind.bits Xb late
end Go.Proofs.YtebmlojhdnldgaaGreatDoor
