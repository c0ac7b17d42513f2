/-
  MR3: the texts Tow Twk Tlf Tpt Tsz Tfr Lmap Lhid Lay Lsort Llev Lmad Lleq Llaw Lpd Lkit Lput Lpt2 Tlv Tsm Tpla Hdd Tok Hdp Hdl Cfa Cfb, one behind the other.
-/
import Derived.WalkKit
import Derived.Maps.RangeWalk
import Derived.Shelf.SlIterI.Nil
import Derived.Shelf.SortM.Plain
import Derived.Shelf.SortM.SortNone
import Derived.Ground.GgzProg
import Derived.Ground.SlgmProg
import Derived.Test.YtgloldepdhgfaaaGreatDoorChecked
import Derived.Test.YtgloldepdhgfaaaGreatDoorMR2
namespace Go.Proofs.YtgloldepdhgfaaaGreatDoor
set_option linter.unusedSimpArgs false
set_option linter.unusedVariables false
set_option maxHeartbeats 10000000
set_option maxRecDepth 20000
open Go.RowKit
attribute [local simp] Qb Qc Xd Xm opD Qp Ql Qi Qk hOf Wz Xn Xk TK.isAgg TK.known Xf Xe Wt Qr D.ofV inB Wm Xc binX binD binE Xl bndD capB IntKind.min IntKind.max IntKind.signed IntKind.bits Wx late
theorem set_same {α : Type} : ∀ {l : List α} {k : Nat} {x : α}, l[k]? = some x -> l.set k x = l
 | [], k, x, h => by simp at h
 | a :: r, 0, x, h => by simp at h; rw [h]; rfl
 | a :: r, k + 1, x, h => by rw [List.set_cons_succ, set_same (by simpa using h)]
theorem own_spec (t : T) (ht : okT t) : Qt Tryz.prog glob 101 [Qv t] [] (fun o _ => o.fgt = .ret (Qv t)) := by
 obtain ⟨kk, nn, aa, ls, ks⟩ := t
 have hll : ls.length <= Wd := ht.ll
 have hls := ht.ls
 simp only [T.ls_mk] at hls
 have hcl := cloneL_spec ls hll
 rw [Qd]
 simp only [T.k_mk, T.n_mk, T.a_mk, T.ls_mk, T.ks_mk]
 refine Qt.movd Qe (Qq Wb Tryz.func101 rfl (Qy _ _ Tryz.func101 rfl (by decide)) rfl rfl ?_)
 (refine sR fun K hK => ?_; ((repeat (rw [Qa]; simp)); (try simp only [zs])); refine hK _ _ _ ?_; clear hK K)
 (refine sR fun K hK => ?_; ((repeat (rw [Qa]; simp)); (try simp only [zs])))
 refine Xi.objs Qe [] true hcl ?_ ?_ (by decide) (by simp) (by simp [zz, okA, Qx, Qu, hOf, Qg]) (by simp [zz, okA, Qx, Qu, hOf, Qg]) (by simp [zz, okA, Qx, Qu, hOf, Qg]) (by simp [zz, okA, Qx, Qu, hOf, Qg])
 ·rintro o hc (⟨hn, ho, rfl⟩ | ⟨rfl, rfl⟩)
  ·refine ⟨true, ?_⟩
   rw [show told true o = _ from ho]
   clear ho
   have hn' : ls = [] := by cases ls with | nil => rfl | cons _ _ => simp at hn
   subst hn'
   simp [zz, okA, Qx, Qu, hOf, Qg, Out.ren, told, Out.fgt, upO, Qi, Qk]
   ((try simp only [Qb, Qc, Ql, Qi, Qk]); (repeat (rw [Qa]; simp)); (try simp only [zs]))
   (refine hK _ _ _ ?_; clear hK K)
   refine Qf fun K1 hK1 => ?_
   (refine sR fun K hK => ?_; ((repeat (rw [Qa]; simp)); (try simp only [zs])); refine hK _ _ _ ?_; clear hK K)
   refine wpD_rangeJ Wb Qe (ti := 3) (tk := 11) (tn := 10) (td := 12) (ts := 26) [3, 11, 12, 13, 14, 15, 16, 17, 18, 19, 20, 21, 22, 23, 24, 25, 26] [] (0) (fun k ys hl => ys = [] /\ hl = [.cells 27 [.int .i64 kk, .int .i64 nn, .int .i64 aa, .slice [] .any, .slice (ks.map Qv) .any], .cells 27 [.int .i64 0, .int .i64 0, .int .i64 0, .slice [] .full, .slice [] .full]]) rfl rfl rfl rfl rfl rfl rfl rfl rfl rfl rfl rfl (by simp) (by decide) rfl (by first | assumption | omega | (unfold Wd; omega)) rfl (by kernel_rfl) (by decide) ?_ ?_ ?_
   ·exact ⟨rfl, rfl⟩
   ·rintro i ys hl A hi
    exact absurd hi (by omega)
   ·rintro ys hl tl' ⟨rfl, rfl⟩ htl
    refine hK1 _ _ _ (wpD_weakL htl ?_)
    simp only [Qr, List.set, List.map_cons, List.map_nil, List.cons_append, List.nil_append]
    (refine sR fun K hK => ?_; ((repeat (rw [Qa]; simp)); (try simp only [zs])); refine hK _ _ _ ?_; clear hK K)
    (refine Qj ?_; (try simp only [zs]); refine Wc.ret rfl (.inl ?_); simp [Qp, Out.fgt, D.fgt, D.fgts])
  ·refine ⟨false, ?_⟩
   simp [zz, okA, Qx, Qu, hOf, Qg, Out.ren, told, Out.fgt, upO, Qi, Qk]
   ((try simp only [Qb, Qc, Ql, Qi, Qk]); (repeat (rw [Qa]; simp)); (try simp only [zs]))
   (refine hK _ _ _ ?_; clear hK K)
   refine Qf fun K1 hK1 => ?_
   (refine sR fun K hK => ?_; ((repeat (rw [Qa]; simp)); (try simp only [zs])); refine hK _ _ _ ?_; clear hK K)
   refine wpD_rangeJ Wb Qe (ti := 3) (tk := 11) (tn := 10) (td := 12) (ts := 26) [3, 11, 12, 13, 14, 15, 16, 17, 18, 19, 20, 21, 22, 23, 24, 25, 26] [] (ls.length) (fun k ys hl => ys = [] /\ hl = [.cells 27 [.int .i64 kk, .int .i64 nn, .int .i64 aa, .own 2 ls.length, .slice (ks.map Qv) .any], .cells 27 [.int .i64 0, .int .i64 0, .int .i64 0, .slice [] .full, .slice [] .full], .row 1 (ls.map Wp)]) rfl rfl rfl rfl rfl rfl rfl rfl rfl rfl rfl rfl (by simp) (by decide) rfl (by first | assumption | omega | (unfold Wd; omega)) rfl (by kernel_rfl) (by decide) ?_ ?_ ?_
   ·exact ⟨rfl, rfl⟩
   ·rintro i ys hl A hi ⟨rfl, rfl⟩ hA hA2
    simp only [Qr, List.set, List.map_cons, List.map_nil, List.cons_append, List.nil_append]
    have hi' : (i : Int) < ls.length := by omega
    have hcp := cloneP_spec ls[i] (hls _ (List.getElem_mem hi)).1
    (refine sR fun K hK => ?_; ((repeat (rw [Qa]; simp)); (try simp only [zs])); refine hK _ _ _ ?_; clear hK K)
    (refine dR fun KT hKT => ?_; ((repeat (rw [Qh]; simp [hi, hi', Wp])); (try simp only [Qm])))
    refine cYp (hcp) ?_
    ((try simp only [Qn, Qo, Ql, Qi, Qk]); (repeat (rw [Qh]; simp [hi, hi', Wp])); (try simp only [Qm]))
    (refine hKT _ _ _ _ (by kernel_rfl) ?_; clear hKT KT; (try simp only [zs]))
    rw [show reD (D.agg [D.slice (List.map Xq ls[i]) Cp.any]) [D.slice (List.map Xq ls[i]) Cp.any] = Wp ls[i] from rfl, set_same (by simp [hi])]
    (refine hA _ _ _ (LeT.refl _) (by kernel_rfl) ?_ rfl; simp only [Wg, List.map_cons, List.map_nil])
    exact ⟨trivial, trivial⟩
   ·rintro ys hl tl' ⟨rfl, rfl⟩ htl
    refine hK1 _ _ _ (wpD_weakL htl ?_)
    simp only [Qr, List.set, List.map_cons, List.map_nil, List.cons_append, List.nil_append]
    (refine wpD_stayO 2 rfl ?_; simp [D.frzs, D.frz, HO.frz, dfFrz, FK.isB, FK.isM, FK.isO, D.isLen])
    (refine sR fun K hK => ?_; ((repeat (rw [Qa]; simp)); (try simp only [zs])); refine hK _ _ _ ?_; clear hK K)
    (refine Qj ?_; (try simp only [zs]); refine Wc.ret rfl (.inl ?_); simp [Qp, Out.fgt, D.fgt, D.fgts])
 ·rintro o hc (⟨hn, ho, rfl⟩ | ⟨rfl, rfl⟩) <;> simp
def walkF (d : Int) (g : FuncId) (cap : List D) : D := .agg [.int .i64 d, .fn (.func g) [] cap]
def Xu (d k : Int) (i : Int) : Int := if Ww k i then IntKind.i64.wrap (d + 1) else d
theorem means_spec (d n : Int) : Qt Tryz.prog glob 100 [.agg [.int .i64 d], .int .i64 n] [] (fun o _ => o.fgt = .ret (.tuple [.int .i64 (IntKind.i64.wrap (n - d)), .bool (decide (d <= n))])) := by
 refine Qt.movd Qe (Qq Wb Tryz.func100 rfl (Qy _ _ Tryz.func100 rfl (by decide)) rfl rfl ?_)
 (refine sR fun K hK => ?_; ((repeat (rw [Qa]; simp)); (try simp only [zs])); refine hK _ _ _ ?_; clear hK K)
 (refine Qf fun K hK => ?_; refine dR fun KT hKT => ?_; ((repeat (rw [Qh]; simp)); (try simp only [Qm])))
 (refine hKT _ _ _ _ (by kernel_rfl) ?_; clear hKT KT; (try simp only [zs]))
 (refine hK _ _ _ ?_; clear hK K)
 (refine Qj ?_; (try simp only [zs]); refine Wc.ret rfl (.inl ?_); simp [Qp, Out.fgt, D.fgt, D.fgts])
theorem below_spec (d k : Int) (i : Int) (g : FuncId) (cap : List D) (hp : D.pures cap = true) : Qt Tryz.prog glob 149 [walkF d g cap, .int .i64 k, .int .i64 i] [] (fun o _ => o.fgt = .ret (walkF (Xu d k i) g cap)) := by
 have hb := binds_spec k i
 refine Qt.movd Qe (Qq Wb Tryz.func149 rfl (Qy _ _ Tryz.func149 rfl (by decide)) rfl rfl ?_)
 unfold walkF Xu
 (refine sR fun K hK => ?_; ((repeat (rw [Qa]; simp)); (try simp only [zs])); refine hK _ _ _ ?_; clear hK K)
 refine Qf fun K1 hK1 => ?_
 cases hbb : Ww k i with
 | true =>
  rw [hbb] at hb
  (refine sR fun K hK => ?_; ((repeat (rw [Qa]; simp)); (try simp only [zs])))
  refine cXp (hb) ?_
  ((try simp only [Qb, Qc, Ql, Qi, Qk]); (repeat (rw [Qa]; simp)); (try simp only [zs]))
  (refine hK _ _ _ ?_; clear hK K)
  refine pT rfl ?_
  (refine Qz Wb ?_; ((repeat (rw [Qa]; simp)); (try simp only [zs])))
  refine hK1 _ _ _ ?_
  (refine sR fun K hK => ?_; ((repeat (rw [Qa]; simp)); (try simp only [zs])); refine hK _ _ _ ?_; clear hK K)
  (refine Qj ?_; (try simp only [zs]); refine Wc.ret rfl (.inl ?_); simp [Qp, Out.fgt, D.fgt, D.fgts])
  simp [hbb]
 | false =>
  rw [hbb] at hb
  (refine sR fun K hK => ?_; ((repeat (rw [Qa]; simp)); (try simp only [zs])))
  refine cXp (hb) ?_
  ((try simp only [Qb, Qc, Ql, Qi, Qk]); (repeat (rw [Qa]; simp)); (try simp only [zs]))
  (refine hK _ _ _ ?_; clear hK K)
  refine pF rfl ?_
  refine Qs (hK1 _ _ _ ?_)
  (refine sR fun K hK => ?_; ((repeat (rw [Qa]; simp)); (try simp only [zs])); refine hK _ _ _ ?_; clear hK K)
  (refine Qj ?_; (try simp only [zs]); refine Wc.ret rfl (.inl ?_); simp [Qp, Out.fgt, D.fgt, D.fgts])
  simp [hbb]
abbrev Turn := Int -> T -> Sum T (Int × List LV)
mutual
def T.walk (turn : Turn) : T -> Int -> T
 | .mk k n a ls ks, d => match turn d (.mk k n a ls ks) with
  | .inl u => u
  | .inr x => .mk k x.1 a x.2 (T.walks turn k ks 0 d)
def T.walks (turn : Turn) (k : Int) : List T -> Nat -> Int -> List T
 | [], _, _ => []
 | t :: r, i, d => T.walk turn t (Xu d k i) :: T.walks turn k r (i + 1) d
end
theorem T.walks_length (turn : Turn) (k d : Int) : ∀ (ks : List T) (i : Nat), (T.walks turn k ks i d).length = ks.length
 | [], i => rfl
 | t :: r, i => by rw [T.walks, List.length_cons, List.length_cons, T.walks_length turn k d r (i + 1)]
theorem T.walks_snoc (turn : Turn) (k d : Int) : ∀ (ks : List T) (i j : Nat) (h : j < ks.length), T.walks turn k (ks.take (j + 1)) i d = T.walks turn k (ks.take j) i d ++ [T.walk turn ks[j] (Xu d k ((i + j : Nat) : Int))]
 | [], i, j, h => by simp at h
 | t :: r, i, 0, h => by simp [T.walks]
 | t :: r, i, j + 1, h => by
  have h' : j < r.length := by simpa using h
  simp only [List.take_succ_cons, T.walks, List.cons_append, List.getElem_cons_succ]
  rw [T.walks_snoc turn k d r (i + 1) j h', show i + 1 + j = i + (j + 1) by omega]
mutual
def T.deep : T -> Nat
 | .mk _ _ _ _ ks => 1 + T.deeps ks
def T.deeps : List T -> Nat
 | [] => 0
 | t :: r => max (T.deep t) (T.deeps r)
end
theorem T.deep_mem {t : T} {ks : List T} (h : t ∈ ks) : t.deep <= T.deeps ks := by
 induction ks with
 | nil => cases h
 | cons x r ih =>
  rw [T.deeps]
  cases h with
  | head => omega
  | tail _ hm => have := ih hm; omega
theorem T.deep_kid {t : T} {k n a : Int} {ls : List LV} {ks : List T} (h : t ∈ ks) : t.deep + 1 <= (T.mk k n a ls ks).deep := by
 have := T.deep_mem h
 rw [T.deep]; omega
def DM : Nat := 1099511627776
def Fits (d : Int) (t : T) : Prop := 0 <= d /\ d + t.deep <= DM
theorem Fits.kid {d k n a : Int} {ls : List LV} {ks : List T} (h : Fits d (.mk k n a ls ks)) {t : T} (ht : t ∈ ks) (i : Int) : Fits (Xu d k i) t := by
 have h1 := T.deep_kid (k := k) (n := n) (a := a) (ls := ls) ht
 obtain ⟨h2, h3⟩ := h
 unfold DM at h3
 unfold Fits Xu DM
 split
 ·rw [i64w (by omega) (by omega)]; omega
 ·omega
def wksT (turn : Turn) (k d : Int) (ks : List T) (j : Nat) : List T := T.walks turn k (ks.take j) 0 d
theorem wksT_succ {turn : Turn} {k d : Int} {ks : List T} {j : Nat} (h : j < ks.length) : wksT turn k d ks (j + 1) = wksT turn k d ks j ++ [T.walk turn ks[j] (Xu d k j)] := by
 unfold wksT; rw [T.walks_snoc turn k d ks 0 j h, Nat.zero_add]
theorem wksT_end {turn : Turn} {k d : Int} {ks : List T} {j : Nat} (h : ks.length <= j) : wksT turn k d ks j = T.walks turn k ks 0 d := by unfold wksT; rw [List.take_of_length_le h]
theorem wksT_len {turn : Turn} {k d : Int} {ks : List T} {j : Nat} (h : j <= ks.length) : (wksT turn k d ks j).length = j := by unfold wksT; rw [T.walks_length, List.length_take]; omega
def turnOut (turn : Turn) (d : Int) (t : T) : D := match turn d t with
 | .inl u => .tuple [Qv u, .bool true]
 | .inr x => .tuple [Qv (.mk t.k x.1 t.a x.2 t.ks), .bool false]
theorem walkT_spec (turn : Turn) (g : FuncId) (cap : List D) (hcf : D.fgts cap = cap) (hp : D.pures cap = true) (hg : ∀ d t, Fits d t -> okT t -> Qt Tryz.prog glob g ([walkF d g cap, Qv t] ++ cap) [] (fun o _ => o.fgt = .ret (turnOut turn d t))) (t : T) :
  ∀ d, Fits d t -> okT t -> Qt Tryz.prog glob 102 [walkF d g cap, Qv t] [] (fun o _ => o.fgt = .ret (Qv (T.walk turn t d))) := by
 induction t using T.ind with
 | h kk nn aa ls ks ih =>
  intro d hfit ht
  have hgt := hg d _ hfit ht
  have hcN : ∀ p, D.okNs p cap = true := fun p => D.okNs_pure p cap hp
  have hcR : ∀ σ, D.rens σ cap = cap := fun σ => D.rens_pure σ cap hp
  have hkl : ks.length <= Wd := ht.kl
  have hks : ∀ x, x ∈ ks -> okT x := ht.ks
  have hw : T.walk turn (.mk kk nn aa ls ks) d = match turn d (.mk kk nn aa ls ks) with
   | .inl u => u
   | .inr x => .mk kk x.1 aa x.2 (T.walks turn kk ks 0 d) := by rw [T.walk]
  rw [hw]
  have hE : Qv (.mk kk nn aa ls ks) = .agg [.int .i64 kk, .int .i64 nn, .int .i64 aa, .slice (ls.map Wp) .any, .slice (ks.map Qv) .any] := Qd _
  unfold walkF at hgt ⊢
  unfold turnOut at hgt
  rw [hE] at hgt ⊢
  cases hturn : turn d (.mk kk nn aa ls ks) with
  | inl u =>
   simp only [hturn] at hgt
   refine Qt.movd Qe (Qq Wb Tryz.func102 rfl (Qy _ _ Tryz.func102 rfl (by decide)) rfl rfl ?_)
   (refine sR fun K hK => ?_; ((repeat (rw [Qa]; simp)); (try simp only [zs])); refine hK _ _ _ ?_; clear hK K)
   (refine sR fun K hK => ?_; ((repeat (rw [Qa]; simp)); (try simp only [zs])))
   refine Xi.pure Qe hgt ?_ (by simp [D.fgts, D.fgt, hcf]) (by simp [D.pures, D.pure, Cp.free, hp]) (by simp [Out.pure, D.pure, D.pures])
   ((try simp only [Qb, Qc, Ql, Qi, Qk]); (repeat (rw [Qa]; simp)); (try simp only [zs]))
   (refine hK _ _ _ ?_; clear hK K)
   refine Qf fun K1 hK1 => ?_
   (refine sR fun K hK => ?_; ((repeat (rw [Qa]; simp)); (try simp only [zs])); refine hK _ _ _ ?_; clear hK K)
   refine pT rfl ?_
   (refine sR fun K hK => ?_; ((repeat (rw [Qa]; simp)); (try simp only [zs])); refine hK _ _ _ ?_; clear hK K)
   (refine Qj ?_; (try simp only [zs]); refine Wc.ret rfl (.inl ?_); simp [Qp, Out.fgt, D.fgt, D.fgts])
   exact (Qd u).symm
  | inr x =>
   simp only [hturn, T.k_mk, T.a_mk, T.ks_mk] at hgt
   rw [Qd] at hgt
   simp only [T.k_mk, T.n_mk, T.a_mk, T.ls_mk, T.ks_mk] at hgt
   refine Qt.movd Qe (Qq Wb Tryz.func102 rfl (Qy _ _ Tryz.func102 rfl (by decide)) rfl rfl ?_)
   (refine sR fun K hK => ?_; ((repeat (rw [Qa]; simp)); (try simp only [zs])); refine hK _ _ _ ?_; clear hK K)
   (refine sR fun K hK => ?_; ((repeat (rw [Qa]; simp)); (try simp only [zs])))
   refine Xi.pure Qe hgt ?_ (by simp [D.fgts, D.fgt, hcf]) (by simp [D.pures, D.pure, Cp.free, hp]) (by simp [Out.pure, D.pure, D.pures, Cp.free])
   ((try simp only [Qb, Qc, Ql, Qi, Qk]); (repeat (rw [Qa]; simp)); (try simp only [zs]))
   (refine hK _ _ _ ?_; clear hK K)
   refine Qf fun K1 hK1 => ?_
   (refine sR fun K hK => ?_; ((repeat (rw [Qa]; simp)); (try simp only [zs])); refine hK _ _ _ ?_; clear hK K)
   refine pF rfl ?_
   refine Qs (hK1 _ _ _ ?_)
   clear hK1 K1
   (refine sR fun K hK => ?_; ((repeat (rw [Qa]; simp)); (try simp only [zs])); refine hK _ _ _ ?_; clear hK K)
   (refine sR fun K hK => ?_; ((repeat (rw [Qa]; simp)); (try simp only [zs])); refine hK _ _ _ ?_; clear hK K)
   refine wpD_tokO 3 4 (ty := 27) (ds := [.int .i64 kk, .int .i64 x.1, .int .i64 aa, .slice (x.2.map Wp) .any, .slice [] .full]) rfl ?_
   simp [D.tokd]
   refine Qf fun K1 hK1 => ?_
   (refine sR fun K hK => ?_; ((repeat (rw [Qa]; simp)); (try simp only [zs])); refine hK _ _ _ ?_; clear hK K)
   refine wpD_rangeJ Wb Qe (ti := 3) (tk := 25) (tn := 24) (td := 26) (ts := 42) [8, 9, 25, 26, 27, 28, 29, 30, 31, 32, 33, 34, 35, 36, 37, 38, 39, 40, 41, 42] [] (ks.length) (fun k ys hl => ys = [] /\ hl = [.cells 143 [.int .i64 d, .fn (.func g) [] cap], .cells 27 [.int .i64 kk, .int .i64 nn, .int .i64 aa, .slice (ls.map Wp) .any, .slice (ks.map Qv) .any], .cells 27 [.int .i64 0, .int .i64 0, .int .i64 0, .slice [] .full, .slice [] .full], .cells 27 [.int .i64 kk, .int .i64 x.1, .int .i64 aa, .slice (x.2.map Wp) .any, .slice ((wksT turn kk d ks k).map Qv) (.tok 4)], .tok]) rfl rfl rfl rfl rfl rfl rfl rfl rfl rfl rfl rfl (by simp) (by decide) rfl (by first | assumption | omega | (unfold Wd; omega)) rfl (by kernel_rfl) (by decide) ?_ ?_ ?_
   ·exact ⟨rfl, rfl⟩
   ·rintro i ys hl A hi ⟨rfl, rfl⟩ hA hA2
    simp only [Qr, List.set, List.map_cons, List.map_nil, List.cons_append, List.nil_append]
    have hi' : (i : Int) < ks.length := by omega
    have hsn := wksT_succ (turn := turn) (k := kk) (d := d) hi
    have hln := wksT_len (turn := turn) (k := kk) (d := d) (Nat.le_of_lt hi)
    have hrec := ih ks[i] (List.getElem_mem hi) (Xu d kk i) (hfit.kid (List.getElem_mem hi) i) (hks _ (List.getElem_mem hi))
    have hbel := below_spec d kk i g cap hp
    unfold walkF at hrec hbel
    obtain ⟨y, hy⟩ : ∃ y, ks[i] = y := ⟨_, rfl⟩
    rw [hy] at hrec hsn
    have hEy := Qd y
    rw [hEy] at hrec
    have hel : (wksT turn kk d ks i).length + 1 <= Wd := by omega
    generalize wksT turn kk d ks i = es at hsn hln hel ⊢
    (refine sR fun K hK => ?_; ((repeat (rw [Qa]; simp [hi, hi', hy, hEy])); (try simp only [zs])); refine hK _ _ _ ?_; clear hK K)
    (refine dR fun KT hKT => ?_; ((repeat (rw [Qh]; simp [hi, hi', hy])); (try simp only [Qm])))
    refine CallY.pure Qe (hbel) ?_ (by simp [D.fgts, D.fgt, hp]) (by simp [D.pures, D.pure, Cp.free, D.pures_map, hp]) (by simp [Out.pure, D.pure, D.pures, Cp.free, D.pures_map, hp])
    ((try simp only [Qn, Qo, Ql, Qi, Qk]); (repeat (rw [Qh]; simp [hi, hi', hy])); (try simp only [Qm]))
    refine CallY.pure Qe (hrec) ?_ (by simp [D.fgts, D.fgt, hp]) (by simp [D.pures, D.pure, Cp.free, D.pures_map, hp]) (by simp [Out.pure, D.pure, D.pures, Cp.free, D.pures_map, hp])
    ((try simp only [Qn, Qo, Ql, Qi, Qk]); (repeat (rw [Qh]; simp [hel])); (try simp only [Qm]))
    (refine hKT _ _ _ _ (by kernel_rfl) ?_; clear hKT KT; (try simp only [zs]))
    (refine hA2 ([0, 1, 2, 3, 6]) _ _ _ (LeT.refl _) (by decide) (by simp) (by simp [Wk, Wl, Wr, D.mov, HO.mov, okM, Wn, Wg, zz, okA, Qx, Qu, hOf, Qg, Qr, hcN, hcR]) ?_ rfl; simp [Wk, Wl, Wr, D.mov, HO.mov, okM, Wn, Wg, zz, okA, Qx, Qu, hOf, Qg, hcN, hcR])
    rw [hsn, show es.map Qv ++ [Qv (T.walk turn y (Xu d kk i))] = (es ++ [T.walk turn y (Xu d kk i)]).map Qv by simp, mapT_ren]
   ·rintro ys hl tl' ⟨rfl, rfl⟩ htl
    refine hK1 _ _ _ (wpD_weakL htl ?_)
    simp only [Qr, List.set, List.map_cons, List.map_nil, List.cons_append, List.nil_append]
    rw [wksT_end (Nat.le_refl _)]
    (refine sR fun K hK => ?_; ((repeat (rw [Qa]; simp)); (try simp only [zs])); refine hK _ _ _ ?_; clear hK K)
    (refine Qj ?_; (try simp only [zs]); refine Wc.ret rfl (.inl ?_); simp [Qp, Out.fgt, D.fgt, D.fgts])
    rw [Qd]
    rfl
def liftNum (n fr d k m : Int) : Int := if k = 1 /\ d <= m /\ fr <= IntKind.i64.wrap (m - d) then IntKind.i64.wrap (m + n) else m
def liftTurn (n fr : Int) : Turn := fun d t => .inr (liftNum n fr d t.k t.n, t.ls)
theorem i64_wrap (n : Int) : I64 (IntKind.i64.wrap n) := by
 have := wrap_in IntKind.i64 n
 simp [IntKind.min, IntKind.max, IntKind.signed, IntKind.bits] at this
 exact ⟨by omega, by omega⟩
theorem okT.num {t : T} (h : okT t) {m : Int} (hm : I64 m) : okT (.mk t.k m t.a t.ls t.ks) := by
 cases h with
 | mk hk hn ha hl hls hks h => exact .mk hk hm ha hl hls hks h
theorem liftNum_ok {n fr d k m : Int} (h : I64 m) : I64 (liftNum n fr d k m) := by
 unfold liftNum; split
 ·exact i64_wrap _
 ·exact h
def liftCap (n fr : Int) : List D := [.ref (.int .i64 fr), .ref (.int .i64 n)]
theorem lift1_spec (n fr d : Int) (t : T) (ht : okT t) : Qt Tryz.prog glob 99 ([walkF d 99 (liftCap n fr), Qv t] ++ liftCap n fr) [] (fun o _ => o.fgt = .ret (turnOut (liftTurn n fr) d t)) := by
 obtain ⟨kk, nn, aa, ls, ks⟩ := t
 have hm := means_spec d nn
 have how := own_spec (.mk kk (liftNum n fr d kk nn) aa ls ks) (ht.num (liftNum_ok ht.n))
 have hln : liftNum n fr d kk nn = if kk = 1 /\ d <= nn /\ fr <= IntKind.i64.wrap (nn - d) then IntKind.i64.wrap (nn + n) else nn := rfl
 unfold turnOut liftTurn
 simp only [T.k_mk, T.n_mk, T.a_mk, T.ls_mk, T.ks_mk]
 generalize liftNum n fr d kk nn = num at how hln ⊢
 rw [Qd] at how
 rw [Qd, Qd]
 simp only [T.k_mk, T.n_mk, T.a_mk, T.ls_mk, T.ks_mk] at how ⊢
 unfold walkF liftCap
 refine Qt.movd Qe (Qq Wb Tryz.func99 rfl (Qy _ _ Tryz.func99 rfl (by decide)) rfl rfl ?_)
 simp only [List.cons_append, List.nil_append]
 (refine sR fun K hK => ?_; ((repeat (rw [Qa]; simp)); (try simp only [zs])); refine hK _ _ _ ?_; clear hK K)
 refine Qf fun K1 hK1 => ?_
 (refine sR fun K hK => ?_; ((repeat (rw [Qa]; simp)); (try simp only [zs])))
 refine cXp (hm) ?_
 ((try simp only [Qb, Qc, Ql, Qi, Qk]); (repeat (rw [Qa]; simp)); (try simp only [zs]))
 (refine hK _ _ _ ?_; clear hK K)
 by_cases h1 : kk = 1
 ·subst h1
  by_cases h2 : d <= nn
  ·by_cases h3 : fr <= IntKind.i64.wrap (nn - d)
   ·rw [if_pos ⟨rfl, h2, h3⟩] at hln
    (refine sR fun K hK => ?_; ((repeat (rw [Qa]; simp [h2, h3])); (try simp only [zs])); refine hK _ _ _ ?_; clear hK K)
    refine pT rfl ?_
    (refine Qz Wb ?_; ((repeat (rw [Qa]; simp)); (try simp only [zs])))
    refine hK1 _ _ _ ?_
    rw [<- hln]
    (refine sR fun K hK => ?_; ((repeat (rw [Qa]; simp)); (try simp only [zs])))
    refine cXp (how) ?_
    ((try simp only [Qb, Qc, Ql, Qi, Qk]); (repeat (rw [Qa]; simp)); (try simp only [zs]))
    (refine hK _ _ _ ?_; clear hK K)
    (refine Qj ?_; (try simp only [zs]); refine Wc.ret rfl (.inl ?_); simp [Qp, Out.fgt, D.fgt, D.fgts])
   ·rw [if_neg (fun h => h3 h.2.2)] at hln
    (refine sR fun K hK => ?_; ((repeat (rw [Qa]; simp [h2, h3])); (try simp only [zs])); refine hK _ _ _ ?_; clear hK K)
    refine pF rfl ?_
    refine Qs (hK1 _ _ _ ?_)
    rw [hln] at how
    (refine sR fun K hK => ?_; ((repeat (rw [Qa]; simp)); (try simp only [zs])))
    refine cXp (how) ?_
    ((try simp only [Qb, Qc, Ql, Qi, Qk]); (repeat (rw [Qa]; simp)); (try simp only [zs]))
    (refine hK _ _ _ ?_; clear hK K)
    (refine Qj ?_; (try simp only [zs]); refine Wc.ret rfl (.inl ?_); simp [Qp, Out.fgt, D.fgt, D.fgts])
    rw [hln]
  ·rw [if_neg (fun h => h2 h.2.1)] at hln
   (refine sR fun K hK => ?_; ((repeat (rw [Qa]; simp [h2])); (try simp only [zs])); refine hK _ _ _ ?_; clear hK K)
   refine pF rfl ?_
   refine Qs (hK1 _ _ _ ?_)
   rw [hln] at how
   (refine sR fun K hK => ?_; ((repeat (rw [Qa]; simp)); (try simp only [zs])))
   refine cXp (how) ?_
   ((try simp only [Qb, Qc, Ql, Qi, Qk]); (repeat (rw [Qa]; simp)); (try simp only [zs]))
   (refine hK _ _ _ ?_; clear hK K)
   (refine Qj ?_; (try simp only [zs]); refine Wc.ret rfl (.inl ?_); simp [Qp, Out.fgt, D.fgt, D.fgts])
   rw [hln]
 ·rw [if_neg (fun h => h1 h.1)] at hln
  (refine sR fun K hK => ?_; ((repeat (rw [Qa]; simp [h1])); (try simp only [zs])); refine hK _ _ _ ?_; clear hK K)
  refine pF rfl ?_
  refine Qs (hK1 _ _ _ ?_)
  rw [hln] at how
  (refine sR fun K hK => ?_; ((repeat (rw [Qa]; simp)); (try simp only [zs])))
  refine cXp (how) ?_
  ((try simp only [Qb, Qc, Ql, Qi, Qk]); (repeat (rw [Qa]; simp)); (try simp only [zs]))
  (refine hK _ _ _ ?_; clear hK K)
  (refine Qj ?_; (try simp only [zs]); refine Wc.ret rfl (.inl ?_); simp [Qp, Out.fgt, D.fgt, D.fgts])
  rw [hln]
def T.lift (t : T) (n fr d : Int) : T := T.walk (liftTurn n fr) t d
theorem lift_spec (t : T) (n fr : Int) (hd : t.deep <= DM) (ht : okT t) : Qt Tryz.prog glob 50 [Qv t, .int .i64 n, .int .i64 fr] [] (fun o _ => o.fgt = .ret (Qv (t.lift n fr 0))) := by
 have hw := walkT_spec (liftTurn n fr) 99 (liftCap n fr) rfl (by simp [liftCap, D.pures, D.pure]) (fun d t _ => lift1_spec n fr d t) t 0 ⟨by omega, by omega⟩ ht
 unfold walkF liftCap at hw
 rw [show T.walk (liftTurn n fr) t 0 = t.lift n fr 0 from rfl] at hw
 generalize t.lift n fr 0 = r at hw ⊢
 refine Qt.movd Qe (Qq Wb Tryz.func50 rfl (Qy _ _ Tryz.func50 rfl (by decide)) rfl rfl ?_)
 (refine sR fun K hK => ?_; ((repeat (rw [Qa]; simp)); (try simp only [zs])); refine hK _ _ _ ?_; clear hK K)
 (refine wpD_stay (T := Wa) 1 (ty := 3) (ds := [.int .i64 n]) rfl rfl (by first | exact ⟨rfl, .inr ⟨_, rfl, rfl⟩⟩ | exact ⟨rfl, .inl rfl⟩) ?_; simp [D.frzs, D.frz, HO.frz, dfFrz, refOf, TK.isAgg, FK.isB, FK.isM, FK.isO, D.isLen])
 (refine wpD_stay (T := Wa) 2 (ty := 3) (ds := [.int .i64 fr]) rfl rfl (by first | exact ⟨rfl, .inr ⟨_, rfl, rfl⟩⟩ | exact ⟨rfl, .inl rfl⟩) ?_; simp [D.frzs, D.frz, HO.frz, dfFrz, refOf, TK.isAgg, FK.isB, FK.isM, FK.isO, D.isLen])
 rw [Qd t] at hw
 (refine sR fun K hK => ?_; ((repeat (rw [Qa]; simp)); (try simp only [zs])))
 refine cXp (hw) ?_
 ((try simp only [Qb, Qc, Ql, Qi, Qk]); (repeat (rw [Qa]; simp)); (try simp only [zs]))
 (refine hK _ _ _ ?_; clear hK K)
 (refine Qj ?_; (try simp only [zs]); refine Wc.ret rfl (.inl ?_); simp [Qp, Out.fgt, D.fgt, D.fgts])
 exact (Qd r).symm
def putTurn (bys : List T) : Turn := fun d t =>
 if t.k = 1 /\ d <= t.n then
  if h : (t.n - d).toNat < bys.length then .inl ((bys[bys.length - 1 - (t.n - d).toNat]'(by omega)).lift d 0 0) else .inr (IntKind.i64.wrap (t.n - bys.length), t.ls)
 else .inr (t.n, t.ls)
def T.put (t : T) (bys : List T) (d : Int) : T := T.walk (putTurn bys) t d
theorem put_hit {bys : List T} {d : Int} {t : T} (h1 : t.k = 1 /\ d <= t.n) {q : Nat} (hq : q < bys.length) (hn : q + (t.n - d).toNat + 1 = bys.length) : turnOut (putTurn bys) d t = .tuple [Qv (bys[q].lift d 0 0), .bool true] := by
 have : putTurn bys d t = .inl (bys[q].lift d 0 0) := by
  unfold putTurn
  rw [if_pos h1, dif_pos (by omega)]
  congr 2
  congr 1
  omega
 unfold turnOut
 rw [this]
theorem put_over {bys : List T} {d : Int} {t : T} (h1 : t.k = 1 /\ d <= t.n) (hn : bys.length <= (t.n - d).toNat) : turnOut (putTurn bys) d t = .tuple [Qv (.mk t.k (IntKind.i64.wrap (t.n - bys.length)) t.a t.ls t.ks), .bool false] := by
 have : putTurn bys d t = .inr (IntKind.i64.wrap (t.n - bys.length), t.ls) := by
  unfold putTurn
  rw [if_pos h1, dif_neg (by omega)]
 unfold turnOut
 rw [this]
theorem put_low {bys : List T} {d : Int} {t : T} (h1 : ¬ (t.k = 1 /\ d <= t.n)) : turnOut (putTurn bys) d t = .tuple [Qv (.mk t.k t.n t.a t.ls t.ks), .bool false] := by
 have : putTurn bys d t = .inr (t.n, t.ls) := by
  unfold putTurn
  rw [if_neg h1]
 unfold turnOut
 rw [this]
theorem put1T_spec (bys : List T) (hb : bys.length <= Wd) (hbo : ∀ b, b ∈ bys -> okT b /\ b.deep <= DM) (d : Int) (t : T) (hf : Fits d t) (ht : okT t) : Qt Tryz.prog glob 195 ([walkF d 195 [.ref (Ts bys)], Qv t] ++ [.ref (Ts bys)]) [] (fun o _ => o.fgt = .ret (turnOut (putTurn bys) d t)) := by
 obtain ⟨kk, nn, aa, ls, ks⟩ := t
 have hm := means_spec d nn
 have hn := ht.n
 simp only [T.n_mk] at hn
 obtain ⟨hd0, hd1⟩ := hf
 unfold DM at hd1
 unfold Wd at hb
 have how := fun num (h : I64 num) => own_spec (.mk kk num aa ls ks) (ht.num h)
 have hA := @put_hit bys d (.mk kk nn aa ls ks)
 have hB := @put_over bys d (.mk kk nn aa ls ks)
 have hC := @put_low bys d (.mk kk nn aa ls ks)
 simp only [T.k_mk, T.n_mk, T.a_mk, T.ls_mk, T.ks_mk] at hA hB hC
 generalize turnOut (putTurn bys) d (.mk kk nn aa ls ks) = O at hA hB hC ⊢
 have hE : ∀ num, Qv (.mk kk num aa ls ks) = .agg [.int .i64 kk, .int .i64 num, .int .i64 aa, .slice (ls.map Wp) .any, .slice (ks.map Qv) .any] := fun num => Qd _
 simp only [hE] at how hB hC ⊢
 unfold walkF Ts
 unfold I64 at hn
 refine Qt.movd Qe (Qq Wb Tryz.func195 rfl (Qy _ _ Tryz.func195 rfl (by decide)) rfl rfl ?_)
 simp only [List.cons_append, List.nil_append]
 (refine sR fun K hK => ?_; ((repeat (rw [Qa]; simp)); (try simp only [zs])); refine hK _ _ _ ?_; clear hK K)
 (refine sR fun K hK => ?_; ((repeat (rw [Qa]; simp)); (try simp only [zs])))
 refine cXp (hm) ?_
 ((try simp only [Qb, Qc, Ql, Qi, Qk]); (repeat (rw [Qa]; simp)); (try simp only [zs]))
 (refine hK _ _ _ ?_; clear hK K)
 refine Qf fun K1 hK1 => ?_
 refine Xh ?_
 by_cases h1 : kk = 1
 ·by_cases h2 : d <= nn
  ·have hw : IntKind.i64.wrap (nn - d) = nn - d := i64w (by omega) (by omega)
   obtain ⟨j, hj⟩ : ∃ j : Nat, nn - d = j := ⟨(nn - d).toNat, by omega⟩
   subst h1
   have hwj : IntKind.i64.wrap (j : Int) = (j : Int) := i64w (by omega) (by omega)
   (refine sR fun K hK => ?_; ((repeat (rw [Qa]; simp [h2])); (try simp only [zs])); refine hK _ _ _ ?_; clear hK K)
   refine pF rfl ?_
   by_cases h3 : j < bys.length
   ·have h3' : (j : Int) < bys.length := by omega
    obtain ⟨q, hq⟩ : ∃ q : Nat, q = bys.length - 1 - j := ⟨_, rfl⟩
    have hql : q < bys.length := by omega
    have hw2 : IntKind.i64.wrap ((bys.length : Int) - 1) = (bys.length : Int) - 1 := i64w (by omega) (by omega)
    have hw3 : IntKind.i64.wrap ((bys.length : Int) - 1 - (j : Int)) = (q : Int) := by rw [i64w (by omega) (by omega)]; omega
    obtain ⟨b, hbq⟩ : ∃ b, bys[q] = b := ⟨_, rfl⟩
    have hbb := hbo b (by rw [<- hbq]; exact List.getElem_mem hql)
    have hlf := lift_spec b d 0 hbb.2 hbb.1
    rw [Qd b] at hlf
    have hEb := Qd b
    have hO := hA ⟨rfl, h2⟩ hql (by omega)
    rw [hbq] at hO
    rw [hO]
    generalize b.lift d 0 0 = r at hlf ⊢
    (refine sR fun K hK => ?_; ((repeat (rw [Qa]; simp [hw, hwj, hj, h3, h3'])); (try simp only [zs])); refine hK _ _ _ ?_; clear hK K)
    refine pT rfl ?_
    (refine Qf fun K hK => ?_; refine dR fun KT hKT => ?_; ((repeat (rw [Qh]; simp [hw, hwj, hj, hw2, hw3, hql, hbq, hEb])); (try simp only [Qm])))
    refine cYp (hlf) ?_
    ((try simp only [Qn, Qo, Ql, Qi, Qk]); (repeat (rw [Qh]; simp)); (try simp only [Qm]))
    (refine hKT _ _ _ _ (by kernel_rfl) ?_; clear hKT KT; (try simp only [zs]))
    (refine hK _ _ _ ?_; clear hK K)
    (refine Qj ?_; (try simp only [zs]); refine Wc.ret rfl (.inl ?_); simp [Qp, Out.fgt, D.fgt, D.fgts])
    exact (Qd r).symm
   ·have h3' : ¬ (j : Int) < bys.length := by omega
    (refine sR fun K hK => ?_; ((repeat (rw [Qa]; simp [hw, hwj, hj, h3, h3'])); (try simp only [zs])); refine hK _ _ _ ?_; clear hK K)
    refine pF rfl ?_
    (refine Qz Wb ?_; ((repeat (rw [Qa]; simp)); (try simp only [zs])))
    refine hK1 _ _ _ ?_
    have hw4 := how (IntKind.i64.wrap (nn - bys.length)) (i64_wrap _)
    (refine sR fun K hK => ?_; ((repeat (rw [Qa]; simp)); (try simp only [zs])))
    refine cXp (hw4) ?_
    ((try simp only [Qb, Qc, Ql, Qi, Qk]); (repeat (rw [Qa]; simp)); (try simp only [zs]))
    (refine hK _ _ _ ?_; clear hK K)
    (refine Qj ?_; (try simp only [zs]); refine Wc.ret rfl (.inl ?_); simp [Qp, Out.fgt, D.fgt, D.fgts])
    exact (hB ⟨rfl, h2⟩ (by omega)).symm
  ·skip
   subst h1
   (refine sR fun K hK => ?_; ((repeat (rw [Qa]; simp [h2])); (try simp only [zs])); refine hK _ _ _ ?_; clear hK K)
   refine pT rfl ?_
   refine Qs (hK1 _ _ _ ?_)
   have hw4 := how nn hn
   (refine sR fun K hK => ?_; ((repeat (rw [Qa]; simp)); (try simp only [zs])))
   refine cXp (hw4) ?_
   ((try simp only [Qb, Qc, Ql, Qi, Qk]); (repeat (rw [Qa]; simp)); (try simp only [zs]))
   (refine hK _ _ _ ?_; clear hK K)
   (refine Qj ?_; (try simp only [zs]); refine Wc.ret rfl (.inl ?_); simp [Qp, Out.fgt, D.fgt, D.fgts])
   exact (hC (fun h => h2 h.2)).symm
 ·skip
  (refine sR fun K hK => ?_; ((repeat (rw [Qa]; simp [h1])); (try simp only [zs])); refine hK _ _ _ ?_; clear hK K)
  refine pT rfl ?_
  refine Qs (hK1 _ _ _ ?_)
  have hw4 := how nn hn
  (refine sR fun K hK => ?_; ((repeat (rw [Qa]; simp)); (try simp only [zs])))
  refine cXp (hw4) ?_
  ((try simp only [Qb, Qc, Ql, Qi, Qk]); (repeat (rw [Qa]; simp)); (try simp only [zs]))
  (refine hK _ _ _ ?_; clear hK K)
  (refine Qj ?_; (try simp only [zs]); refine Wc.ret rfl (.inl ?_); simp [Qp, Out.fgt, D.fgt, D.fgts])
  exact (hC (fun h => h1 h.1)).symm
theorem putT_spec (t : T) (bys : List T) (hb : bys.length <= Wd) (hbo : ∀ b, b ∈ bys -> okT b /\ b.deep <= DM) (hd : t.deep <= DM) (ht : okT t) : Qt Tryz.prog glob 146 [Qv t, Ts bys] [] (fun o _ => o.fgt = .ret (Qv (t.put bys 0))) := by
 have hw := walkT_spec (putTurn bys) 195 [.ref (Ts bys)] rfl (by simp [D.pures, D.pure, Ts_pure]) (put1T_spec bys hb hbo) t 0 ⟨by omega, by omega⟩ ht
 unfold walkF at hw
 rw [show T.walk (putTurn bys) t 0 = t.put bys 0 from rfl] at hw
 generalize t.put bys 0 = r at hw ⊢
 rw [Qd t] at hw
 unfold Ts at hw ⊢
 refine Qt.movd Qe (Qq Wb Tryz.func146 rfl (Qy _ _ Tryz.func146 rfl (by decide)) rfl rfl ?_)
 (refine sR fun K hK => ?_; ((repeat (rw [Qa]; simp)); (try simp only [zs])); refine hK _ _ _ ?_; clear hK K)
 (refine wpD_stay (T := Wa) 1 (ty := 25) (ds := [.slice (bys.map Qv) .any]) rfl rfl (by first | exact ⟨rfl, .inr ⟨_, rfl, rfl⟩⟩ | exact ⟨rfl, .inl rfl⟩) ?_; simp [D.frzs, D.frz, HO.frz, dfFrz, refOf, TK.isAgg, FK.isB, FK.isM, FK.isO, D.isLen])
 (refine sR fun K hK => ?_; ((repeat (rw [Qa]; simp)); (try simp only [zs])))
 refine cXp (hw) ?_
 ((try simp only [Qb, Qc, Ql, Qi, Qk]); (repeat (rw [Qa]; simp)); (try simp only [zs]))
 (refine hK _ _ _ ?_; clear hK K)
 (refine Qj ?_; (try simp only [zs]); refine Wc.ret rfl (.inl ?_); simp [Qp, Out.fgt, D.fgt, D.fgts])
 exact (Qd r).symm
mutual
def T.sz : T -> Int
 | .mk _ _ _ _ ks => T.szs ks 1
def T.szs : List T -> Int -> Int
 | [], n => n
 | t :: r, n => T.szs r (IntKind.i64.wrap (n + T.sz t))
end
theorem T.szs_snoc : ∀ (ks : List T) (n : Int) (j : Nat) (h : j < ks.length), T.szs (ks.take (j + 1)) n = IntKind.i64.wrap (T.szs (ks.take j) n + T.sz ks[j])
 | [], n, j, h => by simp at h
 | t :: r, n, 0, h => by simp [T.szs]
 | t :: r, n, j + 1, h => by
  have h' : j < r.length := by simpa using h
  simp only [List.take_succ_cons, T.szs, List.getElem_cons_succ]
  rw [T.szs_snoc r _ j h']
def szT (ks : List T) (j : Nat) : Int := T.szs (ks.take j) 1
theorem szT_succ {ks : List T} {j : Nat} (h : j < ks.length) : szT ks (j + 1) = IntKind.i64.wrap (szT ks j + T.sz ks[j]) := T.szs_snoc ks 1 j h
theorem szT_end {ks : List T} {j : Nat} (h : ks.length <= j) : szT ks j = T.szs ks 1 := by unfold szT; rw [List.take_of_length_le h]
theorem size_spec (t : T) : okT t -> Qt Tryz.prog glob 186 [Qv t] [] (fun o _ => o.fgt = .ret (.int .i64 t.sz)) := by
 induction t using T.ind with
 | h kk nn aa ls ks ih =>
  intro ht
  have hkl : ks.length <= Wd := ht.kl
  have hks : ∀ x, x ∈ ks -> okT x := ht.ks
  rw [show (T.mk kk nn aa ls ks).sz = T.szs ks 1 by rw [T.sz]]
  rw [Qd]
  simp only [T.k_mk, T.n_mk, T.a_mk, T.ls_mk, T.ks_mk]
  refine Qt.movd Qe (Qq Wb Tryz.func186 rfl (Qy _ _ Tryz.func186 rfl (by decide)) rfl rfl ?_)
  (refine sR fun K hK => ?_; ((repeat (rw [Qa]; simp)); (try simp only [zs])); refine hK _ _ _ ?_; clear hK K)
  (refine sR fun K hK => ?_; ((repeat (rw [Qa]; simp)); (try simp only [zs])); refine hK _ _ _ ?_; clear hK K)
  refine Qf fun K1 hK1 => ?_
  (refine sR fun K hK => ?_; ((repeat (rw [Qa]; simp)); (try simp only [zs])); refine hK _ _ _ ?_; clear hK K)
  refine wpD_rangeJ Wb Qe (ti := 3) (tk := 9) (tn := 8) (td := 10) (ts := 17) [5, 9, 10, 11, 12, 13, 14, 15, 16, 17] [3] (ks.length) (fun k ys hl => ys = [.int .i64 (szT ks k)] /\ hl = [.cells 27 [.int .i64 kk, .int .i64 nn, .int .i64 aa, .slice (ls.map Wp) .any, .slice (ks.map Qv) .any]]) rfl rfl rfl rfl rfl rfl rfl rfl rfl rfl rfl rfl (by simp) (by decide) rfl (by first | assumption | omega | (unfold Wd; omega)) rfl (by kernel_rfl) (by decide) ?_ ?_ ?_
  ·exact ⟨rfl, rfl⟩
  ·rintro i ys hl A hi ⟨rfl, rfl⟩ hA hA2
   simp only [Qr, List.set, List.map_cons, List.map_nil, List.cons_append, List.nil_append]
   have hi' : (i : Int) < ks.length := by omega
   have hsn := szT_succ hi
   have hrec := ih ks[i] (List.getElem_mem hi) (hks _ (List.getElem_mem hi))
   obtain ⟨y, hy⟩ : ∃ y, ks[i] = y := ⟨_, rfl⟩
   have hEy := Qd y
   rw [hy] at hrec hsn
   rw [hEy] at hrec
   generalize szT ks i = s at hsn ⊢
   (refine sR fun K hK => ?_; ((repeat (rw [Qa]; simp [hi, hi', hy, hEy])); (try simp only [zs])); refine hK _ _ _ ?_; clear hK K)
   (refine Qz Wb ?_; ((repeat (rw [Qa]; simp)); (try simp only [zs])))
   refine cXp (hrec) ?_
   ((try simp only [Qb, Qc, Ql, Qi, Qk]); (repeat (rw [Qa]; simp)); (try simp only [zs]))
   (refine hA2 ([0]) _ _ _ (LeT.refl _) (by decide) (by simp) (by simp [Wk, Wl, Wr, D.mov, HO.mov, okM, Wn, Wg, zz, okA, Qx, Qu, hOf, Qg, Qr]) ?_ rfl; simp [Wk, Wl, Wr, D.mov, HO.mov, okM, Wn, Wg, zz, okA, Qx, Qu, hOf, Qg])
   rw [hsn]
  ·rintro ys hl tl' ⟨rfl, rfl⟩ htl
   refine hK1 _ _ _ (wpD_weakL htl ?_)
   simp only [Qr, List.set, List.map_cons, List.map_nil, List.cons_append, List.nil_append]
   rw [szT_end (Nat.le_refl _)]
   (refine sR fun K hK => ?_; ((repeat (rw [Qa]; simp)); (try simp only [zs])); refine hK _ _ _ ?_; clear hK K)
   (refine Qj ?_; (try simp only [zs]); refine Wc.ret rfl (.inl ?_); simp [Qp, Out.fgt, D.fgt, D.fgts])
def hitB (fr to k n d : Int) : Bool := decide (k = 1) && decide (d <= n) && decide (fr <= IntKind.i64.wrap (n - d)) && decide (IntKind.i64.wrap (n - d) < to)
mutual
def T.freeB (fr to : Int) : T -> Int -> Bool
 | .mk k n _ _ ks, d => hitB fr to k n d || T.freesB fr to k ks 0 d
def T.freesB (fr to k : Int) : List T -> Nat -> Int -> Bool
 | [], _, _ => false
 | t :: r, i, d => T.freeB fr to t (Xu d k i) || T.freesB fr to k r (i + 1) d
end
abbrev MP := List (Int × Int)
def encE (p : Int × Int) : D × D := (.int .i64 p.1, .int .i64 p.2)
def encM (m : MP) : List (D × D) := m.map encE
def findM (m : MP) (v : Int) : Option Int := (m.find? fun p => decide (v = p.1)).map (·.2)
def updM (v x : Int) : MP -> MP
 | [] => []
 | p :: r => if v = p.1 then (p.1, x) :: r else p :: updM v x r
def putM (m : MP) (p : Int × Int) : MP := match findM m p.1 with
 | some k => updM p.1 (max k p.2) m
 | none => m ++ [(p.1, max 0 p.2)]
def badP (p : Int × Int) : Bool := decide (p.1 < 0) || decide (p.2 < 0) || decide (1048576 < p.1) || decide (1048576 < p.2)
structure MOK (m : MP) : Prop where
 nd : (m.map (·.1)).Nodup
 v : ∀ p, p ∈ m -> 0 <= p.1 /\ p.1 <= 1048576
 n : ∀ p, p ∈ m -> 0 <= p.2 /\ p.2 <= 1048576
theorem nodup_bound : ∀ (k : Nat) (l : List Int), l.Nodup -> (∀ x, x ∈ l -> 0 <= x /\ x < k) -> l.length <= k
 | 0, l, _, h => by
  cases l with
  | nil => simp
  | cons x r => have := h x (List.mem_cons_self ..); omega
 | k + 1, l, hn, h => by
  by_cases hk : (k : Int) ∈ l
  ·have h1 := nodup_bound k (l.erase (k : Int)) (hn.erase _) (fun x hx => by
    rw [hn.mem_erase_iff] at hx
    have := h x hx.2
    have := hx.1
    omega)
   rw [List.length_erase_of_mem hk] at h1
   have := List.length_pos_of_mem hk
   omega
  ·have h1 := nodup_bound k l hn (fun x hx => by
    have := h x hx
    have : x ≠ (k : Int) := fun e => hk (e ▸ hx)
    omega)
   omega
theorem MOK.len {m : MP} (h : MOK m) : m.length <= 1048577 := by
 have := nodup_bound 1048577 (m.map (·.1)) h.nd (fun x hx => by
  obtain ⟨p, hp, rfl⟩ := List.mem_map.1 hx
  have := h.v p hp
  omega)
 simpa using this
theorem findM_none {v : Int} : ∀ {m : MP}, findM m v = none -> ¬ v ∈ m.map (·.1)
 | [], _ => by simp
 | p :: r, h => by
  unfold findM at h
  rw [List.find?_cons] at h
  by_cases hv : v = p.1
  ·simp [hv] at h
  ·have h' : findM r v = none := by unfold findM; simpa [hv] using h
   rw [List.map_cons, List.mem_cons]
   exact fun h => h.elim hv (findM_none h')
theorem findM_some {v x : Int} : ∀ {m : MP}, findM m v = some x -> (v, x) ∈ m
 | [], h => by cases h
 | p :: r, h => by
  unfold findM at h
  rw [List.find?_cons] at h
  by_cases hv : v = p.1
  ·simp [hv] at h
   subst hv; subst h; exact List.mem_cons_self ..
  ·have h' : findM r v = some x := by unfold findM; simpa [hv] using h
   exact List.mem_cons_of_mem _ (findM_some h')
theorem updM_keys (v x : Int) : ∀ m : MP, (updM v x m).map (·.1) = m.map (·.1)
 | [] => rfl
 | p :: r => by
  rw [updM]
  split
  ·rfl
  ·rw [List.map_cons, updM_keys v x r]; rfl
theorem updM_mem {v x : Int} {p : Int × Int} : ∀ {m : MP}, p ∈ updM v x m -> p ∈ m \/ p = (v, x)
 | [], h => .inl h
 | q :: r, h => by
  rw [updM] at h
  split at h
  ·rename_i hv
   rcases List.mem_cons.1 h with h | h
   ·right; rw [h, hv]
   ·left; exact List.mem_cons_of_mem _ h
  ·rcases List.mem_cons.1 h with h | h
   ·left; rw [h]; exact List.mem_cons_self ..
   ·rcases updM_mem h with h | h
    ·left; exact List.mem_cons_of_mem _ h
    ·right; exact h
theorem putM_ok {m : MP} {p : Int × Int} (h : MOK m) (hp : badP p = false) : MOK (putM m p) := by
 simp only [badP, Bool.or_eq_false_iff, decide_eq_false_iff_not] at hp
 obtain ⟨⟨⟨h1, h2⟩, h3⟩, h4⟩ := hp
 unfold putM
 cases hf : findM m p.1 with
 | some k =>
  have hk := h.n _ (findM_some hf)
  dsimp only at hk ⊢
  refine ⟨by rw [updM_keys]; exact h.nd, fun q hq => ?_, fun q hq => ?_⟩
  ·rcases updM_mem hq with hq | rfl
   ·exact h.v q hq
   ·dsimp only; omega
  ·rcases updM_mem hq with hq | rfl
   ·exact h.n q hq
   ·dsimp only; omega
 | none =>
  refine ⟨?_, fun q hq => ?_, fun q hq => ?_⟩
  ·rw [List.map_append]
   refine List.nodup_append.2 ⟨h.nd, by simp, fun a ha b hb => ?_⟩
   simp only [List.map_cons, List.map_nil, List.mem_singleton] at hb
   subst hb
   exact fun e => findM_none hf (e ▸ ha)
  ·rcases List.mem_append.1 hq with hq | hq
   ·exact h.v q hq
   ·rw [List.mem_singleton.1 hq]; dsimp only; omega
  ·rcases List.mem_append.1 hq with hq | hq
   ·exact h.n q hq
   ·rw [List.mem_singleton.1 hq]; dsimp only; omega
theorem MOK.nil : MOK [] := ⟨by simp, (fun p h => by cases h), (fun p h => by cases h)⟩
theorem foldM_ok : ∀ {l : List (Int × Int)} {m : MP}, MOK m -> (∀ p, p ∈ l -> badP p = false) -> MOK (l.foldl putM m)
 | [], m, h, _ => h
 | p :: r, m, h, hb => foldM_ok (l := r) (m := putM m p) (putM_ok h (hb p (List.mem_cons_self ..))) (fun q hq => hb q (List.mem_cons_of_mem _ hq))
def Xj (l : List (Int × Int)) : Bool := l.any badP
theorem encM_all (m : MP) : ((encM m).all fun p => isIntK .i64 p.1) = true := by simp [encM, encE, isIntK]
theorem encM_find (v : Int) : ∀ m : MP, findD (.int .i64 v) (encM m) = (findM m v).map (.int .i64)
 | [] => rfl
 | p :: r => by
  unfold encM findM
  rw [List.map_cons, findD, List.find?_cons]
  by_cases h : v = p.1
  ·simp [keyEq, encE, h]
  ·have := encM_find v r
   unfold encM findM at this
   simp [keyEq, encE, h, this]
theorem encM_upd (v x : Int) : ∀ m : MP, updE (.int .i64 v) (.int .i64 x) (encM m) = encM (updM v x m)
 | [] => rfl
 | p :: r => by
  unfold encM
  rw [List.map_cons, updE, updM]
  by_cases h : v = p.1
  ·simp [keyEq, encE, h]
  ·have := encM_upd v x r
   unfold encM at this
   simp [keyEq, encE, h, this]
theorem encM_push (m : MP) (v x : Int) : encM m ++ [((.int .i64 v : D), (.int .i64 x : D))] = encM (m ++ [(v, x)]) := by simp [encM, encE]
theorem encM_length (m : MP) : (encM m).length = m.length := by simp [encM]
@[simp high] theorem encM_okN1 (p : Nat -> Bool) (m : MP) : D.okNs p ((encM m).map (·.1)) = true := by
 induction m with
 | nil => rfl
 | cons x r ih => simp only [encM, List.map_cons, D.okNs, encE, D.okN] at ih ⊢; simpa using ih
@[simp high] theorem encM_okN2 (p : Nat -> Bool) (m : MP) : D.okNs p ((encM m).map (·.2)) = true := by
 induction m with
 | nil => rfl
 | cons x r ih => simp only [encM, List.map_cons, D.okNs, encE, D.okN] at ih ⊢; simpa using ih
@[simp high] theorem encM_ren (σ : Nat -> Nat) (m : MP) : (encM m).map (fun e => (D.ren σ e.1, D.ren σ e.2)) = encM m := by
 induction m with
 | nil => rfl
 | cons x r ih => simp only [encM, List.map_cons, encE, D.ren] at ih ⊢; rw [ih]
def noneD : D := .iface 228 (.agg [])
theorem rowPut_spec (l : List (Int × Int)) (m : MP) (hl : l.length <= Wd) (hm : MOK m) : Qt Tryz.prog glob 182 [.agg [.map 0], Ps l] [.mp (encM m)]
  (fun o hc => if Xj l then o = .pan noneD /\ ∃ m', hc = [.mp (encM m')] else o.fgt = .ret (.tuple []) /\ hc = [.mp (encM (l.foldl putM m))]) := by
 refine Qt.movd Qe (Qq Wb Tryz.func182 rfl (Qy _ _ Tryz.func182 rfl (by decide)) rfl rfl ?_)
 unfold Ps
 (refine sR fun K hK => ?_; ((repeat (rw [Qa]; simp)); (try simp only [zs])); refine hK _ _ _ ?_; clear hK K)
 (refine sR fun K hK => ?_; ((repeat (rw [Qa]; simp)); (try simp only [zs])); refine hK _ _ _ ?_; clear hK K)
 refine wpD_range Wb Qe (ti := 3) (tk := 8) (tn := 7) (td := 9) (ts := 44) [5, 8, 9, 10, 11, 12, 13, 14, 15, 16, 17, 18, 19, 20, 21, 22, 23, 24, 25, 26, 27, 28, 29, 30, 31, 32, 33, 34, 35, 36, 37, 38, 39, 40, 41, 42, 43, 44] (l.length) (fun k ys hl => ∃ (m' : MP) (x5 x8 x9 x10 x11 x12 x13 x14 x15 x16 x17 x18 x19 x20 x21 x22 x23 x24 x25 x26 x27 x28 x29 x30 x31 x32 x33 x34 x35 x36 x37 x38 x39 x40 x41 x42 x43 x44 : D), ys = [x5, x8, x9, x10, x11, x12, x13, x14, x15, x16, x17, x18, x19, x20, x21, x22, x23, x24, x25, x26, x27, x28, x29, x30, x31, x32, x33, x34, x35, x36, x37, x38, x39, x40, x41, x42, x43, x44] /\ Xj l = Xj (l.drop k) /\ (l.drop k).foldl putM m' = l.foldl putM m /\ MOK m' /\ hl = [.mp (encM m'), .cells 204 [.map 0]]) rfl rfl rfl rfl rfl rfl rfl rfl rfl rfl rfl rfl (by simp) (by decide) rfl (by first | assumption | omega | (unfold Wd; omega)) rfl (by kernel_rfl) (by decide) ?_ ?_ ?_
 ·exact ⟨m, _, _, _, _, _, _, _, _, _, _, _, _, _, _, _, _, _, _, _, _, _, _, _, _, _, _, _, _, _, _, _, _, _, _, _, _, _, _, rfl, rfl, rfl, hm, rfl⟩
 ·rintro k ys hl A hk ⟨m', x5, x8, x9, x10, x11, x12, x13, x14, x15, x16, x17, x18, x19, x20, x21, x22, x23, x24, x25, x26, x27, x28, x29, x30, x31, x32, x33, x34, x35, x36, x37, x38, x39, x40, x41, x42, x43, x44, rfl, hb, hf, hml, rfl⟩ hA hA2
  simp only [Qr, List.set]
  (refine sR fun K hK => ?_; ((repeat (rw [Qa]; simp [hk, Xq])); (try simp only [zs])); refine hK _ _ _ ?_; clear hK K)
  refine Qf fun K1 hK1 => ?_
  have hd : l.drop k = l[k] :: l.drop (k + 1) := List.drop_eq_getElem_cons hk
  cases hbad : badP l[k] with
  | true =>
   have hall : Xj l = true := by rw [hb, hd, Xj, List.any_cons, hbad]; rfl
   rw [hall]
   simp only [if_true]
   have fin : True := trivial
   by_cases h1 : l[k].1 < 0
   ·(refine sR fun K hK => ?_; ((repeat (rw [Qa]; simp [h1])); (try simp only [zs])); refine hK _ _ _ ?_; clear hK K)
    refine pT rfl ?_
    (refine Qz Wb ?_; ((repeat (rw [Qa]; simp)); (try simp only [zs])))
    ((try simp only [zs]); refine Wc.pan (.inr ⟨[], by decide, by simp, ?_⟩); simp [Out.mov, Wk, Wl, Wr, D.mov, HO.mov, okM, Wn, Wg, zz, okA, Qx, Qu, hOf, Qg, Qp, Out.fgt, D.fgt, D.fgts])
    exact ⟨rfl, m', rfl⟩
   ·by_cases h2 : l[k].2 < 0
    ·(refine sR fun K hK => ?_; ((repeat (rw [Qa]; simp [h1, h2])); (try simp only [zs])); refine hK _ _ _ ?_; clear hK K)
     refine pT rfl ?_
     (refine Qz Wb ?_; ((repeat (rw [Qa]; simp)); (try simp only [zs])))
     ((try simp only [zs]); refine Wc.pan (.inr ⟨[], by decide, by simp, ?_⟩); simp [Out.mov, Wk, Wl, Wr, D.mov, HO.mov, okM, Wn, Wg, zz, okA, Qx, Qu, hOf, Qg, Qp, Out.fgt, D.fgt, D.fgts])
     exact ⟨rfl, m', rfl⟩
    ·by_cases h3 : 1048576 < l[k].1
     ·(refine sR fun K hK => ?_; ((repeat (rw [Qa]; simp [h1, h2, h3])); (try simp only [zs])); refine hK _ _ _ ?_; clear hK K)
      refine pT rfl ?_
      (refine Qz Wb ?_; ((repeat (rw [Qa]; simp)); (try simp only [zs])))
      ((try simp only [zs]); refine Wc.pan (.inr ⟨[], by decide, by simp, ?_⟩); simp [Out.mov, Wk, Wl, Wr, D.mov, HO.mov, okM, Wn, Wg, zz, okA, Qx, Qu, hOf, Qg, Qp, Out.fgt, D.fgt, D.fgts])
      exact ⟨rfl, m', rfl⟩
     ·have h4 : 1048576 < l[k].2 := by simpa [badP, h1, h2, h3] using hbad
      (refine sR fun K hK => ?_; ((repeat (rw [Qa]; simp [h1, h2, h3, h4])); (try simp only [zs])); refine hK _ _ _ ?_; clear hK K)
      refine pT rfl ?_
      (refine Qz Wb ?_; ((repeat (rw [Qa]; simp)); (try simp only [zs])))
      ((try simp only [zs]); refine Wc.pan (.inr ⟨[], by decide, by simp, ?_⟩); simp [Out.mov, Wk, Wl, Wr, D.mov, HO.mov, okM, Wn, Wg, zz, okA, Qx, Qu, hOf, Qg, Qp, Out.fgt, D.fgt, D.fgts])
      exact ⟨rfl, m', rfl⟩
  | false =>
   have hbad' := hbad
   simp only [badP, Bool.or_eq_false_iff, decide_eq_false_iff_not] at hbad'
   obtain ⟨⟨⟨h1, h2⟩, h3⟩, h4⟩ := hbad'
   (refine sR fun K hK => ?_; ((repeat (rw [Qa]; simp [h1, h2, h3, h4])); (try simp only [zs])); refine hK _ _ _ ?_; clear hK K)
   refine pF rfl ?_
   refine Qs (hK1 _ _ _ ?_)
   clear hK1 K1
   have e1 := encM_all m'
   have e2 := encM_find l[k].1 m'
   have hlt : m'.length < Wd := by have := hml.len; unfold Wd; omega
   cases hf0 : findM m' l[k].1 with
   | none =>
    (refine Qz Wb ?_; ((repeat (rw [Qa]; simp [e1, e2, hf0, encM_length, hlt])); (try simp only [zs])))
    rw [encM_push]
    (refine hA2 ([1]) _ _ (by decide) (by simp) (by simp [Wk, Wl, Wr, D.mov, HO.mov, okM, Wn, Wg, zz, okA, Qx, Qu, hOf, Qg, Qr]) ?_ rfl; simp [Wk, Wl, Wr, D.mov, HO.mov, okM, Wn, Wg, zz, okA, Qx, Qu, hOf, Qg])
    have hp : putM m' l[k] = m' ++ [(l[k].1, max 0 l[k].2)] := by unfold putM; rw [hf0]
    refine ⟨by rw [hb, hd, Xj, List.any_cons, hbad]; rfl, _, ?_, ?_, by rw [<- hp]⟩
    ·rw [<- hf, hd, List.foldl_cons]
    ·exact putM_ok hml hbad
   | some x =>
    (refine Qz Wb ?_; ((repeat (rw [Qa]; simp [e1, e2, hf0, encM_length, hlt])); (try simp only [zs])))
    rw [encM_upd]
    (refine hA2 ([1]) _ _ (by decide) (by simp) (by simp [Wk, Wl, Wr, D.mov, HO.mov, okM, Wn, Wg, zz, okA, Qx, Qu, hOf, Qg, Qr]) ?_ rfl; simp [Wk, Wl, Wr, D.mov, HO.mov, okM, Wn, Wg, zz, okA, Qx, Qu, hOf, Qg])
    have hp : putM m' l[k] = updM l[k].1 (max x l[k].2) m' := by unfold putM; rw [hf0]
    refine ⟨by rw [hb, hd, Xj, List.any_cons, hbad]; rfl, _, ?_, ?_, by rw [<- hp]⟩
    ·rw [<- hf, hd, List.foldl_cons]
    ·exact putM_ok hml hbad
 ·rintro ys hl ⟨m', x5, x8, x9, x10, x11, x12, x13, x14, x15, x16, x17, x18, x19, x20, x21, x22, x23, x24, x25, x26, x27, x28, x29, x30, x31, x32, x33, x34, x35, x36, x37, x38, x39, x40, x41, x42, x43, x44, rfl, hb, hf, hml, rfl⟩
  simp only [Qr, List.set]
  have hall : Xj l = false := by rw [hb, List.drop_length]; rfl
  rw [List.drop_length, List.foldl_nil] at hf
  rw [hall, hf]
  ((try simp only [zs]); refine Wc.nrm rfl (.inr ⟨[], by decide, by simp, ?_⟩); simp [Out.mov, Wk, Wl, Wr, D.mov, HO.mov, okM, Wn, Wg, zz, okA, Qx, Qu, hOf, Qg, Qp, Out.fgt, D.fgt, D.fgts])
end Go.Proofs.YtgloldepdhgfaaaGreatDoor
namespace Go.Proofs.YtgloldepdhgfaaaGreatDoor
set_option linter.unusedSimpArgs false
set_option linter.unusedVariables false
open Go.RowKit Go.Maps Go.MapKept
open Go.ChangeMaps (setBlock)
section
variable {P : Program} (w : World) {ops : Array Oper} {rest : List Oper} {o : Oper} {a : Act} {Q : Exit -> Act -> World -> Prop}
theorem wpList_range_m (hg : o.guard = none) (m : Operand) (t : TypeId) (hop : o.op = Op.range t m) (k e : TypeId) (ht : P.underlying t = some (.map k e)) {b clock : Nat} {es : Array MapEntry} (hm : a.eval m = .map (some b)) (hb : w.heap[b]? = some (.map es clock))
  (hK : wpList P ops Q rest (a.put o.dst (.pointer (some ⟨w.heap.size, 0, none⟩))) (w.alloc (.mapIter (some b) clock #[] clock))) :
  wpList P ops Q (o :: rest) a w := by
 refine wpList_plain hg fun K' hK' => ?_
 unfold Oper.wp
 have hrun : (Instr.range t (.map (some b))).run P w = .ok (.pointer (some ⟨w.heap.size, 0, none⟩)) (w.alloc (.mapIter (some b) clock #[] clock)) := by
  simp [Instr.range, run_underlying ht, getObj, Sem.run, hb, newObj]
 simp [execOp, hop, hm, hrun, Result.andThen]
 exact hK' _ _ hK
theorem wpList_next_m (hg : o.guard = none) (it : Operand) (hop : o.op = Op.next it false) {b r clock : Nat} {es : Array MapEntry} {seen : Array Nat} (hit : a.eval it = .pointer (some ⟨r, 0, none⟩)) (hb : w.heap[b]? = some (.map es clock)) (hr : w.heap[r]? = some (.mapIter (some b) clock seen clock)) (hst : Stamped es clock)
  (hDone : (leftOf es seen).size = 0 -> wpList P ops Q rest (a.put o.dst (.tuple #[.bool false])) w)
  (hMore : ∀ (e : MapEntry) (w1 : World), e ∈ (leftOf es seen).toList -> (w1 = w \/ w1 = w.drew) -> wpList P ops Q rest (a.put o.dst (.tuple #[.bool true, e.key, e.val])) (setBlock w1 r (.mapIter (some b) clock (seen.push e.born) clock))) :
  wpList P ops Q (o :: rest) a w := by
 refine wpList_plain hg fun K' hK' => ?_
 unfold Oper.wp
 rcases run_next_at (P := P) w o.type r b clock clock seen es clock hr hb hst.1 (Nat.le_refl _) with ⟨h0, hrun⟩ | ⟨e, he, w1, hw1, hrun⟩
 ·simp [execOp, hop, hit, hrun, Result.andThen]
  exact hK' _ _ (hDone h0)
 ·simp [execOp, hop, hit, hrun, Result.andThen]
  exact hK' _ _ (hMore e w1 he hw1)
end
def hitV (n : Int) (e : MapEntry) : Bool := match e.key, e.val with
 | .int _ x, .int _ c => decide (0 < x) && decide (n <= c)
 | _, _ => false
theorem setBlock_far {w : World} {r k : Nat} {o : Obj} (h : k ≠ r) : (setBlock w r o).heap[k]? = w.heap[k]? := by simp [setBlock, Array.getElem?_setIfInBounds_ne (Ne.symm h)]
theorem setBlock_at {w : World} {r : Nat} {o : Obj} (h : r < w.heap.size) : (setBlock w r o).heap[r]? = some o := by simp [setBlock, h]
theorem left_push {es : Array MapEntry} {seen : Array Nat} {e : MapEntry} (hn : (es.toList.map (·.born)).Nodup) (he : e ∈ (leftOf es seen).toList) : (leftOf es (seen.push e.born)).size < (leftOf es seen).size := by
 unfold leftOf at he ⊢
 show (Array.filter _ es).toList.length < (Array.filter _ es).toList.length
 rw [Array.toList_filter, Array.toList_filter]
 rw [Array.toList_filter] at he
 have h1 : (es.toList.filter fun x => !(seen.push e.born).contains x.born) = (es.toList.filter fun x => !seen.contains x.born).filter fun x => !(x.born == e.born) := by
  rw [List.filter_filter]
  refine List.filter_congr fun x _ => ?_
  rw [show (x.born == e.born) = decide (x.born = e.born) from rfl]
  simp [Array.contains_push, Bool.and_comm]
 rw [h1]
 refine List.length_filter_lt_length_iff_exists.2 ⟨e, he, by simp⟩
set_option maxRecDepth 100000 in
theorem hidden_calls (b clock : Nat) (ents : Array MapEntry) (n : Int) (w : World) (hb : w.heap[b]? = some (.map ents clock)) (hst : Stamped ents clock) (hsh : ∀ e ∈ ents.toList, ∃ x c, e.key = .int .i64 x /\ e.val = .int .i64 c) :
  Calls Tryz.prog 224 #[.agg #[.map (some b)], .int .i64 n] w fun e w' => e = .returned (.bool (ents.toList.any (hitV n))) /\ Below w.heap.size w w' := by
 have hbl : b < w.heap.size := (Array.getElem?_eq_some_iff.1 hb).1
 go_enter Tryz.func224, Tryz.ntmps224
 go_wp2_with (first
  | (at_range; refine wpList_range_m _ rfl _ 202 rfl 3 3 Tryz.underlying202 rfl ((Below.heap_alloc _ _ b hbl).trans hb) ?_)
  | go_in)
 go_frame
 simp only [World.size_alloc]
 go_loopw [5] (fun _ wr => ∃ seen, wr.heap[b]? = some (.map ents clock) /\ wr.heap[w.heap.size + 1]? = some (.mapIter (some b) clock seen clock) /\ (∀ e ∈ ents.toList, seen.contains e.born = true -> hitV n e = false) /\ Below w.heap.size w wr)
  (fun _ wr => wr.rangeLeft b (w.heap.size + 1))
 case atStart =>
  refine ⟨#[], ?_, ?_, fun e _ h => by simp at h, ((Below.refl _ w).alloc (Nat.le_refl _) _).alloc (by simp) _⟩
  ·exact (Below.heap_alloc _ _ b (by simp; omega)).trans ((Below.heap_alloc _ _ b hbl).trans hb)
  ·have := heap_new (w.alloc (.cells #[.map (some b)] 206)) (.mapIter (some b) clock #[] clock)
   simpa using this
 case round =>
  obtain ⟨seen, hbr, hrr, hseen, hbel⟩ := hrel
  have hleft : wr.rangeLeft b (w.heap.size + 1) = (leftOf ents seen).size := by simp [World.rangeLeft, hbr, hrr]
  go_wp2_with (first
   | (at_next; refine wpList_next_m _ rfl _ rfl rfl hbr hrr hst ?_ ?_)
   | go_in)
  ·intro h0
   have hall : (ents.toList.any (hitV n)) = false := by
    rw [List.any_eq_false]
    intro e he
    have : seen.contains e.born = true := by
     cases hc : seen.contains e.born with
     | true => rfl
     | false =>
      exfalso
      have hm : e ∈ (leftOf ents seen).toList := by unfold leftOf; rw [Array.toList_filter]; exact List.mem_filter.2 ⟨he, by rw [hc]; rfl⟩
      have hz : (leftOf ents seen).toList = [] := by rw [h0]
      rw [hz] at hm; cases hm
    rw [hseen e he this]; simp
   go_wp2
   go_ret
   exact ⟨by rw [hall]; rfl, hbel⟩
  ·intro e w1 he0 hw1
   have he : e ∈ (leftOf ents seen).toList := by simpa using he0
   have hem : e ∈ ents.toList := by unfold leftOf at he; rw [Array.toList_filter] at he; exact (List.mem_filter.1 he).1
   obtain ⟨x, c, hx, hc⟩ := hsh e hem
   have hh : w1.heap = wr.heap := by rcases hw1 with rfl | rfl <;> rfl
   have hrl : w.heap.size + 1 < w1.heap.size := by rw [hh]; exact (Array.getElem?_eq_some_iff.1 hrr).1
   have hne : b ≠ w.heap.size + 1 := by omega
   have hb2 : (setBlock w1 (w.heap.size + 1) (.mapIter (some b) clock (seen.push e.born) clock)).heap[b]? = some (.map ents clock) := by rw [setBlock_far hne, hh]; exact hbr
   have hr2 : (setBlock w1 (w.heap.size + 1) (.mapIter (some b) clock (seen.push e.born) clock)).heap[w.heap.size + 1]? = some (.mapIter (some b) clock (seen.push e.born) clock) := setBlock_at hrl
   have hlt := left_push hst.2.1 he
   have hbel2 : Below w.heap.size w (setBlock w1 (w.heap.size + 1) (.mapIter (some b) clock (seen.push e.born) clock)) := by
    refine hbel.trans ⟨?_, ?_, ?_, ?_, fun k hk => ?_⟩
    ·rcases hw1 with rfl | rfl <;> rfl
    ·rcases hw1 with rfl | rfl <;> rfl
    ·rcases hw1 with rfl | rfl <;> rfl
    ·simp [setBlock, hh]
    ·rw [setBlock_far (by omega), hh]
   have hen := run_entry_at (P := Tryz.prog) _ _ _ _ seen ents clock e hr2 hb2 hem hst.2.1
   have hseen2 : (∀ e' ∈ ents.toList, (seen.push e.born).contains e'.born = true -> hitV n e' = false) ↔ hitV n e = false := by
    constructor
    ·intro h; exact h e hem (by simp)
    ·intro h e' he' hc'
     simp [Array.contains_push] at hc'
     rcases hc' with hc' | hc'
     ·exact hseen e' he' (by simpa using hc')
     ·have : e' = e := by
       obtain ⟨i, hi⟩ := List.getElem?_of_mem he'
       obtain ⟨j, hj⟩ := List.getElem?_of_mem hem
       have hi' : (ents.toList.map (·.born))[i]? = some e'.born := by rw [List.getElem?_map, hi]; rfl
       have hj' : (ents.toList.map (·.born))[j]? = some e.born := by rw [List.getElem?_map, hj]; rfl
       have hil := (List.getElem?_eq_some_iff.1 hi').1
       have hij : i = j := by
        exact (List.getElem?_inj hil hst.2.1).1 (by rw [hi', hj', hc'])
       subst hij
       rw [hi] at hj; exact Option.some.inj hj
      rw [this]; exact h
   have hhit : hitV n e = (decide (0 < x) && decide (n <= c)) := by simp [hitV, hx, hc]
   generalize setBlock w1 (w.heap.size + 1) (.mapIter (some b) clock (seen.push e.born) clock) = W2 at *
   rw [hx, hc] at hen ⊢
   clear hw1 hh hrl hx hc
   go_wp2
   ·have hall : (ents.toList.any (hitV n)) = true := List.any_eq_true.2 ⟨e, hem, by rw [hhit]; simp [*]⟩
    go_ret
    exact ⟨by rw [hall]; rfl, hbel2⟩
   ·refine ⟨⟨_, hb2, hr2, hseen2.2 (by rw [hhit]; simp; omega), hbel2⟩, ?_⟩
    rw [hleft]
    simpa [World.rangeLeft, hb2, hr2] using hlt
   ·refine ⟨⟨_, hb2, hr2, hseen2.2 (by rw [hhit]; simp; omega), hbel2⟩, ?_⟩
    rw [hleft]
    simpa [World.rangeLeft, hb2, hr2] using hlt
theorem Rel.below {G : Nat -> Option D} {ρ : Rho} {w w' : World} {H : Nat -> HO} (hR : Rel G ρ w H) (hb : Below w.heap.size w w') : Rel G ρ w' H /\ Ex ρ w H ρ w' H :=
 Ex.quiet hR ⟨hb.os, hb.tape, hb.output, hb.size, fun b h hc => ⟨hc, hb.block b h⟩, fun b k h hc => ⟨.inl ⟨k, hc, Nat.le_refl _⟩, fun vs ty fz hh => ⟨vs, (hb.block b h).trans hh, rfl, fun _ _ => rfl⟩⟩, fun _ _ h => h⟩ (fun b h => hb.block b h)
theorem Rp_map {ρ : Rho} {w : World} {i : Nat} {v : Value} : Rp ρ w (.map i) v = ∃ b f, ρ.nm i = some (b, f) /\ v = .map (some b) := by rw [Rp]
theorem Rp_agg {ρ : Rho} {w : World} {ds : List D} {v : Value} : Rp ρ w (.agg ds) v = ∃ us : List Value, v = .agg us.toArray /\ RpL ρ w ds us := by rw [Rp]
theorem Rp_int {ρ : Rho} {w : World} {k : IntKind} {n : Int} {v : Value} : Rp ρ w (.int k n) v = (v = .int k n /\ k.min <= n /\ n <= k.max) := by rw [Rp]
theorem ints_of {ρ : Rho} {w : World} {f : Int × Int -> Int} : ∀ {m : List (Int × Int)} {vs : List Value}, RpL ρ w (m.map fun p => (.int .i64 (f p) : D)) vs -> vs = m.map fun p => .int .i64 (f p)
 | [], vs, h => by rw [List.map_nil, Wq] at h; exact h
 | p :: r, vs, h => by
  rw [List.map_cons, RpL_cons] at h
  obtain ⟨v, us, rfl, h1, h2⟩ := h
  rw [Rp] at h1
  rw [ints_of h2, h1.1]; rfl
theorem obj_map {G : Nat -> Option D} {ρ : Rho} {w : World} {H : Nat -> HO} {i b f : Nat} {m : MP} (hR : Rel G ρ w H) (hi : H i = .mp (encM m)) (hn : ρ.nm i = some (b, f)) :
  ∃ ents clock, w.heap[b]? = some (.map ents clock) /\ ents.toList.map (·.key) = m.map (fun p => .int .i64 p.1) /\ ents.toList.map (·.val) = m.map (fun p => .int .i64 p.2) /\ Stamped ents clock /\ m.length <= Wd := by
 have h := hR.obj i b f hn
 rw [hi] at h
 obtain ⟨-, ents, clock, h1, h2, h3, h4, h5⟩ := h
 refine ⟨ents, clock, h1, ints_of (ρ := ρ) (w := w) (f := (·.1)) ?_, ints_of (ρ := ρ) (w := w) (f := (·.2)) ?_, h4, by simpa [encM] using h5⟩
 ·simpa [encM, encE, List.map_map, Function.comp_def] using h2
 ·simpa [encM, encE, List.map_map, Function.comp_def] using h3
def hiddenM (m : MP) (n : Int) : Bool := m.any fun p => decide (0 < p.1) && decide (n <= p.2)
theorem hit_any {n : Int} : ∀ {m : MP} {l : List MapEntry}, l.map (·.key) = m.map (fun p => .int .i64 p.1) -> l.map (·.val) = m.map (fun p => .int .i64 p.2) -> l.any (hitV n) = hiddenM m n
 | [], l, h, _ => by
  have : l = [] := List.map_eq_nil_iff.1 h
  subst this; rfl
 | p :: m, [], h, _ => by simp at h
 | p :: m, e :: l, h1, h2 => by
  simp only [List.map_cons, List.cons.injEq] at h1 h2
  have ih := hit_any (n := n) h1.2 h2.2
  unfold hiddenM at ih ⊢
  rw [List.any_cons, List.any_cons, ih]
  congr 1
  simp [hitV, h1.1, h2.1]
theorem hidden_spec (m : MP) (n : Int) : Qt Tryz.prog glob 224 [.agg [.map 0], .int .i64 n] [.mp (encM m)] (fun o hc => o.fgt = .ret (.bool (hiddenM m n)) /\ hc = [.mp (encM m)]) := by
 intro ρ w vs hR hvs
 refine ⟨Qy _ _ Tryz.func224 rfl (by decide) _ _, ?_⟩
 rw [RpL_cons] at hvs
 obtain ⟨v1, us, rfl, h1, h2⟩ := hvs
 rw [RpL_cons] at h2
 obtain ⟨v2, us2, rfl, h2, h3⟩ := h2
 rw [Wq] at h3
 subst h3
 rw [Rp_agg] at h1
 rw [Rp_int] at h2
 obtain ⟨l1, rfl, hl1⟩ := h1
 rw [RpL_cons] at hl1
 obtain ⟨v3, us3, rfl, h4, h5⟩ := hl1
 rw [Wq] at h5
 subst h5
 rw [Rp_map] at h4
 obtain ⟨b, f, hnm, rfl⟩ := h4
 obtain ⟨ents, clock, k1, k2, k3, k4, -⟩ := obj_map hR (i := 0) rfl hnm
 have hsh : ∀ e ∈ ents.toList, ∃ x c, e.key = .int .i64 x /\ e.val = .int .i64 c := fun e he => by
  have a1 : e.key ∈ ents.toList.map (·.key) := List.mem_map.2 ⟨e, he, rfl⟩
  have a2 : e.val ∈ ents.toList.map (·.val) := List.mem_map.2 ⟨e, he, rfl⟩
  rw [k2] at a1
  rw [k3] at a2
  obtain ⟨p, -, hp⟩ := List.mem_map.1 a1
  obtain ⟨q, -, hq⟩ := List.mem_map.1 a2
  exact ⟨_, _, hp.symm, hq.symm⟩
 rw [h2.1]
 refine (hidden_calls b clock ents n w k1 k4 hsh).mono ?_
 rintro e w' ⟨rfl, hbel⟩
 obtain ⟨r1, r2⟩ := hR.below hbel
 refine ⟨ρ, .ret (.bool (hiddenM m n)), [.mp (encM m)], ⟨rfl, rfl⟩, ⟨_, rfl, ?_⟩, r1, r2⟩
 rw [Rp, hit_any k2 k3]
end Go.Proofs.YtgloldepdhgfaaaGreatDoor
namespace Go.Proofs.YtgloldepdhgfaaaGreatDoor
set_option linter.unusedSimpArgs false
set_option linter.unusedVariables false
open Go.RowKit Go.Maps Go.Sort Go.Shelf
def keysL_ren : Go.Shelf.Ren := ⟨fun | 7 => 223 | 10 => 234 | n => n, fun | 23 => 202 | 26 => 3 | 3 => 3 | 28 => 243 | 0 => 0 | 27 => 242 | 33 => 245 | 4 => 4 | n => n, fun | n => n⟩
theorem keysL : Go.Proofs.SlLaysZI.n7 Tryz.prog keysL_ren := {
 mixed := by kernel_rfl,
 f7 := ⟨Tryz.f223.name, by decide, Tryz.func223.trans (congrArg some (by kernel_rfl))⟩,
 f10 := ⟨Tryz.f234.name, by decide, Tryz.func234.trans (congrArg some (by kernel_rfl))⟩,
 t0 := Tryz.underlying0,
 a0 := Tryz.isAgg0,
 z0 := Tryz.sizeOf0,
 v0 := Tryz.zeroValue0,
 t4 := Tryz.underlying4,
 a4 := Tryz.isAgg4,
 z4 := Tryz.sizeOf4,
 v4 := Tryz.zeroValue4,
 t23 := Tryz.underlying202,
 a23 := Tryz.isAgg202,
 z23 := Tryz.sizeOf202,
 v23 := Tryz.zeroValue202,
 t26 := Tryz.underlying3,
 a26 := Tryz.isAgg3,
 z26 := Tryz.sizeOf3,
 v26 := Tryz.zeroValue3,
 t27 := Tryz.underlying242,
 a27 := Tryz.isAgg242,
 z27 := Tryz.sizeOf242,
 v27 := Tryz.zeroValue242,
 t28 := Tryz.underlying243,
 a28 := Tryz.isAgg243,
 z28 := Tryz.sizeOf243,
 v28 := Tryz.zeroValue243,
 t33 := Tryz.underlying245,
 a33 := Tryz.isAgg245,
 z33 := Tryz.sizeOf245,
 v33 := Tryz.zeroValue245 }
def sortedL_ren : Go.Shelf.Ren := ⟨fun | 6 => 222 | 8 => 232 | 9 => 233 | 11 => 235 | 13 => 237 | 12 => 236 | 23 => 247 | 24 => 248 | 14 => 238 | 15 => 239 | 16 => 240 | 17 => 241 | 18 => 242 | 19 => 243 | 20 => 244 | 21 => 245 | 22 => 246 | 25 => 249 | 26 => 250 | 27 => 251 | 28 => 252 | 29 => 253 | 30 => 231 | 31 => 254 | n => n, fun | 26 => 3 | 28 => 243 | 24 => 38 | 0 => 0 | 3 => 3 | 37 => 252 | 48 => 262 | 50 => 264 | 4 => 4 | 40 => 255 | 39 => 254 | 45 => 144 | 5 => 5 | 9 => 9 | 51 => 265 | 55 => 269 | 57 => 271 | 58 => 272 | 33 => 245 | n => n, fun | n => n⟩
theorem sortedL : Go.Proofs.SlLaysZI.n6 Tryz.prog sortedL_ren := {
 mixed := by kernel_rfl,
 f6 := ⟨Tryz.f222.name, by decide, Tryz.func222.trans (congrArg some (by kernel_rfl))⟩,
 f8 := ⟨Tryz.f232.name, by decide, Tryz.func232.trans (congrArg some (by kernel_rfl))⟩,
 f11 := ⟨Tryz.f235.name, by decide, Tryz.func235.trans (congrArg some (by kernel_rfl))⟩,
 t0 := Tryz.underlying0,
 a0 := Tryz.isAgg0,
 z0 := Tryz.sizeOf0,
 v0 := Tryz.zeroValue0,
 t24 := Tryz.underlying38,
 a24 := Tryz.isAgg38,
 z24 := Tryz.sizeOf38,
 v24 := Tryz.zeroValue38,
 t26 := Tryz.underlying3,
 a26 := Tryz.isAgg3,
 z26 := Tryz.sizeOf3,
 v26 := Tryz.zeroValue3,
 t28 := Tryz.underlying243,
 a28 := Tryz.isAgg243,
 z28 := Tryz.sizeOf243,
 v28 := Tryz.zeroValue243,
 i26 := by kernel_rfl }
def sortL_ren : Go.Shelf.Ren := ⟨fun | 5 => 233 | 8 => 237 | 7 => 236 | 19 => 247 | 20 => 248 | 10 => 238 | 11 => 239 | 12 => 240 | 13 => 241 | 14 => 242 | 15 => 243 | 16 => 244 | 17 => 245 | 18 => 246 | 30 => 249 | 31 => 250 | 32 => 251 | 33 => 252 | 34 => 253 | 35 => 231 | 40 => 254 | n => n, fun | 23 => 38 | 25 => 3 | 3 => 3 | 32 => 252 | 22 => 38 | 0 => 0 | 44 => 262 | 46 => 264 | 4 => 4 | 36 => 255 | 35 => 254 | 41 => 144 | 5 => 5 | 9 => 9 | 53 => 265 | 57 => 269 | 63 => 271 | 64 => 272 | n => n, fun | n => n⟩
theorem sortL : Go.Proofs.SlLaysM.n5 Tryz.prog sortL_ren := {
 mixed := by kernel_rfl,
 f5 := ⟨Tryz.f233.name, by decide, Tryz.func233.trans (congrArg some (by kernel_rfl))⟩,
 f7 := ⟨Tryz.f236.name, by decide, Tryz.func236.trans (congrArg some (by kernel_rfl))⟩,
 f8 := Tryz.func237.trans (congrArg some (by kernel_rfl)),
 f10 := ⟨Tryz.f238.name, by decide, Tryz.func238.trans (congrArg some (by kernel_rfl))⟩,
 f11 := ⟨Tryz.f239.name, by decide, Tryz.func239.trans (congrArg some (by kernel_rfl))⟩,
 f12 := ⟨Tryz.f240.name, by decide, Tryz.func240.trans (congrArg some (by kernel_rfl))⟩,
 f13 := ⟨Tryz.f241.name, by decide, Tryz.func241.trans (congrArg some (by kernel_rfl))⟩,
 f14 := ⟨Tryz.f242.name, by decide, Tryz.func242.trans (congrArg some (by kernel_rfl))⟩,
 f15 := ⟨Tryz.f243.name, by decide, Tryz.func243.trans (congrArg some (by kernel_rfl))⟩,
 f16 := ⟨Tryz.f244.name, by decide, Tryz.func244.trans (congrArg some (by kernel_rfl))⟩,
 f17 := ⟨Tryz.f245.name, by decide, Tryz.func245.trans (congrArg some (by kernel_rfl))⟩,
 f18 := ⟨Tryz.f246.name, by decide, Tryz.func246.trans (congrArg some (by kernel_rfl))⟩,
 f19 := Tryz.func247.trans (congrArg some (by kernel_rfl)),
 f20 := Tryz.func248.trans (congrArg some (by kernel_rfl)),
 f30 := ⟨Tryz.f249.name, by decide, Tryz.func249.trans (congrArg some (by kernel_rfl))⟩,
 f31 := Tryz.func250.trans (congrArg some (by kernel_rfl)),
 f32 := Tryz.func251.trans (congrArg some (by kernel_rfl)),
 f33 := ⟨Tryz.f252.name, by decide, Tryz.func252.trans (congrArg some (by kernel_rfl))⟩,
 f34 := ⟨Tryz.f253.name, by decide, Tryz.func253.trans (congrArg some (by kernel_rfl))⟩,
 f35 := ⟨Tryz.f231.name, by decide, Tryz.func231.trans (congrArg some (by kernel_rfl))⟩,
 f40 := ⟨Tryz.f254.name, by decide, Tryz.func254.trans (congrArg some (by kernel_rfl))⟩,
 t0 := Tryz.underlying0,
 a0 := Tryz.isAgg0,
 z0 := Tryz.sizeOf0,
 v0 := Tryz.zeroValue0,
 t3 := Tryz.underlying3,
 a3 := Tryz.isAgg3,
 z3 := Tryz.sizeOf3,
 v3 := Tryz.zeroValue3,
 t4 := Tryz.underlying4,
 a4 := Tryz.isAgg4,
 z4 := Tryz.sizeOf4,
 v4 := Tryz.zeroValue4,
 t5 := Tryz.underlying5,
 a5 := Tryz.isAgg5,
 z5 := Tryz.sizeOf5,
 v5 := Tryz.zeroValue5,
 t9 := Tryz.underlying9,
 a9 := Tryz.isAgg9,
 z9 := Tryz.sizeOf9,
 v9 := Tryz.zeroValue9,
 t22 := Tryz.underlying38,
 a22 := Tryz.isAgg38,
 z22 := Tryz.sizeOf38,
 v22 := Tryz.zeroValue38,
 t23 := Tryz.underlying38,
 a23 := Tryz.isAgg38,
 z23 := Tryz.sizeOf38,
 v23 := Tryz.zeroValue38,
 t25 := Tryz.underlying3,
 a25 := Tryz.isAgg3,
 z25 := Tryz.sizeOf3,
 v25 := Tryz.zeroValue3,
 t32 := Tryz.underlying252,
 a32 := Tryz.isAgg252,
 z32 := Tryz.sizeOf252,
 v32 := Tryz.zeroValue252,
 t35 := Tryz.underlying254,
 a35 := Tryz.isAgg254,
 z35 := Tryz.sizeOf254,
 v35 := Tryz.zeroValue254,
 t36 := Tryz.underlying255,
 a36 := Tryz.isAgg255,
 z36 := Tryz.sizeOf255,
 v36 := Tryz.zeroValue255,
 t41 := Tryz.underlying144,
 a41 := Tryz.isAgg144,
 z41 := Tryz.sizeOf144,
 v41 := Tryz.zeroValue144,
 t44 := Tryz.underlying262,
 a44 := Tryz.isAgg262,
 z44 := Tryz.sizeOf262,
 v44 := Tryz.zeroValue262,
 t46 := Tryz.underlying264,
 a46 := Tryz.isAgg264,
 z46 := Tryz.sizeOf264,
 v46 := Tryz.zeroValue264,
 t53 := Tryz.underlying265,
 a53 := Tryz.isAgg265,
 z53 := Tryz.sizeOf265,
 v53 := Tryz.zeroValue265,
 t57 := Tryz.underlying269,
 a57 := Tryz.isAgg269,
 z57 := Tryz.sizeOf269,
 v57 := Tryz.zeroValue269,
 t63 := Tryz.underlying271,
 a63 := Tryz.isAgg271,
 z63 := Tryz.sizeOf271,
 v63 := Tryz.zeroValue271,
 t64 := Tryz.underlying272,
 a64 := Tryz.isAgg272,
 z64 := Tryz.sizeOf272,
 v64 := Tryz.zeroValue272 }
end Go.Proofs.YtgloldepdhgfaaaGreatDoor
namespace Go.Proofs.YtgloldepdhgfaaaGreatDoor
set_option linter.unusedSimpArgs false
set_option linter.unusedVariables false
open Go.RowKit Go.Maps Go.MapKept Go.Sort Go.Shelf Go.WideAt Go.WideElems Go.WideShapes
theorem sortsIn (k : Nat) : AnyZI.SortsIn Tryz.prog sortedL_ren Fence.wide k :=
 ⟨fun blk off cap ss W hH hblk hsz => callsIn_wide.2 (AnyM.slices_Sort_int sortL blk off cap ss W hH hblk hsz), fun p cap W => callsIn_wide.2 (AnyM.slices_Sort_int_none sortL p cap W)⟩
def anyR (v : Value) : Option (DataW Unit × List MemPlace) := some (.nil, [])
theorem intKeys_perm {es : Array MapEntry} {m : MP} (hk : es.toList.map (·.key) = m.map (fun p => .int .i64 p.1)) (hb : ∀ p ∈ m, (Lit.int .i64 p.1).wf = true) :
  (intKeys (.map ((es.toList.map (rg Tryz.prog 3 anyR)).foldr DataW.insert []))).Perm (m.map (·.1)) := by
 have h1 : ∀ l : List MapEntry, ∀ m : MP, (∀ p ∈ m, (Lit.int .i64 p.1).wf = true) -> l.map (·.key) = m.map (fun p => .int .i64 p.1) -> (l.map (rg Tryz.prog 3 anyR)).map (fun q => Go.intOf q.1) = m.map (·.1) := by
  intro l
  induction l with
  | nil =>
   intro m _ h
   have : m = [] := List.map_eq_nil_iff.1 h.symm
   subst this; rfl
  | cons e r ih =>
   intro m hw h
   cases m with
   | nil => simp at h
   | cons p m =>
    simp only [List.map_cons, List.cons.injEq] at h ⊢
    refine ⟨?_, ih m (fun q hq => hw q (List.mem_cons_of_mem _ hq)) h.2⟩
    have hkey : keyOf Tryz.prog 3 e.key = some (.int .i64 p.1) := by rw [h.1]; exact keyOf_int_mk Tryz.underlying3 (hw p (List.mem_cons_self ..))
    have : rg Tryz.prog 3 anyR e = (.int .i64 p.1, .nil) := by simp [rg, WideElems.rd, hkey, anyR]
    rw [this]; rfl
 have h2 := h1 es.toList m hb hk
 show (List.map (fun p : Lit × DataW Unit => Go.intOf p.1) _).Perm _
 rw [<- h2]
 exact (sorted_perm _).map _
theorem sorted_calls (b bx clock : Nat) (ents : Array MapEntry) (m : MP) (w : World) (hb : w.heap[b]? = some (.map ents clock)) (hst : Stamped ents clock) (hk : ents.toList.map (·.key) = m.map (fun p => .int .i64 p.1)) (hw : ∀ p ∈ m, (Lit.int .i64 p.1).wf = true) (hm : m.length <= 16777216)
  (hbx : w.cell? ⟨bx, 0, none⟩ = some (.map (some b))) :
  Calls Tryz.prog 222 #[.func (.func 234) #[] #[.pointer (some ⟨bx, 0, none⟩)]] w fun e w' => ∃ (v : Value) (ss : List Int), e = .returned v /\ ss.Perm (m.map (·.1)) /\
   w'.ownsRow w.heap.size 3 1 v ss.length ((ss.mergeSort (fun x y => decide (x <= y))).map encZ) /\ Below w.heap.size w w' := by
 have hsz : ents.size = m.length := by have := congrArg List.length hk; simpa using this
 have hmax : ents.size <= maxLen := by simp only [maxLen]; omega
 have hF : Fit Tryz.prog 3 anyR ents clock := ⟨hmax, hst, fun x hx => by
  have a1 : x.key ∈ ents.toList.map (·.key) := List.mem_map.2 ⟨x, hx, rfl⟩
  rw [hk] at a1
  obtain ⟨p, hp, e⟩ := List.mem_map.1 a1
  have hkey : keyOf Tryz.prog 3 x.key = some (.int .i64 p.1) := by rw [<- e]; exact keyOf_int_mk Tryz.underlying3 (hw p hp)
  exact ⟨_, by simp [WideElems.rd, hkey, anyR]; rfl⟩⟩
 have hown : w.ownsMap Tryz.prog 3 anyR b ents.size (.map ((ents.toList.map (rg Tryz.prog 3 anyR)).foldr DataW.insert [])) := ⟨ents, clock, hb, hF, Nat.le_refl _, rfl⟩
 have hseq : SeqGives Fence.wide 2 Tryz.prog 234 #[.pointer (some ⟨bx, 0, none⟩)] encZ (fun ss => ss.Perm (intKeys (.map ((ents.toList.map (rg Tryz.prog 3 anyR)).foldr DataW.insert [])))) (Maps.size (.map ((ents.toList.map (rg Tryz.prog 3 anyR)).foldr DataW.insert []))) w :=
  AnyZI.keys_gives (ρ := keysL_ren) { keysL with } Fence.wide _ trivial rfl (by omega) bx b ents.size _ w (World.block_lt_of_cell? w _ hbx) hbx hown
 have hDs : Maps.size (.map ((ents.toList.map (rg Tryz.prog 3 anyR)).foldr DataW.insert [])) = m.length := by
  rw [Maps.size_eq, (sorted_perm _).length_eq, List.length_map, Array.length_toList]; exact hsz
 have cS := AnyZI.sorted_in sortedL Fence.wide 5 trivial trivial trivial trivial rfl (by omega) (sortsIn _) (enters_of Tryz.func233 (by kernel_rfl) rfl) 234 #[.pointer (some ⟨bx, 0, none⟩)] trivial (enters_of Tryz.func234 (by kernel_rfl) rfl) _ _ (by rw [hDs]; omega) (by rw [hDs]; omega) _ hseq
 refine ((callsIn_wide (n := 5)).1 cS).mono ?_
 rintro e w' ⟨v, ss, rfl, hS, hrow, hnil, hbel⟩
 exact ⟨v, ss, rfl, hS.trans (intKeys_perm hk hw), hrow, hbel⟩
def sortK (m : MP) : List Int := (m.map (·.1)).mergeSort fun x y => decide (x <= y)
theorem perm_sortI {l l' : List Int} (h : l.Perm l') : (l.mergeSort fun x y => decide (x <= y)) = l'.mergeSort fun x y => decide (x <= y) := by
 have tr : ∀ a b c : Int, decide (a <= b) = true -> decide (b <= c) = true -> decide (a <= c) = true := fun a b c h1 h2 => by simp only [decide_eq_true_eq] at *; omega
 have to : ∀ a b : Int, (decide (a <= b) || decide (b <= a)) = true := fun a b => by simp only [Bool.or_eq_true, decide_eq_true_eq]; omega
 refine List.Perm.eq_of_pairwise (le := fun x y => decide (x <= y) = true) ?_ (List.pairwise_mergeSort tr to l) (List.pairwise_mergeSort tr to l') (((List.mergeSort_perm l _).trans h).trans (List.mergeSort_perm l' _).symm)
 intro a b _ _ h1 h2
 simp only [decide_eq_true_eq] at h1 h2
 omega
theorem Rp_row {ρ : Rho} {w w' : World} {e : TypeId} {v : Value} {l : List Int} (hfr : ∀ b, w.heap.size <= b -> ρ.c b = none) (h : w'.ownsRow w.heap.size e 1 v l.length (l.map encZ)) (hb : ∀ x, x ∈ l -> IntKind.i64.min <= x /\ x <= IntKind.i64.max) (hl : l.length <= Wd) : Rp ρ w' (Ints l) v := by
 unfold Ints
 rw [Rp]
 rw [List.length_map]
 rcases h.2 with ⟨rfl, hz⟩ | ⟨g, cap, cur, rfl, hbase, hg, r1, r2, r3, r4⟩
 ·have : l = [] := List.eq_nil_of_length_eq_zero hz
  subst this
  exact ⟨none, 0, 1, rfl, Nat.le_refl _, Nat.zero_le _, Nat.zero_le _, (fun _ h => by cases h), trivial, fun h => absurd rfl h⟩
 ·refine ⟨_, cap, 1, rfl, r1, r2, hl, fun d hd => ?_, trivial, fun _ => ⟨g, 0, rfl, RpE.of (sz := 1) (fun d hd => ?_) fun i d hi => ?_⟩⟩
  ·obtain ⟨x, -, rfl⟩ := List.mem_map.1 hd; rfl
  ·obtain ⟨x, -, rfl⟩ := List.mem_map.1 hd; rfl
  ·rw [List.getElem?_map] at hi
   cases hx : l[i]? with
   | none => rw [hx] at hi; cases hi
   | some x =>
    rw [hx] at hi; cases hi
    have hm := hb x (List.mem_of_getElem? hx)
    refine ⟨.int .i64 x, ⟨(fun k hk => by rw [hfr g hbase] at hk; cases hk), ?_, rfl⟩, by rw [Rp]; exact ⟨rfl, hm⟩⟩
    have h1 : (l.map encZ)[i]? = some (.int .i64 x) := by rw [List.getElem?_map, hx]; rfl
    rw [<- r4, Nat.mul_one] at h1
    have hi' : i < l.length := (List.getElem?_eq_some_iff.1 hx).1
    rw [List.getElem?_take_of_lt hi', Array.getElem?_toList] at h1
    simp [World.cell?, hg, h1]
theorem sorted_spec (m : MP) (hm : MOK m) : Qt Tryz.prog glob 222 [.fn (.func 234) [] [.box 1 0]] [.mp (encM m), .cells 202 [.map 0]]
  (fun o hc => o.fgt = .ret (Ints (sortK m)) /\ hc = [.mp (encM m), .cells 202 [.map 0]]) := by
 intro ρ w vs hR hvs
 refine ⟨Qy _ _ Tryz.func222 rfl (by decide) _ _, ?_⟩
 rw [RpL_cons] at hvs
 obtain ⟨v1, us, rfl, h1, h2⟩ := hvs
 rw [Wq] at h2
 subst h2
 rw [Rp] at h1
 obtain ⟨us, vs, rfl, h2, h3⟩ := h1
 rw [Wq] at h2
 subst h2
 rw [RpL_cons] at h3
 obtain ⟨v2, us2, rfl, h4, h5⟩ := h3
 rw [Wq] at h5
 subst h5
 obtain ⟨bx, f, cs, rfl, hnm, -, hh, hr⟩ := obj_cells hR (i := 1) (ty := 202) (ds := [.map 0]) rfl h4
 rw [RpL_cons] at hr
 obtain ⟨v3, us3, rfl, h6, h7⟩ := hr
 rw [Wq] at h7
 subst h7
 rw [Rp_map] at h6
 obtain ⟨b, f0, hnm0, rfl⟩ := h6
 obtain ⟨ents, clock, k1, k2, k3, k4, -⟩ := obj_map hR (i := 0) rfl hnm0
 have hw : ∀ p ∈ m, (Lit.int .i64 p.1).wf = true := fun p hp => by
  have := hm.v p hp
  simp [Lit.wf, IntKind.min, IntKind.max, IntKind.signed, IntKind.bits]
  omega
 have hlen := hm.len
 refine (sorted_calls b bx clock ents m w k1 k4 k2 hw (by omega) (by simp [World.cell?, hh])).mono ?_
 rintro e w' ⟨v, ss, rfl, hperm, hrow, hbel⟩
 obtain ⟨r1, r2⟩ := hR.below hbel
 have hs : (ss.mergeSort fun x y => decide (x <= y)) = sortK m := by
  exact perm_sortI hperm
 rw [hs] at hrow
 have hmem : ∀ x, x ∈ sortK m -> 0 <= x /\ x <= 1048576 := fun x hx => by
  have hx' : x ∈ m.map (·.1) := (List.mergeSort_perm _ _).mem_iff.1 hx
  obtain ⟨p, hp, rfl⟩ := List.mem_map.1 hx'
  exact hm.v p hp
 have hsl : (sortK m).length = ss.length := by rw [<- hs, List.length_mergeSort]
 have hsl2 : ss.length = m.length := by rw [hperm.length_eq, List.length_map]
 refine ⟨ρ, .ret (Ints (sortK m)), _, ⟨?_, rfl⟩, ⟨v, rfl, Rp_row hR.fresh (by rw [hsl]; exact hrow) (fun x hx => ?_) (by unfold Wd; omega)⟩, r1, r2⟩
 ·simp [Out.fgt, Ints, D.fgt]
 ·have := hmem x hx
  have h1 : IntKind.i64.min = -9223372036854775808 := by decide
  have h2 : IntKind.i64.max = 9223372036854775807 := by decide
  omega
end Go.Proofs.YtgloldepdhgfaaaGreatDoor
namespace Go.Proofs.YtgloldepdhgfaaaGreatDoor
set_option linter.unusedSimpArgs false
set_option linter.unusedVariables false
set_option maxHeartbeats 10000000
set_option maxRecDepth 20000
open Go.RowKit
attribute [local simp] Qb Qc Xd Xm opD Qp Ql Qi Qk hOf Wz Xn Xk TK.isAgg TK.known Xf Xe Wt Qr D.ofV inB Wm Xc binX binD binE Xl bndD capB IntKind.min IntKind.max IntKind.signed IntKind.bits Wx late
theorem keys_spec (es : List (D × D)) : Qt Tryz.prog glob 223 [.map 0] [.mp es] (fun o hc => o = .ret (.fn (.func 234) [] [.box 1 0]) /\ hc = [.mp es, .cells 202 [.map 0]]) := by
 refine Qt.movd Qe (Qq Wb Tryz.func223 rfl (Qy _ _ Tryz.func223 rfl (by decide)) rfl rfl ?_)
 (refine sR fun K hK => ?_; ((repeat (rw [Qa]; simp)); (try simp only [zs])); refine hK _ _ _ ?_; clear hK K)
 (refine sR fun K hK => ?_; ((repeat (rw [Qa]; simp)); (try simp only [zs])); refine hK _ _ _ ?_; clear hK K)
 (refine Qj ?_; (try simp only [zs]); refine Wc.ret rfl (.inl ?_); simp [Qp, Out.fgt, D.fgt, D.fgts])
def keepM (m : MP) (v : Int) : Option (Int × Int) :=
 if 0 < v \/ (0 < (findM m v).getD 0 /\ hiddenM m ((findM m v).getD 0) = false) then some (v, (findM m v).getD 0) else none
def levM (m : MP) : LV := (sortK m).filterMap (keepM m)
theorem sortK_len (m : MP) : (sortK m).length = m.length := by unfold sortK; rw [List.length_mergeSort, List.length_map]
theorem levM_len (m : MP) : (levM m).length <= m.length := by
 have := List.length_filterMap_le (keepM m) (sortK m)
 rw [sortK_len] at this
 exact this
theorem level_spec (m : MP) (hm : MOK m) : Qt Tryz.prog glob 208 [.agg [.map 0]] [.mp (encM m)] (fun o hc => o = .ret (.agg [.own 1 (levM m).length]) /\ hc = [.mp (encM m), .row 2 ((levM m).map Xq)]) := by
 have hml := hm.len
 have hsl := sortK_len m
 refine Qt.movd Qe (Qq Wb Tryz.func208 rfl (Qy _ _ Tryz.func208 rfl (by decide)) rfl rfl ?_)
 (refine sR fun K hK => ?_; ((repeat (rw [Qa]; simp)); (try simp only [zs])); refine hK _ _ _ ?_; clear hK K)
 refine wpD_ownO 2 0 2 (ty := 53) (ds := [.slice [] .full]) rfl ?_
 simp [D.ownd]
 refine Qf fun K1 hK1 => ?_
 (refine sR fun K hK => ?_; ((repeat (rw [Qa]; simp)); (try simp only [zs])))
 refine cXo [0] true (keys_spec (encM m)) ?_
 (rintro o hc ⟨rfl, rfl⟩; refine ⟨false, ?_⟩; simp [zz, okA, Qx, Qu, hOf, Qg, Out.ren, told, Out.fgt, upO, Qi, Qk])
 ((try simp only [Qb, Qc, Ql, Qi, Qk]); (repeat (rw [Qa]; simp)); (try simp only [zs]))
 refine cXo [0, 4] true (sorted_spec m hm) ?_
 (rintro o hc ⟨ho, rfl⟩; refine ⟨true, ?_⟩; rw [show told true o = _ from ho]; clear ho; simp [zz, okA, Qx, Qu, hOf, Qg, Out.ren, told, Out.fgt, upO, Qi, Qk, Ints])
 ((try simp only [Qb, Qc, Ql, Qi, Qk]); (repeat (rw [Qa]; simp)); (try simp only [zs]))
 (refine hK _ _ _ ?_; clear hK K)
 refine wpD_range Wb Qe (ti := 3) (tk := 12) (tn := 11) (td := 13) (ts := 41) [4, 5, 12, 13, 14, 15, 16, 17, 18, 19, 20, 21, 22, 23, 24, 25, 26, 27, 28, 29, 30, 31, 32, 33, 34, 35, 36, 37, 38, 39, 40, 41] ((sortK m).length) (fun k ys hl => ∃  (x4 x5 x12 x13 x14 x15 x16 x17 x18 x19 x20 x21 x22 x23 x24 x25 x26 x27 x28 x29 x30 x31 x32 x33 x34 x35 x36 x37 x38 x39 x40 x41 : D), ys = [x4, x5, x12, x13, x14, x15, x16, x17, x18, x19, x20, x21, x22, x23, x24, x25, x26, x27, x28, x29, x30, x31, x32, x33, x34, x35, x36, x37, x38, x39, x40, x41] /\ hl = [.mp (encM m), .cells 206 [.map 0], .cells 53 [.own 3 (((sortK m).take k).filterMap (keepM m)).length], .row 2 ((((sortK m).take k).filterMap (keepM m)).map Xq), .cells 202 [.map 0]]) rfl rfl rfl rfl rfl rfl rfl rfl rfl rfl rfl rfl (by simp) (by decide) rfl (by first | assumption | omega | (unfold Wd; omega)) rfl (by kernel_rfl) (by decide) ?_ ?_ ?_
 ·exact ⟨_, _, _, _, _, _, _, _, _, _, _, _, _, _, _, _, _, _, _, _, _, _, _, _, _, _, _, _, _, _, _, _, rfl, rfl⟩
 ·rintro k ys hl A hk ⟨x4, x5, x12, x13, x14, x15, x16, x17, x18, x19, x20, x21, x22, x23, x24, x25, x26, x27, x28, x29, x30, x31, x32, x33, x34, x35, x36, x37, x38, x39, x40, x41, rfl, rfl⟩ hA hA2
  simp only [Qr, List.set]
  have htk : (sortK m).take (k + 1) = (sortK m).take k ++ [(sortK m)[k]] := List.take_succ_eq_append_getElem hk
  generalize hes : ((sortK m).take k).filterMap (keepM m) = es
  have hel : es.length + 1 <= Wd := by
   have h1 := List.length_filterMap_le (keepM m) ((sortK m).take k)
   rw [hes, List.length_take] at h1
   unfold Wd; omega
  have hnx : ((sortK m).take (k + 1)).filterMap (keepM m) = es ++ (keepM m (sortK m)[k]).toList := by
   rw [htk, List.filterMap_append, hes]
   cases hq : keepM m (sortK m)[k] <;> simp [hq]
  obtain ⟨v, hv⟩ : ∃ v, v = (sortK m)[k] := ⟨_, rfl⟩
  have hvm : v ∈ m.map (·.1) := by
   rw [hv]; exact (List.mergeSort_perm _ _).mem_iff.1 (List.getElem_mem hk)
  obtain ⟨n, hn⟩ : ∃ n, findM m v = some n := by
   cases hq : findM m v with
   | some n => exact ⟨n, rfl⟩
   | none => exact absurd hvm (findM_none hq)
  have e1 := encM_all m
  have e2 := encM_find v m
  (refine sR fun K hK => ?_; ((repeat (rw [Qa]; simp [hk, <- hv])); (try simp only [zs])); refine hK _ _ _ ?_; clear hK K)
  (refine sR fun K hK => ?_; ((repeat (rw [Qa]; simp [e1, e2, hn])); (try simp only [zs])); refine hK _ _ _ ?_; clear hK K)
  rw [<- hv] at hnx
  have hpush : List.map Xq es ++ [D.agg [.int .i64 v, .int .i64 n]] = (es ++ [(v, n)]).map Xq := by simp [Xq]
  by_cases h1 : 0 < v
  ·have hkp : keepM m v = some (v, n) := by simp [keepM, h1, hn]
   rw [hkp] at hnx
   (refine sR fun K hK => ?_; ((repeat (rw [Qa]; simp [h1])); (try simp only [zs])); refine hK _ _ _ ?_; clear hK K)
   refine pT rfl ?_
   (refine Qz Wb ?_; ((repeat (rw [Qa]; simp [hel])); (try simp only [zs])))
   rw [hpush]
   (refine hA2 ([1, 2, 5, 4]) _ _ (by decide) (by simp) (by simp [Wk, Wl, Wr, D.mov, HO.mov, okM, Wn, Wg, zz, okA, Qx, Qu, hOf, Qg, Qr]) ?_ rfl; simp [Wk, Wl, Wr, D.mov, HO.mov, okM, Wn, Wg, zz, okA, Qx, Qu, hOf, Qg])
   rw [hnx]
   simp
  ·by_cases h2 : 0 < n
   ·cases h3 : hiddenM m n with
    | true =>
     have hkp : keepM m v = none := by simp [keepM, h1, hn, h3]
     rw [hkp] at hnx
     (refine sR fun K hK => ?_; ((repeat (rw [Qa]; simp [h1, h2])); (try simp only [zs])))
     refine cXo [0] true (hidden_spec m n) ?_
     (rintro o hc ⟨ho, rfl⟩; refine ⟨true, ?_⟩; rw [show told true o = _ from ho]; clear ho; simp [zz, okA, Qx, Qu, hOf, Qg, Out.ren, told, Out.fgt, upO, Qi, Qk])
     ((try simp only [Qb, Qc, Ql, Qi, Qk]); (repeat (rw [Qa]; simp [h3])); (try simp only [zs]))
     (refine hK _ _ _ ?_; clear hK K)
     refine pF rfl ?_
     refine Qs ?_
     (refine hA _ _ (by kernel_rfl) ?_ rfl; simp only [Wg, List.map_cons, List.map_nil])
     exact ⟨_, _, _, _, _, _, _, _, _, _, _, _, _, _, _, _, _, _, _, _, _, _, _, _, _, _, _, _, _, _, _, _, rfl, by rw [hnx]; simp⟩
    | false =>
     have hkp : keepM m v = some (v, n) := by simp [keepM, h1, hn, h2, h3]
     rw [hkp] at hnx
     (refine sR fun K hK => ?_; ((repeat (rw [Qa]; simp [h1, h2])); (try simp only [zs])))
     refine cXo [0] true (hidden_spec m n) ?_
     (rintro o hc ⟨ho, rfl⟩; refine ⟨true, ?_⟩; rw [show told true o = _ from ho]; clear ho; simp [zz, okA, Qx, Qu, hOf, Qg, Out.ren, told, Out.fgt, upO, Qi, Qk])
     ((try simp only [Qb, Qc, Ql, Qi, Qk]); (repeat (rw [Qa]; simp [h3])); (try simp only [zs]))
     (refine hK _ _ _ ?_; clear hK K)
     refine pT rfl ?_
     (refine Qz Wb ?_; ((repeat (rw [Qa]; simp [hel])); (try simp only [zs])))
     rw [hpush]
     (refine hA2 ([1, 2, 5, 4]) _ _ (by decide) (by simp) (by simp [Wk, Wl, Wr, D.mov, HO.mov, okM, Wn, Wg, zz, okA, Qx, Qu, hOf, Qg, Qr]) ?_ rfl; simp [Wk, Wl, Wr, D.mov, HO.mov, okM, Wn, Wg, zz, okA, Qx, Qu, hOf, Qg])
     rw [hnx]
     simp
   ·have hkp : keepM m v = none := by simp [keepM, h1, hn, h2]
    rw [hkp] at hnx
    (refine sR fun K hK => ?_; ((repeat (rw [Qa]; simp [h1, h2])); (try simp only [zs])); refine hK _ _ _ ?_; clear hK K)
    refine pF rfl ?_
    refine Qs ?_
    (refine hA _ _ (by kernel_rfl) ?_ rfl; simp only [Wg, List.map_cons, List.map_nil])
    exact ⟨_, _, _, _, _, _, _, _, _, _, _, _, _, _, _, _, _, _, _, _, _, _, _, _, _, _, _, _, _, _, _, _, rfl, by rw [hnx]; simp⟩
 ·rintro ys hl ⟨x4, x5, x12, x13, x14, x15, x16, x17, x18, x19, x20, x21, x22, x23, x24, x25, x26, x27, x28, x29, x30, x31, x32, x33, x34, x35, x36, x37, x38, x39, x40, x41, rfl, rfl⟩
  simp only [Qr, List.set]
  refine hK1 _ _ _ ?_
  clear hK1 K1
  have htk : ((sortK m).take (sortK m).length).filterMap (keepM m) = levM m := by rw [List.take_length]; rfl
  rw [htk]
  (refine sR fun K hK => ?_; ((repeat (rw [Qa]; simp)); (try simp only [zs])); refine hK _ _ _ ?_; clear hK K)
  (refine Qj ?_; (try simp only [zs]); refine Wc.ret rfl (.inr ⟨[3], by decide, by simp, ?_⟩); simp [Out.mov, Wk, Wl, Wr, D.mov, HO.mov, okM, Wn, Wg, zz, okA, Qx, Qu, hOf, Qg, Qp, Out.fgt, D.fgt, D.fgts])
theorem catch_idle (d : D) (x : HO) : SpecD Tryz.prog glob 207 [.box 0 0] [.cells 53 [d], x] none (fun hc => hc = [.cells 53 [d], x]) := by
 refine wpD_specd Wb Tryz.func207 rfl rfl (fun a w => rfl) rfl (Qy _ _ Tryz.func207 rfl (by decide)) rfl rfl ?_
 ((try simp only [Qb, Qc, Ql, Qi, Qk]); (repeat (rw [Qa]; simp)); (try simp only [zs]))
 (refine sR fun K hK => ?_; ((repeat (rw [Qa]; simp)); (try simp only [zs])); refine hK _ _ _ ?_; clear hK K)
 refine pF rfl ?_
 refine Qs ?_
 refine Wc.nrm rfl ?_
 simp [Qi]
theorem catch_none (d : D) : SpecD Tryz.prog glob 207 [.box 0 0] [.cells 53 [d]] (some noneD) (fun hc => hc = [.cells 53 [.slice [] .full], .cells 228 []]) := by
 refine wpD_specd Wb Tryz.func207 rfl rfl (fun a w => rfl) rfl (Qy _ _ Tryz.func207 rfl (by decide)) rfl rfl ?_
 unfold noneD
 ((try simp only [Qb, Qc, Ql, Qi, Qk]); (repeat (rw [Qa]; simp)); (try simp only [zs]))
 (refine sR fun K hK => ?_; ((repeat (rw [Qa]; simp)); (try simp only [zs])); refine hK _ _ _ ?_; clear hK K)
 refine pT rfl ?_
 refine Qf fun K1 hK1 => ?_
 (refine sR fun K hK => ?_; ((repeat (rw [Qa]; simp)); (try simp only [zs])); refine hK _ _ _ ?_; clear hK K)
 refine Qf fun K2 hK2 => ?_
 (refine Qz Wb ?_; ((repeat (rw [Qa]; simp)); (try simp only [zs])))
 refine hK2 _ _ _ ?_
 refine pF rfl ?_
 refine Qs (hK1 _ _ _ ?_)
 (refine Qz Wb ?_; ((repeat (rw [Qa]; simp)); (try simp only [zs])))
 refine Wc.nrm rfl ?_
 simp
def OwnL (l : LV) (o : Out) (hc : List HO) : Prop := (l = [] /\ o = .ret (.agg [.slice [] .full]) /\ hc = []) \/ (o = .ret (.agg [.own 0 l.length]) /\ hc = [.row 2 (l.map Xq)])
def PutsM (R : Option MP) (o : Out) (hc : List HO) : Prop := match R with
 | none => o = .pan noneD /\ ∃ m', hc = [.mp (encM m')]
 | some m => o.fgt = .ret (.tuple []) /\ hc = [.mp (encM m)]
def levR : Option MP -> LV
 | none => []
 | some m => levM m
theorem made_spec (g : FuncId) (cap : List D) (R : Option MP) (hcf : D.fgts cap = cap) (hcp : D.pures cap = true) (hR : ∀ m, R = some m -> MOK m) (hg : Qt Tryz.prog glob g (.agg [.map 0] :: cap) [.mp []] (PutsM R)) :
  Qt Tryz.prog glob 180 [.fn (.func g) [] cap] [] (OwnL (levR R)) := by
 have hren : ∀ σ, D.rens σ cap = cap := fun σ => D.rens_pure σ cap hcp
 have hok : ∀ p, D.okNs p cap = true := fun p => D.okNs_pure p cap hcp
 refine Qt.movd Qe (wpD_specD Wb Tryz.func180 rfl (Qy _ _ Tryz.func180 rfl (by decide)) rfl rfl ?_)
 (refine sR fun K hK => ?_; ((repeat (rw [Qa]; simp)); (try simp only [zs])); refine hK _ _ _ ?_; clear hK K)
 (refine sR fun K hK => ?_; ((repeat (rw [Qa]; simp)); (try simp only [zs])); refine hK _ _ _ ?_; clear hK K)
 (refine sR fun K hK => ?_; ((repeat (rw [Qa]; simp)); (try simp only [zs])); refine hK _ _ _ ?_; clear hK K)
 (refine sR fun K hK => ?_; ((repeat (rw [Qa]; simp)); (try simp only [zs])))
 refine Xi.objs Qe [1] true hg ?_ ?_ (by decide) (by simp) (by simp [zz, okA, Qx, Qu, hOf, Qg, encM]) (by simp [zz, okA, Qx, Qu, hOf, Qg]) (by simp [zz, okA, Qx, Qu, hOf, Qg, hcf, hren]) (by simp [zz, okA, Qx, Qu, hOf, Qg, hcf, hok])
 ·cases R with
  | none =>
   rintro o hc ⟨rfl, m', rfl⟩
   refine ⟨false, ?_⟩
   unfold noneD
   simp [zz, okA, Qx, Qu, hOf, Qg, Out.ren, told, Out.fgt, upO, Qi, Qk]
   ((try simp only [Qb, Qc, Ql, Qi, Qk]); (repeat (rw [Qa]; simp)); (try simp only [zs]))
   (try simp only [zs])
   refine DefX.objs Qe [0] (catch_none (.slice [] .full)) ?_ ?_ (fun d h => by cases h; rfl) (by decide) (by simp) (by simp [zz, okA, Qx, Qu, hOf, Qg]) (by simp [zz, okA, Qx, Qu, hOf, Qg]) (by simp [zz, okA, Qx, Qu, hOf, Qg]) (by simp [zz, okA, Qx, Qu, hOf, Qg])
   ·rintro hc rfl
    simp [zz, okA, Qx, Qu, hOf, Qg, upO, Qi, Qk]
    refine endD.intro rfl (.inr ⟨[], by decide, by simp, ?_⟩)
    simp [Out.mov, Wk, Wl, Wr, D.mov, HO.mov, okM, Wn, Wg, zz, okA, Qx, Qu, hOf, Qg]
    exact .inl ⟨rfl, rfl, rfl⟩
   ·rintro hc rfl
    simp
  | some m =>
   rintro o hc ⟨ho, rfl⟩
   refine ⟨true, ?_⟩
   rw [show told true o = _ from ho]
   clear ho
   simp [zz, okA, Qx, Qu, hOf, Qg, Out.ren, told, Out.fgt, upO, Qi, Qk]
   ((try simp only [Qb, Qc, Ql, Qi, Qk]); (repeat (rw [Qa]; simp)); (try simp only [zs]))
   (refine hK _ _ _ ?_; clear hK K)
   (refine sR fun K hK => ?_; ((repeat (rw [Qa]; simp)); (try simp only [zs])))
   refine cXo [1] true (level_spec m (hR m rfl)) ?_
   (rintro o hc ⟨rfl, rfl⟩; refine ⟨false, ?_⟩; simp [zz, okA, Qx, Qu, hOf, Qg, Out.ren, told, Out.fgt, upO, Qi, Qk])
   ((try simp only [Qb, Qc, Ql, Qi, Qk]); (repeat (rw [Qa]; simp)); (try simp only [zs]))
   (refine hK _ _ _ ?_; clear hK K)
   refine Qj ?_
   refine DefX.objs Qe [0, 3] (catch_idle (.own 1 (levM m).length) (.row 2 ((levM m).map Xq))) ?_ ?_ (fun d h => by cases h) (by decide) (by simp) (by simp [zz, okA, Qx, Qu, hOf, Qg]) (by simp [zz, okA, Qx, Qu, hOf, Qg]) (by simp [zz, okA, Qx, Qu, hOf, Qg]) (by simp [zz, okA, Qx, Qu, hOf, Qg])
   ·rintro hc rfl
    simp [zz, okA, Qx, Qu, hOf, Qg, upO, Qi, Qk]
    refine endD.intro rfl (.inr ⟨[3], by decide, by simp, ?_⟩)
    simp [Out.mov, Wk, Wl, Wr, D.mov, HO.mov, okM, Wn, Wg, zz, okA, Qx, Qu, hOf, Qg]
    exact .inr ⟨rfl, rfl⟩
   ·rintro hc rfl
    simp
 ·cases R with
  | none => rintro o hc ⟨rfl, m', rfl⟩; simp
  | some m => rintro o hc ⟨ho, rfl⟩; simp
def Xo (l : LV) : LV := if Xj l then [] else levM (l.foldl putM [])
def putsOf (l : LV) (m : MP) : Option MP := if Xj l then none else some (l.foldl putM m)
theorem of1_spec (ls : List LV) (hl : ls.length <= Wd) (hls : ∀ l, l ∈ ls -> l.length <= Wd) : Qt Tryz.prog glob 181 [.agg [.map 0], .ref (Lvs ls)] [.mp []] (PutsM (putsOf ls.flatten [])) := by
 refine Qt.movd Qe (Qq Wb Tryz.func181 rfl (Qy _ _ Tryz.func181 rfl (by decide)) rfl rfl ?_)
 unfold Lvs
 (refine sR fun K hK => ?_; ((repeat (rw [Qa]; simp)); (try simp only [zs])); refine hK _ _ _ ?_; clear hK K)
 (refine sR fun K hK => ?_; ((repeat (rw [Qa]; simp)); (try simp only [zs])); refine hK _ _ _ ?_; clear hK K)
 refine wpD_range Wb Qe (ti := 3) (tk := 7) (tn := 6) (td := 8) (ts := 16) [4, 7, 8, 9, 10, 11, 12, 13, 14, 15, 16] (ls.length) (fun k ys hl => ∃ (m' : MP) (x4 x7 x8 x9 x10 x11 x12 x13 x14 x15 x16 : D), ys = [x4, x7, x8, x9, x10, x11, x12, x13, x14, x15, x16] /\ Xj ls.flatten = Xj (ls.drop k).flatten /\ (ls.drop k).flatten.foldl putM m' = ls.flatten.foldl putM [] /\ MOK m' /\ hl = [.mp (encM m'), .cells 206 [.map 0]]) rfl rfl rfl rfl rfl rfl rfl rfl rfl rfl rfl rfl (by simp) (by decide) rfl (by first | assumption | omega | (unfold Wd; omega)) rfl (by kernel_rfl) (by decide) ?_ ?_ ?_
 ·exact ⟨[], _, _, _, _, _, _, _, _, _, _, _, rfl, rfl, rfl, MOK.nil, rfl⟩
 ·rintro k ys hl A hk ⟨m', x4, x7, x8, x9, x10, x11, x12, x13, x14, x15, x16, rfl, hb, hf, hml, rfl⟩ hA hA2
  simp only [Qr, List.set]
  have hd : ls.drop k = ls[k] :: ls.drop (k + 1) := List.drop_eq_getElem_cons hk
  rw [hd, List.flatten_cons] at hb hf
  (refine sR fun K hK => ?_; ((repeat (rw [Qa]; simp [hk, Wp])); (try simp only [zs])); refine hK _ _ _ ?_; clear hK K)
  have hsp := rowPut_spec ls[k] m' (hls _ (List.getElem_mem hk)) hml
  (refine Qz Wb ?_; ((repeat (rw [Qa]; simp)); (try simp only [zs])))
  refine Xi.objs Qe [0] true hsp ?_ ?_ (by decide) (by simp) (by simp [zz, okA, Qx, Qu, hOf, Qg]) (by simp [zz, okA, Qx, Qu, hOf, Qg]) (by simp [zz, okA, Qx, Qu, hOf, Qg, Ps]) (by simp [zz, okA, Qx, Qu, hOf, Qg])
  ·cases hbad : Xj ls[k] with
   | true =>
    simp only [if_true]
    rintro o hc ⟨rfl, m2, rfl⟩
    refine ⟨false, ?_⟩
    unfold noneD
    simp [zz, okA, Qx, Qu, hOf, Qg, Out.ren, told, Out.fgt, upO, Qi, Qk]
    ((try simp only [Qb, Qc, Ql, Qi, Qk]); (repeat (rw [Qa]; simp)); (try simp only [zs]))
    ((try simp only [zs]); refine Wc.pan (.inr ⟨[], by decide, by simp, ?_⟩); simp [Out.mov, Wk, Wl, Wr, D.mov, HO.mov, okM, Wn, Wg, zz, okA, Qx, Qu, hOf, Qg, Qp, Out.fgt, D.fgt, D.fgts])
    have hall : Xj ls.flatten = true := by rw [hb]; unfold Xj at hbad ⊢; rw [List.any_append, hbad]; rfl
    simp [PutsM, putsOf, hall, noneD]
    exact ⟨m2, rfl⟩
   | false =>
    simp only [if_false, Bool.false_eq_true]
    rintro o hc ⟨ho, rfl⟩
    refine ⟨true, ?_⟩
    rw [show told true o = _ from ho]
    clear ho
    simp [zz, okA, Qx, Qu, hOf, Qg, Out.ren, told, Out.fgt, upO, Qi, Qk]
    ((try simp only [Qb, Qc, Ql, Qi, Qk]); (repeat (rw [Qa]; simp)); (try simp only [zs]))
    (refine hA2 ([1]) _ _ (by decide) (by simp) (by simp [Wk, Wl, Wr, D.mov, HO.mov, okM, Wn, Wg, zz, okA, Qx, Qu, hOf, Qg, Qr]) ?_ rfl; simp [Wk, Wl, Wr, D.mov, HO.mov, okM, Wn, Wg, zz, okA, Qx, Qu, hOf, Qg])
    refine ⟨by rw [hb]; unfold Xj at hbad ⊢; rw [List.any_append, hbad]; rfl, _, ?_, ?_, rfl⟩
    ·rw [<- hf, List.foldl_append]
    ·exact foldM_ok hml (fun p hp => by
      have : ¬ badP p = true := fun h => by
       have := List.any_eq_true.2 ⟨p, hp, h⟩
       unfold Xj at hbad
       rw [hbad] at this; cases this
      simpa using this)
  ·intro o hc h
   split at h
   ·obtain ⟨-, m2, rfl⟩ := h; simp
   ·obtain ⟨-, rfl⟩ := h; simp
 ·rintro ys hl ⟨m', x4, x7, x8, x9, x10, x11, x12, x13, x14, x15, x16, rfl, hb, hf, hml, rfl⟩
  simp only [Qr, List.set]
  rw [List.drop_length] at hb hf
  ((try simp only [zs]); refine Wc.nrm rfl (.inr ⟨[], by decide, by simp, ?_⟩); simp [Out.mov, Wk, Wl, Wr, D.mov, HO.mov, okM, Wn, Wg, zz, okA, Qx, Qu, hOf, Qg, Qp, Out.fgt, D.fgt, D.fgts])
  have hall : Xj ls.flatten = false := hb
  simp [PutsM, putsOf, hall, Out.fgt, D.fgt, D.fgts]
  rw [<- hf]; rfl
theorem anyBad_of {l : LV} (h : Xj l = false) : ∀ p, p ∈ l -> badP p = false := fun p hp => by
 have : ¬ badP p = true := fun h' => by
  have := List.any_eq_true.2 ⟨p, hp, h'⟩
  unfold Xj at h
  rw [h] at this; cases this
 simpa using this
theorem levR_puts (l : LV) : levR (putsOf l []) = Xo l := by unfold putsOf Xo; split <;> rfl
theorem puts_ok {l : LV} {m m' : MP} (h : MOK m) (hm : putsOf l m = some m') : MOK m' := by
 unfold putsOf at hm
 split at hm
 ·cases hm
 ·rename_i hb; cases hm; exact foldM_ok h (anyBad_of (by simpa using hb))
theorem of_spec (ls : List LV) (hl : ls.length <= Wd) (hls : ∀ l, l ∈ ls -> l.length <= Wd) : Qt Tryz.prog glob 115 [Lvs ls] [] (OwnL (Xo ls.flatten)) := by
 refine Qt.movd Qe (Qq Wb Tryz.func115 rfl (Qy _ _ Tryz.func115 rfl (by decide)) rfl rfl ?_)
 unfold Lvs
 (refine sR fun K hK => ?_; ((repeat (rw [Qa]; simp)); (try simp only [zs])); refine hK _ _ _ ?_; clear hK K)
 (refine wpD_stay (T := Wa) 0 (ty := 24) (ds := [.slice (ls.map Wp) .any]) rfl rfl (by first | exact ⟨rfl, .inr ⟨_, rfl, rfl⟩⟩ | exact ⟨rfl, .inl rfl⟩) ?_; simp [D.frzs, D.frz, HO.frz, dfFrz, refOf, TK.isAgg, FK.isB, FK.isM, FK.isO, D.isLen])
 have hsp := made_spec 181 [.ref (Lvs ls)] _ rfl (by simp [D.pures, D.pure, Lvs_pure]) (fun m hm => puts_ok MOK.nil hm) (of1_spec ls hl hls)
 rw [levR_puts] at hsp
 unfold Lvs at hsp
 (refine sR fun K hK => ?_; ((repeat (rw [Qa]; simp)); (try simp only [zs])))
 refine Xi.objs Qe [] true hsp ?_ ?_ (by decide) (by simp) (by simp [zz, okA, Qx, Qu, hOf, Qg]) (by simp [zz, okA, Qx, Qu, hOf, Qg]) (by simp [zz, okA, Qx, Qu, hOf, Qg]) (by simp [zz, okA, Qx, Qu, hOf, Qg])
 ·rintro o hc (⟨hn, rfl, rfl⟩ | ⟨rfl, rfl⟩)
  ·refine ⟨false, ?_⟩
   simp [zz, okA, Qx, Qu, hOf, Qg, Out.ren, told, Out.fgt, upO, Qi, Qk]
   ((try simp only [Qb, Qc, Ql, Qi, Qk]); (repeat (rw [Qa]; simp)); (try simp only [zs]))
   (refine hK _ _ _ ?_; clear hK K)
   (refine Qj ?_; (try simp only [zs]); refine Wc.ret rfl (.inr ⟨[], by decide, by simp, ?_⟩); simp [Out.mov, Wk, Wl, Wr, D.mov, HO.mov, okM, Wn, Wg, zz, okA, Qx, Qu, hOf, Qg, Qp, Out.fgt, D.fgt, D.fgts])
   exact .inl ⟨hn, rfl, rfl⟩
  ·refine ⟨false, ?_⟩
   simp [zz, okA, Qx, Qu, hOf, Qg, Out.ren, told, Out.fgt, upO, Qi, Qk]
   ((try simp only [Qb, Qc, Ql, Qi, Qk]); (repeat (rw [Qa]; simp)); (try simp only [zs]))
   (refine hK _ _ _ ?_; clear hK K)
   (refine Qj ?_; (try simp only [zs]); refine Wc.ret rfl (.inr ⟨[2], by decide, by simp, ?_⟩); simp [Out.mov, Wk, Wl, Wr, D.mov, HO.mov, okM, Wn, Wg, zz, okA, Qx, Qu, hOf, Qg, Qp, Out.fgt, D.fgt, D.fgts])
   exact .inr ⟨rfl, rfl⟩
 ·rintro o hc (⟨hn, rfl, rfl⟩ | ⟨rfl, rfl⟩) <;> simp
theorem normO_spec (l : LV) (hl : l.length <= Wd) : Qt Tryz.prog glob 64 [Wp l] [] (OwnL (Xo l)) := by
 have hsp := of_spec [l] (by simp [Wd]) (fun x hx => by rw [List.mem_singleton.1 hx]; exact hl)
 rw [show [l].flatten = l by simp] at hsp
 unfold Lvs at hsp
 refine Qt.movd Qe (Qq Wb Tryz.func64 rfl (Qy _ _ Tryz.func64 rfl (by decide)) rfl rfl ?_)
 (refine sR fun K hK => ?_; ((repeat (rw [Qa]; simp [Wp])); (try simp only [zs])); refine hK _ _ _ ?_; clear hK K)
 (refine sR fun K hK => ?_; ((repeat (rw [Qa]; simp [Wp])); (try simp only [zs])))
 refine Xi.objs Qe [] true hsp ?_ ?_ (by decide) (by simp) (by simp [zz, okA, Qx, Qu, hOf, Qg]) (by simp [zz, okA, Qx, Qu, hOf, Qg]) (by simp [zz, okA, Qx, Qu, hOf, Qg, Wp]) (by simp [zz, okA, Qx, Qu, hOf, Qg, Wp])
 ·rintro o hc (⟨hn, rfl, rfl⟩ | ⟨rfl, rfl⟩)
  ·refine ⟨false, ?_⟩
   simp [zz, okA, Qx, Qu, hOf, Qg, Out.ren, told, Out.fgt, upO, Qi, Qk]
   ((try simp only [Qb, Qc, Ql, Qi, Qk]); (repeat (rw [Qa]; simp)); (try simp only [zs]))
   (refine hK _ _ _ ?_; clear hK K)
   (refine Qj ?_; (try simp only [zs]); refine Wc.ret rfl (.inr ⟨[], by decide, by simp, ?_⟩); simp [Out.mov, Wk, Wl, Wr, D.mov, HO.mov, okM, Wn, Wg, zz, okA, Qx, Qu, hOf, Qg, Qp, Out.fgt, D.fgt, D.fgts])
   exact .inl ⟨hn, rfl, rfl⟩
  ·refine ⟨false, ?_⟩
   simp [zz, okA, Qx, Qu, hOf, Qg, Out.ren, told, Out.fgt, upO, Qi, Qk]
   ((try simp only [Qb, Qc, Ql, Qi, Qk]); (repeat (rw [Qa]; simp)); (try simp only [zs]))
   (refine hK _ _ _ ?_; clear hK K)
   (refine Qj ?_; (try simp only [zs]); refine Wc.ret rfl (.inr ⟨[2], by decide, by simp, ?_⟩); simp [Out.mov, Wk, Wl, Wr, D.mov, HO.mov, okM, Wn, Wg, zz, okA, Qx, Qu, hOf, Qg, Qp, Out.fgt, D.fgt, D.fgts])
   exact .inr ⟨rfl, rfl⟩
 ·rintro o hc (⟨hn, rfl, rfl⟩ | ⟨rfl, rfl⟩) <;> simp
theorem readL {f : FuncId} {args : List D} {l : LV} (h : Qt Tryz.prog glob f args [] (OwnL l)) : Qt Tryz.prog glob f args [] (fun o _ => o.fgt = .ret (Wp l)) := by
 refine Qt.frzO h fun o hc hp => ?_
 rcases hp with ⟨rfl, rfl, rfl⟩ | ⟨rfl, rfl⟩
 ·left; rfl
 ·right
  refine ⟨0, 2, l.map Xq, _, rfl, rfl, ?_⟩
  simp [D.frz, D.frzs, FK.isO, D.isLen, Out.fgt, D.fgt, D.fgts, Wp]
theorem norm_spec (l : LV) (hl : l.length <= Wd) : Qt Tryz.prog glob 64 [Wp l] [] (fun o _ => o.fgt = .ret (Wp (Xo l))) := readL (normO_spec l hl)
def idxB {α : Type} (p : α -> Bool) : List α -> Int -> Int
 | [], _ => -1
 | x :: r, i => if p x = true then i else idxB p r (i + 1)
theorem idxB_any {α : Type} (p : α -> Bool) : ∀ (l : List α) (i : Int), 0 <= i -> decide (0 <= idxB p l i) = l.any p
 | [], i, h => by simp [idxB]
 | x :: r, i, h => by
  rw [idxB, List.any_cons]
  by_cases hx : p x = true
  ·simp [hx, h]
  ·rw [if_neg hx, idxB_any p r (i + 1) (by omega)]; simp [hx]
theorem indexFuncP_spec (l : List (Int × Int)) (p : Int × Int -> Bool) (g : FuncId) (cap : List D) (hc : D.fgts cap = cap) (hcp : D.pures cap = true) (hl : l.length <= Wd)
  (hg : ∀ x, x ∈ l -> Qt Tryz.prog glob g (Xq x :: cap) [] (fun o _ => o.fgt = .ret (.bool (p x)))) :
  Qt Tryz.prog glob 211 [.slice (l.map Xq) .any, .fn (.func g) [] cap] [] (fun o _ => o.fgt = .ret (.int .i64 (idxB p l 0))) := by
 unfold Wd at hl
 refine Qt.movd Qe (Qq Wb Tryz.func211 rfl (Qy _ _ Tryz.func211 rfl (by decide)) rfl rfl ?_)
 (refine sR fun K hK => ?_; ((repeat (rw [Qa]; simp)); (try simp only [zs])); refine hK _ _ _ ?_; clear hK K)
 refine Qf fun K1 hK1 => ?_
 (refine sR fun K hK => ?_; ((repeat (rw [Qa]; simp)); (try simp only [zs])); refine hK _ _ _ ?_; clear hK K)
 refine Xh ?_
 refine wpD_loopW [4, 5, 8, 9, 10, 11, 12, 13, 14, 15, 16, 17, 18] (fun n ys hl => ∃ (k : Nat) (x4 x5 x9 x10 x11 x12 x13 x14 x15 x16 x17 x18 : D), ys = [x4, x5, .int .i64 k, x9, x10, x11, x12, x13, x14, x15, x16, x17, x18] /\ n + k = l.length /\ idxB p l 0 = idxB p (l.drop k) k /\ hl = []) (l.length) (by kernel_rfl) ?_ ?_
 ·exact ⟨0, _, _, _, _, _, _, _, _, _, _, _, _, rfl, rfl, rfl, rfl⟩
 ·rintro n ys hl A hA ⟨k, x4, x5, x9, x10, x11, x12, x13, x14, x15, x16, x17, x18, rfl, hn, hi, rfl⟩
  simp only [Qr, List.set]
  (refine sR fun K hK => ?_; ((repeat (rw [Qa]; simp)); (try simp only [zs])); refine hK _ _ _ ?_; clear hK K)
  refine Qf fun K2 hK2 => ?_
  refine wpD_part rfl (fun hk => ?_) (fun hk => ?_)
  ·replace hk : k < l.length := by simpa using hk
   refine Qs (hK2 _ _ _ ?_)
   clear hK2 K2
   refine Qf fun K3 hK3 => ?_
   refine Xh ?_
   (refine sR fun K hK => ?_; ((repeat (rw [Qa]; simp)); (try simp only [zs])); refine hK _ _ _ ?_; clear hK K)
   (refine sR fun K hK => ?_; ((repeat (rw [Qa]; simp [hk, Xq])); (try simp only [zs])))
   refine Xi.pure Qe (hg _ (List.getElem_mem hk)) ?_ (by simp [D.fgts, D.fgt, hc, hcp, Xq]) (by simp [D.pures, D.pure, Cp.free, D.pures_map, hc, hcp, Xq]) (by simp [Out.pure, D.pure, D.pures, Cp.free, D.pures_map, hc, hcp, Xq])
   ((try simp only [Qb, Qc, Ql, Qi, Qk]); (repeat (rw [Qa]; simp)); (try simp only [zs]))
   (refine hK _ _ _ ?_; clear hK K)
   refine wpD_part rfl (fun hb => ?_) (fun hb => ?_)
   ·(refine sR fun K hK => ?_; ((repeat (rw [Qa]; simp)); (try simp only [zs])); refine hK _ _ _ ?_; clear hK K)
    (refine Qj ?_; (try simp only [zs]); refine Wc.ret rfl (.inl ?_); simp [Qp, Out.fgt, D.fgt, D.fgts])
    rw [hi, List.drop_eq_getElem_cons hk, idxB, if_pos hb]
   ·refine Qs (hK3 _ _ _ ?_)
    clear hK3 K3
    have hw : IntKind.i64.wrap ((k : Int) + 1) = (k : Int) + 1 := i64w (by omega) (by omega)
    (refine Qz Wb ?_; ((repeat (rw [Qa]; simp [hw])); (try simp only [zs])))
    refine hA (n - 1) _ _ (by omega) (by kernel_rfl) ?_
    exact ⟨k + 1, _, _, _, _, _, _, _, _, _, _, _, _, rfl, by omega, by rw [hi, List.drop_eq_getElem_cons hk, idxB, if_neg (by simpa using hb)]; simp, rfl⟩
  ·refine wpD_exit (hK1 _ _ _ ?_)
   (refine sR fun K hK => ?_; ((repeat (rw [Qa]; simp)); (try simp only [zs])); refine hK _ _ _ ?_; clear hK K)
   (refine Qj ?_; (try simp only [zs]); refine Wc.ret rfl (.inl ?_); simp [Qp, Out.fgt, D.fgt, D.fgts])
   rw [hi, List.drop_eq_nil_of_le (by simpa using hk), idxB]
theorem containsFuncP_spec (l : List (Int × Int)) (p : Int × Int -> Bool) (g : FuncId) (cap : List D) (hc : D.fgts cap = cap) (hcp : D.pures cap = true) (hl : l.length <= Wd)
  (hg : ∀ x, x ∈ l -> Qt Tryz.prog glob g (Xq x :: cap) [] (fun o _ => o.fgt = .ret (.bool (p x)))) :
  Qt Tryz.prog glob 188 [.slice (l.map Xq) .any, .fn (.func g) [] cap] [] (fun o _ => o.fgt = .ret (.bool (l.any p))) := by
 refine Qt.movd Qe (Qq Wb Tryz.func188 rfl (Qy _ _ Tryz.func188 rfl (by decide)) rfl rfl ?_)
 (refine sR fun K hK => ?_; ((repeat (rw [Qa]; simp)); (try simp only [zs])); refine hK _ _ _ ?_; clear hK K)
 (refine sR fun K hK => ?_; ((repeat (rw [Qa]; simp)); (try simp only [zs])))
 refine Xi.pure Qe (indexFuncP_spec l p g cap hc hcp hl hg) ?_ (by simp [D.fgts, D.fgt, hc, hcp]) (by simp [D.pures, D.pure, Cp.free, D.pures_map, hc, hcp]) (by simp [Out.pure, D.pure, D.pures, Cp.free, D.pures_map, hc, hcp])
 ((try simp only [Qb, Qc, Ql, Qi, Qk]); (repeat (rw [Qa]; simp)); (try simp only [zs]))
 (refine hK _ _ _ ?_; clear hK K)
 (refine Qj ?_; (try simp only [zs]); refine Wc.ret rfl (.inl ?_); simp [Qp, Out.fgt, D.fgt, D.fgts])
 exact idxB_any p l 0 (by omega)
theorem normOf_len (l : LV) : (Xo l).length <= 1048577 := by
 unfold Xo
 split
 ·simp
 ·rename_i h
  have hm : MOK (l.foldl putM []) := foldM_ok MOK.nil (anyBad_of (by simpa using h))
  exact Nat.le_trans (levM_len _) hm.len
theorem normOf_lmax (l : LV) : (Xo l).length <= Wd := by
 have := normOf_len l
 unfold Wd; omega
def underP (p q : Int × Int) : Bool := (decide (p.1 = 0) || decide (p.1 = q.1)) && decide (p.2 <= q.2)
def leqN (a b : LV) : Bool := !(a.any fun p => !(b.any (underP p)))
def leqM (a b : LV) : Bool := leqN (Xo a) (Xo b)
theorem equalP_spec (a b : LV) (ha : a.length <= Wd) (hb : b.length <= Wd) : Qt Tryz.prog glob 107 [.slice (a.map Xq) .any, .slice (b.map Xq) .any] [] (fun o _ => o.fgt = .ret (.bool (decide (a = b)))) := by
 unfold Wd at ha hb
 refine Qt.movd Qe (Qq Wb Tryz.func107 rfl (Qy _ _ Tryz.func107 rfl (by decide)) rfl rfl ?_)
 (refine sR fun K hK => ?_; ((repeat (rw [Qa]; simp)); (try simp only [zs])); refine hK _ _ _ ?_; clear hK K)
 refine Qf fun K1 hK1 => ?_
 (refine sR fun K hK => ?_; ((repeat (rw [Qa]; simp)); (try simp only [zs])); refine hK _ _ _ ?_; clear hK K)
 refine wpD_part rfl (fun h => ?_) (fun h => ?_)
 ·(refine sR fun K hK => ?_; ((repeat (rw [Qa]; simp)); (try simp only [zs])); refine hK _ _ _ ?_; clear hK K)
  (refine Qj ?_; (try simp only [zs]); refine Wc.ret rfl (.inl ?_); simp [Qp, Out.fgt, D.fgt, D.fgts])
  have h : ¬ (a.length : Int) = b.length := by simpa using h
  intro e
  exact h (by rw [e])
 ·replace h : a.length = b.length := by
   have h : (a.length : Int) = b.length := by simpa using h
   omega
  refine Qs (hK1 _ _ _ ?_)
  clear hK1 K1
  refine Qf fun K1 hK1 => ?_
  (refine sR fun K hK => ?_; ((repeat (rw [Qa]; simp)); (try simp only [zs])); refine hK _ _ _ ?_; clear hK K)
  refine wpD_range Wb Qe (ti := 3) (tk := 13) (tn := 12) (td := 14) (ts := 25) [4, 5, 13, 14, 15, 16, 17, 18, 19, 20, 21, 22, 23, 24, 25] (a.length) (fun k ys hl => ∃  (x4 x5 x13 x14 x15 x16 x17 x18 x19 x20 x21 x22 x23 x24 x25 : D), ys = [x4, x5, x13, x14, x15, x16, x17, x18, x19, x20, x21, x22, x23, x24, x25] /\ a.take k = b.take k /\ hl = []) rfl rfl rfl rfl rfl rfl rfl rfl rfl rfl rfl rfl (by simp) (by decide) rfl (by first | assumption | omega | (unfold Wd; omega)) rfl (by kernel_rfl) (by decide) ?_ ?_ ?_
  ·exact ⟨_, _, _, _, _, _, _, _, _, _, _, _, _, _, _, rfl, by simp, rfl⟩
  ·rintro k ys hl A hk ⟨x4, x5, x13, x14, x15, x16, x17, x18, x19, x20, x21, x22, x23, x24, x25, rfl, he, rfl⟩ hA hA2
   simp only [Qr, List.set]
   have hkb : k < b.length := by omega
   (refine sR fun K hK => ?_; ((repeat (rw [Qa]; simp)); (try simp only [zs])); refine hK _ _ _ ?_; clear hK K)
   (refine Qf fun K hK => ?_; refine dR fun KT hKT => ?_; ((repeat (rw [Qh]; simp [hk, hkb, Xq])); (try simp only [Qm])))
   (refine hKT _ _ _ _ (by kernel_rfl) ?_; clear hKT KT; (try simp only [zs]))
   (refine hK _ _ _ ?_; clear hK K)
   refine wpD_part rfl (fun hb => ?_) (fun hb => ?_)
   ·(refine sR fun K hK => ?_; ((repeat (rw [Qa]; simp)); (try simp only [zs])); refine hK _ _ _ ?_; clear hK K)
    (refine Qj ?_; (try simp only [zs]); refine Wc.ret rfl (.inl ?_); simp [Qp, Out.fgt, D.fgt, D.fgts])
    intro e
    subst e
    simp at hb
   ·refine Qs ?_
    (refine hA _ _ (by kernel_rfl) ?_ rfl; simp only [Wg, List.map_cons, List.map_nil])
    refine ⟨_, _, _, _, _, _, _, _, _, _, _, _, _, _, _, rfl, ?_, rfl⟩
    rw [List.take_succ_eq_append_getElem hk, List.take_succ_eq_append_getElem hkb, he]
    have hb : a[k] = b[k] := by
     have hb' : a[k].1 = b[k].1 /\ a[k].2 = b[k].2 := by simpa using hb
     exact Prod.ext hb'.1 hb'.2
    rw [hb]
  ·rintro ys hl ⟨x4, x5, x13, x14, x15, x16, x17, x18, x19, x20, x21, x22, x23, x24, x25, rfl, he, rfl⟩
   simp only [Qr, List.set]
   refine hK1 _ _ _ ?_
   clear hK1 K1
   (refine sR fun K hK => ?_; ((repeat (rw [Qa]; simp)); (try simp only [zs])); refine hK _ _ _ ?_; clear hK K)
   (refine Qj ?_; (try simp only [zs]); refine Wc.ret rfl (.inl ?_); simp [Qp, Out.fgt, D.fgt, D.fgts])
   rw [List.take_length, h, List.take_length] at he
   exact he
theorem same_spec (a b : LV) (ha : a.length <= Wd) (hb : b.length <= Wd) : Qt Tryz.prog glob 54 [Wp a, Wp b] [] (fun o _ => o.fgt = .ret (.bool (decide (Xo a = Xo b)))) := by
 have hna := norm_spec a ha
 have hnb := norm_spec b hb
 unfold Wp at hna hnb
 refine Qt.movd Qe (Qq Wb Tryz.func54 rfl (Qy _ _ Tryz.func54 rfl (by decide)) rfl rfl ?_)
 unfold Wp
 (refine sR fun K hK => ?_; ((repeat (rw [Qa]; simp)); (try simp only [zs])); refine hK _ _ _ ?_; clear hK K)
 (refine Qf fun K hK => ?_; refine dR fun KT hKT => ?_; ((repeat (rw [Qh]; simp)); (try simp only [Qm])))
 refine CallY.pure Qe (hna) ?_ (by simp [D.fgts, D.fgt, encP_pure]) (by simp [D.pures, D.pure, Cp.free, D.pures_map, encP_pure]) (by simp [Out.pure, D.pure, D.pures, Cp.free, D.pures_map, encP_pure])
 ((try simp only [Qn, Qo, Ql, Qi, Qk]); (repeat (rw [Qh]; simp)); (try simp only [Qm]))
 refine CallY.pure Qe (hnb) ?_ (by simp [D.fgts, D.fgt, encP_pure]) (by simp [D.pures, D.pure, Cp.free, D.pures_map, encP_pure]) (by simp [Out.pure, D.pure, D.pures, Cp.free, D.pures_map, encP_pure])
 ((try simp only [Qn, Qo, Ql, Qi, Qk]); (repeat (rw [Qh]; simp)); (try simp only [Qm]))
 refine cYp (equalP_spec (Xo a) (Xo b) (normOf_lmax a) (normOf_lmax b)) ?_
 ((try simp only [Qn, Qo, Ql, Qi, Qk]); (repeat (rw [Qh]; simp)); (try simp only [Qm]))
 (refine hKT _ _ _ _ (by kernel_rfl) ?_; clear hKT KT; (try simp only [zs]))
 (refine hK _ _ _ ?_; clear hK K)
 (refine Qj ?_; (try simp only [zs]); refine Wc.ret rfl (.inl ?_); simp [Qp, Out.fgt, D.fgt, D.fgts])
end Go.Proofs.YtgloldepdhgfaaaGreatDoor
namespace Go.Proofs.YtgloldepdhgfaaaGreatDoor
set_option linter.unusedSimpArgs false
set_option linter.unusedVariables false
open Go.RowKit
theorem MOK.uniq {m : MP} (h : MOK m) {v a b : Int} (ha : (v, a) ∈ m) (hb : (v, b) ∈ m) : a = b := by
 have hn := h.nd
 clear h
 induction m with
 | nil => cases ha
 | cons p r ih =>
  rw [List.map_cons, List.nodup_cons] at hn
  rcases List.mem_cons.1 ha with ha' | ha' <;> rcases List.mem_cons.1 hb with hb' | hb'
  ·rw [<- ha'] at hb'; exact (Prod.mk.inj hb').2.symm
  ·subst ha'; exact absurd (List.mem_map.2 ⟨_, hb', rfl⟩) hn.1
  ·subst hb'; exact absurd (List.mem_map.2 ⟨_, ha', rfl⟩) hn.1
  ·exact ih ha' hb' hn.2
theorem badP_nn {p : Int × Int} (h : badP p = false) : 0 <= p.1 /\ 0 <= p.2 /\ p.1 <= 1048576 /\ p.2 <= 1048576 := by
 simp only [badP, Bool.or_eq_false_iff, decide_eq_false_iff_not] at h
 omega
theorem mem_find {m : MP} (hm : MOK m) {v n : Int} (h : (v, n) ∈ m) : findM m v = some n := by
 cases hf : findM m v with
 | none => exact absurd (List.mem_map.2 ⟨_, h, rfl⟩) (findM_none hf)
 | some k => rw [hm.uniq h (findM_some hf)]
theorem hid_iff {m : MP} {n : Int} : hiddenM m n = false ↔ ∀ q, q ∈ m -> 0 < q.1 -> q.2 < n := by
 unfold hiddenM
 rw [List.any_eq_false]
 constructor
 ·intro h q hq hv
  have := h q hq
  simp only [Bool.and_eq_true, decide_eq_true_eq, not_and] at this
  have := this hv
  omega
 ·intro h q hq
  simp only [Bool.and_eq_true, decide_eq_true_eq, not_and]
  intro hv
  have := h q hq hv
  omega
theorem levM_mem {m : MP} (hm : MOK m) {p : Int × Int} : p ∈ levM m ↔ p ∈ m /\ (0 < p.1 \/ (0 < p.2 /\ ∀ q, q ∈ m -> 0 < q.1 -> q.2 < p.2)) := by
 obtain ⟨v, n⟩ := p
 unfold levM
 rw [List.mem_filterMap]
 constructor
 ·rintro ⟨x, hx, hk⟩
  have hx' : x ∈ m.map (·.1) := (List.mergeSort_perm _ _).mem_iff.1 hx
  obtain ⟨⟨x', k⟩, hk', rfl⟩ := List.mem_map.1 hx'
  have hf := mem_find hm hk'
  unfold keepM at hk
  dsimp only at hk
  rw [hf] at hk
  simp only [Option.getD_some] at hk
  split at hk
  ·rename_i hc
   cases hk
   exact ⟨hk', hc.imp id (fun h => ⟨h.1, hid_iff.1 h.2⟩)⟩
  ·cases hk
 ·rintro ⟨h1, h2⟩
  refine ⟨v, (List.mergeSort_perm _ _).mem_iff.2 (List.mem_map.2 ⟨_, h1, rfl⟩), ?_⟩
  unfold keepM
  rw [mem_find hm h1]
  simp only [Option.getD_some]
  rw [if_pos (h2.imp id (fun h => ⟨h.1, hid_iff.2 h.2⟩))]
structure NF (l : LV) : Prop where
 up : l.Pairwise (fun p q => p.1 < q.1)
 ok : ∀ p, p ∈ l -> badP p = false
 z : ∀ p, p ∈ l -> p.1 = 0 -> 0 < p.2 /\ ∀ q, q ∈ l -> 0 < q.1 -> q.2 < p.2
theorem nodup_sorted : ∀ {l : List Int}, l.Pairwise (fun x y => x <= y) -> l.Nodup -> l.Pairwise (fun x y => x < y)
 | [], _, _ => List.Pairwise.nil
 | x :: r, h, hn => by
  rw [List.pairwise_cons] at h ⊢
  rw [List.nodup_cons] at hn
  refine ⟨fun y hy => ?_, nodup_sorted h.2 hn.2⟩
  have := h.1 y hy
  have : x ≠ y := fun e => hn.1 (e ▸ hy)
  omega
theorem sortK_up {m : MP} (hm : MOK m) : (sortK m).Pairwise (fun x y => x < y) := by
 refine nodup_sorted ?_ ?_
 ·have := List.pairwise_mergeSort (le := fun x y : Int => decide (x <= y)) (fun a b c h1 h2 => by simp only [decide_eq_true_eq] at *; omega) (fun a b => by simp only [Bool.or_eq_true, decide_eq_true_eq]; omega) (m.map (·.1))
  exact this.imp (fun h => by simpa using h)
 ·exact ((List.mergeSort_perm _ _).nodup_iff).2 hm.nd
theorem keepM_fst {m : MP} {v : Int} {p : Int × Int} (h : keepM m v = some p) : p.1 = v := by
 unfold keepM at h
 split at h
 ·cases h; rfl
 ·cases h
theorem levM_up {m : MP} (hm : MOK m) : (levM m).Pairwise (fun p q => p.1 < q.1) := by
 unfold levM
 have := sortK_up hm
 generalize sortK m = s at this
 induction s with
 | nil => exact List.Pairwise.nil
 | cons x r ih =>
  rw [List.pairwise_cons] at this
  rw [List.filterMap_cons]
  cases hk : keepM m x with
  | none => exact ih this.2
  | some p =>
   refine List.pairwise_cons.2 ⟨fun q hq => ?_, ih this.2⟩
   obtain ⟨y, hy, hq⟩ := List.mem_filterMap.1 hq
   rw [keepM_fst hk, keepM_fst hq]
   exact this.1 y hy
theorem NF.nil : NF [] := ⟨List.Pairwise.nil, (fun _ h => nomatch h), (fun _ h => nomatch h)⟩
theorem levM_nf {m : MP} (hm : MOK m) : NF (levM m) where
 up := levM_up hm
 ok := fun p hp => by
  have h := ((levM_mem hm).1 hp).1
  have h1 := hm.v p h
  have h2 := hm.n p h
  simp only [badP, Bool.or_eq_false_iff, decide_eq_false_iff_not]
  omega
 z := fun p hp h0 => by
  have h := ((levM_mem hm).1 hp).2
  rcases h with h | ⟨h1, h2⟩
  ·omega
  ·exact ⟨h1, fun q hq hv => h2 q ((levM_mem hm).1 hq).1 hv⟩
theorem NF.uniq {l : LV} (h : NF l) {p q : Int × Int} (hp : p ∈ l) (hq : q ∈ l) (e : p.1 = q.1) : p = q := by
 have hu := h.up
 clear h
 induction l with
 | nil => cases hp
 | cons x r ih =>
  rw [List.pairwise_cons] at hu
  rcases List.mem_cons.1 hp with hp' | hp' <;> rcases List.mem_cons.1 hq with hq' | hq'
  ·rw [hp', hq']
  ·subst hp'; have := hu.1 q hq'; omega
  ·subst hq'; have := hu.1 p hp'; omega
  ·exact ih hp' hq' hu.2
theorem up_ext : ∀ {a b : LV}, a.Pairwise (fun p q => p.1 < q.1) -> b.Pairwise (fun p q => p.1 < q.1) -> (∀ p, p ∈ a ↔ p ∈ b) -> a = b
 | [], [], _, _, _ => rfl
 | [], y :: s, _, _, h => by have := (h y).2 (List.mem_cons_self ..); cases this
 | x :: r, [], _, _, h => by have := (h x).1 (List.mem_cons_self ..); cases this
 | x :: r, y :: s, ha, hb, h => by
  rw [List.pairwise_cons] at ha hb
  have hxy : x = y := by
   rcases List.mem_cons.1 ((h x).1 (List.mem_cons_self ..)) with e | hx
   ·exact e
   ·rcases List.mem_cons.1 ((h y).2 (List.mem_cons_self ..)) with e | hy
    ·exact e.symm
    ·have h1 := hb.1 x hx
     have h2 := ha.1 y hy
     omega
  subst hxy
  rw [up_ext ha.2 hb.2 fun p => ?_]
  constructor
  ·intro hp
   rcases List.mem_cons.1 ((h p).1 (List.mem_cons_of_mem _ hp)) with rfl | hp'
   ·have := ha.1 p hp; omega
   ·exact hp'
  ·intro hp
   rcases List.mem_cons.1 ((h p).2 (List.mem_cons_of_mem _ hp)) with rfl | hp'
   ·have := hb.1 p hp; omega
   ·exact hp'
def domP (l : LV) (p : Int × Int) : Prop := (p.1 = 0 /\ p.2 = 0) \/ ∃ q, q ∈ l /\ (p.1 = 0 \/ p.1 = q.1) /\ p.2 <= q.2
def leR (a b : LV) : Prop := ∀ p, p ∈ a -> domP b p
def okV (l : LV) : Prop := ∀ p, p ∈ l -> badP p = false
theorem domP.self {l : LV} {p : Int × Int} (h : p ∈ l) : domP l p := .inr ⟨p, h, .inr rfl, Int.le_refl _⟩
theorem domP.step {l : LV} {p q : Int × Int} (hp : 0 <= p.2) (h1 : p.1 = 0 \/ p.1 = q.1) (h2 : p.2 <= q.2) (h : domP l q) : domP l p := by
 rcases h with ⟨e1, e2⟩ | ⟨r, hr, e1, e2⟩
 ·left; omega
 ·right; exact ⟨r, hr, by omega, by omega⟩
theorem domP.trans {a b : LV} {p : Int × Int} (hp : 0 <= p.2) (h : domP a p) (hab : leR a b) : domP b p := by
 rcases h with h | ⟨q, hq, h1, h2⟩
 ·exact .inl h
 ·exact (hab q hq).step hp h1 h2
theorem leR.refl (a : LV) : leR a a := fun _ h => .self h
theorem leR.trans {a b c : LV} (ha : okV a) (h1 : leR a b) (h2 : leR b c) : leR a c := fun p hp => (h1 p hp).trans (badP_nn (ha p hp)).2.1 h2
theorem normOf_nf (l : LV) : NF (Xo l) := by
 unfold Xo
 split
 ·exact NF.nil
 ·rename_i h
  exact levM_nf (foldM_ok MOK.nil (anyBad_of (by simpa using h)))
theorem leqN_iff {a b : LV} : leqN a b = true ↔ ∀ p, p ∈ a -> ∃ q, q ∈ b /\ (p.1 = 0 \/ p.1 = q.1) /\ p.2 <= q.2 := by
 unfold leqN
 simp [underP]
theorem leqN_leR {a b : LV} (ha : NF a) : leqN a b = true ↔ leR a b := by
 rw [leqN_iff]
 constructor
 ·exact fun h p hp => .inr (h p hp)
 ·intro h p hp
  rcases h p hp with ⟨h1, h2⟩ | h
  ·have := (ha.z p hp h1).1; omega
  ·exact h
theorem NF.sub {a b : LV} (ha : NF a) (hb : NF b) (h1 : leR a b) (h2 : leR b a) : ∀ p, p ∈ a -> p ∈ b := by
 have ha' := leqN_iff.1 ((leqN_leR ha).2 h1)
 have hb' := leqN_iff.1 ((leqN_leR hb).2 h2)
 have hpos : ∀ {a b : LV}, NF a -> NF b -> (∀ p, p ∈ a -> ∃ q, q ∈ b /\ (p.1 = 0 \/ p.1 = q.1) /\ p.2 <= q.2) -> (∀ p, p ∈ b -> ∃ q, q ∈ a /\ (p.1 = 0 \/ p.1 = q.1) /\ p.2 <= q.2) -> ∀ p, p ∈ a -> 0 < p.1 -> p ∈ b := by
  intro a b ha hb ha' hb' p hp hp0
  obtain ⟨q, hq, h1, h2⟩ := ha' p hp
  obtain ⟨r, hr, h3, h4⟩ := hb' q hq
  have : r = p := ha.uniq hr hp (by omega)
  subst this
  have : q = r := Prod.ext (by omega) (by omega)
  rw [<- this]; exact hq
 intro p hp
 by_cases hp0 : 0 < p.1
 ·exact hpos ha hb ha' hb' p hp hp0
 ·have hpz : p.1 = 0 := by have := (badP_nn (ha.ok p hp)).1; omega
  obtain ⟨q, hq, h1, h2⟩ := ha' p hp
  have hz := ha.z p hp hpz
  by_cases hq0 : 0 < q.1
  ·have := hz.2 q (hpos hb ha hb' ha' q hq hq0) hq0
   omega
  ·have hqz : q.1 = 0 := by have := (badP_nn (hb.ok q hq)).1; omega
   obtain ⟨r, hr, h3, h4⟩ := hb' q hq
   by_cases hr0 : 0 < r.1
   ·have := hz.2 r hr hr0; omega
   ·have hrz : r.1 = 0 := by have := (badP_nn (ha.ok r hr)).1; omega
    have : r = p := ha.uniq hr hp (by omega)
    subst this
    have : q = r := Prod.ext (by omega) (by omega)
    rw [<- this]; exact hq
theorem NF.ext {a b : LV} (ha : NF a) (hb : NF b) (h1 : leR a b) (h2 : leR b a) : a = b :=
 up_ext ha.up hb.up fun p => ⟨ha.sub hb h1 h2 p, hb.sub ha h2 h1 p⟩
theorem norm_okV (a : LV) : okV (Xo a) := (normOf_nf a).ok
def orZero (x : LV) : LV := if x = [] then [(0, 0)] else x
def levOf (bys : List LV) (v : Int) : LV := if 0 < v /\ v <= bys.length then Xo (bys.getD (v - 1).toNat []) else []
def xsP (bys : List LV) (p : Int × Int) : LV := orZero (levOf bys p.1)
theorem orZero_mem {x : LV} {q : Int × Int} (h : q ∈ orZero x) : q = (0, 0) \/ q ∈ x := by
 unfold orZero at h
 split at h
 ·left; simpa using h
 ·exact .inr h
def addP (n : Int) (q : Int × Int) : Int × Int := (q.1, q.2 + n)
def rowP (bys : List LV) (p : Int × Int) : LV := (xsP bys p).map (addP p.2)
def putL (l : LV) (bys : List LV) : LV := ((Xo l).map (rowP bys)).flatten
theorem levOf_mem {bys : List LV} {v : Int} {q : Int × Int} (h : q ∈ levOf bys v) : ∃ l, l ∈ bys /\ q ∈ Xo l := by
 unfold levOf at h
 split at h
 ·rename_i hv
  refine ⟨_, ?_, h⟩
  rw [List.getD_eq_getElem?_getD, List.getElem?_eq_getElem (by omega)]
  exact List.getElem_mem _
 ·cases h
theorem xsP_ok (bys : List LV) (p : Int × Int) : okV (xsP bys p) := fun q hq => by
 rcases orZero_mem hq with rfl | hq
 ·rfl
 ·obtain ⟨l, -, h⟩ := levOf_mem hq
  exact norm_okV _ q h
end Go.Proofs.YtgloldepdhgfaaaGreatDoor
namespace Go.Proofs.YtgloldepdhgfaaaGreatDoor
set_option linter.unusedSimpArgs false
set_option linter.unusedVariables false
set_option maxHeartbeats 10000000
set_option maxRecDepth 20000
open Go.RowKit
attribute [local simp] Qb Qc Xd Xm opD Qp Ql Qi Qk hOf Wz Xn Xk TK.isAgg TK.known Xf Xe Wt Qr D.ofV inB Wm Xc binX binD binE Xl bndD capB IntKind.min IntKind.max IntKind.signed IntKind.bits Wx late
theorem sameParts_spec (a b : LV) (ha : a.length <= Wd) (hb : b.length <= Wd) : Qt Tryz.prog glob 83 [.slice (a.map Xq) .any, .slice (b.map Xq) .any] [] (fun o _ => o.fgt = .ret (.bool (decide (a = b)))) := by
 unfold Wd at ha hb
 refine Qt.movd Qe (Qq Wb Tryz.func83 rfl (Qy _ _ Tryz.func83 rfl (by decide)) rfl rfl ?_)
 (refine sR fun K hK => ?_; ((repeat (rw [Qa]; simp)); (try simp only [zs])); refine hK _ _ _ ?_; clear hK K)
 refine Qf fun K1 hK1 => ?_
 (refine sR fun K hK => ?_; ((repeat (rw [Qa]; simp)); (try simp only [zs])); refine hK _ _ _ ?_; clear hK K)
 refine wpD_part rfl (fun h => ?_) (fun h => ?_)
 ·(refine sR fun K hK => ?_; ((repeat (rw [Qa]; simp)); (try simp only [zs])); refine hK _ _ _ ?_; clear hK K)
  (refine Qj ?_; (try simp only [zs]); refine Wc.ret rfl (.inl ?_); simp [Qp, Out.fgt, D.fgt, D.fgts])
  have h : ¬ (a.length : Int) = b.length := by simpa using h
  intro e
  exact h (by rw [e])
 ·replace h : a.length = b.length := by
   have h : (a.length : Int) = b.length := by simpa using h
   omega
  refine Qs (hK1 _ _ _ ?_)
  clear hK1 K1
  refine Qf fun K1 hK1 => ?_
  (refine sR fun K hK => ?_; ((repeat (rw [Qa]; simp)); (try simp only [zs])); refine hK _ _ _ ?_; clear hK K)
  refine Xh ?_
  refine wpD_loopW [4, 5, 11, 12, 13, 14, 15, 16, 17, 18, 19, 20, 21, 22, 23, 24, 25] (fun n ys hl => ∃ (k : Nat) (x4 x11 x12 x13 x14 x15 x16 x17 x18 x19 x20 x21 x22 x23 x24 x25 : D), ys = [x4, .int .i64 k, x11, x12, x13, x14, x15, x16, x17, x18, x19, x20, x21, x22, x23, x24, x25] /\ n + k = a.length /\ a.take k = b.take k /\ hl = []) (a.length) (by kernel_rfl) ?_ ?_
  ·exact ⟨0, _, _, _, _, _, _, _, _, _, _, _, _, _, _, _, _, rfl, rfl, by simp, rfl⟩
  ·rintro n ys hl A hA ⟨k, x4, x11, x12, x13, x14, x15, x16, x17, x18, x19, x20, x21, x22, x23, x24, x25, rfl, hk, he, rfl⟩
   simp only [Qr, List.set]
   refine Qf fun K2 hK2 => ?_
   (refine sR fun K hK => ?_; ((repeat (rw [Qa]; simp)); (try simp only [zs])); refine hK _ _ _ ?_; clear hK K)
   refine wpD_part rfl (fun hka => ?_) (fun hka => ?_)
   ·replace hka : k < a.length := by simpa using hka
    have hkb : k < b.length := by omega
    refine Qs (hK2 _ _ _ ?_)
    clear hK2 K2
    refine Qf fun K3 hK3 => ?_
    refine Xh ?_
    (refine Qf fun K hK => ?_; refine dR fun KT hKT => ?_; ((repeat (rw [Qh]; simp [hka, hkb, Xq])); (try simp only [Qm])))
    (refine hKT _ _ _ _ (by kernel_rfl) ?_; clear hKT KT; (try simp only [zs]))
    (refine hK _ _ _ ?_; clear hK K)
    refine wpD_part rfl (fun hb => ?_) (fun hb => ?_)
    ·(refine sR fun K hK => ?_; ((repeat (rw [Qa]; simp)); (try simp only [zs])); refine hK _ _ _ ?_; clear hK K)
     (refine Qj ?_; (try simp only [zs]); refine Wc.ret rfl (.inl ?_); simp [Qp, Out.fgt, D.fgt, D.fgts])
     intro e
     subst e
     simp at hb
    ·refine Qs (hK3 _ _ _ ?_)
     clear hK3 K3
     have hw1 : IntKind.i64.wrap ((k : Int) + 1) = (k : Int) + 1 := i64w (by omega) (by omega)
     (refine Qz Wb ?_; ((repeat (rw [Qa]; simp [hw1])); (try simp only [zs])))
     refine hA (n - 1) _ _ (by omega) (by kernel_rfl) ?_
     refine ⟨k + 1, _, _, _, _, _, _, _, _, _, _, _, _, _, _, _, _, rfl, by omega, ?_, rfl⟩
     rw [List.take_succ_eq_append_getElem hka, List.take_succ_eq_append_getElem hkb, he]
     have hb : a[k] = b[k] := by
      have hb' : a[k].1 = b[k].1 /\ a[k].2 = b[k].2 := by simpa using hb
      exact Prod.ext hb'.1 hb'.2
     rw [hb]
   ·replace hka : ¬ k < a.length := by simpa using hka
    refine wpD_exit ?_
    refine hK1 _ _ _ ?_
    (refine sR fun K hK => ?_; ((repeat (rw [Qa]; simp)); (try simp only [zs])); refine hK _ _ _ ?_; clear hK K)
    (refine Qj ?_; (try simp only [zs]); refine Wc.ret rfl (.inl ?_); simp [Qp, Out.fgt, D.fgt, D.fgts])
    rw [List.take_of_length_le (by omega), List.take_of_length_le (by omega)] at he
    exact he
theorem sameLevel_spec (a b : LV) (ha : a.length <= Wd) (hb : b.length <= Wd) : Qt Tryz.prog glob 35 [Wp a, Wp b] [] (fun o _ => o.fgt = .ret (.bool (decide (a = b)))) := by
 refine Qt.movd Qe (Qq Wb Tryz.func35 rfl (Qy _ _ Tryz.func35 rfl (by decide)) rfl rfl ?_)
 unfold Wp
 (refine sR fun K hK => ?_; ((repeat (rw [Qa]; simp)); (try simp only [zs])); refine hK _ _ _ ?_; clear hK K)
 (refine sR fun K hK => ?_; ((repeat (rw [Qa]; simp)); (try simp only [zs])))
 refine cXp (sameParts_spec a b ha hb) ?_
 ((try simp only [Qb, Qc, Ql, Qi, Qk]); (repeat (rw [Qa]; simp)); (try simp only [zs]))
 (refine hK _ _ _ ?_; clear hK K)
 (refine Qj ?_; (try simp only [zs]); refine Wc.ret rfl (.inl ?_); simp [Qp, Out.fgt, D.fgt, D.fgts])
set_option maxHeartbeats 20000000 in
theorem put1_spec (l : LV) (bys : List LV) (hl : l.length <= Wd) (hbl : bys.length <= Wd) (hbys : ∀ x, x ∈ bys -> x.length <= Wd) : Qt Tryz.prog glob 229 [.agg [.map 0], .ref (Wp l), .ref (Lvs bys)] [.mp []] (PutsM (putsOf (putL l bys) [])) := by
 have hsp0 := norm_spec l hl
 have hnf := normOf_nf l
 have hnl := normOf_len l
 unfold putL
 generalize Xo l = N at hsp0 hnf hnl
 have hNl : N.length <= Wd := by unfold Wd; omega
 obtain ⟨rs, hrs⟩ : ∃ rs, rs = N.map (rowP bys) := ⟨_, rfl⟩
 rw [<- hrs]
 have hrl : rs.length = N.length := by rw [hrs, List.length_map]
 obtain ⟨L, hL⟩ : ∃ L, L = rs.flatten := ⟨_, rfl⟩
 rw [<- hL]
 unfold Wd at hbl
 refine Qt.movd Qe (Qq Wb Tryz.func229 rfl (Qy _ _ Tryz.func229 rfl (by decide)) rfl rfl ?_)
 unfold Wp Lvs
 (refine sR fun K hK => ?_; ((repeat (rw [Qa]; simp)); (try simp only [zs])); refine hK _ _ _ ?_; clear hK K)
 unfold Wp at hsp0
 (refine sR fun K hK => ?_; ((repeat (rw [Qa]; simp)); (try simp only [zs])))
 refine Xi.pure Qe (hsp0) ?_ (by simp [D.fgts, D.fgt, encP_pure]) (by simp [D.pures, D.pure, Cp.free, D.pures_map, encP_pure]) (by simp [Out.pure, D.pure, D.pures, Cp.free, D.pures_map, encP_pure])
 ((try simp only [Qb, Qc, Ql, Qi, Qk]); (repeat (rw [Qa]; simp)); (try simp only [zs]))
 (refine hK _ _ _ ?_; clear hK K)
 refine wpD_range Wb Qe (ti := 3) (tk := 13) (tn := 12) (td := 14) (ts := 62) [5, 6, 8, 13, 14, 15, 16, 17, 18, 19, 20, 21, 22, 23, 24, 25, 26, 27, 28, 29, 30, 31, 32, 33, 34, 35, 36, 37, 38, 39, 40, 41, 42, 43, 44, 45, 46, 47, 48, 49, 50, 51, 52, 53, 54, 55, 56, 57, 58, 59, 60, 61, 62] (N.length) (fun k ys hl => ∃ (m' : MP) (x5 x6 x8 x13 x14 x15 x16 x17 x18 x19 x20 x21 x22 x23 x24 x25 x26 x27 x28 x29 x30 x31 x32 x33 x34 x35 x36 x37 x38 x39 x40 x41 x42 x43 x44 x45 x46 x47 x48 x49 x50 x51 x52 x53 x54 x55 x56 x57 x58 x59 x60 x61 x62 : D), ys = [x5, x6, x8, x13, x14, x15, x16, x17, x18, x19, x20, x21, x22, x23, x24, x25, x26, x27, x28, x29, x30, x31, x32, x33, x34, x35, x36, x37, x38, x39, x40, x41, x42, x43, x44, x45, x46, x47, x48, x49, x50, x51, x52, x53, x54, x55, x56, x57, x58, x59, x60, x61, x62] /\ Xj L = Xj (rs.drop k).flatten /\ (rs.drop k).flatten.foldl putM m' = L.foldl putM [] /\ MOK m' /\ hl = [.mp (encM m'), .cells 206 [.map 0]]) rfl rfl rfl rfl rfl rfl rfl rfl rfl rfl rfl rfl (by simp) (by decide) rfl (by first | assumption | omega | (unfold Wd; omega)) rfl (by kernel_rfl) (by decide) ?_ ?_ ?_
 ·exact ⟨[], _, _, _, _, _, _, _, _, _, _, _, _, _, _, _, _, _, _, _, _, _, _, _, _, _, _, _, _, _, _, _, _, _, _, _, _, _, _, _, _, _, _, _, _, _, _, _, _, _, _, _, _, _, rfl, by rw [hL]; rfl, by rw [hL]; rfl, MOK.nil, rfl⟩
 rotate_left
 ·rintro ys hl ⟨m', x5, x6, x8, x13, x14, x15, x16, x17, x18, x19, x20, x21, x22, x23, x24, x25, x26, x27, x28, x29, x30, x31, x32, x33, x34, x35, x36, x37, x38, x39, x40, x41, x42, x43, x44, x45, x46, x47, x48, x49, x50, x51, x52, x53, x54, x55, x56, x57, x58, x59, x60, x61, x62, rfl, hb, hf, hml, rfl⟩
  simp only [Qr, List.set]
  rw [show N.length = rs.length from hrl.symm, List.drop_length] at hb hf
  ((try simp only [zs]); refine Wc.nrm rfl (.inr ⟨[], by decide, by simp, ?_⟩); simp [Out.mov, Wk, Wl, Wr, D.mov, HO.mov, okM, Wn, Wg, zz, okA, Qx, Qu, hOf, Qg, Qp, Out.fgt, D.fgt, D.fgts])
  have hall : Xj L = false := hb
  simp [PutsM, putsOf, hall, Out.fgt, D.fgt, D.fgts]
  rw [<- hf]; rfl
 ·rintro k ys hl A hk ⟨m', x5, x6, x8, x13, x14, x15, x16, x17, x18, x19, x20, x21, x22, x23, x24, x25, x26, x27, x28, x29, x30, x31, x32, x33, x34, x35, x36, x37, x38, x39, x40, x41, x42, x43, x44, x45, x46, x47, x48, x49, x50, x51, x52, x53, x54, x55, x56, x57, x58, x59, x60, x61, x62, rfl, hb, hf, hml, rfl⟩ hA hA2
  simp only [Qr, List.set]
  have hkr : k < rs.length := by omega
  have hd : rs.drop k = rs[k] :: rs.drop (k + 1) := List.drop_eq_getElem_cons hkr
  obtain ⟨p, hp⟩ : ∃ p, p = N[k] := ⟨_, rfl⟩
  have hgp : N[k] = p := hp.symm
  have hrk : rs[k] = (xsP bys p).map (addP p.2) := by
   have : rs[k] = rowP bys N[k] := by simp [hrs]
   rw [this, hgp]; rfl
  rw [hd, List.flatten_cons, hrk] at hb hf
  have hpb := badP_nn (hnf.ok N[k] (List.getElem_mem hk))
  rw [hgp] at hpb
  have hXok := xsP_ok bys p
  have hXe : xsP bys p = orZero (levOf bys p.1) := rfl
  have hlv : levOf bys p.1 = (if 0 < p.1 /\ p.1 <= bys.length then Xo (bys.getD (p.1 - 1).toNat []) else []) := rfl
  generalize xsP bys p = X at hb hf hXok hXe
  have hXl : ∀ n, X.length <= n -> n <= Wd -> X.length <= Wd := fun n h1 h2 => Nat.le_trans h1 h2
  (refine sR fun K hK => ?_; ((repeat (rw [Qa]; simp [hk, hgp, Xq])); (try simp only [zs])); refine hK _ _ _ ?_; clear hK K)
  (refine sR fun K hK => ?_; ((repeat (rw [Qa]; simp)); (try simp only [zs])); refine hK _ _ _ ?_; clear hK K)
  refine Qf fun K2 hK2 => ?_
  by_cases h1 : 0 < p.1
  ·by_cases h2 : p.1 <= bys.length
   ·obtain ⟨j0, hj0⟩ : ∃ j0 : Nat, p.1 - 1 = j0 := ⟨(p.1 - 1).toNat, by omega⟩
    have hjl : j0 < bys.length := by omega
    have hw0 : IntKind.i64.wrap (p.1 - 1) = (j0 : Int) := by rw [i64w (by omega) (by omega)]; exact hj0
    have hgd : bys.getD (p.1 - 1).toNat [] = bys[j0] := by rw [hj0]; simp [List.getD_eq_getElem?_getD, hjl]
    rw [if_pos ⟨h1, h2⟩, hgd] at hlv
    rw [hlv] at hXe
    unfold orZero at hXe
    have hspj := norm_spec bys[j0] (hbys _ (List.getElem_mem hjl))
    have hYl := normOf_lmax bys[j0]
    unfold Wp at hspj
    generalize Xo bys[j0] = Y at hXe hspj hYl
    (refine sR fun K hK => ?_; ((repeat (rw [Qa]; simp [h1, h2])); (try simp only [zs])); refine hK _ _ _ ?_; clear hK K)
    refine pT rfl ?_
    (refine Qz Wb ?_; ((repeat (rw [Qa]; simp [hw0, hjl, Wp])); (try simp only [zs])))
    refine Xi.pure Qe (hspj) ?_ (by simp [D.fgts, D.fgt, encP_pure]) (by simp [D.pures, D.pure, Cp.free, D.pures_map, encP_pure]) (by simp [Out.pure, D.pure, D.pures, Cp.free, D.pures_map, encP_pure])
    ((try simp only [Qb, Qc, Ql, Qi, Qk]); (repeat (rw [Qa]; simp)); (try simp only [zs]))
    refine hK2 _ _ _ ?_
    clear hK2 K2
    refine Qf fun K2 hK2 => ?_
    by_cases hY : Y = []
    ·rw [if_pos hY] at hXe
     subst hY
     have hXL : X.length <= Wd := by rw [hXe]; simp [Wd]
     (refine sR fun K hK => ?_; ((repeat (rw [Qa]; simp)); (try simp only [zs])); refine hK _ _ _ ?_; clear hK K)
     refine pT rfl ?_
     (refine Qz Wb ?_; ((repeat (rw [Qa]; simp)); (try simp only [zs])))
     refine hK2 _ _ _ ?_
     clear hK2 K2
     have hXm : [D.agg [.int .i64 0, .int .i64 0]] = X.map Xq := by rw [hXe]; rfl
     rw [hXm]
     have hX1 : (1 : Int) = X.length := by rw [hXe]; rfl
     clear hXe hXm
     (refine sR fun K hK => ?_; ((repeat (rw [Qa]; simp)); (try simp only [zs])); refine hK _ _ _ ?_; clear hK K)
     obtain ⟨rest, hrest⟩ : ∃ rest, rest = (rs.drop (k + 1)).flatten := ⟨_, rfl⟩
     rw [<- hrest] at hb hf
     refine wpD_range Wb Qe (ti := 3) (tk := 45) (tn := 44) (td := 46) (ts := 61) [8, 45, 46, 47, 48, 49, 50, 51, 52, 53, 54, 55, 56, 57, 58, 59, 60, 61, 62] (X.length) (fun k ys hl => ∃ (m2 : MP) (x8 x45 x46 x47 x48 x49 x50 x51 x52 x53 x54 x55 x56 x57 x58 x59 x60 x61 x62 : D), ys = [x8, x45, x46, x47, x48, x49, x50, x51, x52, x53, x54, x55, x56, x57, x58, x59, x60, x61, x62] /\ Xj L = Xj ((X.drop k).map (addP p.2) ++ rest) /\ ((X.drop k).map (addP p.2) ++ rest).foldl putM m2 = L.foldl putM [] /\ MOK m2 /\ hl = [.mp (encM m2), .cells 206 [.map 0], .cells 157 [.int .i64 p.1, .int .i64 p.2], .cells 53 [.slice (X.map Xq) .full]]) rfl rfl rfl rfl rfl rfl rfl rfl rfl rfl rfl rfl (by simp) (by decide) rfl (by first | assumption | omega | (unfold Wd; omega)) rfl (by kernel_rfl) (by decide) ?_ ?_ ?_
     ·exact ⟨m', _, _, _, _, _, _, _, _, _, _, _, _, _, _, _, _, _, _, _, rfl, hb, hf, hml, rfl⟩
     ·rintro j zs hl2 B hj ⟨m2, x8, x45, x46, x47, x48, x49, x50, x51, x52, x53, x54, x55, x56, x57, x58, x59, x60, x61, x62, rfl, hb2, hf2, hml2, rfl⟩ hB hB2
      simp only [Qr, List.set]
      have hd2 : X.drop j = X[j] :: X.drop (j + 1) := List.drop_eq_getElem_cons hj
      have hqb := badP_nn (hXok X[j] (List.getElem_mem hj))
      rw [hd2, List.map_cons, List.cons_append] at hb2 hf2
      obtain ⟨q, hq⟩ : ∃ q, q = X[j] := ⟨_, rfl⟩
      have hge : X[j] = q := hq.symm
      rw [hge] at hb2 hf2 hqb
      have hw1 : IntKind.i64.wrap (q.2 + p.2) = q.2 + p.2 := i64w (by omega) (by omega)
      have hsp := rowPut_spec [(q.1, q.2 + p.2)] m2 (by simp [Wd]) hml2
      have hone : [(q.1, q.2 + p.2)].foldl putM m2 = putM m2 (addP p.2 q) := rfl
      rw [hone] at hsp
      have hbad1 : Xj [(q.1, q.2 + p.2)] = badP (addP p.2 q) := by simp [Xj, addP]
      rw [hbad1] at hsp
      (refine sR fun K hK => ?_; ((repeat (rw [Qa]; simp [hj, hge, Xq])); (try simp only [zs])); refine hK _ _ _ ?_; clear hK K)
      (refine Qz Wb ?_; ((repeat (rw [Qa]; simp [hw1])); (try simp only [zs])))
      refine Xi.objs Qe [0] true hsp ?_ ?_ (by decide) (by simp) (by simp [zz, okA, Qx, Qu, hOf, Qg]) (by simp [zz, okA, Qx, Qu, hOf, Qg]) (by simp [zz, okA, Qx, Qu, hOf, Qg, Ps, Xq]) (by simp [zz, okA, Qx, Qu, hOf, Qg])
      ·cases hbad : badP (addP p.2 q) with
       | true =>
        simp only [if_true]
        rintro o hc ⟨rfl, m3, rfl⟩
        refine ⟨false, ?_⟩
        unfold noneD
        simp [zz, okA, Qx, Qu, hOf, Qg, Out.ren, told, Out.fgt, upO, Qi, Qk]
        ((try simp only [Qb, Qc, Ql, Qi, Qk]); (repeat (rw [Qa]; simp)); (try simp only [zs]))
        ((try simp only [zs]); refine Wc.pan (.inr ⟨[], by decide, by simp, ?_⟩); simp [Out.mov, Wk, Wl, Wr, D.mov, HO.mov, okM, Wn, Wg, zz, okA, Qx, Qu, hOf, Qg, Qp, Out.fgt, D.fgt, D.fgts])
        have hall : Xj L = true := by rw [hb2]; unfold Xj; rw [List.any_cons, hbad]; rfl
        simp [PutsM, putsOf, hall, noneD]
        exact ⟨m3, rfl⟩
       | false =>
        simp only [if_false, Bool.false_eq_true]
        rintro o hc ⟨ho, rfl⟩
        refine ⟨true, ?_⟩
        rw [show told true o = _ from ho]
        clear ho
        simp [zz, okA, Qx, Qu, hOf, Qg, Out.ren, told, Out.fgt, upO, Qi, Qk]
        ((try simp only [Qb, Qc, Ql, Qi, Qk]); (repeat (rw [Qa]; simp)); (try simp only [zs]))
        (refine hB2 ([1, 2, 3]) _ _ (by decide) (by simp) (by simp [Wk, Wl, Wr, D.mov, HO.mov, okM, Wn, Wg, zz, okA, Qx, Qu, hOf, Qg, Qr]) ?_ rfl; simp [Wk, Wl, Wr, D.mov, HO.mov, okM, Wn, Wg, zz, okA, Qx, Qu, hOf, Qg])
        refine ⟨by rw [hb2]; unfold Xj; rw [List.any_cons, hbad, Bool.false_or, List.map_drop], _, ?_, ?_, rfl⟩
        ·rw [<- hf2, List.foldl_cons, List.foldl_append, List.map_drop]
        ·exact putM_ok hml2 hbad
      ·intro o hc h
       split at h
       ·obtain ⟨-, m3, rfl⟩ := h; simp
       ·obtain ⟨-, rfl⟩ := h; simp
     ·rintro zs hl2 ⟨m2, x8, x45, x46, x47, x48, x49, x50, x51, x52, x53, x54, x55, x56, x57, x58, x59, x60, x61, x62, rfl, hb2, hf2, hml2, rfl⟩
      simp only [Qr, List.set]
      rw [List.drop_length, List.map_nil, List.nil_append] at hb2 hf2
      (refine hA2 ([1]) _ _ (by decide) (by simp) (by simp [Wk, Wl, Wr, D.mov, HO.mov, okM, Wn, Wg, zz, okA, Qx, Qu, hOf, Qg, Qr]) ?_ rfl; simp [Wk, Wl, Wr, D.mov, HO.mov, okM, Wn, Wg, zz, okA, Qx, Qu, hOf, Qg])
      exact ⟨by rw [hb2, hrest], m2, by rw [<- hf2, hrest], hml2, rfl⟩
    ·rw [if_neg hY] at hXe
     subst hXe
     have hXL := hYl
     have hY0 : ¬ (X.length : Int) = 0 := by
      have : X.length ≠ 0 := fun h => hY (List.eq_nil_of_length_eq_zero h)
      omega
     (refine sR fun K hK => ?_; ((repeat (rw [Qa]; simp [hY, hY0])); (try simp only [zs])); refine hK _ _ _ ?_; clear hK K)
     refine pF rfl ?_
     refine Qs (hK2 _ _ _ ?_)
     clear hK2 K2
     (refine sR fun K hK => ?_; ((repeat (rw [Qa]; simp)); (try simp only [zs])); refine hK _ _ _ ?_; clear hK K)
     obtain ⟨rest, hrest⟩ : ∃ rest, rest = (rs.drop (k + 1)).flatten := ⟨_, rfl⟩
     rw [<- hrest] at hb hf
     refine wpD_range Wb Qe (ti := 3) (tk := 45) (tn := 44) (td := 46) (ts := 61) [8, 39, 40, 41, 45, 46, 47, 48, 49, 50, 51, 52, 53, 54, 55, 56, 57, 58, 59, 60, 61, 62] (X.length) (fun k ys hl => ∃ (m2 : MP) (x8 x39 x40 x41 x45 x46 x47 x48 x49 x50 x51 x52 x53 x54 x55 x56 x57 x58 x59 x60 x61 x62 : D), ys = [x8, x39, x40, x41, x45, x46, x47, x48, x49, x50, x51, x52, x53, x54, x55, x56, x57, x58, x59, x60, x61, x62] /\ Xj L = Xj ((X.drop k).map (addP p.2) ++ rest) /\ ((X.drop k).map (addP p.2) ++ rest).foldl putM m2 = L.foldl putM [] /\ MOK m2 /\ hl = [.mp (encM m2), .cells 206 [.map 0], .cells 157 [.int .i64 p.1, .int .i64 p.2], .cells 53 [.slice (X.map Xq) .any]]) rfl rfl rfl rfl rfl rfl rfl rfl rfl rfl rfl rfl (by simp) (by decide) rfl (by first | assumption | omega | (unfold Wd; omega)) rfl (by kernel_rfl) (by decide) ?_ ?_ ?_
     ·exact ⟨m', _, _, _, _, _, _, _, _, _, _, _, _, _, _, _, _, _, _, _, _, _, _, rfl, hb, hf, hml, rfl⟩
     ·rintro j zs hl2 B hj ⟨m2, x8, x39, x40, x41, x45, x46, x47, x48, x49, x50, x51, x52, x53, x54, x55, x56, x57, x58, x59, x60, x61, x62, rfl, hb2, hf2, hml2, rfl⟩ hB hB2
      simp only [Qr, List.set]
      have hd2 : X.drop j = X[j] :: X.drop (j + 1) := List.drop_eq_getElem_cons hj
      have hqb := badP_nn (hXok X[j] (List.getElem_mem hj))
      rw [hd2, List.map_cons, List.cons_append] at hb2 hf2
      obtain ⟨q, hq⟩ : ∃ q, q = X[j] := ⟨_, rfl⟩
      have hge : X[j] = q := hq.symm
      rw [hge] at hb2 hf2 hqb
      have hw1 : IntKind.i64.wrap (q.2 + p.2) = q.2 + p.2 := i64w (by omega) (by omega)
      have hsp := rowPut_spec [(q.1, q.2 + p.2)] m2 (by simp [Wd]) hml2
      have hone : [(q.1, q.2 + p.2)].foldl putM m2 = putM m2 (addP p.2 q) := rfl
      rw [hone] at hsp
      have hbad1 : Xj [(q.1, q.2 + p.2)] = badP (addP p.2 q) := by simp [Xj, addP]
      rw [hbad1] at hsp
      (refine sR fun K hK => ?_; ((repeat (rw [Qa]; simp [hj, hge, Xq])); (try simp only [zs])); refine hK _ _ _ ?_; clear hK K)
      (refine Qz Wb ?_; ((repeat (rw [Qa]; simp [hw1])); (try simp only [zs])))
      refine Xi.objs Qe [0] true hsp ?_ ?_ (by decide) (by simp) (by simp [zz, okA, Qx, Qu, hOf, Qg]) (by simp [zz, okA, Qx, Qu, hOf, Qg]) (by simp [zz, okA, Qx, Qu, hOf, Qg, Ps, Xq]) (by simp [zz, okA, Qx, Qu, hOf, Qg])
      ·cases hbad : badP (addP p.2 q) with
       | true =>
        simp only [if_true]
        rintro o hc ⟨rfl, m3, rfl⟩
        refine ⟨false, ?_⟩
        unfold noneD
        simp [zz, okA, Qx, Qu, hOf, Qg, Out.ren, told, Out.fgt, upO, Qi, Qk]
        ((try simp only [Qb, Qc, Ql, Qi, Qk]); (repeat (rw [Qa]; simp)); (try simp only [zs]))
        ((try simp only [zs]); refine Wc.pan (.inr ⟨[], by decide, by simp, ?_⟩); simp [Out.mov, Wk, Wl, Wr, D.mov, HO.mov, okM, Wn, Wg, zz, okA, Qx, Qu, hOf, Qg, Qp, Out.fgt, D.fgt, D.fgts])
        have hall : Xj L = true := by rw [hb2]; unfold Xj; rw [List.any_cons, hbad]; rfl
        simp [PutsM, putsOf, hall, noneD]
        exact ⟨m3, rfl⟩
       | false =>
        simp only [if_false, Bool.false_eq_true]
        rintro o hc ⟨ho, rfl⟩
        refine ⟨true, ?_⟩
        rw [show told true o = _ from ho]
        clear ho
        simp [zz, okA, Qx, Qu, hOf, Qg, Out.ren, told, Out.fgt, upO, Qi, Qk]
        ((try simp only [Qb, Qc, Ql, Qi, Qk]); (repeat (rw [Qa]; simp)); (try simp only [zs]))
        (refine hB2 ([1, 2, 3]) _ _ (by decide) (by simp) (by simp [Wk, Wl, Wr, D.mov, HO.mov, okM, Wn, Wg, zz, okA, Qx, Qu, hOf, Qg, Qr]) ?_ rfl; simp [Wk, Wl, Wr, D.mov, HO.mov, okM, Wn, Wg, zz, okA, Qx, Qu, hOf, Qg])
        refine ⟨by rw [hb2]; unfold Xj; rw [List.any_cons, hbad, Bool.false_or, List.map_drop], _, ?_, ?_, rfl⟩
        ·rw [<- hf2, List.foldl_cons, List.foldl_append, List.map_drop]
        ·exact putM_ok hml2 hbad
      ·intro o hc h
       split at h
       ·obtain ⟨-, m3, rfl⟩ := h; simp
       ·obtain ⟨-, rfl⟩ := h; simp
     ·rintro zs hl2 ⟨m2, x8, x39, x40, x41, x45, x46, x47, x48, x49, x50, x51, x52, x53, x54, x55, x56, x57, x58, x59, x60, x61, x62, rfl, hb2, hf2, hml2, rfl⟩
      simp only [Qr, List.set]
      rw [List.drop_length, List.map_nil, List.nil_append] at hb2 hf2
      (refine hA2 ([1]) _ _ (by decide) (by simp) (by simp [Wk, Wl, Wr, D.mov, HO.mov, okM, Wn, Wg, zz, okA, Qx, Qu, hOf, Qg, Qr]) ?_ rfl; simp [Wk, Wl, Wr, D.mov, HO.mov, okM, Wn, Wg, zz, okA, Qx, Qu, hOf, Qg])
      exact ⟨by rw [hb2, hrest], m2, by rw [<- hf2, hrest], hml2, rfl⟩
   ·have hXe : X = [(0, 0)] := by
     rw [if_neg (fun h => h2 h.2)] at hlv
     rw [hXe, hlv]; rfl
    have hXL : X.length <= Wd := by rw [hXe]; simp [Wd]
    (refine sR fun K hK => ?_; ((repeat (rw [Qa]; simp [h1, h2])); (try simp only [zs])); refine hK _ _ _ ?_; clear hK K)
    refine pF rfl ?_
    refine Qs (hK2 _ _ _ ?_)
    clear hK2 K2
    refine Qf fun K2 hK2 => ?_
    (refine sR fun K hK => ?_; ((repeat (rw [Qa]; simp)); (try simp only [zs])); refine hK _ _ _ ?_; clear hK K)
    refine pT rfl ?_
    (refine Qz Wb ?_; ((repeat (rw [Qa]; simp)); (try simp only [zs])))
    refine hK2 _ _ _ ?_
    clear hK2 K2
    have hXm : [D.agg [.int .i64 0, .int .i64 0]] = X.map Xq := by rw [hXe]; rfl
    rw [hXm]
    have hX1 : (1 : Int) = X.length := by rw [hXe]; rfl
    clear hXe hXm
    (refine sR fun K hK => ?_; ((repeat (rw [Qa]; simp)); (try simp only [zs])); refine hK _ _ _ ?_; clear hK K)
    obtain ⟨rest, hrest⟩ : ∃ rest, rest = (rs.drop (k + 1)).flatten := ⟨_, rfl⟩
    rw [<- hrest] at hb hf
    refine wpD_range Wb Qe (ti := 3) (tk := 45) (tn := 44) (td := 46) (ts := 61) [8, 28, 29, 30, 31, 32, 33, 34, 45, 46, 47, 48, 49, 50, 51, 52, 53, 54, 55, 56, 57, 58, 59, 60, 61, 62] (X.length) (fun k ys hl => ∃ (m2 : MP) (x8 x28 x29 x30 x31 x32 x33 x34 x45 x46 x47 x48 x49 x50 x51 x52 x53 x54 x55 x56 x57 x58 x59 x60 x61 x62 : D), ys = [x8, x28, x29, x30, x31, x32, x33, x34, x45, x46, x47, x48, x49, x50, x51, x52, x53, x54, x55, x56, x57, x58, x59, x60, x61, x62] /\ Xj L = Xj ((X.drop k).map (addP p.2) ++ rest) /\ ((X.drop k).map (addP p.2) ++ rest).foldl putM m2 = L.foldl putM [] /\ MOK m2 /\ hl = [.mp (encM m2), .cells 206 [.map 0], .cells 157 [.int .i64 p.1, .int .i64 p.2], .cells 53 [.slice (X.map Xq) .full]]) rfl rfl rfl rfl rfl rfl rfl rfl rfl rfl rfl rfl (by simp) (by decide) rfl (by first | assumption | omega | (unfold Wd; omega)) rfl (by kernel_rfl) (by decide) ?_ ?_ ?_
    ·exact ⟨m', _, _, _, _, _, _, _, _, _, _, _, _, _, _, _, _, _, _, _, _, _, _, _, _, _, _, rfl, hb, hf, hml, rfl⟩
    ·rintro j zs hl2 B hj ⟨m2, x8, x28, x29, x30, x31, x32, x33, x34, x45, x46, x47, x48, x49, x50, x51, x52, x53, x54, x55, x56, x57, x58, x59, x60, x61, x62, rfl, hb2, hf2, hml2, rfl⟩ hB hB2
     simp only [Qr, List.set]
     have hd2 : X.drop j = X[j] :: X.drop (j + 1) := List.drop_eq_getElem_cons hj
     have hqb := badP_nn (hXok X[j] (List.getElem_mem hj))
     rw [hd2, List.map_cons, List.cons_append] at hb2 hf2
     obtain ⟨q, hq⟩ : ∃ q, q = X[j] := ⟨_, rfl⟩
     have hge : X[j] = q := hq.symm
     rw [hge] at hb2 hf2 hqb
     have hw1 : IntKind.i64.wrap (q.2 + p.2) = q.2 + p.2 := i64w (by omega) (by omega)
     have hsp := rowPut_spec [(q.1, q.2 + p.2)] m2 (by simp [Wd]) hml2
     have hone : [(q.1, q.2 + p.2)].foldl putM m2 = putM m2 (addP p.2 q) := rfl
     rw [hone] at hsp
     have hbad1 : Xj [(q.1, q.2 + p.2)] = badP (addP p.2 q) := by simp [Xj, addP]
     rw [hbad1] at hsp
     (refine sR fun K hK => ?_; ((repeat (rw [Qa]; simp [hj, hge, Xq])); (try simp only [zs])); refine hK _ _ _ ?_; clear hK K)
     (refine Qz Wb ?_; ((repeat (rw [Qa]; simp [hw1])); (try simp only [zs])))
     refine Xi.objs Qe [0] true hsp ?_ ?_ (by decide) (by simp) (by simp [zz, okA, Qx, Qu, hOf, Qg]) (by simp [zz, okA, Qx, Qu, hOf, Qg]) (by simp [zz, okA, Qx, Qu, hOf, Qg, Ps, Xq]) (by simp [zz, okA, Qx, Qu, hOf, Qg])
     ·cases hbad : badP (addP p.2 q) with
      | true =>
       simp only [if_true]
       rintro o hc ⟨rfl, m3, rfl⟩
       refine ⟨false, ?_⟩
       unfold noneD
       simp [zz, okA, Qx, Qu, hOf, Qg, Out.ren, told, Out.fgt, upO, Qi, Qk]
       ((try simp only [Qb, Qc, Ql, Qi, Qk]); (repeat (rw [Qa]; simp)); (try simp only [zs]))
       ((try simp only [zs]); refine Wc.pan (.inr ⟨[], by decide, by simp, ?_⟩); simp [Out.mov, Wk, Wl, Wr, D.mov, HO.mov, okM, Wn, Wg, zz, okA, Qx, Qu, hOf, Qg, Qp, Out.fgt, D.fgt, D.fgts])
       have hall : Xj L = true := by rw [hb2]; unfold Xj; rw [List.any_cons, hbad]; rfl
       simp [PutsM, putsOf, hall, noneD]
       exact ⟨m3, rfl⟩
      | false =>
       simp only [if_false, Bool.false_eq_true]
       rintro o hc ⟨ho, rfl⟩
       refine ⟨true, ?_⟩
       rw [show told true o = _ from ho]
       clear ho
       simp [zz, okA, Qx, Qu, hOf, Qg, Out.ren, told, Out.fgt, upO, Qi, Qk]
       ((try simp only [Qb, Qc, Ql, Qi, Qk]); (repeat (rw [Qa]; simp)); (try simp only [zs]))
       (refine hB2 ([1, 2, 3]) _ _ (by decide) (by simp) (by simp [Wk, Wl, Wr, D.mov, HO.mov, okM, Wn, Wg, zz, okA, Qx, Qu, hOf, Qg, Qr]) ?_ rfl; simp [Wk, Wl, Wr, D.mov, HO.mov, okM, Wn, Wg, zz, okA, Qx, Qu, hOf, Qg])
       refine ⟨by rw [hb2]; unfold Xj; rw [List.any_cons, hbad, Bool.false_or, List.map_drop], _, ?_, ?_, rfl⟩
       ·rw [<- hf2, List.foldl_cons, List.foldl_append, List.map_drop]
       ·exact putM_ok hml2 hbad
     ·intro o hc h
      split at h
      ·obtain ⟨-, m3, rfl⟩ := h; simp
      ·obtain ⟨-, rfl⟩ := h; simp
    ·rintro zs hl2 ⟨m2, x8, x28, x29, x30, x31, x32, x33, x34, x45, x46, x47, x48, x49, x50, x51, x52, x53, x54, x55, x56, x57, x58, x59, x60, x61, x62, rfl, hb2, hf2, hml2, rfl⟩
     simp only [Qr, List.set]
     rw [List.drop_length, List.map_nil, List.nil_append] at hb2 hf2
     (refine hA2 ([1]) _ _ (by decide) (by simp) (by simp [Wk, Wl, Wr, D.mov, HO.mov, okM, Wn, Wg, zz, okA, Qx, Qu, hOf, Qg, Qr]) ?_ rfl; simp [Wk, Wl, Wr, D.mov, HO.mov, okM, Wn, Wg, zz, okA, Qx, Qu, hOf, Qg])
     exact ⟨by rw [hb2, hrest], m2, by rw [<- hf2, hrest], hml2, rfl⟩
  ·have hXe : X = [(0, 0)] := by
    rw [if_neg (fun h => h1 h.1)] at hlv
    rw [hXe, hlv]; rfl
   have hXL : X.length <= Wd := by rw [hXe]; simp [Wd]
   (refine sR fun K hK => ?_; ((repeat (rw [Qa]; simp [h1])); (try simp only [zs])); refine hK _ _ _ ?_; clear hK K)
   refine pF rfl ?_
   refine Qs (hK2 _ _ _ ?_)
   clear hK2 K2
   refine Qf fun K2 hK2 => ?_
   (refine sR fun K hK => ?_; ((repeat (rw [Qa]; simp)); (try simp only [zs])); refine hK _ _ _ ?_; clear hK K)
   refine pT rfl ?_
   (refine Qz Wb ?_; ((repeat (rw [Qa]; simp)); (try simp only [zs])))
   refine hK2 _ _ _ ?_
   clear hK2 K2
   have hXm : [D.agg [.int .i64 0, .int .i64 0]] = X.map Xq := by rw [hXe]; rfl
   rw [hXm]
   have hX1 : (1 : Int) = X.length := by rw [hXe]; rfl
   clear hXe hXm
   (refine sR fun K hK => ?_; ((repeat (rw [Qa]; simp)); (try simp only [zs])); refine hK _ _ _ ?_; clear hK K)
   obtain ⟨rest, hrest⟩ : ∃ rest, rest = (rs.drop (k + 1)).flatten := ⟨_, rfl⟩
   rw [<- hrest] at hb hf
   refine wpD_range Wb Qe (ti := 3) (tk := 45) (tn := 44) (td := 46) (ts := 61) [8, 28, 29, 30, 31, 32, 33, 34, 45, 46, 47, 48, 49, 50, 51, 52, 53, 54, 55, 56, 57, 58, 59, 60, 61, 62] (X.length) (fun k ys hl => ∃ (m2 : MP) (x8 x28 x29 x30 x31 x32 x33 x34 x45 x46 x47 x48 x49 x50 x51 x52 x53 x54 x55 x56 x57 x58 x59 x60 x61 x62 : D), ys = [x8, x28, x29, x30, x31, x32, x33, x34, x45, x46, x47, x48, x49, x50, x51, x52, x53, x54, x55, x56, x57, x58, x59, x60, x61, x62] /\ Xj L = Xj ((X.drop k).map (addP p.2) ++ rest) /\ ((X.drop k).map (addP p.2) ++ rest).foldl putM m2 = L.foldl putM [] /\ MOK m2 /\ hl = [.mp (encM m2), .cells 206 [.map 0], .cells 157 [.int .i64 p.1, .int .i64 p.2], .cells 53 [.slice (X.map Xq) .full]]) rfl rfl rfl rfl rfl rfl rfl rfl rfl rfl rfl rfl (by simp) (by decide) rfl (by first | assumption | omega | (unfold Wd; omega)) rfl (by kernel_rfl) (by decide) ?_ ?_ ?_
   ·exact ⟨m', _, _, _, _, _, _, _, _, _, _, _, _, _, _, _, _, _, _, _, _, _, _, _, _, _, _, rfl, hb, hf, hml, rfl⟩
   ·rintro j zs hl2 B hj ⟨m2, x8, x28, x29, x30, x31, x32, x33, x34, x45, x46, x47, x48, x49, x50, x51, x52, x53, x54, x55, x56, x57, x58, x59, x60, x61, x62, rfl, hb2, hf2, hml2, rfl⟩ hB hB2
    simp only [Qr, List.set]
    have hd2 : X.drop j = X[j] :: X.drop (j + 1) := List.drop_eq_getElem_cons hj
    have hqb := badP_nn (hXok X[j] (List.getElem_mem hj))
    rw [hd2, List.map_cons, List.cons_append] at hb2 hf2
    obtain ⟨q, hq⟩ : ∃ q, q = X[j] := ⟨_, rfl⟩
    have hge : X[j] = q := hq.symm
    rw [hge] at hb2 hf2 hqb
    have hw1 : IntKind.i64.wrap (q.2 + p.2) = q.2 + p.2 := i64w (by omega) (by omega)
    have hsp := rowPut_spec [(q.1, q.2 + p.2)] m2 (by simp [Wd]) hml2
    have hone : [(q.1, q.2 + p.2)].foldl putM m2 = putM m2 (addP p.2 q) := rfl
    rw [hone] at hsp
    have hbad1 : Xj [(q.1, q.2 + p.2)] = badP (addP p.2 q) := by simp [Xj, addP]
    rw [hbad1] at hsp
    (refine sR fun K hK => ?_; ((repeat (rw [Qa]; simp [hj, hge, Xq])); (try simp only [zs])); refine hK _ _ _ ?_; clear hK K)
    (refine Qz Wb ?_; ((repeat (rw [Qa]; simp [hw1])); (try simp only [zs])))
    refine Xi.objs Qe [0] true hsp ?_ ?_ (by decide) (by simp) (by simp [zz, okA, Qx, Qu, hOf, Qg]) (by simp [zz, okA, Qx, Qu, hOf, Qg]) (by simp [zz, okA, Qx, Qu, hOf, Qg, Ps, Xq]) (by simp [zz, okA, Qx, Qu, hOf, Qg])
    ·cases hbad : badP (addP p.2 q) with
     | true =>
      simp only [if_true]
      rintro o hc ⟨rfl, m3, rfl⟩
      refine ⟨false, ?_⟩
      unfold noneD
      simp [zz, okA, Qx, Qu, hOf, Qg, Out.ren, told, Out.fgt, upO, Qi, Qk]
      ((try simp only [Qb, Qc, Ql, Qi, Qk]); (repeat (rw [Qa]; simp)); (try simp only [zs]))
      ((try simp only [zs]); refine Wc.pan (.inr ⟨[], by decide, by simp, ?_⟩); simp [Out.mov, Wk, Wl, Wr, D.mov, HO.mov, okM, Wn, Wg, zz, okA, Qx, Qu, hOf, Qg, Qp, Out.fgt, D.fgt, D.fgts])
      have hall : Xj L = true := by rw [hb2]; unfold Xj; rw [List.any_cons, hbad]; rfl
      simp [PutsM, putsOf, hall, noneD]
      exact ⟨m3, rfl⟩
     | false =>
      simp only [if_false, Bool.false_eq_true]
      rintro o hc ⟨ho, rfl⟩
      refine ⟨true, ?_⟩
      rw [show told true o = _ from ho]
      clear ho
      simp [zz, okA, Qx, Qu, hOf, Qg, Out.ren, told, Out.fgt, upO, Qi, Qk]
      ((try simp only [Qb, Qc, Ql, Qi, Qk]); (repeat (rw [Qa]; simp)); (try simp only [zs]))
      (refine hB2 ([1, 2, 3]) _ _ (by decide) (by simp) (by simp [Wk, Wl, Wr, D.mov, HO.mov, okM, Wn, Wg, zz, okA, Qx, Qu, hOf, Qg, Qr]) ?_ rfl; simp [Wk, Wl, Wr, D.mov, HO.mov, okM, Wn, Wg, zz, okA, Qx, Qu, hOf, Qg])
      refine ⟨by rw [hb2]; unfold Xj; rw [List.any_cons, hbad, Bool.false_or, List.map_drop], _, ?_, ?_, rfl⟩
      ·rw [<- hf2, List.foldl_cons, List.foldl_append, List.map_drop]
      ·exact putM_ok hml2 hbad
    ·intro o hc h
     split at h
     ·obtain ⟨-, m3, rfl⟩ := h; simp
     ·obtain ⟨-, rfl⟩ := h; simp
   ·rintro zs hl2 ⟨m2, x8, x28, x29, x30, x31, x32, x33, x34, x45, x46, x47, x48, x49, x50, x51, x52, x53, x54, x55, x56, x57, x58, x59, x60, x61, x62, rfl, hb2, hf2, hml2, rfl⟩
    simp only [Qr, List.set]
    rw [List.drop_length, List.map_nil, List.nil_append] at hb2 hf2
    (refine hA2 ([1]) _ _ (by decide) (by simp) (by simp [Wk, Wl, Wr, D.mov, HO.mov, okM, Wn, Wg, zz, okA, Qx, Qu, hOf, Qg, Qr]) ?_ rfl; simp [Wk, Wl, Wr, D.mov, HO.mov, okM, Wn, Wg, zz, okA, Qx, Qu, hOf, Qg])
    exact ⟨by rw [hb2, hrest], m2, by rw [<- hf2, hrest], hml2, rfl⟩
theorem putO_spec (l : LV) (bys : List LV) (hl : l.length <= Wd) (hbl : bys.length <= Wd) (hbys : ∀ x, x ∈ bys -> x.length <= Wd) : Qt Tryz.prog glob 215 [Wp l, Lvs bys] [] (OwnL (Xo (putL l bys))) := by
 have hsp1 := put1_spec l bys hl hbl hbys
 have hsp := made_spec 229 [.ref (Wp l), .ref (Lvs bys)] _ rfl (by simp [D.pures, D.pure, Lvs_pure, Wp, encP_pure, Cp.free, D.pures_map]) (fun m hm => puts_ok MOK.nil hm) hsp1
 rw [levR_puts] at hsp
 have hel : Wp l = .agg [.slice (l.map Xq) .any] := rfl
 unfold Lvs at hsp ⊢
 rw [hel] at hsp ⊢
 refine Qt.movd Qe (Qq Wb Tryz.func215 rfl (Qy _ _ Tryz.func215 rfl (by decide)) rfl rfl ?_)
 (refine sR fun K hK => ?_; ((repeat (rw [Qa]; simp)); (try simp only [zs])); refine hK _ _ _ ?_; clear hK K)
 (refine wpD_stay (T := Wa) 0 (ty := 53) (ds := [.slice (l.map Xq) .any]) rfl rfl (by first | exact ⟨rfl, .inr ⟨_, rfl, rfl⟩⟩ | exact ⟨rfl, .inl rfl⟩) ?_; simp [D.frzs, D.frz, HO.frz, dfFrz, refOf, TK.isAgg, FK.isB, FK.isM, FK.isO, D.isLen])
 (refine wpD_stay (T := Wa) 1 (ty := 24) (ds := [.slice (bys.map Wp) .any]) rfl rfl (by first | exact ⟨rfl, .inr ⟨_, rfl, rfl⟩⟩ | exact ⟨rfl, .inl rfl⟩) ?_; simp [D.frzs, D.frz, HO.frz, dfFrz, refOf, TK.isAgg, FK.isB, FK.isM, FK.isO, D.isLen])
 (refine sR fun K hK => ?_; ((repeat (rw [Qa]; simp)); (try simp only [zs])))
 refine Xi.objs Qe [] true hsp ?_ ?_ (by decide) (by simp) (by simp [zz, okA, Qx, Qu, hOf, Qg]) (by simp [zz, okA, Qx, Qu, hOf, Qg]) (by simp [zz, okA, Qx, Qu, hOf, Qg]) (by simp [zz, okA, Qx, Qu, hOf, Qg])
 ·rintro o hc (⟨hn, rfl, rfl⟩ | ⟨rfl, rfl⟩)
  ·refine ⟨false, ?_⟩
   simp [zz, okA, Qx, Qu, hOf, Qg, Out.ren, told, Out.fgt, upO, Qi, Qk]
   ((try simp only [Qb, Qc, Ql, Qi, Qk]); (repeat (rw [Qa]; simp)); (try simp only [zs]))
   (refine hK _ _ _ ?_; clear hK K)
   (refine Qj ?_; (try simp only [zs]); refine Wc.ret rfl (.inr ⟨[], by decide, by simp, ?_⟩); simp [Out.mov, Wk, Wl, Wr, D.mov, HO.mov, okM, Wn, Wg, zz, okA, Qx, Qu, hOf, Qg, Qp, Out.fgt, D.fgt, D.fgts])
   exact .inl ⟨hn, rfl, rfl⟩
  ·refine ⟨false, ?_⟩
   simp [zz, okA, Qx, Qu, hOf, Qg, Out.ren, told, Out.fgt, upO, Qi, Qk]
   ((try simp only [Qb, Qc, Ql, Qi, Qk]); (repeat (rw [Qa]; simp)); (try simp only [zs]))
   (refine hK _ _ _ ?_; clear hK K)
   (refine Qj ?_; (try simp only [zs]); refine Wc.ret rfl (.inr ⟨[3], by decide, by simp, ?_⟩); simp [Out.mov, Wk, Wl, Wr, D.mov, HO.mov, okM, Wn, Wg, zz, okA, Qx, Qu, hOf, Qg, Qp, Out.fgt, D.fgt, D.fgts])
   exact .inr ⟨rfl, rfl⟩
 ·rintro o hc (⟨hn, rfl, rfl⟩ | ⟨rfl, rfl⟩) <;> simp
theorem put_spec (l : LV) (bys : List LV) (hl : l.length <= Wd) (hbl : bys.length <= Wd) (hbys : ∀ x, x ∈ bys -> x.length <= Wd) : Qt Tryz.prog glob 215 [Wp l, Lvs bys] [] (fun o _ => o.fgt = .ret (Wp (Xo (putL l bys)))) := readL (putO_spec l bys hl hbl hbys)
def levTurn (bys : List LV) : Turn := fun _ t => .inr (t.n, t.ls.map fun l => Xo (putL l bys))
def T.levels (t : T) (bys : List LV) (d : Int) : T := T.walk (levTurn bys) t d
def lvT (bys : List LV) (ls : List LV) (j : Nat) : List LV := (ls.take j).map fun l => Xo (putL l bys)
theorem lvT_succ {bys ls : List LV} {j : Nat} (h : j < ls.length) : lvT bys ls (j + 1) = lvT bys ls j ++ [Xo (putL ls[j] bys)] := by
 unfold lvT; rw [List.take_succ_eq_append_getElem h, List.map_append]; rfl
theorem lvT_end {bys ls : List LV} {j : Nat} (h : ls.length <= j) : lvT bys ls j = ls.map fun l => Xo (putL l bys) := by unfold lvT; rw [List.take_of_length_le h]
theorem lvT_len {bys ls : List LV} {j : Nat} (h : j <= ls.length) : (lvT bys ls j).length = j := by unfold lvT; rw [List.length_map, List.length_take]; omega
theorem levels1_spec (bys : List LV) (hb : bys.length <= Wd) (hbo : ∀ b, b ∈ bys -> b.length <= Wd) (d : Int) (t : T) (ht : okT t) : Qt Tryz.prog glob 214 ([walkF d 214 [.ref (Lvs bys)], Qv t] ++ [.ref (Lvs bys)]) [] (fun o _ => o.fgt = .ret (turnOut (levTurn bys) d t)) := by
 obtain ⟨kk, nn, aa, ls, ks⟩ := t
 have hll : ls.length <= Wd := ht.ll
 have hls := ht.ls
 simp only [T.ls_mk] at hls
 unfold turnOut levTurn
 simp only [T.k_mk, T.n_mk, T.a_mk, T.ls_mk, T.ks_mk]
 rw [<- lvT_end (bys := bys) (Nat.le_refl _)]
 have hE : ∀ l, Qv (.mk kk nn aa l ks) = .agg [.int .i64 kk, .int .i64 nn, .int .i64 aa, .slice (l.map Wp) .any, .slice (ks.map Qv) .any] := fun l => Qd _
 simp only [hE]
 unfold walkF Lvs
 refine Qt.movd Qe (Qq Wb Tryz.func214 rfl (Qy _ _ Tryz.func214 rfl (by decide)) rfl rfl ?_)
 simp only [List.cons_append, List.nil_append]
 (refine sR fun K hK => ?_; ((repeat (rw [Qa]; simp)); (try simp only [zs])); refine hK _ _ _ ?_; clear hK K)
 (refine sR fun K hK => ?_; ((repeat (rw [Qa]; simp)); (try simp only [zs])); refine hK _ _ _ ?_; clear hK K)
 (refine sR fun K hK => ?_; ((repeat (rw [Qa]; simp)); (try simp only [zs])); refine hK _ _ _ ?_; clear hK K)
 refine wpD_tokO 1 3 (ty := 27) (ds := [.int .i64 kk, .int .i64 nn, .int .i64 aa, .slice [] .full, .slice (ks.map Qv) .any]) rfl ?_
 simp [D.tokd]
 refine Qf fun K1 hK1 => ?_
 (refine sR fun K hK => ?_; ((repeat (rw [Qa]; simp)); (try simp only [zs])); refine hK _ _ _ ?_; clear hK K)
 refine wpD_rangeJ Wb Qe (ti := 3) (tk := 15) (tn := 14) (td := 16) (ts := 27) [9, 15, 16, 17, 18, 19, 20, 21, 22, 23, 24, 25, 26, 27] [] (ls.length) (fun k ys hl => ys = [] /\ hl = [.cells 143 [.int .i64 d, .fn (.func 214) [] [.ref (.slice (bys.map Wp) .any)]], .cells 27 [.int .i64 kk, .int .i64 nn, .int .i64 aa, .slice ((lvT bys ls k).map Wp) (.tok 3), .slice (ks.map Qv) .any], .cells 27 [.int .i64 0, .int .i64 0, .int .i64 0, .slice [] .full, .slice [] .full], .tok]) rfl rfl rfl rfl rfl rfl rfl rfl rfl rfl rfl rfl (by simp) (by decide) rfl (by first | assumption | omega | (unfold Wd; omega)) rfl (by kernel_rfl) (by decide) ?_ ?_ ?_
 ·exact ⟨rfl, rfl⟩
 ·rintro i ys hl A hi ⟨rfl, rfl⟩ hA hA2
  simp only [Qr, List.set, List.map_cons, List.map_nil, List.cons_append, List.nil_append]
  have hi' : (i : Int) < ls.length := by omega
  have hsn := lvT_succ (bys := bys) hi
  have hln := lvT_len (bys := bys) (Nat.le_of_lt hi)
  have hp := put_spec ls[i] bys (hls _ (List.getElem_mem hi)).1 hb hbo
  unfold Lvs at hp
  obtain ⟨y, hy⟩ : ∃ y, ls[i] = y := ⟨_, rfl⟩
  rw [hy] at hp hsn
  have hel : (lvT bys ls i).length + 1 <= Wd := by omega
  generalize lvT bys ls i = es at hsn hln hel ⊢
  (refine sR fun K hK => ?_; ((repeat (rw [Qa]; simp [hi, hi', hy])); (try simp only [zs])); refine hK _ _ _ ?_; clear hK K)
  (refine dR fun KT hKT => ?_; ((repeat (rw [Qh]; simp [hi, hi', hy])); (try simp only [Qm])))
  refine CallY.pure Qe (hp) ?_ (by simp [D.fgts, D.fgt, Wp]) (by simp [D.pures, D.pure, Cp.free, D.pures_map, Wp]) (by simp [Out.pure, D.pure, D.pures, Cp.free, D.pures_map, Wp])
  ((try simp only [Qn, Qo, Ql, Qi, Qk]); (repeat (rw [Qh]; simp [hel])); (try simp only [Qm]))
  (refine hKT _ _ _ _ (by kernel_rfl) ?_; clear hKT KT; (try simp only [zs]))
  (refine hA2 ([0, 1, 2, 5]) _ _ _ (LeT.refl _) (by decide) (by simp) (by simp [Wk, Wl, Wr, D.mov, HO.mov, okM, Wn, Wg, zz, okA, Qx, Qu, hOf, Qg, Qr]) ?_ rfl; simp [Wk, Wl, Wr, D.mov, HO.mov, okM, Wn, Wg, zz, okA, Qx, Qu, hOf, Qg])
  rw [hsn, show es.map Wp ++ [Wp (Xo (putL y bys))] = (es ++ [Xo (putL y bys)]).map Wp by simp, mapL_ren]
 ·rintro ys hl tl' ⟨rfl, rfl⟩ htl
  refine hK1 _ _ _ (wpD_weakL htl ?_)
  simp only [Qr, List.set, List.map_cons, List.map_nil, List.cons_append, List.nil_append]
  (refine sR fun K hK => ?_; ((repeat (rw [Qa]; simp)); (try simp only [zs])); refine hK _ _ _ ?_; clear hK K)
  (refine Qj ?_; (try simp only [zs]); refine Wc.ret rfl (.inl ?_); simp [Qp, Out.fgt, D.fgt, D.fgts])
theorem levels_spec (t : T) (bys : List LV) (hb : bys.length <= Wd) (hbo : ∀ b, b ∈ bys -> b.length <= Wd) (hd : t.deep <= DM) (ht : okT t) : Qt Tryz.prog glob 193 [Qv t, Lvs bys] [] (fun o _ => o.fgt = .ret (Qv (t.levels bys 0))) := by
 have hw := walkT_spec (levTurn bys) 214 [.ref (Lvs bys)] rfl (by simp [D.pures, D.pure, Lvs_pure]) (fun d t _ => levels1_spec bys hb hbo d t) t 0 ⟨by omega, by omega⟩ ht
 unfold walkF at hw
 rw [show T.walk (levTurn bys) t 0 = t.levels bys 0 from rfl] at hw
 generalize t.levels bys 0 = r at hw ⊢
 rw [Qd t] at hw
 unfold Lvs at hw ⊢
 refine Qt.movd Qe (Qq Wb Tryz.func193 rfl (Qy _ _ Tryz.func193 rfl (by decide)) rfl rfl ?_)
 (refine sR fun K hK => ?_; ((repeat (rw [Qa]; simp)); (try simp only [zs])); refine hK _ _ _ ?_; clear hK K)
 (refine wpD_stay (T := Wa) 1 (ty := 24) (ds := [.slice (bys.map Wp) .any]) rfl rfl (by first | exact ⟨rfl, .inr ⟨_, rfl, rfl⟩⟩ | exact ⟨rfl, .inl rfl⟩) ?_; simp [D.frzs, D.frz, HO.frz, dfFrz, refOf, TK.isAgg, FK.isB, FK.isM, FK.isO, D.isLen])
 (refine sR fun K hK => ?_; ((repeat (rw [Qa]; simp)); (try simp only [zs])))
 refine cXp (hw) ?_
 ((try simp only [Qb, Qc, Ql, Qi, Qk]); (repeat (rw [Qa]; simp)); (try simp only [zs]))
 (refine hK _ _ _ ?_; clear hK K)
 (refine Qj ?_; (try simp only [zs]); refine Wc.ret rfl (.inl ?_); simp [Qp, Out.fgt, D.fgt, D.fgts])
 exact (Qd r).symm
def eqAll {α : Type} (p : α -> α -> Bool) : List α -> List α -> Bool
 | [], [] => true
 | a :: r, b :: s => p a b && eqAll p r s
 | _, _ => false
theorem eqAll_len {α : Type} {p : α -> α -> Bool} : ∀ {l m : List α}, l.length ≠ m.length -> eqAll p l m = false
 | [], [], h => absurd rfl h
 | [], _ :: _, _ => rfl
 | _ :: _, [], _ => rfl
 | a :: r, b :: s, h => by
  rw [eqAll, eqAll_len (l := r) (m := s) (by simpa using h), Bool.and_false]
theorem eqAll_drop {α : Type} {p : α -> α -> Bool} {l m : List α} {k : Nat} (h : k < l.length) (h' : k < m.length) : eqAll p (l.drop k) (m.drop k) = (p l[k] m[k] && eqAll p (l.drop (k + 1)) (m.drop (k + 1))) := by
 rw [List.drop_eq_getElem_cons h, List.drop_eq_getElem_cons h', eqAll]
theorem eqAll_end {α : Type} {p : α -> α -> Bool} {l m : List α} (h : l.length = m.length) : eqAll p (l.drop l.length) (m.drop l.length) = true := by
 rw [List.drop_length, h, List.drop_length]; rfl
theorem equalFuncL_spec (p : LV -> LV -> Bool) (g : FuncId) (l m : List LV) (hl : l.length <= Wd) (hm : m.length <= Wd) (hg : ∀ x y, x ∈ l -> y ∈ m -> Qt Tryz.prog glob g [Wp x, Wp y] [] (fun o _ => o.fgt = .ret (.bool (p x y)))) :
  Qt Tryz.prog glob 53 [.slice (l.map Wp) .any, .slice (m.map Wp) .any, .fn (.func g) [] []] [] (fun o _ => o.fgt = .ret (.bool (eqAll p l m))) := by
 obtain ⟨R, hR⟩ : ∃ R, R = eqAll p l m := ⟨_, rfl⟩
 rw [<- hR]
 refine Qt.movd Qe (Qq Wb Tryz.func53 rfl (Qy _ _ Tryz.func53 rfl (by decide)) rfl rfl ?_)
 (refine sR fun K hK => ?_; ((repeat (rw [Qa]; simp)); (try simp only [zs])); refine hK _ _ _ ?_; clear hK K)
 refine Qf fun K1 hK1 => ?_
 by_cases hlen : l.length = m.length
 ·have hlen' : (l.length : Int) = m.length := by omega
  (refine sR fun K hK => ?_; ((repeat (rw [Qa]; simp [hlen, hlen'])); (try simp only [zs])); refine hK _ _ _ ?_; clear hK K)
  refine pF rfl ?_
  refine Qs (hK1 _ _ _ ?_)
  clear hK1 K1
  refine Qf fun K1 hK1 => ?_
  (refine sR fun K hK => ?_; ((repeat (rw [Qa]; simp)); (try simp only [zs])); refine hK _ _ _ ?_; clear hK K)
  rw [<- hlen]
  refine wpD_rangeJ Wb Qe (ti := 3) (tk := 17) (tn := 16) (td := 18) (ts := 31) [6, 7, 8, 9, 17, 18, 19, 20, 21, 22, 23, 24, 25, 26, 27, 28, 29, 30, 31] [] (l.length) (fun k ys hl => ys = [] /\ R = eqAll p (l.drop k) (m.drop k) /\ hl = []) rfl rfl rfl rfl rfl rfl rfl rfl rfl rfl rfl rfl (by simp) (by decide) rfl (by first | assumption | omega | (unfold Wd; omega)) rfl (by kernel_rfl) (by decide) ?_ ?_ ?_
  ·exact ⟨rfl, hR, rfl⟩
  ·rintro i ys hl A hi ⟨rfl, hF, rfl⟩ hA hA2
   simp only [Qr, List.set, List.map_cons, List.map_nil, List.cons_append, List.nil_append]
   have hi2 : i < m.length := by omega
   have hi' : (i : Int) < l.length := by omega
   have hi2' : (i : Int) < m.length := by omega
   rw [eqAll_drop hi hi2] at hF
   have hrec := hg l[i] m[i] (List.getElem_mem hi) (List.getElem_mem hi2)
   obtain ⟨x, hx⟩ : ∃ x, l[i] = x := ⟨_, rfl⟩
   obtain ⟨y, hy⟩ : ∃ y, m[i] = y := ⟨_, rfl⟩
   rw [hx, hy] at hrec hF
   unfold Wp at hrec
   generalize p x y = B at hrec hF
   (refine sR fun K hK => ?_; ((repeat (rw [Qa]; simp [hi, hi', hx, Wp])); (try simp only [zs])); refine hK _ _ _ ?_; clear hK K)
   (refine sR fun K hK => ?_; ((repeat (rw [Qa]; simp [hi2, hi2', hy, Wp])); (try simp only [zs])); refine hK _ _ _ ?_; clear hK K)
   (refine sR fun K hK => ?_; ((repeat (rw [Qa]; simp)); (try simp only [zs])))
   refine cXp (hrec) ?_
   ((try simp only [Qb, Qc, Ql, Qi, Qk]); (repeat (rw [Qa]; simp)); (try simp only [zs]))
   (refine hK _ _ _ ?_; clear hK K)
   cases B with
   | true =>
    refine pF rfl ?_
    refine Qs ?_
    (refine hA2 ([]) _ _ _ (LeT.refl _) (by decide) (by simp) (by simp [Wk, Wl, Wr, D.mov, HO.mov, okM, Wn, Wg, zz, okA, Qx, Qu, hOf, Qg, Qr]) ?_ rfl; simp [Wk, Wl, Wr, D.mov, HO.mov, okM, Wn, Wg, zz, okA, Qx, Qu, hOf, Qg])
    simpa using hF
   | false =>
    refine pT rfl ?_
    (refine sR fun K hK => ?_; ((repeat (rw [Qa]; simp)); (try simp only [zs])); refine hK _ _ _ ?_; clear hK K)
    (refine Qj ?_; (try simp only [zs]); refine Wc.ret rfl (.inl ?_); simp [Qp, Out.fgt, D.fgt, D.fgts])
    simpa using hF
  ·rintro ys hl tl' ⟨rfl, hF, rfl⟩ htl
   refine hK1 _ _ _ (wpD_weakL htl ?_)
   simp only [Qr, List.set, List.map_cons, List.map_nil, List.cons_append, List.nil_append]
   rw [eqAll_end hlen] at hF
   subst hF
   (refine sR fun K hK => ?_; ((repeat (rw [Qa]; simp)); (try simp only [zs])); refine hK _ _ _ ?_; clear hK K)
   (refine Qj ?_; (try simp only [zs]); refine Wc.ret rfl (.inl ?_); simp [Qp, Out.fgt, D.fgt, D.fgts])
 ·have hlen' : ¬ (l.length : Int) = m.length := by omega
  (refine sR fun K hK => ?_; ((repeat (rw [Qa]; simp [hlen, hlen'])); (try simp only [zs])); refine hK _ _ _ ?_; clear hK K)
  refine pT rfl ?_
  (refine sR fun K hK => ?_; ((repeat (rw [Qa]; simp)); (try simp only [zs])); refine hK _ _ _ ?_; clear hK K)
  (refine Qj ?_; (try simp only [zs]); refine Wc.ret rfl (.inl ?_); simp [Qp, Out.fgt, D.fgt, D.fgts])
  rw [hR]; exact eqAll_len hlen
theorem equalFuncT_spec (p : T -> T -> Bool) (g : FuncId) (l m : List T) (hl : l.length <= Wd) (hm : m.length <= Wd) (hg : ∀ x y, x ∈ l -> y ∈ m -> Qt Tryz.prog glob g [Qv x, Qv y] [] (fun o _ => o.fgt = .ret (.bool (p x y)))) :
  Qt Tryz.prog glob 55 [.slice (l.map Qv) .any, .slice (m.map Qv) .any, .fn (.func g) [] []] [] (fun o _ => o.fgt = .ret (.bool (eqAll p l m))) := by
 obtain ⟨R, hR⟩ : ∃ R, R = eqAll p l m := ⟨_, rfl⟩
 rw [<- hR]
 refine Qt.movd Qe (Qq Wb Tryz.func55 rfl (Qy _ _ Tryz.func55 rfl (by decide)) rfl rfl ?_)
 (refine sR fun K hK => ?_; ((repeat (rw [Qa]; simp)); (try simp only [zs])); refine hK _ _ _ ?_; clear hK K)
 refine Qf fun K1 hK1 => ?_
 by_cases hlen : l.length = m.length
 ·have hlen' : (l.length : Int) = m.length := by omega
  (refine sR fun K hK => ?_; ((repeat (rw [Qa]; simp [hlen, hlen'])); (try simp only [zs])); refine hK _ _ _ ?_; clear hK K)
  refine pF rfl ?_
  refine Qs (hK1 _ _ _ ?_)
  clear hK1 K1
  refine Qf fun K1 hK1 => ?_
  (refine sR fun K hK => ?_; ((repeat (rw [Qa]; simp)); (try simp only [zs])); refine hK _ _ _ ?_; clear hK K)
  rw [<- hlen]
  refine wpD_rangeJ Wb Qe (ti := 3) (tk := 17) (tn := 16) (td := 18) (ts := 31) [6, 7, 8, 9, 17, 18, 19, 20, 21, 22, 23, 24, 25, 26, 27, 28, 29, 30, 31] [] (l.length) (fun k ys hl => ys = [] /\ R = eqAll p (l.drop k) (m.drop k) /\ hl = []) rfl rfl rfl rfl rfl rfl rfl rfl rfl rfl rfl rfl (by simp) (by decide) rfl (by first | assumption | omega | (unfold Wd; omega)) rfl (by kernel_rfl) (by decide) ?_ ?_ ?_
  ·exact ⟨rfl, hR, rfl⟩
  ·rintro i ys hl A hi ⟨rfl, hF, rfl⟩ hA hA2
   simp only [Qr, List.set, List.map_cons, List.map_nil, List.cons_append, List.nil_append]
   have hi2 : i < m.length := by omega
   have hi' : (i : Int) < l.length := by omega
   have hi2' : (i : Int) < m.length := by omega
   rw [eqAll_drop hi hi2] at hF
   have hrec := hg l[i] m[i] (List.getElem_mem hi) (List.getElem_mem hi2)
   obtain ⟨x, hx⟩ : ∃ x, l[i] = x := ⟨_, rfl⟩
   obtain ⟨y, hy⟩ : ∃ y, m[i] = y := ⟨_, rfl⟩
   rw [hx, hy] at hrec hF
   have hEx := Qd x
   have hEy := Qd y
   rw [hEx, hEy] at hrec
   generalize p x y = B at hrec hF
   (refine sR fun K hK => ?_; ((repeat (rw [Qa]; simp [hi, hi', hx, hEx])); (try simp only [zs])); refine hK _ _ _ ?_; clear hK K)
   (refine sR fun K hK => ?_; ((repeat (rw [Qa]; simp [hi2, hi2', hy, hEy])); (try simp only [zs])); refine hK _ _ _ ?_; clear hK K)
   (refine sR fun K hK => ?_; ((repeat (rw [Qa]; simp)); (try simp only [zs])))
   refine cXp (hrec) ?_
   ((try simp only [Qb, Qc, Ql, Qi, Qk]); (repeat (rw [Qa]; simp)); (try simp only [zs]))
   (refine hK _ _ _ ?_; clear hK K)
   cases B with
   | true =>
    refine pF rfl ?_
    refine Qs ?_
    (refine hA2 ([]) _ _ _ (LeT.refl _) (by decide) (by simp) (by simp [Wk, Wl, Wr, D.mov, HO.mov, okM, Wn, Wg, zz, okA, Qx, Qu, hOf, Qg, Qr]) ?_ rfl; simp [Wk, Wl, Wr, D.mov, HO.mov, okM, Wn, Wg, zz, okA, Qx, Qu, hOf, Qg])
    simpa using hF
   | false =>
    refine pT rfl ?_
    (refine sR fun K hK => ?_; ((repeat (rw [Qa]; simp)); (try simp only [zs])); refine hK _ _ _ ?_; clear hK K)
    (refine Qj ?_; (try simp only [zs]); refine Wc.ret rfl (.inl ?_); simp [Qp, Out.fgt, D.fgt, D.fgts])
    simpa using hF
  ·rintro ys hl tl' ⟨rfl, hF, rfl⟩ htl
   refine hK1 _ _ _ (wpD_weakL htl ?_)
   simp only [Qr, List.set, List.map_cons, List.map_nil, List.cons_append, List.nil_append]
   rw [eqAll_end hlen] at hF
   subst hF
   (refine sR fun K hK => ?_; ((repeat (rw [Qa]; simp)); (try simp only [zs])); refine hK _ _ _ ?_; clear hK K)
   (refine Qj ?_; (try simp only [zs]); refine Wc.ret rfl (.inl ?_); simp [Qp, Out.fgt, D.fgt, D.fgts])
 ·have hlen' : ¬ (l.length : Int) = m.length := by omega
  (refine sR fun K hK => ?_; ((repeat (rw [Qa]; simp [hlen, hlen'])); (try simp only [zs])); refine hK _ _ _ ?_; clear hK K)
  refine pT rfl ?_
  (refine sR fun K hK => ?_; ((repeat (rw [Qa]; simp)); (try simp only [zs])); refine hK _ _ _ ?_; clear hK K)
  (refine Qj ?_; (try simp only [zs]); refine Wc.ret rfl (.inl ?_); simp [Qp, Out.fgt, D.fgt, D.fgts])
  rw [hR]; exact eqAll_len hlen
def sameLs : List LV -> List LV -> Bool
 | [], [] => true
 | a :: r, b :: s => decide (Xo a = Xo b) && sameLs r s
 | _, _ => false
theorem sameLs_all : ∀ l m : List LV, sameLs l m = eqAll (fun a b => decide (Xo a = Xo b)) l m
 | [], [] => rfl
 | a :: r, b :: s => by rw [sameLs, sameLs_all r s]; rfl
 | [], _ :: _ => rfl
 | _ :: _, [] => rfl
mutual
def T.sameB : T -> T -> Bool
 | .mk k n a ls ks, .mk k' n' a' ls' ks' => decide (k = k') && decide (n = n') && decide (a = a') && sameLs ls ls' && T.samesB ks ks'
def T.samesB : List T -> List T -> Bool
 | [], [] => true
 | a :: r, b :: s => T.sameB a b && T.samesB r s
 | [], _ :: _ => false
 | _ :: _, [] => false
end
theorem sames_all : ∀ l m : List T, T.samesB l m = eqAll T.sameB l m
 | [], [] => by rw [T.samesB]; rfl
 | a :: r, b :: s => by rw [T.samesB, sames_all r s]; rfl
 | [], _ :: _ => by rw [T.samesB]; rfl
 | _ :: _, [] => by rw [T.samesB]; rfl
theorem sameT_spec (t : T) : ∀ u, okT t -> okT u -> Qt Tryz.prog glob 19 [Qv t, Qv u] [] (fun o _ => o.fgt = .ret (.bool (t.sameB u))) := by
 induction t using T.ind with
 | h k n a ls ks ih =>
  rintro ⟨k', n', a', ls', ks'⟩ ht hu
  have hll : ls.length <= Wd := ht.ll
  have hll' : ls'.length <= Wd := hu.ll
  have hkl : ks.length <= Wd := ht.kl
  have hkl' : ks'.length <= Wd := hu.kl
  have hls := ht.ls
  have hls' := hu.ls
  have hks := ht.ks
  have hks' := hu.ks
  simp only [T.ls_mk, T.ks_mk] at hls hls' hks hks'
  have hL := equalFuncL_spec (fun a b => decide (Xo a = Xo b)) 54 ls ls' hll hll' (fun x y hx hy => same_spec x y (hls x hx).1 (hls' y hy).1)
  have hT := equalFuncT_spec T.sameB 19 ks ks' hkl hkl' (fun x y hx hy => ih x hx y (hks x hx) (hks' y hy))
  have hF : (T.mk k n a ls ks).sameB (.mk k' n' a' ls' ks') = (decide (k = k') && decide (n = n') && decide (a = a') && sameLs ls ls' && T.samesB ks ks') := by rw [T.sameB]
  rw [hF, sames_all, sameLs_all]
  generalize eqAll T.sameB ks ks' = B2 at hT ⊢
  generalize eqAll (fun a b => decide (Xo a = Xo b)) ls ls' = B1 at hL ⊢
  clear hF ih hll hll' hkl hkl' hls hls' hks hks' ht hu
  rw [Qd, Qd]
  simp only [T.k_mk, T.n_mk, T.a_mk, T.ls_mk, T.ks_mk]
  refine Qt.movd Qe (Qq Wb Tryz.func19 rfl (Qy _ _ Tryz.func19 rfl (by decide)) rfl rfl ?_)
  (refine sR fun K hK => ?_; ((repeat (rw [Qa]; simp)); (try simp only [zs])); refine hK _ _ _ ?_; clear hK K)
  by_cases h1 : k = k'
  ·subst h1
   by_cases h2 : n = n'
   ·subst h2
    by_cases h3 : a = a'
    ·subst h3
     cases B1 with
     | true =>
      (refine sR fun K hK => ?_; ((repeat (rw [Qa]; simp)); (try simp only [zs])))
      refine cXp (hL) ?_
      ((try simp only [Qb, Qc, Ql, Qi, Qk]); (repeat (rw [Qa]; simp)); (try simp only [zs]))
      refine cXp (hT) ?_
      ((try simp only [Qb, Qc, Ql, Qi, Qk]); (repeat (rw [Qa]; simp)); (try simp only [zs]))
      (refine hK _ _ _ ?_; clear hK K)
      (refine Qj ?_; (try simp only [zs]); refine Wc.ret rfl (.inl ?_); simp [Qp, Out.fgt, D.fgt, D.fgts])
     | false =>
      (refine sR fun K hK => ?_; ((repeat (rw [Qa]; simp)); (try simp only [zs])))
      refine cXp (hL) ?_
      ((try simp only [Qb, Qc, Ql, Qi, Qk]); (repeat (rw [Qa]; simp)); (try simp only [zs]))
      (refine hK _ _ _ ?_; clear hK K)
      (refine Qj ?_; (try simp only [zs]); refine Wc.ret rfl (.inl ?_); simp [Qp, Out.fgt, D.fgt, D.fgts])
    ·(refine sR fun K hK => ?_; ((repeat (rw [Qa]; simp [h3])); (try simp only [zs])); refine hK _ _ _ ?_; clear hK K)
     (refine Qj ?_; (try simp only [zs]); refine Wc.ret rfl (.inl ?_); simp [Qp, Out.fgt, D.fgt, D.fgts])
     simp [h3]
   ·(refine sR fun K hK => ?_; ((repeat (rw [Qa]; simp [h2])); (try simp only [zs])); refine hK _ _ _ ?_; clear hK K)
    (refine Qj ?_; (try simp only [zs]); refine Wc.ret rfl (.inl ?_); simp [Qp, Out.fgt, D.fgt, D.fgts])
    simp [h2]
  ·(refine sR fun K hK => ?_; ((repeat (rw [Qa]; simp [h1])); (try simp only [zs])); refine hK _ _ _ ?_; clear hK K)
   (refine Qj ?_; (try simp only [zs]); refine Wc.ret rfl (.inl ?_); simp [Qp, Out.fgt, D.fgt, D.fgts])
   simp [h1]
end Go.Proofs.YtgloldepdhgfaaaGreatDoor
namespace Go.Proofs.YtgloldepdhgfaaaGreatDoor
set_option linter.unusedSimpArgs false
set_option linter.unusedVariables false
open Go.RowKit
mutual
def T.tameB : T -> Bool
 | .mk k n _ _ ks => !(decide (k = 1) && (decide (n < 0) || decide (1000 < n))) && T.tamesB ks
def T.tamesB : List T -> Bool
 | [] => true
 | t :: r => T.tameB t && T.tamesB r
end
theorem walk_inr {f : Turn} {k n a : Int} {ls : List LV} {ks : List T} {d : Int} {x : Int × List LV} (h : f d (.mk k n a ls ks) = .inr x) : T.walk f (.mk k n a ls ks) d = .mk k x.1 a x.2 (T.walks f k ks 0 d) := by rw [T.walk, h]
theorem walk_inl {f : Turn} {k n a : Int} {ls : List LV} {ks : List T} {d : Int} {u : T} (h : f d (.mk k n a ls ks) = .inl u) : T.walk f (.mk k n a ls ks) d = u := by rw [T.walk, h]
theorem walk_lift (m fr k n a : Int) (ls : List LV) (ks : List T) (d : Int) : T.walk (liftTurn m fr) (.mk k n a ls ks) d = .mk k (liftNum m fr d k n) a ls (T.walks (liftTurn m fr) k ks 0 d) := by rw [T.walk]; rfl
theorem Fits.le {d : Int} {t : T} (h : Fits d t) : 0 <= d /\ d <= 1099511627776 := by unfold Fits DM at h; omega
mutual
theorem T.lift_zero_aux (fr : Int) : ∀ (t : T) (d : Int), okT t -> T.walk (liftTurn 0 fr) t d = t
 | .mk k n a ls ks, d, h => by
  rw [walk_lift, T.lifts_zero_aux fr k ks 0 d h.ks]
  have hn := h.n
  simp only [T.n_mk] at hn
  unfold I64 at hn
  have : liftNum 0 fr d k n = n := by
   unfold liftNum
   split
   ·rw [Int.add_zero, i64w hn.1 hn.2]
   ·rfl
  rw [this]
theorem T.lifts_zero_aux (fr k : Int) : ∀ (ks : List T) (i : Nat) (d : Int), (∀ t, t ∈ ks -> okT t) -> T.walks (liftTurn 0 fr) k ks i d = ks
 | [], _, _, _ => by rw [T.walks]
 | t :: r, i, d, h => by
  rw [T.walks, T.lift_zero_aux fr t _ (h t List.mem_cons_self), T.lifts_zero_aux fr k r (i + 1) d (fun t ht => h t (List.mem_cons_of_mem _ ht))]
end
theorem lift_zero {t : T} (h : okT t) (fr : Int) : t.lift 0 fr 0 = t := T.lift_zero_aux fr t 0 h
mutual
theorem sz_lift (n fr : Int) : ∀ (t : T) (d : Int), (T.walk (liftTurn n fr) t d).sz = t.sz
 | .mk k m a ls ks, d => by rw [walk_lift, T.sz, T.sz, szs_lift n fr k ks 0 d 1]
theorem szs_lift (n fr k : Int) : ∀ (ks : List T) (i : Nat) (d s : Int), T.szs (T.walks (liftTurn n fr) k ks i d) s = T.szs ks s
 | [], _, _, _ => by rw [T.walks]
 | t :: r, i, d, s => by rw [T.walks, T.szs, T.szs, sz_lift n fr t, szs_lift n fr k r]
end
mutual
theorem free_none (lo : Int) : ∀ (t : T) (d : Int), t.freeB lo lo d = false
 | .mk k n a ls ks, d => by
  rw [T.freeB, frees_none lo k ks 0 d]
  simp [hitB]
theorem frees_none (lo k : Int) : ∀ (ks : List T) (i : Nat) (d : Int), T.freesB lo lo k ks i d = false
 | [], _, _ => by rw [T.freesB]
 | t :: r, i, d => by rw [T.freesB, free_none lo t, frees_none lo k r]; rfl
end
theorem sameLs_refl : ∀ l : List LV, sameLs l l = true
 | [] => rfl
 | a :: r => by rw [sameLs, sameLs_refl r]; simp
mutual
theorem T.same_refl : ∀ t : T, T.sameB t t = true
 | .mk k n a ls ks => by rw [T.sameB, sameLs_refl, T.sames_refl ks]; simp
theorem T.sames_refl : ∀ ks : List T, T.samesB ks ks = true
 | [] => by rw [T.samesB]
 | t :: r => by rw [T.samesB, T.same_refl t, T.sames_refl r]; rfl
end
theorem T.same_mk {k n a k' n' a' : Int} {ls ls' : List LV} {ks ks' : List T} : T.sameB (.mk k n a ls ks) (.mk k' n' a' ls' ks') = true ↔ k = k' /\ n = n' /\ a = a' /\ sameLs ls ls' = true /\ T.samesB ks ks' = true := by
 rw [T.sameB]; simp [and_assoc]
theorem putTurn_in {bys : List T} {d : Int} {t : T} (h1 : t.k = 1 /\ d <= t.n) (h : (t.n - d).toNat < bys.length) : putTurn bys d t = .inl ((bys[bys.length - 1 - (t.n - d).toNat]'(by omega)).lift d 0 0) := by
 unfold putTurn; rw [if_pos h1, dif_pos h]
theorem putTurn_over {bys : List T} {d : Int} {t : T} (h1 : t.k = 1 /\ d <= t.n) (h : ¬ (t.n - d).toNat < bys.length) : putTurn bys d t = .inr (IntKind.i64.wrap (t.n - bys.length), t.ls) := by
 unfold putTurn; rw [if_pos h1, dif_neg h]
theorem putTurn_low {bys : List T} {d : Int} {t : T} (h1 : ¬ (t.k = 1 /\ d <= t.n)) : putTurn bys d t = .inr (t.n, t.ls) := by
 unfold putTurn; rw [if_neg h1]
mutual
theorem sz_same : ∀ (t u : T), T.sameB t u = true -> t.sz = u.sz
 | .mk k n a ls ks, .mk k' n' a' ls' ks', h => by
  obtain ⟨_, _, _, _, h5⟩ := T.same_mk.1 h
  rw [T.sz, T.sz, szs_same ks ks' 1 h5]
theorem szs_same : ∀ (ks ks' : List T) (n : Int), T.samesB ks ks' = true -> T.szs ks n = T.szs ks' n
 | [], [], n, _ => rfl
 | [], _ :: _, _, h => by simp [T.samesB] at h
 | _ :: _, [], _, h => by simp [T.samesB] at h
 | t :: r, u :: s, n, h => by
  rw [T.samesB, Bool.and_eq_true] at h
  rw [T.szs, T.szs, sz_same t u h.1, szs_same r s _ h.2]
end
structure C where
 lv : Int
 ty : T
 has : Bool
 bo : T
def Wh : T := .mk 0 0 0 [] []
def T.kid (t : T) (i : Nat) : T := t.ks.getD i Wh
def withK (ks : List T) (x : T) (i many : Nat) : List T := (List.range many).map fun j => if j = i then x else ks.getD j Wh
def T.withT (t x : T) (i many : Nat) : T := .mk t.k t.n t.a t.ls (withK t.ks x i many)
def ofT (k : Int) (ks : List T) : T := .mk k 0 0 [] ks
def spot (t : T) : Option (Nat × Nat) :=
 if t.k = 6 then some (0, 2) else if t.k = 14 \/ t.k = 15 then some (0, 1) else if t.k = 18 then some (4, 5) else if t.k = 21 then some (5, 6)
 else if t.k = 24 /\ 0 <= t.a /\ (t.ks.length : Int) - 2 = t.a then some (t.a.toNat + 1, t.a.toNat + 2) else none
mutual
def T.nsz : T -> Nat
 | .mk _ _ _ _ ks => 1 + T.nszs ks
def T.nszs : List T -> Nat
 | [] => 0
 | t :: r => T.nsz t + T.nszs r
end
mutual
def T.sd (many : Nat) : T -> Int -> Nat
 | .mk k n _ _ ks, b => if k = 1 /\ n = b then many else 1 + T.sds many k ks 0 b
def T.sds (many : Nat) (k : Int) : List T -> Nat -> Int -> Nat
 | [], _, _ => 0
 | t :: r, i, b => T.sd many t (Xu b k i) + T.sds many k r (i + 1) b
end
def bodyC (l : List C) (num : Int) (lv : List LV) : Option T :=
 if h : 0 <= num /\ num.toNat < l.length then if (l[num.toNat]'h.2).lv = lv.length /\ (l[num.toNat]'h.2).has = true then some ((l[num.toNat]'h.2).bo.levels lv 0) else none else none
def treeT (t s : T) : T :=
 let a := s.kid 0
 let f := s.kid 1
 let rest := ofT 18 [(t.kid 0).lift 1 0 0, (t.kid 1).lift 1 1 0, (t.kid 2).lift 1 0 0, (t.kid 3).lift 1 0 0, ofT 6 [f.lift 1 0 0, ofT 1 []]]
 ofT 6 [ofT 6 [ofT 6 [t.kid 3, a], f], ofT 5 [(t.kid 1).put [a] 0, rest]]
def treeN (t s : T) : Nat :=
 let a := s.kid 0
 let f := s.kid 1
 7 + (a.nsz + f.nsz + f.nsz + (t.kid 3).nsz + (t.kid 3).nsz + (t.kid 0).nsz + (t.kid 1).nsz + (t.kid 2).nsz) + (t.kid 1).sd a.nsz 0
def ownS (l : List C) (t x : T) : Option (T × Nat) :=
 if t.k = 6 then if x.k = 5 then some ((x.kid 1).put [t.kid 1] 0, (x.kid 1).sd (t.kid 1).nsz 0) else none
 else if t.k = 14 \/ t.k = 15 then if x.k = 13 then some (x.kid (if t.k = 15 then 1 else 0), (x.kid (if t.k = 15 then 1 else 0)).nsz) else none
 else if t.k = 7 then some ((t.kid 2).put [t.kid 1] 0, (t.kid 2).sd (t.kid 1).nsz 0)
 else if t.k = 3 then (bodyC l t.n t.ls).map fun b => (b, b.nsz)
 else if t.k = 18 then if x.k = 17 then some (treeT t x, treeN t x) else none
 else if t.k = 21 then if x.k = 20 then some (t.kid 3, (t.kid 3).nsz) else none
 else if t.k = 24 /\ (spot t).isSome then if x.k = 23 /\ 0 <= x.n /\ x.n < t.a then some (t.kid (x.n.toNat + 1), (t.kid (x.n.toNat + 1)).nsz) else none
 else none
def T.trunc (t : T) : T :=
 match spot t with
 | none => t
 | some (i, many) => if h : i < t.ks.length then t.withT (T.trunc t.ks[i]) i many else t.withT Wh i many
termination_by t.deep
decreasing_by
 cases t with
 | mk k n a ls ks => exact T.deep_kid (List.getElem_mem h)
def Wo (l : List C) (t : T) : Option (T × Nat) :=
 match spot t with
 | none => ownS l t Wh
 | some (i, many) => if h : i < t.ks.length then (match Wo l t.ks[i] with
   | some u => some (t.withT u.1 i many, u.2)
   | none => ownS l (t.withT (T.trunc t.ks[i]) i many) (T.trunc t.ks[i])) else ownS l (t.withT Wh i many) Wh
termination_by t.deep
decreasing_by
 cases t with
 | mk k n a ls ks => exact T.deep_kid (List.getElem_mem h)
inductive Hd (l : List C) : T -> Nat -> T -> Prop where
 | stop {t : T} (h : Wo l t = none) : Hd l t 0 t.trunc
 | step {t u v : T} {c n : Nat} (h : Wo l t = some (u, c)) (r : Hd l u n v) : Hd l t (c + n) v
inductive Gone (l : List C) : T -> Int -> Prop where
 | now {t u : T} {c : Nat} {f : Int} (h : Wo l t = some (u, c)) (hf : f < c) : Gone l t f
 | later {t u : T} {c : Nat} {f : Int} (h : Wo l t = some (u, c)) (hf : (c : Int) <= f) (r : Gone l u (f - c)) : Gone l t f
theorem Hd.det {l : List C} {t v w : T} {n m : Nat} (h : Hd l t n v) : Hd l t m w -> n = m /\ v = w := by
 induction h generalizing m w with
 | stop h => intro h2; cases h2 with
  | stop _ => exact ⟨rfl, rfl⟩
  | step h3 _ => rw [h] at h3; cases h3
 | step h r ih => intro h2; cases h2 with
  | stop h3 => rw [h] at h3; cases h3
  | step h3 r3 =>
   rw [h] at h3
   cases h3
   obtain ⟨rfl, rfl⟩ := ih r3
   exact ⟨rfl, rfl⟩
theorem Hd.gone {l : List C} {t v : T} {n : Nat} (h : Hd l t n v) : ∀ {f : Int}, f < (n : Int) -> 0 <= f -> Gone l t f := by
 induction h with
 | stop h => intro f hf h0; omega
 | @step t u v c n h r ih =>
  intro f hf h0
  by_cases hc : (c : Int) <= f
  ·exact .later h hc (ih (by omega) (by omega))
  ·exact .now h (by omega)
theorem spot_of (t : T) : spot t = none \/ ∃ i many, spot t = some (i, many) := by
 cases h : spot t with
 | none => exact .inl rfl
 | some p => exact .inr ⟨p.1, p.2, rfl⟩
theorem withK_len (ks : List T) (x : T) (i many : Nat) : (withK ks x i many).length = many := by simp [withK]
theorem withK_get {ks : List T} {x : T} {i many j : Nat} (h : j < many) : (withK ks x i many).getD j Wh = if j = i then x else ks.getD j Wh := by
 rw [List.getD_eq_getElem?_getD, List.getElem?_eq_getElem (by rw [withK_len]; exact h)]
 simp [withK]
theorem spot_lt {t : T} {i many : Nat} (h : spot t = some (i, many)) : i < many := by
 unfold spot at h
 repeat' split at h
 all_goals first | (cases h; omega) | cases h
theorem spot_with {t x : T} {i many : Nat} (h : spot t = some (i, many)) : spot (t.withT x i many) = some (i, many) := by
 unfold spot at h ⊢
 unfold T.withT
 simp only [T.k_mk, T.a_mk, T.ks_mk, withK_len]
 by_cases h1 : t.k = 6
 ·rw [if_pos h1] at h ⊢; exact h
 rw [if_neg h1] at h ⊢
 by_cases h1 : t.k = 14 \/ t.k = 15
 ·rw [if_pos h1] at h ⊢; exact h
 rw [if_neg h1] at h ⊢
 by_cases h1 : t.k = 18
 ·rw [if_pos h1] at h ⊢; exact h
 rw [if_neg h1] at h ⊢
 by_cases h1 : t.k = 21
 ·rw [if_pos h1] at h ⊢; exact h
 rw [if_neg h1] at h ⊢
 by_cases h1 : t.k = 24 /\ 0 <= t.a /\ (t.ks.length : Int) - 2 = t.a
 ·rw [if_pos h1] at h
  obtain ⟨h1, h2, h3⟩ := h1
  cases h
  rw [if_pos ⟨h1, h2, by omega⟩]
 ·rw [if_neg h1] at h; cases h
theorem with_with (t x y : T) (i many : Nat) : (t.withT x i many).withT y i many = t.withT y i many := by
 unfold T.withT
 simp only [T.k_mk, T.n_mk, T.a_mk, T.ls_mk, T.ks_mk]
 congr 1
 unfold withK
 apply List.map_congr_left
 intro j hj
 have hj' : j < many := by simpa using hj
 split
 ·rfl
 ·rename_i hne
  have := withK_get (ks := t.ks) (x := x) (i := i) hj'
  unfold withK at this
  rw [this, if_neg hne]
theorem with_get {t x : T} {i many : Nat} (h : i < many) (h2 : i < (t.withT x i many).ks.length) : (t.withT x i many).ks[i] = x := by
 unfold T.withT at h2 ⊢
 simp [withK]
theorem trunc_none {t : T} (h : spot t = none) : t.trunc = t := by rw [T.trunc, h]
theorem trunc_in {t : T} {i many : Nat} (h : spot t = some (i, many)) (hi : i < t.ks.length) : t.trunc = t.withT (T.trunc t.ks[i]) i many := by rw [T.trunc, h]; simp only; rw [dif_pos hi]
theorem trunc_out {t : T} {i many : Nat} (h : spot t = some (i, many)) (hi : ¬ i < t.ks.length) : t.trunc = t.withT Wh i many := by rw [T.trunc, h]; simp only; rw [dif_neg hi]
theorem hstep_none {l : List C} {t : T} (h : spot t = none) : Wo l t = ownS l t Wh := by rw [Wo, h]
theorem hstep_in {l : List C} {t : T} {i many : Nat} (h : spot t = some (i, many)) (hi : i < t.ks.length) {u : T} {c : Nat} (hu : Wo l t.ks[i] = some (u, c)) : Wo l t = some (t.withT u i many, c) := by rw [Wo, h]; simp only; rw [dif_pos hi, hu]
theorem hstep_at {l : List C} {t : T} {i many : Nat} (h : spot t = some (i, many)) (hi : i < t.ks.length) (hu : Wo l t.ks[i] = none) : Wo l t = ownS l (t.withT (T.trunc t.ks[i]) i many) (T.trunc t.ks[i]) := by rw [Wo, h]; simp only; rw [dif_pos hi, hu]
theorem hstep_out {l : List C} {t : T} {i many : Nat} (h : spot t = some (i, many)) (hi : ¬ i < t.ks.length) : Wo l t = ownS l (t.withT Wh i many) Wh := by rw [Wo, h]; simp only; rw [dif_neg hi]
theorem zero_spot : spot Wh = none := rfl
theorem zero_step (l : List C) : Wo l Wh = none := by rw [hstep_none zero_spot]; rfl
theorem trunc_stuck {l : List C} (t : T) : Wo l t = none -> Wo l t.trunc = none /\ t.trunc.trunc = t.trunc := by
 induction t using T.ind with
 | h k n a ls ks ih =>
  intro h
  rcases spot_of (.mk k n a ls ks) with hs | ⟨i, many, hs⟩
  ·rw [trunc_none hs]; exact ⟨h, trunc_none hs⟩
  ·have hlt := spot_lt hs
   by_cases hi : i < ks.length
   ·have hi' : i < (T.mk k n a ls ks).ks.length := hi
    cases hu : Wo l ks[i] with
    | some u => rw [hstep_in hs hi' (u := u.1) (c := u.2) hu] at h; cases h
    | none =>
     obtain ⟨h1, h2⟩ := ih _ (List.getElem_mem hi) hu
     rw [hstep_at hs hi' hu] at h
     rw [trunc_in hs hi']
     have hs2 := spot_with (x := T.trunc (T.mk k n a ls ks).ks[i]) hs
     have hi2 : i < ((T.mk k n a ls ks).withT (T.trunc (T.mk k n a ls ks).ks[i]) i many).ks.length := by unfold T.withT; rw [T.ks_mk, withK_len]; exact hlt
     have hg := with_get hlt hi2
     constructor
     ·rw [hstep_at hs2 hi2 (by rw [hg]; exact h1), hg, with_with, show T.trunc (T.trunc (T.mk k n a ls ks).ks[i]) = T.trunc (T.mk k n a ls ks).ks[i] from h2]
      exact h
     ·rw [trunc_in hs2 hi2, hg, with_with, show T.trunc (T.trunc (T.mk k n a ls ks).ks[i]) = T.trunc (T.mk k n a ls ks).ks[i] from h2]
   ·have hi' : ¬ i < (T.mk k n a ls ks).ks.length := hi
    rw [hstep_out hs hi'] at h
    rw [trunc_out hs hi']
    have hs2 := spot_with (x := Wh) hs
    have hi2 : i < ((T.mk k n a ls ks).withT Wh i many).ks.length := by unfold T.withT; rw [T.ks_mk, withK_len]; exact hlt
    have hg := with_get hlt hi2
    constructor
    ·rw [hstep_at hs2 hi2 (by rw [hg]; exact zero_step l), hg, trunc_none zero_spot, with_with]
     exact h
    ·rw [trunc_in hs2 hi2, hg, trunc_none zero_spot, with_with]
theorem T.nsz_pos (t : T) : 1 <= t.nsz := by cases t; rw [T.nsz]; omega
theorem T.nszs_mem {t : T} {ks : List T} (h : t ∈ ks) : t.nsz <= T.nszs ks := by
 induction ks with
 | nil => cases h
 | cons x r ih =>
  rw [T.nszs]
  cases h with
  | head => omega
  | tail _ hm => have := ih hm; omega
theorem T.deep_nsz (t : T) : t.deep <= t.nsz := by
 induction t using T.ind with
 | h k n a ls ks ih =>
  rw [T.deep, T.nsz]
  have : ∀ l : List T, (∀ x, x ∈ l -> x.deep <= x.nsz) -> T.deeps l <= T.nszs l := by
   intro l
   induction l with
   | nil => intro _; simp [T.deeps, T.nszs]
   | cons x r ihl =>
    intro hl
    have h1 := hl x List.mem_cons_self
    have h2 := ihl (fun y hy => hl y (List.mem_cons_of_mem _ hy))
    rw [T.deeps, T.nszs]
    omega
  have := this ks ih
  omega
mutual
theorem T.sd_pos (many : Nat) (hm : 1 <= many) : ∀ (t : T) (b : Int), 1 <= t.sd many b
 | .mk k n a ls ks, b => by
  rw [T.sd]
  split <;> omega
end
mutual
theorem T.sd_le (many : Nat) (hm : 1 <= many) : ∀ (t : T) (b : Int), t.sd many b <= t.nsz * many
 | .mk k n a ls ks, b => by
  rw [T.sd, T.nsz]
  split
  ·exact Nat.le_mul_of_pos_left _ (by omega)
  ·have := T.sds_le many hm k ks 0 b
   rw [Nat.add_mul]
   omega
theorem T.sds_le (many : Nat) (hm : 1 <= many) (k : Int) : ∀ (ks : List T) (i : Nat) (b : Int), T.sds many k ks i b <= T.nszs ks * many
 | [], _, _ => by rw [T.sds]; omega
 | t :: r, i, b => by
  have h1 := T.sd_le many hm t (Xu b k i)
  have h2 := T.sds_le many hm k r (i + 1) b
  rw [T.sds, T.nszs, Nat.add_mul]
  omega
end
mutual
theorem nsz_lift (n fr : Int) : ∀ (t : T) (d : Int), (T.walk (liftTurn n fr) t d).nsz = t.nsz
 | .mk k m a ls ks, d => by rw [walk_lift, T.nsz, T.nsz, nszs_lift n fr k ks 0 d]
theorem nszs_lift (n fr k : Int) : ∀ (ks : List T) (i : Nat) (d : Int), T.nszs (T.walks (liftTurn n fr) k ks i d) = T.nszs ks
 | [], _, _ => by rw [T.walks]
 | t :: r, i, d => by rw [T.walks, T.nszs, T.nszs, nsz_lift n fr t, nszs_lift n fr k r]
end
mutual
theorem nsz_levels (bys : List LV) : ∀ (t : T) (d : Int), (T.walk (levTurn bys) t d).nsz = t.nsz
 | .mk k m a ls ks, d => by rw [walk_inr (f := levTurn bys) (x := (m, ls.map fun l => Xo (putL l bys))) rfl, T.nsz, T.nsz, nszs_levels bys k ks 0 d]
theorem nszs_levels (bys : List LV) (k : Int) : ∀ (ks : List T) (i : Nat) (d : Int), T.nszs (T.walks (levTurn bys) k ks i d) = T.nszs ks
 | [], _, _ => by rw [T.walks]
 | t :: r, i, d => by rw [T.walks, T.nszs, T.nszs, nsz_levels bys t, nszs_levels bys k r]
end
theorem nsz_put (x : T) (t : T) : ∀ d, (T.walk (putTurn [x]) t d).nsz = t.sd x.nsz d := by
 induction t using T.ind with
 | h k m a ls ks ih =>
  intro d
  have hks : ∀ (l : List T), (∀ y, y ∈ l -> y ∈ ks) -> ∀ i, T.nszs (T.walks (putTurn [x]) k l i d) = T.sds x.nsz k l i d := by
   intro l
   induction l with
   | nil => intro _ i; simp [T.walks, T.nszs, T.sds]
   | cons y r ihl =>
    intro hl i
    rw [T.walks, T.nszs, T.sds, ih y (hl y List.mem_cons_self), ihl (fun z hz => hl z (List.mem_cons_of_mem _ hz))]
  have hks0 := hks ks (fun _ h => h) 0
  rw [T.sd]
  by_cases hh : k = 1 /\ d <= m
  ·by_cases hl : (m - d).toNat < [x].length
   ·rw [walk_inl (putTurn_in (t := .mk k m a ls ks) hh hl), if_pos ⟨hh.1, by simp only [List.length_cons, List.length_nil] at hl; omega⟩]
    unfold T.lift
    rw [nsz_lift]
    simp
   ·rw [walk_inr (putTurn_over (t := .mk k m a ls ks) hh hl), T.nsz, hks0, if_neg]
    rintro ⟨-, h2⟩
    apply hl
    simp only [List.length_cons, List.length_nil]; omega
  ·rw [walk_inr (putTurn_low (t := .mk k m a ls ks) hh), T.nsz]
   rw [hks0, if_neg]
   rintro ⟨h1, h2⟩
   exact hh ⟨h1, by omega⟩
def TurnOk (f : Turn) : Prop := ∀ d t, okT t -> (∀ u, f d t = .inl u -> okT u) /\ (∀ x, f d t = .inr x -> I64 x.1 /\ x.2.length <= Wd /\ ∀ l, l ∈ x.2 -> okL l)
theorem walk_ok {f : Turn} (hf : TurnOk f) (t : T) : ∀ d, okT t -> okT (T.walk f t d) := by
 induction t using T.ind with
 | h k m a ls ks ih =>
  intro d ht
  obtain ⟨h1, h2⟩ := hf d _ ht
  cases hturn : f d (.mk k m a ls ks) with
  | inl u => rw [walk_inl hturn]; exact h1 u hturn
  | inr x =>
   rw [walk_inr hturn]
   obtain ⟨h3, h4, h5⟩ := h2 x hturn
   refine .mk ht.k h3 ht.a h4 h5 (by rw [T.walks_length]; exact ht.kl) ?_
   have hks := ht.ks
   simp only [T.ks_mk] at hks
   have : ∀ (l : List T), (∀ x, x ∈ l -> x ∈ ks) -> ∀ (i : Nat) t, t ∈ T.walks f k l i d -> okT t := by
    intro l
    induction l with
    | nil => intro _ i t h; rw [T.walks] at h; cases h
    | cons x r ihl =>
     intro hl i t h
     rw [T.walks] at h
     cases h with
     | head => exact ih x (hl x List.mem_cons_self) _ (hks x (hl x List.mem_cons_self))
     | tail _ hm => exact ihl (fun y hy => hl y (List.mem_cons_of_mem _ hy)) (i + 1) t hm
   exact this ks (fun _ h => h) 0
theorem lift_turn_ok (n fr : Int) : TurnOk (liftTurn n fr) := fun d t ht => ⟨(fun u h => by cases h), fun x h => by
 cases h
 exact ⟨liftNum_ok ht.n, ht.ll, ht.ls⟩⟩
theorem lift_ok {t : T} (n fr d : Int) (h : okT t) : okT (t.lift n fr d) := walk_ok (lift_turn_ok n fr) t d h
theorem put_turn_ok {bys : List T} (hb : ∀ b, b ∈ bys -> okT b) : TurnOk (putTurn bys) := fun d t ht => by
 by_cases hh : t.k = 1 /\ d <= t.n
 ·by_cases hl : (t.n - d).toNat < bys.length
  ·rw [putTurn_in hh hl]
   exact ⟨(fun u h => by cases h; exact lift_ok _ _ _ (hb _ (List.getElem_mem _))), (fun x h => by cases h)⟩
  ·rw [putTurn_over hh hl]
   exact ⟨(fun u h => by cases h), (fun x h => by cases h; exact ⟨i64_wrap _, ht.ll, ht.ls⟩)⟩
 ·rw [putTurn_low hh]
  exact ⟨(fun u h => by cases h), (fun x h => by cases h; exact ⟨ht.n, ht.ll, ht.ls⟩)⟩
theorem put_ok {t : T} {bys : List T} (hb : ∀ b, b ∈ bys -> okT b) (d : Int) (h : okT t) : okT (t.put bys d) := walk_ok (put_turn_ok hb) t d h
theorem norm_okL (l : LV) : okL (Xo l) := ⟨normOf_lmax l, fun p hp => by
 have := badP_nn ((normOf_nf l).ok p hp)
 unfold I64
 omega⟩
theorem lev_turn_ok (bys : List LV) : TurnOk (levTurn bys) := fun d t ht => ⟨(fun u h => by cases h), fun x h => by
 cases h
 refine ⟨ht.n, by rw [List.length_map]; exact ht.ll, fun l hl => ?_⟩
 rw [List.mem_map] at hl
 obtain ⟨y, _, rfl⟩ := hl
 exact norm_okL _⟩
theorem levels_ok {t : T} (bys : List LV) (d : Int) (h : okT t) : okT (t.levels bys d) := walk_ok (lev_turn_ok bys) t d h
def lackN (k : Int) (len : Nat) : Nat := if k = 6 then 2 - len else if k = 14 \/ k = 15 then 1 - len else if k = 18 then 5 - len else if k = 21 then 6 - len else 0
mutual
def T.pot : T -> Nat
 | .mk k _ _ _ ks => 1 + lackN k ks.length + T.pots ks
def T.pots : List T -> Nat
 | [] => 0
 | t :: r => T.pot t + T.pots r
end
theorem lackN_le (k : Int) (len : Nat) : lackN k len <= 6 := by unfold lackN; (repeat' split) <;> omega
mutual
theorem nsz_pot : ∀ t : T, t.nsz <= t.pot
 | .mk k n a ls ks => by rw [T.nsz, T.pot]; have := nszs_pots ks; omega
theorem nszs_pots : ∀ ks : List T, T.nszs ks <= T.pots ks
 | [] => by rw [T.nszs]; omega
 | t :: r => by rw [T.nszs, T.pots]; have := nsz_pot t; have := nszs_pots r; omega
end
mutual
theorem pot_le : ∀ t : T, t.pot <= 7 * t.nsz
 | .mk k n a ls ks => by rw [T.nsz, T.pot]; have := pots_le ks; have := lackN_le k ks.length; omega
theorem pots_le : ∀ ks : List T, T.pots ks <= 7 * T.nszs ks
 | [] => by rw [T.pots]; omega
 | t :: r => by rw [T.nszs, T.pots]; have := pot_le t; have := pots_le r; omega
end
theorem pots_mem {t : T} {ks : List T} (h : t ∈ ks) : t.pot <= T.pots ks := by
 induction ks with
 | nil => cases h
 | cons x r ih =>
  rw [T.pots]
  cases h with
  | head => omega
  | tail _ hm => have := ih hm; omega
theorem pot_pos (t : T) : 1 <= t.pot := by have := nsz_pot t; have := t.nsz_pos; omega
theorem pot_zero : Wh.pot = 1 := rfl
theorem kid_pot (t : T) (i : Nat) : (t.kid i).pot <= t.pot := by
 unfold T.kid
 rw [List.getD_eq_getElem?_getD]
 by_cases h : i < t.ks.length
 ·rw [List.getElem?_eq_getElem h]
  have := pots_mem (List.getElem_mem h)
  cases t with
  | mk k n a ls ks => rw [T.pot]; simp only [T.ks_mk, Option.getD_some] at this ⊢; omega
 ·rw [List.getElem?_eq_none (by omega)]
  have := pot_pos t
  exact this
theorem pots_append : ∀ a b : List T, T.pots (a ++ b) = T.pots a + T.pots b
 | [], b => by simp [T.pots]
 | t :: r, b => by rw [List.cons_append, T.pots, T.pots, pots_append r b]; omega
theorem pots_pad (ks : List T) : ∀ m : Nat, T.pots ((List.range m).map fun j => ks.getD j Wh) <= T.pots (ks.take m) + (m - ks.length)
 | 0 => by simp [T.pots]
 | m + 1 => by
  rw [List.range_succ, List.map_append, pots_append]
  have ih := pots_pad ks m
  simp only [List.map_cons, List.map_nil, T.pots]
  by_cases h : m < ks.length
  ·rw [List.take_succ_eq_append_getElem h, pots_append]
   simp only [T.pots]
   rw [List.getD_eq_getElem?_getD, List.getElem?_eq_getElem h]
   simp only [Option.getD_some]
   omega
  ·rw [List.take_of_length_le (by omega)] at ih ⊢
   rw [List.getD_eq_getElem?_getD, List.getElem?_eq_none (by omega)]
   simp only [Option.getD_none, pot_zero]
   omega
theorem pots_take : ∀ (ks : List T) (m : Nat), T.pots (ks.take m) <= T.pots ks
 | [], m => by simp
 | t :: r, 0 => by simp [T.pots]
 | t :: r, m + 1 => by rw [List.take_succ_cons, T.pots, T.pots]; have := pots_take r m; omega
theorem pots_withK (ks : List T) (x : T) (i : Nat) : ∀ m : Nat, T.pots (withK ks x i m) + (if i < m then (ks.getD i Wh).pot else 0) = T.pots ((List.range m).map fun j => ks.getD j Wh) + (if i < m then x.pot else 0)
 | 0 => by simp [withK, T.pots]
 | m + 1 => by
  have ih := pots_withK ks x i m
  unfold withK at ih ⊢
  rw [List.range_succ, List.map_append, List.map_append, pots_append, pots_append]
  simp only [List.map_cons, List.map_nil, T.pots]
  by_cases h1 : m = i
  ·subst h1
   rw [if_neg (by omega)] at ih
   rw [if_neg (by omega)] at ih
   simp only [if_true, if_pos (Nat.lt_succ_self m)]
   omega
  ·simp only [h1, if_false]
   by_cases h2 : i < m
   ·rw [if_pos h2, if_pos h2] at ih
    rw [if_pos (by omega), if_pos (by omega)]
    omega
   ·rw [if_neg h2, if_neg h2] at ih
    rw [if_neg (by omega), if_neg (by omega)]
    omega
theorem spot_lack {t : T} {i many : Nat} (h : spot t = some (i, many)) : lackN t.k many = 0 /\ many - t.ks.length <= lackN t.k t.ks.length := by
 unfold spot at h
 unfold lackN
 by_cases h1 : t.k = 6
 ·rw [if_pos h1] at h ⊢; rw [if_pos h1]; cases h; omega
 rw [if_neg h1] at h ⊢; rw [if_neg h1]
 by_cases h1 : t.k = 14 \/ t.k = 15
 ·rw [if_pos h1] at h ⊢; rw [if_pos h1]; cases h; omega
 rw [if_neg h1] at h ⊢; rw [if_neg h1]
 by_cases h1 : t.k = 18
 ·rw [if_pos h1] at h ⊢; rw [if_pos h1]; cases h; omega
 rw [if_neg h1] at h ⊢; rw [if_neg h1]
 by_cases h1 : t.k = 21
 ·rw [if_pos h1] at h ⊢; rw [if_pos h1]; cases h; omega
 rw [if_neg h1] at h ⊢; rw [if_neg h1]
 by_cases h1 : t.k = 24 /\ 0 <= t.a /\ (t.ks.length : Int) - 2 = t.a
 ·rw [if_pos h1] at h; cases h; omega
 ·rw [if_neg h1] at h; cases h
theorem with_pot {t x : T} {i many : Nat} (h : spot t = some (i, many)) : (t.withT x i many).pot + (t.kid i).pot <= t.pot + x.pot := by
 have hlt := spot_lt h
 have hlack := spot_lack h
 have h1 := pots_withK t.ks x i many
 have h2 := pots_pad t.ks many
 have h3 := pots_take t.ks many
 rw [if_pos hlt, if_pos hlt] at h1
 cases t with
 | mk k n a ls ks =>
  unfold T.withT T.kid
  rw [T.pot, T.pot]
  simp only [T.k_mk, T.ks_mk, withK_len] at hlack h1 h2 h3 ⊢
  omega
theorem trunc_pot (t : T) : t.trunc.pot <= t.pot := by
 induction t using T.ind with
 | h k n a ls ks ih =>
  rcases spot_of (.mk k n a ls ks) with hs | ⟨i, many, hs⟩
  ·rw [trunc_none hs]; exact Nat.le_refl _
  ·by_cases hi : i < (T.mk k n a ls ks).ks.length
   ·rw [trunc_in hs hi]
    have h1 := with_pot (x := T.trunc (T.mk k n a ls ks).ks[i]) hs
    have h2 := ih _ (List.getElem_mem hi)
    have h3 : (T.mk k n a ls ks).kid i = (T.mk k n a ls ks).ks[i] := by unfold T.kid; rw [List.getD_eq_getElem?_getD, List.getElem?_eq_getElem hi]; rfl
    rw [h3] at h1
    simp only [T.ks_mk] at h1 h2 ⊢
    omega
   ·rw [trunc_out hs hi]
    have h1 := with_pot (x := Wh) hs
    have h2 := pot_pos ((T.mk k n a ls ks).kid i)
    rw [pot_zero] at h1
    omega
theorem nsz_of2 (k : Int) (x y : T) : (ofT k [x, y]).nsz = 1 + x.nsz + y.nsz := by unfold ofT; rw [T.nsz, T.nszs, T.nszs, T.nszs]; omega
theorem nsz_lift0 (t : T) (n fr : Int) : (t.lift n fr 0).nsz = t.nsz := nsz_lift n fr t 0
theorem tree_nsz (t s : T) : (treeT t s).nsz = treeN t s := by
 unfold treeT treeN
 simp only [nsz_of2]
 unfold ofT
 simp only [T.nsz, T.nszs, nsz_lift0]
 have : ((t.kid 1).put [s.kid 0] 0).nsz = (t.kid 1).sd (s.kid 0).nsz 0 := nsz_put _ _ _
 rw [this]
 omega
theorem own_nsz {l : List C} {t x u : T} {c : Nat} (h : ownS l t x = some (u, c)) : u.nsz = c := by
 unfold ownS at h
 repeat' split at h
 all_goals first | (cases h; done) | skip
 all_goals first
  | (cases h; exact nsz_put _ _ _)
  | (cases h; exact tree_nsz _ _)
  | (cases h; rfl)
  | (rw [Option.map_eq_some_iff] at h; obtain ⟨b, -, hb⟩ := h; cases hb; rfl)
theorem own_pos {l : List C} {t x u : T} {c : Nat} (h : ownS l t x = some (u, c)) : 1 <= c := by rw [<- own_nsz h]; exact u.nsz_pos
theorem hstep_cases {l : List C} {t u : T} {c : Nat} (h : Wo l t = some (u, c)) :
  (∃ i many, spot t = some (i, many) /\ ∃ hi : i < t.ks.length, ∃ v, Wo l t.ks[i] = some (v, c) /\ u = t.withT v i many) \/
  (∃ i many, spot t = some (i, many) /\ ∃ x, x.pot <= (t.kid i).pot /\ ownS l (t.withT x i many) x = some (u, c)) \/
  (spot t = none /\ ownS l t Wh = some (u, c)) := by
 rcases spot_of t with hs | ⟨i, many, hs⟩
 ·exact .inr (.inr ⟨hs, by rw [<- hstep_none hs]; exact h⟩)
 ·by_cases hi : i < t.ks.length
  ·cases hk : Wo l t.ks[i] with
   | some v =>
    rw [hstep_in hs hi (u := v.1) (c := v.2) hk] at h
    cases h
    exact .inl ⟨i, many, hs, hi, v.1, hk, rfl⟩
   | none =>
    rw [hstep_at hs hi hk] at h
    refine .inr (.inl ⟨i, many, hs, _, ?_, h⟩)
    have h3 : t.kid i = t.ks[i] := by unfold T.kid; rw [List.getD_eq_getElem?_getD, List.getElem?_eq_getElem hi]; rfl
    rw [h3]
    exact trunc_pot _
  ·rw [hstep_out hs hi] at h
   exact .inr (.inl ⟨i, many, hs, Wh, by rw [pot_zero]; exact pot_pos _, h⟩)
theorem hstep_pos {l : List C} (t : T) : ∀ {u : T} {c : Nat}, Wo l t = some (u, c) -> 1 <= c := by
 induction t using T.ind with
 | h k n a ls ks ih =>
  intro u c h
  rcases hstep_cases h with ⟨i, many, hs, hi, v, hv, -⟩ | ⟨i, many, hs, x, -, ho⟩ | ⟨hs, ho⟩
  ·exact ih _ (List.getElem_mem hi) hv
  ·exact own_pos ho
  ·exact own_pos ho
theorem hstep_pot {l : List C} (t : T) : ∀ {u : T} {c : Nat}, Wo l t = some (u, c) -> u.pot <= t.pot + 7 * c := by
 induction t using T.ind with
 | h k n a ls ks ih =>
  intro u c h
  rcases hstep_cases h with ⟨i, many, hs, hi, v, hv, rfl⟩ | ⟨i, many, hs, x, -, ho⟩ | ⟨hs, ho⟩
  ·have h1 := ih _ (List.getElem_mem hi) hv
   have h2 := with_pot (x := v) hs
   have h3 : (T.mk k n a ls ks).kid i = (T.mk k n a ls ks).ks[i] := by unfold T.kid; rw [List.getD_eq_getElem?_getD, List.getElem?_eq_getElem hi]; rfl
   rw [h3] at h2
   simp only [T.ks_mk] at h2 h1 ⊢
   omega
  ·have h1 := own_nsz ho
   have h2 := pot_le u
   omega
  ·have h1 := own_nsz ho
   have h2 := pot_le u
   omega
theorem zero_ok : okT Wh := .mk (by unfold I64; omega) (by unfold I64; omega) (by unfold I64; omega) (by simp) (fun _ h => nomatch h) (by simp) (fun _ h => nomatch h)
theorem getD_ok {ks : List T} (h : ∀ t, t ∈ ks -> okT t) (i : Nat) : okT (ks.getD i Wh) := by
 rw [List.getD_eq_getElem?_getD]
 by_cases hi : i < ks.length
 ·rw [List.getElem?_eq_getElem hi]; exact h _ (List.getElem_mem hi)
 ·rw [List.getElem?_eq_none (by omega)]; exact zero_ok
theorem kid_ok {t : T} (h : okT t) (i : Nat) : okT (t.kid i) := getD_ok h.ks i
theorem with_ok {t x : T} {i many : Nat} (h : okT t) (hx : okT x) (hm : many <= Wd) : okT (t.withT x i many) := by
 unfold T.withT
 refine .mk h.k h.n h.a h.ll h.ls (by rw [withK_len]; exact hm) fun y hy => ?_
 unfold withK at hy
 rw [List.mem_map] at hy
 obtain ⟨j, -, rfl⟩ := hy
 split
 ·exact hx
 ·exact getD_ok h.ks j
theorem spot_many {t : T} {i many : Nat} (h : spot t = some (i, many)) (ht : okT t) : many <= Wd := by
 have hk := ht.kl
 unfold spot at h
 unfold Wd at hk ⊢
 repeat' split at h
 all_goals first | (cases h; omega) | cases h
theorem trunc_ok (t : T) : okT t -> okT t.trunc := by
 induction t using T.ind with
 | h k n a ls ks ih =>
  intro ht
  rcases spot_of (.mk k n a ls ks) with hs | ⟨i, many, hs⟩
  ·rw [trunc_none hs]; exact ht
  ·by_cases hi : i < (T.mk k n a ls ks).ks.length
   ·rw [trunc_in hs hi]
    exact with_ok ht (ih _ (List.getElem_mem hi) (ht.ks _ (List.getElem_mem hi))) (spot_many hs ht)
   ·rw [trunc_out hs hi]
    exact with_ok ht zero_ok (spot_many hs ht)
theorem ok_of {k : Int} {ks : List T} (hk : I64 k) (hl : ks.length <= Wd) (h : ∀ t, t ∈ ks -> okT t) : okT (ofT k ks) := .mk hk (by unfold I64; omega) (by unfold I64; omega) (by simp) (fun _ h => nomatch h) hl h
theorem ok_of2 {k : Int} {x y : T} (hk : I64 k) (hx : okT x) (hy : okT y) : okT (ofT k [x, y]) := ok_of hk (by unfold Wd; simp) fun t h => by
 simp only [List.mem_cons, List.not_mem_nil, or_false] at h
 rcases h with rfl | rfl <;> assumption
theorem one_mem {x t : T} (h : t ∈ [x]) : t = x := by simpa using h
theorem tree_ok {t s : T} (ht : okT t) (hs : okT s) : okT (treeT t s) := by
 have i6 : I64 6 := by unfold I64; omega
 have i5 : I64 5 := by unfold I64; omega
 have i18 : I64 18 := by unfold I64; omega
 have i1 : I64 1 := by unfold I64; omega
 unfold treeT
 refine ok_of2 i6 (ok_of2 i6 (ok_of2 i6 (kid_ok ht 3) (kid_ok hs 0)) (kid_ok hs 1)) (ok_of2 i5 (put_ok (fun b hb => by rw [one_mem hb]; exact kid_ok hs 0) 0 (kid_ok ht 1)) (ok_of i18 (by unfold Wd; simp) fun y hy => ?_))
 simp only [List.mem_cons, List.not_mem_nil, or_false] at hy
 rcases hy with rfl | rfl | rfl | rfl | rfl
 ·exact lift_ok _ _ _ (kid_ok ht 0)
 ·exact lift_ok _ _ _ (kid_ok ht 1)
 ·exact lift_ok _ _ _ (kid_ok ht 2)
 ·exact lift_ok _ _ _ (kid_ok ht 3)
 ·exact ok_of2 i6 (lift_ok _ _ _ (kid_ok hs 1)) (ok_of i1 (by simp) (fun _ h => nomatch h))
def okC (c : C) : Prop := I64 c.lv /\ okT c.ty /\ okT c.bo
theorem body_ok {l : List C} (hl : ∀ c, c ∈ l -> okC c) {n : Int} {lv : List LV} {b : T} (h : bodyC l n lv = some b) : okT b := by
 unfold bodyC at h
 split at h
 ·rename_i h1
  split at h
  ·cases h; exact levels_ok _ _ (hl _ (List.getElem_mem h1.2)).2.2
  ·cases h
 ·cases h
theorem body_nsz {l : List C} {B : Nat} (hl : ∀ c, c ∈ l -> c.bo.nsz <= B) {n : Int} {lv : List LV} {b : T} (h : bodyC l n lv = some b) : b.nsz <= B := by
 unfold bodyC at h
 split at h
 ·rename_i h1
  split at h
  ·cases h; unfold T.levels; rw [nsz_levels]; exact hl _ (List.getElem_mem h1.2)
  ·cases h
 ·cases h
theorem own_ok {l : List C} (hl : ∀ c, c ∈ l -> okC c) {t x u : T} {c : Nat} (ht : okT t) (hx : okT x) (h : ownS l t x = some (u, c)) : okT u := by
 unfold ownS at h
 repeat' split at h
 all_goals first | (cases h; done) | skip
 all_goals first
  | (cases h; exact put_ok (fun b hb => by rw [one_mem hb]; exact kid_ok ht 1) 0 (kid_ok hx 1))
  | (cases h; exact put_ok (fun b hb => by rw [one_mem hb]; exact kid_ok ht 1) 0 (kid_ok ht 2))
  | (cases h; exact tree_ok ht hx)
  | (cases h; exact kid_ok hx _)
  | (cases h; exact kid_ok ht _)
  | (rw [Option.map_eq_some_iff] at h; obtain ⟨b, hb1, hb⟩ := h; cases hb; exact body_ok hl hb1)
theorem hstep_ok {l : List C} (hl : ∀ c, c ∈ l -> okC c) (t : T) : ∀ {u : T} {c : Nat}, okT t -> Wo l t = some (u, c) -> okT u := by
 induction t using T.ind with
 | h k n a ls ks ih =>
  intro u c ht h
  rcases spot_of (.mk k n a ls ks) with hs | ⟨i, many, hs⟩
  ·rw [hstep_none hs] at h; exact own_ok hl ht zero_ok h
  ·by_cases hi : i < (T.mk k n a ls ks).ks.length
   ·have hki := ht.ks _ (List.getElem_mem hi)
    cases hk : Wo l (T.mk k n a ls ks).ks[i] with
    | some v =>
     rw [hstep_in hs hi (u := v.1) (c := v.2) hk] at h
     cases h
     exact with_ok ht (ih _ (List.getElem_mem hi) hki hk) (spot_many hs ht)
    | none =>
     rw [hstep_at hs hi hk] at h
     exact own_ok hl (with_ok ht (trunc_ok _ hki) (spot_many hs ht)) (trunc_ok _ hki) h
   ·rw [hstep_out hs hi] at h
    exact own_ok hl (with_ok ht zero_ok (spot_many hs ht)) zero_ok h
theorem sd_bound {t a : T} {A : Nat} (h1 : t.pot <= A) (h2 : a.pot <= A) : t.sd a.nsz 0 <= A * A := by
 have h3 := T.sd_le a.nsz a.nsz_pos t 0
 have h4 := nsz_pot t
 have h5 := nsz_pot a
 exact Nat.le_trans h3 (Nat.mul_le_mul (by omega) (by omega))
theorem own_bound {l : List C} {B : Nat} (hl : ∀ c, c ∈ l -> c.bo.nsz <= B) {t x u : T} {c A : Nat} (ht : t.pot <= A) (hx : x.pot <= A) (h : ownS l t x = some (u, c)) : c <= 7 + 8 * A + A * A + B := by
 have kt := fun i => kid_pot t i
 have kx := fun i => kid_pot x i
 unfold ownS at h
 repeat' split at h
 all_goals first | (cases h; done) | skip
 all_goals first
  | (cases h; have := sd_bound (A := A) (Nat.le_trans (kx 1) hx) (Nat.le_trans (kt 1) ht); omega)
  | (cases h; have := sd_bound (A := A) (Nat.le_trans (kt 2) ht) (Nat.le_trans (kt 1) ht); omega)
  | (cases h; have h1 := nsz_pot (x.kid 1); have h2 := kx 1; omega)
  | (cases h; have h1 := nsz_pot (x.kid 0); have h2 := kx 0; omega)
  | (cases h; have h1 := nsz_pot (t.kid 3); have h2 := kt 3; omega)
  | (cases h; have h1 := nsz_pot (t.kid (x.n.toNat + 1)); have h2 := kt (x.n.toNat + 1); omega)
  | (cases h; unfold treeN; have h1 := sd_bound (A := A) (Nat.le_trans (kt 1) ht) (Nat.le_trans (kx 0) hx); have h2 := nsz_pot (x.kid 0); have h3 := nsz_pot (x.kid 1); have h4 := nsz_pot (t.kid 0); have h5 := nsz_pot (t.kid 1); have h6 := nsz_pot (t.kid 2); have h7 := nsz_pot (t.kid 3); have h8 := kx 0; have h9 := kx 1; have g4 := kt 0; have g5 := kt 1; have g6 := kt 2; have g7 := kt 3; dsimp only; omega)
  | (rw [Option.map_eq_some_iff] at h; obtain ⟨b, hb1, hb⟩ := h; cases hb; have := body_nsz hl hb1; omega)
theorem hstep_bound {l : List C} {B : Nat} (hl : ∀ c, c ∈ l -> c.bo.nsz <= B) (t : T) : ∀ {u : T} {c A : Nat}, t.pot <= A -> Wo l t = some (u, c) -> c <= 7 + 8 * A + A * A + B := by
 induction t using T.ind with
 | h k n a ls ks ih =>
  intro u c A hA h
  rcases hstep_cases h with ⟨i, many, hs, hi, v, hv, -⟩ | ⟨i, many, hs, x, hx, ho⟩ | ⟨hs, ho⟩
  ·have hk := kid_pot (T.mk k n a ls ks) i
   have h3 : (T.mk k n a ls ks).kid i = (T.mk k n a ls ks).ks[i] := by unfold T.kid; rw [List.getD_eq_getElem?_getD, List.getElem?_eq_getElem hi]; rfl
   rw [h3] at hk
   exact ih _ (List.getElem_mem hi) (Nat.le_trans hk hA) hv
  ·have h1 := with_pot (x := x) hs
   have h2 := kid_pot (T.mk k n a ls ks) i
   exact own_bound hl (A := A) (by omega) (by omega) ho
  ·exact own_bound hl (A := A) hA (by rw [pot_zero]; have := pot_pos (T.mk k n a ls ks); omega) ho
inductive GoneAt (l : List C) : T -> Int -> Int -> Prop where
 | now {t u : T} {c : Nat} {f : Int} (h : Wo l t = some (u, c)) (hf : f < c) : GoneAt l t f f
 | later {t u : T} {c : Nat} {f q : Int} (h : Wo l t = some (u, c)) (hf : (c : Int) <= f) (r : GoneAt l u (f - c) q) : GoneAt l t f q
theorem hd_or_gone (l : List C) (k : Nat) : ∀ (t : T) (f : Int), 0 <= f -> f <= k -> (∃ n u, Hd l t n u /\ (n : Int) <= f) \/ ∃ q, GoneAt l t f q := by
 induction k with
 | zero =>
  intro t f h0 h1
  cases h : Wo l t with
  | none => exact .inl ⟨0, _, .stop h, by omega⟩
  | some p =>
   have := hstep_pos t h
   exact .inr ⟨f, .now h (by omega)⟩
 | succ k ih =>
  intro t f h0 h1
  cases h : Wo l t with
  | none => exact .inl ⟨0, _, .stop h, by omega⟩
  | some p =>
   have hp := hstep_pos t h
   by_cases hc : (p.2 : Int) <= f
   ·rcases ih p.1 (f - p.2) (by omega) (by omega) with ⟨n, u, h2, h3⟩ | ⟨q, h2⟩
    ·exact .inl ⟨p.2 + n, u, .step h h2, by omega⟩
    ·exact .inr ⟨q, .later h hc h2⟩
   ·exact .inr ⟨f, .now h (by omega)⟩
theorem Hd.done {l : List C} {t v : T} {n : Nat} (h : Hd l t n v) : Wo l v = none /\ v.trunc = v := by
 induction h with
 | stop h => exact trunc_stuck _ h
 | step h r ih => exact ih
def Wv (t : T) : T := match spot t with
 | some p => t.kid p.1
 | none => Wh
theorem kid_in {t : T} {i : Nat} (h : i < t.ks.length) : t.kid i = t.ks[i] := by unfold T.kid; rw [List.getD_eq_getElem?_getD, List.getElem?_eq_getElem h]; rfl
theorem kid_out {t : T} {i : Nat} (h : ¬ i < t.ks.length) : t.kid i = Wh := by unfold T.kid; rw [List.getD_eq_getElem?_getD, List.getElem?_eq_none (by omega)]; rfl
theorem with_len {t x : T} {i many : Nat} : (t.withT x i many).ks.length = many := by unfold T.withT; rw [T.ks_mk, withK_len]
theorem with_kid {t x : T} {i many : Nat} (h : spot t = some (i, many)) : (t.withT x i many).kid i = x := by
 have hlt := spot_lt h
 have h2 : i < (t.withT x i many).ks.length := by rw [with_len]; exact hlt
 rw [kid_in h2, with_get hlt h2]
theorem place_with {t x : T} {i many : Nat} (h : spot t = some (i, many)) : Wv (t.withT x i many) = x := by
 unfold Wv
 rw [spot_with h]
 exact with_kid h
theorem kid_step {l : List C} {t : T} {i many : Nat} (hs : spot t = some (i, many)) {u : T} {c : Nat} (hu : Wo l (t.kid i) = some (u, c)) : Wo l t = some (t.withT u i many, c) := by
 by_cases hi : i < t.ks.length
 ·rw [kid_in hi] at hu; exact hstep_in hs hi hu
 ·rw [kid_out hi, zero_step] at hu; cases hu
theorem kid_stuck {l : List C} {t : T} {i many : Nat} (hs : spot t = some (i, many)) (hu : Wo l (t.kid i) = none) : Wo l t = ownS l (t.withT (t.kid i).trunc i many) (t.kid i).trunc /\ t.trunc = t.withT (t.kid i).trunc i many := by
 by_cases hi : i < t.ks.length
 ·rw [kid_in hi] at hu ⊢; exact ⟨hstep_at hs hi hu, trunc_in hs hi⟩
 ·rw [kid_out hi, trunc_none zero_spot]; exact ⟨hstep_out hs hi, trunc_out hs hi⟩
theorem ready {l : List C} {t v : T} {i many : Nat} (hs : spot t = some (i, many)) (hv : Wo l v = none) (hv2 : v.trunc = v) : Wo l (t.withT v i many) = ownS l (t.withT v i many) v /\ (t.withT v i many).trunc = t.withT v i many := by
 have h1 := spot_with (x := v) hs
 have h2 := kid_stuck (l := l) h1 (by rw [with_kid hs]; exact hv)
 rw [with_kid hs, hv2, with_with] at h2
 exact h2
theorem ready_kid {l : List C} {t : T} {i many : Nat} (hs : spot t = some (i, many)) (hu : Wo l (t.kid i) = none) : Wo l (t.withT (t.kid i).trunc i many) = Wo l t /\ (t.withT (t.kid i).trunc i many).trunc = t.trunc := by
 obtain ⟨h1, h2⟩ := trunc_stuck _ hu
 obtain ⟨h3, h4⟩ := ready hs h1 h2
 obtain ⟨h5, h6⟩ := kid_stuck hs hu
 exact ⟨by rw [h3, h5], by rw [h4, h6]⟩
theorem Hd.place {l : List C} {t u : T} {n : Nat} (h : Hd l t n u) : ∀ {i many : Nat}, spot t = some (i, many) -> ∃ m v, Hd l (t.kid i) m v /\ m <= n /\ Hd l (t.withT v i many) (n - m) u := by
 induction h with
 | @stop t h =>
  intro i many hs
  cases hk : Wo l (t.kid i) with
  | some p => rw [kid_step hs (u := p.1) (c := p.2) hk] at h; cases h
  | none =>
   obtain ⟨h1, h2⟩ := ready_kid hs hk
   refine ⟨0, _, .stop hk, Nat.le_refl _, ?_⟩
   rw [<- h2]
   exact .stop (by rw [h1]; exact h)
 | @step t u v c n h r ih =>
  intro i many hs
  cases hk : Wo l (t.kid i) with
  | some p =>
   rw [kid_step hs (u := p.1) (c := p.2) hk] at h
   cases h
   obtain ⟨m, w, h1, h2, h3⟩ := ih (spot_with hs)
   rw [with_kid hs] at h1
   rw [with_with] at h3
   exact ⟨p.2 + m, w, .step hk h1, by omega, by rw [show p.2 + n - (p.2 + m) = n - m by omega]; exact h3⟩
  | none =>
   obtain ⟨h1, h2⟩ := ready_kid hs hk
   exact ⟨0, _, .stop hk, Nat.zero_le _, .step (by rw [h1]; exact h) r⟩
theorem GoneAt.place {l : List C} {t : T} {f q : Int} (h : GoneAt l t f q) : ∀ {i many : Nat}, 0 <= f -> spot t = some (i, many) -> GoneAt l (t.kid i) f q \/ ∃ m v, Hd l (t.kid i) m v /\ (m : Int) <= f /\ GoneAt l (t.withT v i many) (f - m) q := by
 induction h with
 | @now t u c f h hf =>
  intro i many h0 hs
  cases hk : Wo l (t.kid i) with
  | some p =>
   rw [kid_step hs (u := p.1) (c := p.2) hk] at h
   cases h
   exact .inl (.now hk hf)
  | none =>
   obtain ⟨h1, h2⟩ := ready_kid hs hk
   refine .inr ⟨0, _, .stop hk, by omega, ?_⟩
   have : GoneAt l (t.withT (t.kid i).trunc i many) f f := .now (by rw [h1]; exact h) hf
   simpa using this
 | @later t u c f q h hf r ih =>
  intro i many h0 hs
  cases hk : Wo l (t.kid i) with
  | some p =>
   rw [kid_step hs (u := p.1) (c := p.2) hk] at h
   cases h
   rcases ih (by omega) (spot_with hs) with h1 | ⟨m, w, h1, h2, h3⟩
   ·rw [with_kid hs] at h1
    exact .inl (.later hk hf h1)
   ·rw [with_kid hs] at h1
    rw [with_with] at h3
    refine .inr ⟨p.2 + m, w, .step hk h1, by omega, ?_⟩
    rw [show f - ((p.2 + m : Nat) : Int) = f - p.2 - m by omega]
    exact h3
  | none =>
   obtain ⟨h1, h2⟩ := ready_kid hs hk
   refine .inr ⟨0, _, .stop hk, by omega, ?_⟩
   have : GoneAt l (t.withT (t.kid i).trunc i many) f q := .later (by rw [h1]; exact h) hf r
   simpa using this
def up1 (c : Nat) (k : Int) (i : Nat) : Nat := if Ww k i then c + 1 else c
mutual
def T.liftI (n : Nat) : T -> Nat -> T
 | .mk k m a ls ks, c => .mk k (if k = 1 /\ (c : Int) <= m then m + n else m) a ls (T.liftsI n k ks 0 c)
def T.liftsI (n : Nat) (k : Int) : List T -> Nat -> Nat -> List T
 | [], _, _ => []
 | t :: r, i, c => T.liftI n t (up1 c k i) :: T.liftsI n k r (i + 1) c
end
mutual
def T.putI (x : T) : T -> Nat -> T
 | .mk k m a ls ks, d => if k = 1 /\ m = d then x.liftI d 0 else .mk k (if k = 1 /\ (d : Int) < m then m - 1 else m) a ls (T.putsI x k ks 0 d)
def T.putsI (x : T) (k : Int) : List T -> Nat -> Nat -> List T
 | [], _, _ => []
 | t :: r, i, d => T.putI x t (up1 d k i) :: T.putsI x k r (i + 1) d
end
theorem liftI_var (n : Nat) (m a : Int) (ls : List LV) (ks : List T) (c : Nat) : T.liftI n (.mk 1 m a ls ks) c = .mk 1 (if (c : Int) <= m then m + n else m) a ls (T.liftsI n 1 ks 0 c) := by rw [T.liftI]; simp
theorem liftI_node {k : Int} (hk : ¬ k = 1) (n : Nat) (m a : Int) (ls : List LV) (ks : List T) (c : Nat) : T.liftI n (.mk k m a ls ks) c = .mk k m a ls (T.liftsI n k ks 0 c) := by rw [T.liftI, if_neg (fun h => hk h.1)]
theorem putI_hit (x : T) (a : Int) (ls : List LV) (ks : List T) (d : Nat) : T.putI x (.mk 1 (d : Int) a ls ks) d = x.liftI d 0 := by rw [T.putI, if_pos ⟨rfl, rfl⟩]
theorem putI_miss {m : Int} {d : Nat} (h : ¬ m = d) (x : T) (a : Int) (ls : List LV) (ks : List T) : T.putI x (.mk 1 m a ls ks) d = .mk 1 (if (d : Int) < m then m - 1 else m) a ls (T.putsI x 1 ks 0 d) := by rw [T.putI, if_neg (fun e => h e.2)]; simp
theorem putI_node {k : Int} (hk : ¬ k = 1) (x : T) (m a : Int) (ls : List LV) (ks : List T) (d : Nat) : T.putI x (.mk k m a ls ks) d = .mk k m a ls (T.putsI x k ks 0 d) := by rw [T.putI, if_neg (fun h => hk h.1), if_neg (fun h => hk h.1)]
theorem liftsI_len (n : Nat) (k : Int) : ∀ (ks : List T) (i c : Nat), (T.liftsI n k ks i c).length = ks.length
 | [], _, _ => by rw [T.liftsI]
 | t :: r, i, c => by rw [T.liftsI, List.length_cons, List.length_cons, liftsI_len n k r]
theorem putsI_len (x : T) (k : Int) : ∀ (ks : List T) (i c : Nat), (T.putsI x k ks i c).length = ks.length
 | [], _, _ => by rw [T.putsI]
 | t :: r, i, c => by rw [T.putsI, List.length_cons, List.length_cons, putsI_len x k r]
theorem up1_add (c e : Nat) (k : Int) (i : Nat) : up1 (c + e) k i = up1 c k i + e := by unfold up1; split <;> omega
theorem up1_le {c d : Nat} (h : c <= d) (k : Int) (i : Nat) : up1 c k i <= up1 d k i := by unfold up1; split <;> omega
theorem lift_lift_in (n m : Nat) (t : T) : ∀ c e, c <= e -> e <= c + n -> (t.liftI n c).liftI m e = t.liftI (n + m) c := by
 induction t using T.ind with
 | h k num a ls ks ih =>
  intro c e h1 h2
  rw [T.liftI, T.liftI, T.liftI]
  have hks : ∀ (l : List T), (∀ x, x ∈ l -> x ∈ ks) -> ∀ i, T.liftsI m k (T.liftsI n k l i c) i e = T.liftsI (n + m) k l i c := by
   intro l
   induction l with
   | nil => intro _ i; simp [T.liftsI]
   | cons x r ihl =>
    intro hl i
    rw [T.liftsI, T.liftsI, T.liftsI, ih x (hl x List.mem_cons_self) _ _ (up1_le h1 k i) (by rw [<- up1_add]; exact up1_le h2 k i), ihl (fun y hy => hl y (List.mem_cons_of_mem _ hy))]
  rw [hks ks (fun _ h => h)]
  congr 1
  by_cases hk : k = 1 /\ (c : Int) <= num
  ·rw [if_pos hk, if_pos ⟨hk.1, by have := hk.2; omega⟩, if_pos hk]; push_cast; omega
  ·rw [if_neg hk, if_neg hk, if_neg (fun h => hk ⟨h.1, by have := h.2; omega⟩)]
theorem lift_lift_out (n m : Nat) (t : T) : ∀ c e, c <= e -> (t.liftI m e).liftI n c = (t.liftI n c).liftI m (e + n) := by
 induction t using T.ind with
 | h k num a ls ks ih =>
  intro c e h1
  rw [T.liftI, T.liftI, T.liftI, T.liftI]
  have hks : ∀ (l : List T), (∀ x, x ∈ l -> x ∈ ks) -> ∀ i, T.liftsI n k (T.liftsI m k l i e) i c = T.liftsI m k (T.liftsI n k l i c) i (e + n) := by
   intro l
   induction l with
   | nil => intro _ i; simp [T.liftsI]
   | cons x r ihl =>
    intro hl i
    simp only [T.liftsI]
    rw [ih x (hl x List.mem_cons_self) _ _ (up1_le h1 k i), up1_add, ihl (fun y hy => hl y (List.mem_cons_of_mem _ hy))]
  rw [hks ks (fun _ h => h)]
  congr 1
  by_cases hk : k = 1
  ·simp only [hk, true_and]
   repeat' split
   all_goals omega
  ·simp [hk]
theorem put_lift_in (x : T) (n : Nat) (t : T) : ∀ c d, c <= d -> d <= c + n -> T.putI x (t.liftI (n + 1) c) d = t.liftI n c := by
 induction t using T.ind with
 | h k num a ls ks ih =>
  intro c d h1 h2
  have hks : ∀ (l : List T), (∀ y, y ∈ l -> y ∈ ks) -> ∀ i, T.putsI x k (T.liftsI (n + 1) k l i c) i d = T.liftsI n k l i c := by
   intro l
   induction l with
   | nil => intro _ i; simp [T.liftsI, T.putsI]
   | cons y r ihl =>
    intro hl i
    rw [T.liftsI, T.putsI, T.liftsI, ih y (hl y List.mem_cons_self) _ _ (up1_le h1 k i) (by rw [<- up1_add]; exact up1_le h2 k i), ihl (fun z hz => hl z (List.mem_cons_of_mem _ hz))]
  rw [T.liftI, T.liftI, T.putI, hks ks (fun _ h => h)]
  by_cases hk : k = 1
  ·subst hk
   simp only [true_and]
   by_cases hc : (c : Int) <= num
   ·rw [if_pos hc, if_neg (by push_cast; omega), if_pos (by push_cast; omega), if_pos hc]
    congr 1
    push_cast; omega
   ·rw [if_neg hc, if_neg (by omega), if_neg (by omega), if_neg hc]
  ·simp [hk]
theorem lift_put_low (x : T) (n : Nat) (t : T) : ∀ c d, c <= d -> (T.putI x t d).liftI n c = T.putI x (t.liftI n c) (d + n) := by
 induction t using T.ind with
 | h k num a ls ks ih =>
  intro c d h1
  have hks : ∀ (l : List T), (∀ y, y ∈ l -> y ∈ ks) -> ∀ i, T.liftsI n k (T.putsI x k l i d) i c = T.putsI x k (T.liftsI n k l i c) i (d + n) := by
   intro l
   induction l with
   | nil => intro _ i; simp [T.liftsI, T.putsI]
   | cons y r ihl =>
    intro hl i
    simp only [T.liftsI, T.putsI]
    rw [ih y (hl y List.mem_cons_self) _ _ (up1_le h1 k i), up1_add, ihl (fun z hz => hl z (List.mem_cons_of_mem _ hz))]
  by_cases hk : k = 1
  ·subst hk
   by_cases hd : num = d
   ·subst hd
    rw [putI_hit, liftI_var, if_pos (by omega), show (d : Int) + n = ((d + n : Nat) : Int) by push_cast; rfl, putI_hit]
    exact lift_lift_in d n x 0 c (by omega) (by omega)
   ·have hne : ¬ (if (c : Int) <= num then num + n else num) = ((d + n : Nat) : Int) := by split <;> (push_cast; omega)
    rw [putI_miss hd, liftI_var, liftI_var, putI_miss hne, hks ks (fun _ h => h)]
    congr 1
    repeat' split
    all_goals (push_cast at *; omega)
  ·rw [putI_node hk, liftI_node hk, liftI_node hk, putI_node hk, hks ks (fun _ h => h)]
theorem lift_put_high (x : T) (n : Nat) (t : T) : ∀ c d, (T.putI x t d).liftI n (c + d) = T.putI (x.liftI n c) (t.liftI n (c + d + 1)) d := by
 induction t using T.ind with
 | h k num a ls ks ih =>
  intro c d
  have hks : ∀ (l : List T), (∀ y, y ∈ l -> y ∈ ks) -> ∀ i, T.liftsI n k (T.putsI x k l i d) i (c + d) = T.putsI (x.liftI n c) k (T.liftsI n k l i (c + d + 1)) i d := by
   intro l
   induction l with
   | nil => intro _ i; simp [T.liftsI, T.putsI]
   | cons y r ihl =>
    intro hl i
    have e1 : up1 (c + d) k i = c + up1 d k i := by unfold up1; split <;> omega
    have e2 : up1 (c + d + 1) k i = c + up1 d k i + 1 := by unfold up1; split <;> omega
    simp only [T.liftsI, T.putsI]
    rw [e1, e2, ih y (hl y List.mem_cons_self), ihl (fun z hz => hl z (List.mem_cons_of_mem _ hz))]
  by_cases hk : k = 1
  ·subst hk
   by_cases hd : num = d
   ·subst hd
    rw [putI_hit, liftI_var, if_neg (by push_cast; omega), putI_hit]
    have := lift_lift_out d n x 0 c (by omega)
    rw [this]
   ·have hne : ¬ (if ((c + d + 1 : Nat) : Int) <= num then num + n else num) = (d : Int) := by split <;> (push_cast at *; omega)
    rw [putI_miss hd, liftI_var, liftI_var, putI_miss hne, hks ks (fun _ h => h)]
    congr 1
    repeat' split
    all_goals (push_cast at *; omega)
  ·rw [putI_node hk, liftI_node hk, liftI_node hk, putI_node hk, hks ks (fun _ h => h)]
theorem put_put_I (x y : T) (t : T) : ∀ d e, T.putI y (T.putI x t d) (d + e) = T.putI (T.putI y x e) (T.putI y t (d + e + 1)) d := by
 induction t using T.ind with
 | h k num a ls ks ih =>
  intro d e
  have hks : ∀ (l : List T), (∀ z, z ∈ l -> z ∈ ks) -> ∀ i, T.putsI y k (T.putsI x k l i d) i (d + e) = T.putsI (T.putI y x e) k (T.putsI y k l i (d + e + 1)) i d := by
   intro l
   induction l with
   | nil => intro _ i; simp [T.putsI]
   | cons z r ihl =>
    intro hl i
    have e1 : up1 (d + e) k i = up1 d k i + e := by unfold up1; split <;> omega
    have e2 : up1 (d + e + 1) k i = up1 d k i + e + 1 := by unfold up1; split <;> omega
    simp only [T.putsI]
    rw [e1, e2, ih z (hl z List.mem_cons_self), ihl (fun w hw => hl w (List.mem_cons_of_mem _ hw))]
  by_cases hk : k = 1
  ·subst hk
   by_cases hd : num = d
   ·subst hd
    rw [putI_hit, putI_miss (by push_cast; omega), if_neg (by push_cast; omega), putI_hit]
    have := lift_put_low y d x 0 e (by omega)
    rw [this, Nat.add_comm]
   ·by_cases he : num = ((d + e + 1 : Nat) : Int)
    ·subst he
     rw [putI_miss hd, if_pos (by push_cast; omega), show ((d + e + 1 : Nat) : Int) - 1 = ((d + e : Nat) : Int) by push_cast; omega, putI_hit, putI_hit]
     have := put_lift_in (T.putI y x e) (d + e) y 0 d (by omega) (by omega)
     rw [this]
    ·have hne : ¬ (if (d : Int) < num then num - 1 else num) = ((d + e : Nat) : Int) := by split <;> (push_cast at *; omega)
     have hne2 : ¬ (if ((d + e + 1 : Nat) : Int) < num then num - 1 else num) = (d : Int) := by split <;> (push_cast at *; omega)
     rw [putI_miss hd, putI_miss hne, putI_miss he, putI_miss hne2, hks ks (fun _ h => h)]
     congr 1
     repeat' split
     all_goals (push_cast at *; omega)
  ·rw [putI_node hk, putI_node hk, putI_node hk, putI_node hk, hks ks (fun _ h => h)]
def treeI (t s : T) : T :=
 ofT 6 [ofT 6 [ofT 6 [t.kid 3, s.kid 0], s.kid 1], ofT 5 [T.putI (s.kid 0) (t.kid 1) 0, ofT 18 [(t.kid 0).liftI 1 0, (t.kid 1).liftI 1 1, (t.kid 2).liftI 1 0, (t.kid 3).liftI 1 0, ofT 6 [(s.kid 1).liftI 1 0, ofT 1 []]]]]
def ownI (l : List C) (t x : T) : Option T :=
 if t.k = 6 then if x.k = 5 then some (T.putI (t.kid 1) (x.kid 1) 0) else none
 else if t.k = 14 \/ t.k = 15 then if x.k = 13 then some (x.kid (if t.k = 15 then 1 else 0)) else none
 else if t.k = 7 then some (T.putI (t.kid 1) (t.kid 2) 0)
 else if t.k = 3 then bodyC l t.n t.ls
 else if t.k = 18 then if x.k = 17 then some (treeI t x) else none
 else if t.k = 21 then if x.k = 20 then some (t.kid 3) else none
 else if t.k = 24 /\ (spot t).isSome then if x.k = 23 /\ 0 <= x.n /\ x.n < t.a then some (t.kid (x.n.toNat + 1)) else none
 else none
def rootI (l : List C) (t : T) : Option T := ownI l t (Wv t)
theorem kid_mk (k n a : Int) (ls : List LV) (ks : List T) (i : Nat) : (T.mk k n a ls ks).kid i = ks.getD i Wh := rfl
theorem zero_liftI (n c : Nat) : Wh.liftI n c = Wh := by unfold Wh; rw [liftI_node (by decide), T.liftsI]
theorem zero_putI (x : T) (d : Nat) : T.putI x Wh d = Wh := by unfold Wh; rw [putI_node (by decide), T.putsI]
theorem liftsI_getD (n : Nat) (k : Int) : ∀ (ks : List T) (i c j : Nat), (T.liftsI n k ks i c).getD j Wh = (ks.getD j Wh).liftI n (up1 c k (i + j))
 | [], i, c, j => by rw [T.liftsI]; simp [zero_liftI]
 | t :: r, i, c, 0 => by rw [T.liftsI]; simp
 | t :: r, i, c, j + 1 => by
  rw [T.liftsI, List.getD_cons_succ, List.getD_cons_succ, liftsI_getD n k r (i + 1) c j, show i + 1 + j = i + (j + 1) by omega]
theorem putsI_getD (x : T) (k : Int) : ∀ (ks : List T) (i c j : Nat), (T.putsI x k ks i c).getD j Wh = T.putI x (ks.getD j Wh) (up1 c k (i + j))
 | [], i, c, j => by rw [T.putsI]; simp [zero_putI]
 | t :: r, i, c, 0 => by rw [T.putsI]; simp
 | t :: r, i, c, j + 1 => by
  rw [T.putsI, List.getD_cons_succ, List.getD_cons_succ, putsI_getD x k r (i + 1) c j, show i + 1 + j = i + (j + 1) by omega]
theorem liftI_k (n : Nat) (t : T) (c : Nat) : (t.liftI n c).k = t.k := by cases t; rw [T.liftI]; rfl
theorem liftI_rest {t : T} (hk : ¬ t.k = 1) (n c : Nat) : (t.liftI n c).n = t.n /\ (t.liftI n c).a = t.a /\ (t.liftI n c).ls = t.ls /\ (t.liftI n c).ks.length = t.ks.length := by
 cases t with
 | mk k m a ls ks => rw [liftI_node (k := k) hk]; exact ⟨rfl, rfl, rfl, liftsI_len _ _ _ _ _⟩
theorem liftI_kid (n : Nat) (t : T) (c i : Nat) : (t.liftI n c).kid i = (t.kid i).liftI n (up1 c t.k i) := by
 cases t with
 | mk k m a ls ks => rw [T.liftI, kid_mk, kid_mk, liftsI_getD, Nat.zero_add]; rfl
theorem putI_rest {t : T} (hk : ¬ t.k = 1) (x : T) (d : Nat) : (T.putI x t d).k = t.k /\ (T.putI x t d).n = t.n /\ (T.putI x t d).a = t.a /\ (T.putI x t d).ls = t.ls /\ (T.putI x t d).ks.length = t.ks.length := by
 cases t with
 | mk k m a ls ks => rw [putI_node (k := k) hk]; exact ⟨rfl, rfl, rfl, rfl, putsI_len _ _ _ _ _⟩
theorem putI_kid {t : T} (hk : ¬ t.k = 1) (x : T) (d i : Nat) : (T.putI x t d).kid i = T.putI x (t.kid i) (up1 d t.k i) := by
 cases t with
 | mk k m a ls ks => rw [putI_node (k := k) hk, kid_mk, kid_mk, putsI_getD, Nat.zero_add]; rfl
theorem spot_congr {t u : T} (h1 : u.k = t.k) (h2 : u.a = t.a) (h3 : u.ks.length = t.ks.length) : spot u = spot t := by unfold spot; rw [h1, h2, h3]
theorem Wu {k : Int} {i : Nat} (h : Ww k i = false) (c : Nat) : up1 c k i = c := by unfold up1; rw [h]; rfl
theorem up1_yes {k : Int} {i : Nat} (h : Ww k i = true) (c : Nat) : up1 c k i = c + 1 := by unfold up1; rw [h]; rfl
theorem binds_case (i : Nat) : Ww 24 i = false := by unfold Ww; simp [kindAt, kindRowsD]
theorem ofT_liftI {k : Int} (hk : ¬ k = 1) (ks : List T) (n c : Nat) : (ofT k ks).liftI n c = ofT k (T.liftsI n k ks 0 c) := liftI_node hk n 0 0 [] ks c
theorem ofT_putI {k : Int} (hk : ¬ k = 1) (ks : List T) (x : T) (c : Nat) : T.putI x (ofT k ks) c = ofT k (T.putsI x k ks 0 c) := putI_node hk x 0 0 [] ks c
def Closed (l : List C) : Prop := ∀ n lv b, bodyC l n lv = some b -> (∀ m c, b.liftI m c = b) /\ ∀ x d, T.putI x b d = b
theorem tree_liftI (t s : T) (ht : t.k = 18) (hs : s.k = 17) (n c : Nat) : (treeI t s).liftI n c = treeI (t.liftI n c) (s.liftI n c) := by
 unfold treeI
 simp only [liftI_kid, ht, hs, Wu (show Ww 18 ((0 : Nat) : Int) = false by decide), up1_yes (show Ww 18 ((1 : Nat) : Int) = true by decide), Wu (show Ww 18 ((2 : Nat) : Int) = false by decide), Wu (show Ww 18 ((3 : Nat) : Int) = false by decide), Wu (show Ww 17 ((0 : Nat) : Int) = false by decide), Wu (show Ww 17 ((1 : Nat) : Int) = false by decide)]
 rw [ofT_liftI (by decide)]
 simp only [T.liftsI, ofT_liftI (k := 6) (by decide), ofT_liftI (k := 5) (by decide), ofT_liftI (k := 18) (by decide), T.liftsI, Wu (show Ww 6 ((0 : Nat) : Int) = false by decide), Wu (show Ww 6 ((1 : Nat) : Int) = false by decide), Wu (show Ww 5 ((0 : Nat) : Int) = false by decide), up1_yes (show Ww 5 ((1 : Nat) : Int) = true by decide),
  Wu (show Ww 18 ((0 : Nat) : Int) = false by decide), up1_yes (show Ww 18 ((1 : Nat) : Int) = true by decide), Wu (show Ww 18 ((2 : Nat) : Int) = false by decide), Wu (show Ww 18 ((3 : Nat) : Int) = false by decide), Wu (show Ww 18 ((4 : Nat) : Int) = false by decide), Nat.zero_add, Nat.reduceAdd]
 have e1 := lift_put_high (s.kid 0) n (t.kid 1) c 0
 simp only [Nat.add_zero] at e1
 have e2 : (ofT 1 []).liftI n (c + 1) = ofT 1 [] := by unfold ofT; rw [liftI_var, if_neg (by push_cast; omega), T.liftsI]
 rw [e1, e2, lift_lift_out 1 n (t.kid 0) 0 c (by omega), lift_lift_out 1 n (t.kid 1) 1 (c + 1) (by omega), lift_lift_out 1 n (t.kid 2) 0 c (by omega), lift_lift_out 1 n (t.kid 3) 0 c (by omega), lift_lift_out 1 n (s.kid 1) 0 c (by omega)]
theorem tree_putI (t s : T) (ht : t.k = 18) (hs : s.k = 17) (y : T) (d : Nat) : T.putI y (treeI t s) d = treeI (T.putI y t d) (T.putI y s d) := by
 have ht1 : ¬ t.k = 1 := by omega
 have hs1 : ¬ s.k = 1 := by omega
 unfold treeI
 simp only [putI_kid ht1, putI_kid hs1, ht, hs, Wu (show Ww 18 ((0 : Nat) : Int) = false by decide), up1_yes (show Ww 18 ((1 : Nat) : Int) = true by decide), Wu (show Ww 18 ((2 : Nat) : Int) = false by decide), Wu (show Ww 18 ((3 : Nat) : Int) = false by decide), Wu (show Ww 17 ((0 : Nat) : Int) = false by decide), Wu (show Ww 17 ((1 : Nat) : Int) = false by decide)]
 rw [ofT_putI (by decide)]
 simp only [T.putsI, ofT_putI (k := 6) (by decide), ofT_putI (k := 5) (by decide), ofT_putI (k := 18) (by decide), T.putsI, Wu (show Ww 6 ((0 : Nat) : Int) = false by decide), Wu (show Ww 6 ((1 : Nat) : Int) = false by decide), Wu (show Ww 5 ((0 : Nat) : Int) = false by decide), up1_yes (show Ww 5 ((1 : Nat) : Int) = true by decide),
  Wu (show Ww 18 ((0 : Nat) : Int) = false by decide), up1_yes (show Ww 18 ((1 : Nat) : Int) = true by decide), Wu (show Ww 18 ((2 : Nat) : Int) = false by decide), Wu (show Ww 18 ((3 : Nat) : Int) = false by decide), Wu (show Ww 18 ((4 : Nat) : Int) = false by decide), Nat.zero_add, Nat.reduceAdd]
 have e1 := put_put_I (s.kid 0) y (t.kid 1) 0 d
 simp only [Nat.zero_add] at e1
 have e2 : T.putI y (ofT 1 []) (d + 1) = ofT 1 [] := by unfold ofT; rw [putI_miss (by push_cast; omega), if_neg (by push_cast; omega), T.putsI]
 rw [e1, e2, <- lift_put_low y 1 (t.kid 0) 0 d (by omega), <- lift_put_low y 1 (t.kid 1) 1 (d + 1) (by omega), <- lift_put_low y 1 (t.kid 2) 0 d (by omega), <- lift_put_low y 1 (t.kid 3) 0 d (by omega), <- lift_put_low y 1 (s.kid 1) 0 d (by omega)]
theorem rootI_cases {l : List C} {t u : T} (h : rootI l t = some u) :
  (t.k = 6 /\ (t.kid 0).k = 5 /\ u = T.putI (t.kid 1) ((t.kid 0).kid 1) 0) \/ (t.k = 14 /\ (t.kid 0).k = 13 /\ u = (t.kid 0).kid 0) \/ (t.k = 15 /\ (t.kid 0).k = 13 /\ u = (t.kid 0).kid 1) \/ (t.k = 7 /\ u = T.putI (t.kid 1) (t.kid 2) 0) \/
  (t.k = 3 /\ bodyC l t.n t.ls = some u) \/ (t.k = 18 /\ (t.kid 4).k = 17 /\ u = treeI t (t.kid 4)) \/ (t.k = 21 /\ (t.kid 5).k = 20 /\ u = t.kid 3) \/
  (t.k = 24 /\ 0 <= t.a /\ (t.ks.length : Int) - 2 = t.a /\ (t.kid (t.a.toNat + 1)).k = 23 /\ 0 <= (t.kid (t.a.toNat + 1)).n /\ (t.kid (t.a.toNat + 1)).n < t.a /\ u = t.kid ((t.kid (t.a.toNat + 1)).n.toNat + 1)) := by
 unfold rootI ownI Wv spot at h
 by_cases h1 : t.k = 6
 ·simp only [h1, if_true] at h
  split at h
  ·rename_i hx; cases h; exact .inl ⟨h1, hx, rfl⟩
  ·cases h
 by_cases h2 : t.k = 14
 ·simp [h2] at h
  exact .inr (.inl ⟨h2, h.1, h.2.symm⟩)
 by_cases h3 : t.k = 15
 ·simp [h3] at h
  exact .inr (.inr (.inl ⟨h3, h.1, h.2.symm⟩))
 by_cases h4 : t.k = 7
 ·simp [h4] at h
  exact .inr (.inr (.inr (.inl ⟨h4, h.symm⟩)))
 by_cases h5 : t.k = 3
 ·simp [h5] at h
  exact .inr (.inr (.inr (.inr (.inl ⟨h5, h⟩))))
 by_cases h6 : t.k = 18
 ·simp [h6] at h
  exact .inr (.inr (.inr (.inr (.inr (.inl ⟨h6, h.1, h.2.symm⟩)))))
 by_cases h7 : t.k = 21
 ·simp [h7] at h
  exact .inr (.inr (.inr (.inr (.inr (.inr (.inl ⟨h7, h.1, h.2.symm⟩))))))
 by_cases h8 : t.k = 24
 ·by_cases h9 : 0 <= t.a /\ (t.ks.length : Int) - 2 = t.a
  ·simp [h8, h9] at h
   exact .inr (.inr (.inr (.inr (.inr (.inr (.inr ⟨h8, h9.1, h9.2, h.1.1, h.1.2.1, h.1.2.2, h.2.symm⟩))))))
  ·simp [h8, h9] at h
 ·simp [h1, h2, h3, h4, h5, h6, h7, h8] at h
theorem Xt {l : List C} {t u : T} (h : (t.k = 6 /\ (t.kid 0).k = 5 /\ u = T.putI (t.kid 1) ((t.kid 0).kid 1) 0) \/ (t.k = 14 /\ (t.kid 0).k = 13 /\ u = (t.kid 0).kid 0) \/ (t.k = 15 /\ (t.kid 0).k = 13 /\ u = (t.kid 0).kid 1) \/ (t.k = 7 /\ u = T.putI (t.kid 1) (t.kid 2) 0) \/
  (t.k = 3 /\ bodyC l t.n t.ls = some u) \/ (t.k = 18 /\ (t.kid 4).k = 17 /\ u = treeI t (t.kid 4)) \/ (t.k = 21 /\ (t.kid 5).k = 20 /\ u = t.kid 3) \/
  (t.k = 24 /\ 0 <= t.a /\ (t.ks.length : Int) - 2 = t.a /\ (t.kid (t.a.toNat + 1)).k = 23 /\ 0 <= (t.kid (t.a.toNat + 1)).n /\ (t.kid (t.a.toNat + 1)).n < t.a /\ u = t.kid ((t.kid (t.a.toNat + 1)).n.toNat + 1))) : rootI l t = some u := by
 unfold rootI ownI Wv spot
 rcases h with ⟨h1, h2, rfl⟩ | ⟨h1, h2, rfl⟩ | ⟨h1, h2, rfl⟩ | ⟨h1, rfl⟩ | ⟨h1, h2⟩ | ⟨h1, h2, rfl⟩ | ⟨h1, h2, rfl⟩ | ⟨h1, h2, h3, h4, h5, h6, rfl⟩
 ·simp [h1, h2]
 ·simp [h1, h2]
 ·simp [h1, h2]
 ·simp [h1]
 ·simp [h1, h2]
 ·simp [h1, h2]
 ·simp [h1, h2]
 ·simp [h1, h2, h3, h4, h5, h6]
theorem root_lift {l : List C} (hc : Closed l) {t u : T} (h : rootI l t = some u) (n c : Nat) : rootI l (t.liftI n c) = some (u.liftI n c) := by
 apply Xt
 have b60 := Wu (show Ww 6 ((0 : Nat) : Int) = false by decide) c
 have b61 := Wu (show Ww 6 ((1 : Nat) : Int) = false by decide) c
 rcases rootI_cases h with ⟨h1, h2, rfl⟩ | ⟨h1, h2, rfl⟩ | ⟨h1, h2, rfl⟩ | ⟨h1, rfl⟩ | ⟨h1, h2⟩ | ⟨h1, h2, rfl⟩ | ⟨h1, h2, rfl⟩ | ⟨h1, h2, h3, h4, h5, h6, rfl⟩
 ·refine .inl ⟨by rw [liftI_k]; exact h1, by rw [liftI_kid, liftI_k]; exact h2, ?_⟩
  rw [liftI_kid, liftI_kid, liftI_kid, h1, h2, b60, b61, up1_yes (show Ww 5 ((1 : Nat) : Int) = true by decide)]
  exact lift_put_high _ n _ c 0
 ·refine .inr (.inl ⟨by rw [liftI_k]; exact h1, by rw [liftI_kid, liftI_k]; exact h2, ?_⟩)
  rw [liftI_kid, liftI_kid, h1, h2, Wu (show Ww 14 ((0 : Nat) : Int) = false by decide), Wu (show Ww 13 ((0 : Nat) : Int) = false by decide)]
 ·refine .inr (.inr (.inl ⟨by rw [liftI_k]; exact h1, by rw [liftI_kid, liftI_k]; exact h2, ?_⟩))
  rw [liftI_kid, liftI_kid, h1, h2, Wu (show Ww 15 ((0 : Nat) : Int) = false by decide), Wu (show Ww 13 ((1 : Nat) : Int) = false by decide)]
 ·refine .inr (.inr (.inr (.inl ⟨by rw [liftI_k]; exact h1, ?_⟩)))
  rw [liftI_kid, liftI_kid, h1, Wu (show Ww 7 ((1 : Nat) : Int) = false by decide), up1_yes (show Ww 7 ((2 : Nat) : Int) = true by decide)]
  exact lift_put_high _ n _ c 0
 ·have hr := liftI_rest (t := t) (by omega) n c
  refine .inr (.inr (.inr (.inr (.inl ⟨by rw [liftI_k]; exact h1, ?_⟩))))
  rw [hr.1, hr.2.2.1, h2, (hc _ _ _ h2).1]
 ·refine .inr (.inr (.inr (.inr (.inr (.inl ⟨by rw [liftI_k]; exact h1, by rw [liftI_kid, liftI_k]; exact h2, ?_⟩)))))
  rw [liftI_kid, h1, Wu (show Ww 18 ((4 : Nat) : Int) = false by decide)]
  exact tree_liftI _ _ h1 h2 n c
 ·refine .inr (.inr (.inr (.inr (.inr (.inr (.inl ⟨by rw [liftI_k]; exact h1, by rw [liftI_kid, liftI_k]; exact h2, ?_⟩))))))
  rw [liftI_kid, h1, Wu (show Ww 21 ((3 : Nat) : Int) = false by decide)]
 ·have hr := liftI_rest (t := t) (by omega) n c
  have hx := liftI_rest (t := t.kid (t.a.toNat + 1)) (by omega) n c
  have e : (t.liftI n c).kid ((t.liftI n c).a.toNat + 1) = (t.kid (t.a.toNat + 1)).liftI n c := by rw [hr.2.1, liftI_kid, h1, Wu (binds_case _)]
  refine .inr (.inr (.inr (.inr (.inr (.inr (.inr ⟨by rw [liftI_k]; exact h1, by rw [hr.2.1]; exact h2, by rw [hr.2.1, hr.2.2.2]; exact h3, ?_, ?_, ?_, ?_⟩))))))
  ·rw [e, liftI_k]; exact h4
  ·rw [e, hx.1]; exact h5
  ·rw [e, hx.1, hr.2.1]; exact h6
  ·rw [e, hx.1, liftI_kid, h1, Wu (binds_case _)]
theorem root_put {l : List C} (hc : Closed l) {t u : T} (h : rootI l t = some u) (y : T) (d : Nat) : ¬ t.k = 1 /\ rootI l (T.putI y t d) = some (T.putI y u d) := by
 have hk : ¬ t.k = 1 := by rcases rootI_cases h with h | h | h | h | h | h | h | h <;> omega
 refine ⟨hk, ?_⟩
 apply Xt
 have hr := putI_rest hk y d
 have b60 := Wu (show Ww 6 ((0 : Nat) : Int) = false by decide) d
 have b61 := Wu (show Ww 6 ((1 : Nat) : Int) = false by decide) d
 rcases rootI_cases h with ⟨h1, h2, rfl⟩ | ⟨h1, h2, rfl⟩ | ⟨h1, h2, rfl⟩ | ⟨h1, rfl⟩ | ⟨h1, h2⟩ | ⟨h1, h2, rfl⟩ | ⟨h1, h2, rfl⟩ | ⟨h1, h2, h3, h4, h5, h6, rfl⟩
 ·have hk0 : ¬ (t.kid 0).k = 1 := by omega
  refine .inl ⟨by rw [hr.1]; exact h1, by rw [putI_kid hk, (putI_rest hk0 _ _).1]; exact h2, ?_⟩
  rw [putI_kid hk, putI_kid hk, putI_kid hk0, h1, h2, b60, b61, up1_yes (show Ww 5 ((1 : Nat) : Int) = true by decide)]
  have := put_put_I (t.kid 1) y ((t.kid 0).kid 1) 0 d
  simpa using this
 ·have hk0 : ¬ (t.kid 0).k = 1 := by omega
  refine .inr (.inl ⟨by rw [hr.1]; exact h1, by rw [putI_kid hk, (putI_rest hk0 _ _).1]; exact h2, ?_⟩)
  rw [putI_kid hk, putI_kid hk0, h1, h2, Wu (show Ww 14 ((0 : Nat) : Int) = false by decide), Wu (show Ww 13 ((0 : Nat) : Int) = false by decide)]
 ·have hk0 : ¬ (t.kid 0).k = 1 := by omega
  refine .inr (.inr (.inl ⟨by rw [hr.1]; exact h1, by rw [putI_kid hk, (putI_rest hk0 _ _).1]; exact h2, ?_⟩))
  rw [putI_kid hk, putI_kid hk0, h1, h2, Wu (show Ww 15 ((0 : Nat) : Int) = false by decide), Wu (show Ww 13 ((1 : Nat) : Int) = false by decide)]
 ·refine .inr (.inr (.inr (.inl ⟨by rw [hr.1]; exact h1, ?_⟩)))
  rw [putI_kid hk, putI_kid hk, h1, Wu (show Ww 7 ((1 : Nat) : Int) = false by decide), up1_yes (show Ww 7 ((2 : Nat) : Int) = true by decide)]
  have := put_put_I (t.kid 1) y (t.kid 2) 0 d
  simpa using this
 ·refine .inr (.inr (.inr (.inr (.inl ⟨by rw [hr.1]; exact h1, ?_⟩))))
  rw [hr.2.1, hr.2.2.2.1, h2, (hc _ _ _ h2).2]
 ·have hk0 : ¬ (t.kid 4).k = 1 := by omega
  refine .inr (.inr (.inr (.inr (.inr (.inl ⟨by rw [hr.1]; exact h1, by rw [putI_kid hk, h1, Wu (show Ww 18 ((4 : Nat) : Int) = false by decide), (putI_rest hk0 _ _).1]; exact h2, ?_⟩)))))
  rw [putI_kid hk, h1, Wu (show Ww 18 ((4 : Nat) : Int) = false by decide)]
  exact tree_putI _ _ h1 h2 y d
 ·have hk0 : ¬ (t.kid 5).k = 1 := by omega
  refine .inr (.inr (.inr (.inr (.inr (.inr (.inl ⟨by rw [hr.1]; exact h1, by rw [putI_kid hk, (putI_rest hk0 _ _).1]; exact h2, ?_⟩))))))
  rw [putI_kid hk, h1, Wu (show Ww 21 ((3 : Nat) : Int) = false by decide)]
 ·have hk0 : ¬ (t.kid (t.a.toNat + 1)).k = 1 := by omega
  have hx := putI_rest hk0 y d
  have e : (T.putI y t d).kid ((T.putI y t d).a.toNat + 1) = T.putI y (t.kid (t.a.toNat + 1)) d := by rw [hr.2.2.1, putI_kid hk, h1, Wu (binds_case _)]
  refine .inr (.inr (.inr (.inr (.inr (.inr (.inr ⟨by rw [hr.1]; exact h1, by rw [hr.2.2.1]; exact h2, by rw [hr.2.2.1, hr.2.2.2.2]; exact h3, ?_, ?_, ?_, ?_⟩))))))
  ·rw [e, hx.1]; exact h4
  ·rw [e, hx.2.1]; exact h5
  ·rw [e, hx.2.1, hr.2.2.1]; exact h6
  ·rw [e, hx.2.1, putI_kid hk, h1, Wu (binds_case _)]
inductive Par (l : List C) : T -> T -> Prop where
 | node {k n a : Int} {ls : List LV} {ks ks' : List T} (hl : ks'.length = ks.length) (h : ∀ i, i < ks.length -> Par l (ks.getD i Wh) (ks'.getD i Wh)) : Par l (.mk k n a ls ks) (.mk k n a ls ks')
 | red {k n a : Int} {ls : List LV} {ks ks' : List T} {u : T} (hl : ks'.length = ks.length) (h : ∀ i, i < ks.length -> Par l (ks.getD i Wh) (ks'.getD i Wh)) (hr : rootI l (.mk k n a ls ks') = some u) : Par l (.mk k n a ls ks) u
theorem getD_in {ks : List T} {i : Nat} (h : i < ks.length) : ks.getD i Wh = ks[i] := by rw [List.getD_eq_getElem?_getD, List.getElem?_eq_getElem h]; rfl
theorem getD_out {ks : List T} {i : Nat} (h : ¬ i < ks.length) : ks.getD i Wh = Wh := by rw [List.getD_eq_getElem?_getD, List.getElem?_eq_none (by omega)]; rfl
theorem Par.refl (l : List C) (t : T) : Par l t t := by
 induction t using T.ind with
 | h k n a ls ks ih => exact .node rfl fun i hi => by rw [getD_in hi]; exact ih _ (List.getElem_mem hi)
theorem par_all {l : List C} {ks ks' : List T} (hl : ks'.length = ks.length) (h : ∀ i, i < ks.length -> Par l (ks.getD i Wh) (ks'.getD i Wh)) (i : Nat) : Par l (ks.getD i Wh) (ks'.getD i Wh) := by
 by_cases hi : i < ks.length
 ·exact h i hi
 ·rw [getD_out hi, getD_out (by omega)]; exact .refl l _
theorem par_lift {l : List C} (hc : Closed l) {t u : T} (h : Par l t u) (n : Nat) : ∀ c, Par l (t.liftI n c) (u.liftI n c) := by
 induction h with
 | @node k m a ls ks ks' hl h ih =>
  intro c
  rw [T.liftI, T.liftI]
  refine .node (by rw [liftsI_len, liftsI_len, hl]) fun i hi => ?_
  rw [liftsI_len] at hi
  rw [liftsI_getD, liftsI_getD]
  exact ih i hi _
 | @red k m a ls ks ks' u hl h hr ih =>
  intro c
  have := root_lift hc hr n c
  rw [T.liftI] at this ⊢
  refine .red (by rw [liftsI_len, liftsI_len, hl]) (fun i hi => ?_) this
  rw [liftsI_len] at hi
  rw [liftsI_getD, liftsI_getD]
  exact ih i hi _
theorem par_put {l : List C} (hc : Closed l) {x x' : T} (hx : Par l x x') {t u : T} (h : Par l t u) : ∀ d, Par l (T.putI x t d) (T.putI x' u d) := by
 induction h with
 | @node k m a ls ks ks' hl h ih =>
  intro d
  by_cases hk : k = 1 /\ m = (d : Int)
  ·obtain ⟨rfl, rfl⟩ := hk
   rw [putI_hit, putI_hit]
   exact par_lift hc hx d 0
  ·rw [T.putI, T.putI, if_neg hk, if_neg hk]
   refine .node (by rw [putsI_len, putsI_len, hl]) fun i hi => ?_
   rw [putsI_len] at hi
   rw [putsI_getD, putsI_getD]
   exact ih i hi _
 | @red k m a ls ks ks' u hl h hr ih =>
  intro d
  obtain ⟨hk, this⟩ := root_put hc hr x' d
  have hk : ¬ k = 1 := hk
  rw [putI_node hk] at this ⊢
  refine .red (by rw [putsI_len, putsI_len, hl]) (fun i hi => ?_) this
  rw [putsI_len] at hi
  rw [putsI_getD, putsI_getD]
  exact ih i hi _
theorem par_con {l : List C} {t u : T} (h : Par l t u) (hk : t.k = 5 \/ t.k = 13 \/ t.k = 17 \/ t.k = 20 \/ t.k = 23) : u.k = t.k /\ u.n = t.n /\ u.a = t.a /\ ∀ i, Par l (t.kid i) (u.kid i) := by
 cases h with
 | node hl h => exact ⟨rfl, rfl, rfl, fun i => par_all hl h i⟩
 | red hl h hr =>
  exfalso
  simp only [T.k_mk] at hk
  rcases rootI_cases hr with h | h | h | h | h | h | h | h <;> (have := h.1; simp only [T.k_mk] at this; omega)
theorem par_tree {l : List C} (hc : Closed l) {t t' s s' : T} (ht : ∀ i, Par l (t.kid i) (t'.kid i)) (hs : ∀ i, Par l (s.kid i) (s'.kid i)) : Par l (treeI t s) (treeI t' s') := by
 have two : ∀ {k : Int} {a b a' b' : T}, Par l a a' -> Par l b b' -> Par l (ofT k [a, b]) (ofT k [a', b']) := fun h1 h2 => .node rfl fun i hi => by
  match i, hi with
  | 0, _ => exact h1
  | 1, _ => exact h2
  | n + 2, h => simp at h; omega
 unfold treeI
 refine two (two (two (ht 3) (hs 0)) (hs 1)) (two (par_put hc (hs 0) (ht 1) 0) (.node rfl fun i hi => ?_))
 match i, hi with
 | 0, _ => exact par_lift hc (ht 0) 1 0
 | 1, _ => exact par_lift hc (ht 1) 1 1
 | 2, _ => exact par_lift hc (ht 2) 1 0
 | 3, _ => exact par_lift hc (ht 3) 1 0
 | 4, _ => exact two (par_lift hc (hs 1) 1 0) (.refl l _)
 | n + 5, h => simp at h; omega
theorem root_par {l : List C} (hc : Closed l) {k n a : Int} {ls : List LV} {ks ks' : List T} {u : T} (hl : ks'.length = ks.length) (h : ∀ i, i < ks.length -> Par l (ks.getD i Wh) (ks'.getD i Wh)) (hr : rootI l (.mk k n a ls ks) = some u) :
  ∃ u', rootI l (.mk k n a ls ks') = some u' /\ Par l u u' := by
 have hp : ∀ i, Par l ((T.mk k n a ls ks).kid i) ((T.mk k n a ls ks').kid i) := fun i => par_all hl h i
 generalize ht : T.mk k n a ls ks = t at hr hp
 generalize hu : T.mk k n a ls ks' = t' at hp
 have e1 : t'.k = t.k := by rw [<- ht, <- hu]; rfl
 have e2 : t'.n = t.n := by rw [<- ht, <- hu]; rfl
 have e3 : t'.a = t.a := by rw [<- ht, <- hu]; rfl
 have e4 : t'.ls = t.ls := by rw [<- ht, <- hu]; rfl
 have e5 : t'.ks.length = t.ks.length := by rw [<- ht, <- hu]; exact hl
 rcases rootI_cases hr with ⟨h1, h2, rfl⟩ | ⟨h1, h2, rfl⟩ | ⟨h1, h2, rfl⟩ | ⟨h1, rfl⟩ | ⟨h1, h2⟩ | ⟨h1, h2, rfl⟩ | ⟨h1, h2, rfl⟩ | ⟨h1, h2, h3, h4, h5, h6, rfl⟩
 ·obtain ⟨p1, -, -, p4⟩ := par_con (hp 0) (by omega)
  exact ⟨_, Xt (.inl ⟨by omega, by omega, rfl⟩), par_put hc (hp 1) (p4 1) 0⟩
 ·obtain ⟨p1, -, -, p4⟩ := par_con (hp 0) (by omega)
  exact ⟨_, Xt (.inr (.inl ⟨by omega, by omega, rfl⟩)), p4 0⟩
 ·obtain ⟨p1, -, -, p4⟩ := par_con (hp 0) (by omega)
  exact ⟨_, Xt (.inr (.inr (.inl ⟨by omega, by omega, rfl⟩))), p4 1⟩
 ·exact ⟨_, Xt (.inr (.inr (.inr (.inl ⟨by omega, rfl⟩)))), par_put hc (hp 1) (hp 2) 0⟩
 ·exact ⟨_, Xt (.inr (.inr (.inr (.inr (.inl ⟨by omega, by rw [e2, e4]; exact h2⟩))))), .refl l _⟩
 ·obtain ⟨p1, -, -, p4⟩ := par_con (hp 4) (by omega)
  exact ⟨_, Xt (.inr (.inr (.inr (.inr (.inr (.inl ⟨by omega, by omega, rfl⟩)))))), par_tree hc hp p4⟩
 ·obtain ⟨p1, -, -, p4⟩ := par_con (hp 5) (by omega)
  exact ⟨_, Xt (.inr (.inr (.inr (.inr (.inr (.inr (.inl ⟨by omega, by omega, rfl⟩))))))), hp 3⟩
 ·obtain ⟨p1, p2, -, p4⟩ := par_con (hp (t.a.toNat + 1)) (by omega)
  refine ⟨_, Xt (.inr (.inr (.inr (.inr (.inr (.inr (.inr ⟨by omega, by omega, by omega, by rw [e3]; omega, by rw [e3]; omega, by rw [e3]; omega, rfl⟩))))))), ?_⟩
  rw [e3, p2]
  exact hp _
mutual
def T.sdev (l : List C) : T -> T
 | .mk k n a ls ks => (rootI l (.mk k n a ls (T.sdevs l ks))).getD (.mk k n a ls (T.sdevs l ks))
def T.sdevs (l : List C) : List T -> List T
 | [] => []
 | t :: r => T.sdev l t :: T.sdevs l r
end
theorem sdevs_len (l : List C) : ∀ ks : List T, (T.sdevs l ks).length = ks.length
 | [] => by rw [T.sdevs]
 | t :: r => by rw [T.sdevs, List.length_cons, List.length_cons, sdevs_len l r]
theorem sdevs_getD (l : List C) : ∀ (ks : List T) (i : Nat), i < ks.length -> (T.sdevs l ks).getD i Wh = T.sdev l (ks.getD i Wh)
 | [], i, h => by simp at h
 | t :: r, 0, h => by rw [T.sdevs]; simp
 | t :: r, i + 1, h => by rw [T.sdevs, List.getD_cons_succ, List.getD_cons_succ, sdevs_getD l r i (by simpa using h)]
theorem par_sdev {l : List C} (hc : Closed l) {t u : T} (h : Par l t u) : Par l u (T.sdev l t) := by
 induction h with
 | @node k m a ls ks ks' hl h ih =>
  rw [T.sdev]
  have hk : ∀ i, i < ks'.length -> Par l (ks'.getD i Wh) ((T.sdevs l ks).getD i Wh) := fun i hi => by rw [sdevs_getD l ks i (by omega)]; exact ih i (by omega)
  cases hr : rootI l (.mk k m a ls (T.sdevs l ks)) with
  | none => exact .node (by rw [sdevs_len, hl]) hk
  | some v => exact .red (by rw [sdevs_len, hl]) hk hr
 | @red k m a ls ks ks' u hl h hr ih =>
  rw [T.sdev]
  have hk : ∀ i, i < ks'.length -> Par l (ks'.getD i Wh) ((T.sdevs l ks).getD i Wh) := fun i hi => by rw [sdevs_getD l ks i (by omega)]; exact ih i (by omega)
  obtain ⟨v, hv, hp⟩ := root_par hc (by rw [sdevs_len, hl]) hk hr
  rw [hv]
  exact hp
inductive Pars (l : List C) : T -> T -> Prop where
 | refl (t : T) : Pars l t t
 | step {t u v : T} (h : Par l t u) (r : Pars l u v) : Pars l t v
theorem Pars.trans {l : List C} {t u v : T} (h : Pars l t u) (g : Pars l u v) : Pars l t v := by
 induction h with
 | refl t => exact g
 | step h r ih => exact .step h (ih g)
theorem pars_strip {l : List C} (hc : Closed l) {t u : T} (h : Pars l t u) : ∀ {v : T}, Par l t v -> ∃ w, Par l u w /\ Pars l v w := by
 induction h with
 | refl t => intro v hv; exact ⟨v, hv, .refl v⟩
 | @step t u v h r ih =>
  intro w hw
  obtain ⟨x, h1, h2⟩ := ih (par_sdev hc h)
  exact ⟨x, h1, .step (par_sdev hc hw) h2⟩
theorem pars_meet {l : List C} (hc : Closed l) {t u : T} (h : Pars l t u) : ∀ {v : T}, Pars l t v -> ∃ w, Pars l u w /\ Pars l v w := by
 induction h with
 | refl t => intro v hv; exact ⟨v, hv, .refl v⟩
 | @step t u v h r ih =>
  intro w hw
  obtain ⟨x, h1, h2⟩ := pars_strip hc hw h
  obtain ⟨y, h3, h4⟩ := ih h2
  exact ⟨y, h3, .step h1 h4⟩
mutual
def NoRed (l : List C) : T -> Prop
 | .mk k n a ls ks => rootI l (.mk k n a ls ks) = none /\ NoReds l ks
def NoReds (l : List C) : List T -> Prop
 | [] => True
 | t :: r => NoRed l t /\ NoReds l r
end
theorem noReds_mem {l : List C} : ∀ {ks : List T}, NoReds l ks -> ∀ t, t ∈ ks -> NoRed l t
 | [], _, t, h => by cases h
 | x :: r, h, t, ht => by
  rw [NoReds] at h
  cases ht with
  | head => exact h.1
  | tail _ hm => exact noReds_mem h.2 t hm
theorem getD_ext {a b : List T} (hl : b.length = a.length) (h : ∀ i, i < a.length -> b.getD i Wh = a.getD i Wh) : b = a := by
 apply List.ext_getElem hl
 intro i h1 h2
 have := h i h2
 rw [getD_in h2, getD_in h1] at this
 exact this
theorem par_noRed {l : List C} {t u : T} (h : Par l t u) : NoRed l t -> u = t := by
 induction h with
 | @node k m a ls ks ks' hl h ih =>
  intro hn
  rw [NoRed] at hn
  rw [getD_ext hl fun i hi => ih i hi (by rw [getD_in hi]; exact noReds_mem hn.2 _ (List.getElem_mem hi))]
 | @red k m a ls ks ks' u hl h hr ih =>
  intro hn
  rw [NoRed] at hn
  rw [getD_ext hl fun i hi => ih i hi (by rw [getD_in hi]; exact noReds_mem hn.2 _ (List.getElem_mem hi)), hn.1] at hr
  cases hr
theorem pars_noRed {l : List C} {t u : T} (h : Pars l t u) : NoRed l t -> u = t := by
 induction h with
 | refl t => intro _; rfl
 | step h r ih =>
  intro hn
  have := par_noRed h hn
  subst this
  exact ih hn
theorem normal_one {l : List C} (hc : Closed l) {t u v : T} (h1 : Pars l t u) (h2 : Pars l t v) (hu : NoRed l u) (hv : NoRed l v) : u = v := by
 obtain ⟨w, h3, h4⟩ := pars_meet hc h1 h2
 rw [<- pars_noRed h3 hu, <- pars_noRed h4 hv]
end Go.Proofs.YtgloldepdhgfaaaGreatDoor
