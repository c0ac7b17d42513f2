/-
  MR7: the texts Kct Tl2 Tl3 C5 Hvp Htf Hg Hv Hri Dopen Dcard Dot Dox, one behind the other.
-/
import Derived.Test.YtebmlojhdnldgaaGreatDoorRows
import Derived.ProofKit
import Derived.OpenShut
import Derived.Carry
import Derived.Below
import Derived.Test.YtebmlojhdnldgaaGreatDoorMR6
namespace Go.Proofs.YtebmlojhdnldgaaGreatDoor
set_option linter.unusedSimpArgs false
set_option linter.unusedVariables false
set_option maxHeartbeats 10000000
set_option maxRecDepth 20000
open Go.RowKit
attribute [local simp] wpAft_ret wpAft_pan wantD evOp opD tmOf putS updS setS hOf isFree isTok fillD TK.isAgg TK.known partD thenD blockD putAll D.ofV inB nilTest isNilS binX binD binE isCst bndD capB IntKind.min IntKind.max IntKind.signed IntKind.bits dstOf late
def cntF {α : Type} (step : α → Int → Int) (q : Int) : List α → Int → Int
  | [], n => n
  | x :: r, n => if n ≤ q then cntF step q r (step x n) else n
def lvOf (q : Int) (l : LV) : Int := min (IntKind.i64.wrap (1 + (l.length : Int))) (IntKind.i64.wrap (q + 1))
theorem lvOf_spec (l : LV) (q : Int) : Spec Tryz.prog glob 112 [encL l, .int .i64 q] [] (fun o _ => o.fgt = .ret (.int .i64 (lvOf q l))) := by
  refine Spec.movd globPure (wpD_spec tyOK Tryz.func112 rfl (enters _ _ Tryz.func112 rfl (by decide)) rfl rfl ?_)
  unfold encL
  (refine wpD_seqk fun K hK => ?_; refine wpD_region tyOK ?_; ((repeat (rw [wpS_cons]; simp)); (try simp only [wpS_nil, thenD, blockD])); refine hK _ _ _ ?_; clear hK K)
  (refine wpD_seqk fun K hK => ?_; refine wpD_region tyOK ?_; ((repeat (rw [wpS_cons]; simp)); (try simp only [wpS_nil, thenD, blockD])); refine hK _ _ _ ?_; clear hK K)
  (refine wpD_ret ?_; (try simp only [thenD, blockD]); refine EndQ.ret rfl (.inl ?_); simp [tmOf, Out.fgt, D.fgt, D.fgts])
  rfl
theorem lvsOf_gen (l : List (LV)) (q : Int) (step : LV → Int → Int) (hl : l.length ≤ LMax) (hst : ∀ x s, step x s = IntKind.i64.wrap (s + lvOf q x)) (hg : ∀ x, x ∈ l → ∀ s : Int, Spec Tryz.prog glob 112 [encL x, .int .i64 q] [] (fun o _ => o.fgt = .ret (.int .i64 (lvOf q x)))) :
    Spec Tryz.prog glob 67 [.slice (l.map encL) .any, .int .i64 q] [] (fun o _ => o.fgt = .ret (.int .i64 (cntF step q l 0))) := by
  obtain ⟨R, hR⟩ : ∃ R, R = cntF step q l 0 := ⟨_, rfl⟩
  rw [← hR]
  have hl0 := hl
  unfold LMax at hl0
  refine Spec.movd globPure (wpD_spec tyOK Tryz.func67 rfl (enters _ _ Tryz.func67 rfl (by decide)) rfl rfl ?_)
  (refine wpD_seqk fun K hK => ?_; refine wpD_region tyOK ?_; ((repeat (rw [wpS_cons]; simp)); (try simp only [wpS_nil, thenD, blockD])); refine hK _ _ _ ?_; clear hK K)
  (refine wpD_seqk fun K hK => ?_; refine wpD_region tyOK ?_; ((repeat (rw [wpS_cons]; simp)); (try simp only [wpS_nil, thenD, blockD])); refine hK _ _ _ ?_; clear hK K)
  refine wpD_seqk fun K1 hK1 => ?_
  (refine wpD_seqk fun K hK => ?_; refine wpD_region tyOK ?_; ((repeat (rw [wpS_cons]; simp)); (try simp only [wpS_nil, thenD, blockD])); refine hK _ _ _ ?_; clear hK K)
  refine wpD_block ?_
  refine wpD_loopWJ [7, 8, 9, 10, 11, 12, 13, 14, 15, 16, 17, 18, 19, 20, 21, 22, 23, 24, 25] [5, 6] (fun n ys hl => ∃ (k : Nat) (s : Int), ys = [.int .i64 s, .int .i64 k] ∧ n + k = l.length ∧ R = cntF step q (l.drop k) s ∧ hl = []) (l.length) (by kernel_rfl) ?_ ?_
  · exact ⟨0, 0, rfl, rfl, hR, rfl⟩
  · rintro n ys hl A hA ⟨i, s, rfl, hn, hF, rfl⟩
    simp only [putAll, List.set, List.map_cons, List.map_nil, List.cons_append, List.nil_append]
    refine wpD_seqk fun K2 hK2 => ?_
    by_cases hi : i < l.length
    · have hi' : (i : Int) < l.length := by omega
      by_cases hs : s ≤ q
      · (refine wpD_seqk fun K hK => ?_; refine wpD_region tyOK ?_; ((repeat (rw [wpS_cons]; simp [hi, hi', hs])); (try simp only [wpS_nil, thenD, blockD])); refine hK _ _ _ ?_; clear hK K)
        refine wpD_part rfl (fun _ => ?_) (fun h => by simp at h)
        refine wpD_skip (hK2 _ _ _ ?_)
        clear hK2 K2
        refine wpD_seqk fun K3 hK3 => ?_
        refine wpD_block ?_
        rw [List.drop_eq_getElem_cons hi, cntF, if_pos hs] at hF
        have hrec := hg l[i] (List.getElem_mem hi) s
        obtain ⟨x, hx⟩ : ∃ x, l[i] = x := ⟨_, rfl⟩
        rw [hx] at hrec hF
        unfold encL at hrec
        obtain ⟨v, hv⟩ : ∃ v, lvOf q x = v := ⟨_, rfl⟩
        rw [hv] at hrec
        rw [hst, hv] at hF
        (refine wpD_region tyOK ?_; ((repeat (rw [wpS_cons]; simp [hi, hi', hx, encL])); (try simp only [wpS_nil, thenD, blockD])))
        refine CallX.pure globPure (hrec) ?_ (by simp [D.fgts, D.fgt]) (by simp [D.pures, D.pure, Cp.free, D.pures_map]) (by simp [Out.pure, D.pure, D.pures, Cp.free, D.pures_map])
        ((try simp only [wpAft_ret, wpAft_pan, putS, updS, setS]); (repeat (rw [wpS_cons]; simp)); (try simp only [wpS_nil, thenD, blockD]))
        refine hK3 _ _ _ ?_
        clear hK3 K3
        have hw1 : IntKind.i64.wrap ((i : Int) + 1) = (i : Int) + 1 := i64w (by omega) (by omega)
        (refine wpD_region tyOK ?_; ((repeat (rw [wpS_cons]; simp [hw1])); (try simp only [wpS_nil, thenD, blockD])))
        refine hA (n - 1) _ _ _ (LeT.refl _) (by omega) (by kernel_rfl) ?_
        exact ⟨i + 1, _, rfl, by omega, hF, rfl⟩
      · (refine wpD_seqk fun K hK => ?_; refine wpD_region tyOK ?_; ((repeat (rw [wpS_cons]; simp [hi, hi', hs])); (try simp only [wpS_nil, thenD, blockD])); refine hK _ _ _ ?_; clear hK K)
        refine wpD_part rfl (fun h => by simp at h) (fun _ => ?_)
        refine wpD_exit ?_
        refine hK1 _ _ _ ?_
        rw [List.drop_eq_getElem_cons hi, cntF, if_neg hs] at hF
        subst hF
        (refine wpD_seqk fun K hK => ?_; refine wpD_region tyOK ?_; ((repeat (rw [wpS_cons]; simp)); (try simp only [wpS_nil, thenD, blockD])); refine hK _ _ _ ?_; clear hK K)
        (refine wpD_ret ?_; (try simp only [thenD, blockD]); refine EndQ.ret rfl (.inl ?_); simp [tmOf, Out.fgt, D.fgt, D.fgts])
    · have hi' : ¬ (i : Int) < l.length := by omega
      (refine wpD_seqk fun K hK => ?_; refine wpD_region tyOK ?_; ((repeat (rw [wpS_cons]; simp [hi, hi'])); (try simp only [wpS_nil, thenD, blockD])); refine hK _ _ _ ?_; clear hK K)
      refine wpD_part rfl (fun h => by simp at h) (fun _ => ?_)
      refine wpD_exit ?_
      refine hK1 _ _ _ ?_
      rw [List.drop_of_length_le (by omega), cntF] at hF
      subst hF
      (refine wpD_seqk fun K hK => ?_; refine wpD_region tyOK ?_; ((repeat (rw [wpS_cons]; simp)); (try simp only [wpS_nil, thenD, blockD])); refine hK _ _ _ ?_; clear hK K)
      (refine wpD_ret ?_; (try simp only [thenD, blockD]); refine EndQ.ret rfl (.inl ?_); simp [tmOf, Out.fgt, D.fgt, D.fgts])
def lvsN (q : Int) (ls : List LV) : Int := cntF (fun x s => IntKind.i64.wrap (s + lvOf q x)) q ls 0
theorem lvsN_spec (ls : List LV) (q : Int) (hl : ls.length ≤ LMax) : Spec Tryz.prog glob 67 [.slice (ls.map encL) .any, .int .i64 q] [] (fun o _ => o.fgt = .ret (.int .i64 (lvsN q ls))) :=
  lvsOf_gen ls q _ hl (fun _ _ => rfl) (fun x _ _ => lvOf_spec x q)
mutual
def T.tof : T → Int → Int
  | .mk _ _ _ ls ks, q => IntKind.i64.wrap (IntKind.i64.wrap (1 + lvsN q ls) + T.tofs ks 0 q)
def T.tofs : List T → Int → Int → Int
  | [], n, _ => n
  | t :: r, n, q => if n ≤ q then T.tofs r (IntKind.i64.wrap (n + T.tof t (IntKind.i64.wrap (q - n)))) q else n
end
theorem tofs_cnt (q : Int) : ∀ (l : List T) (n : Int), T.tofs l n q = cntF (fun x s => IntKind.i64.wrap (s + T.tof x (IntKind.i64.wrap (q - s)))) q l n
  | [], n => by rw [T.tofs, cntF]
  | t :: r, n => by rw [T.tofs, cntF, tofs_cnt q r]
theorem tofs_gen (l : List (T)) (q : Int) (step : T → Int → Int) (hl : l.length ≤ LMax) (hst : ∀ x s, step x s = IntKind.i64.wrap (s + T.tof x (IntKind.i64.wrap (q - s)))) (hg : ∀ x, x ∈ l → ∀ s : Int, Spec Tryz.prog glob 36 [encT x, .int .i64 (IntKind.i64.wrap (q - s))] [] (fun o _ => o.fgt = .ret (.int .i64 (T.tof x (IntKind.i64.wrap (q - s)))))) :
    Spec Tryz.prog glob 61 [.slice (l.map encT) .any, .int .i64 q] [] (fun o _ => o.fgt = .ret (.int .i64 (cntF step q l 0))) := by
  obtain ⟨R, hR⟩ : ∃ R, R = cntF step q l 0 := ⟨_, rfl⟩
  rw [← hR]
  have hl0 := hl
  unfold LMax at hl0
  refine Spec.movd globPure (wpD_spec tyOK Tryz.func61 rfl (enters _ _ Tryz.func61 rfl (by decide)) rfl rfl ?_)
  (refine wpD_seqk fun K hK => ?_; refine wpD_region tyOK ?_; ((repeat (rw [wpS_cons]; simp)); (try simp only [wpS_nil, thenD, blockD])); refine hK _ _ _ ?_; clear hK K)
  (refine wpD_seqk fun K hK => ?_; refine wpD_region tyOK ?_; ((repeat (rw [wpS_cons]; simp)); (try simp only [wpS_nil, thenD, blockD])); refine hK _ _ _ ?_; clear hK K)
  refine wpD_seqk fun K1 hK1 => ?_
  (refine wpD_seqk fun K hK => ?_; refine wpD_region tyOK ?_; ((repeat (rw [wpS_cons]; simp)); (try simp only [wpS_nil, thenD, blockD])); refine hK _ _ _ ?_; clear hK K)
  refine wpD_block ?_
  refine wpD_loopWJ [7, 8, 9, 10, 11, 12, 13, 14, 15, 16, 17, 18, 19, 20, 21, 22, 23, 24, 25, 26, 27] [5, 6] (fun n ys hl => ∃ (k : Nat) (s : Int), ys = [.int .i64 s, .int .i64 k] ∧ n + k = l.length ∧ R = cntF step q (l.drop k) s ∧ hl = []) (l.length) (by kernel_rfl) ?_ ?_
  · exact ⟨0, 0, rfl, rfl, hR, rfl⟩
  · rintro n ys hl A hA ⟨i, s, rfl, hn, hF, rfl⟩
    simp only [putAll, List.set, List.map_cons, List.map_nil, List.cons_append, List.nil_append]
    refine wpD_seqk fun K2 hK2 => ?_
    by_cases hi : i < l.length
    · have hi' : (i : Int) < l.length := by omega
      by_cases hs : s ≤ q
      · (refine wpD_seqk fun K hK => ?_; refine wpD_region tyOK ?_; ((repeat (rw [wpS_cons]; simp [hi, hi', hs])); (try simp only [wpS_nil, thenD, blockD])); refine hK _ _ _ ?_; clear hK K)
        refine wpD_part rfl (fun _ => ?_) (fun h => by simp at h)
        refine wpD_skip (hK2 _ _ _ ?_)
        clear hK2 K2
        refine wpD_seqk fun K3 hK3 => ?_
        refine wpD_block ?_
        rw [List.drop_eq_getElem_cons hi, cntF, if_pos hs] at hF
        have hrec := hg l[i] (List.getElem_mem hi) s
        obtain ⟨x, hx⟩ : ∃ x, l[i] = x := ⟨_, rfl⟩
        rw [hx] at hrec hF
        have hEx := encT_eq x
        rw [hEx] at hrec
        rw [hst] at hF
        generalize T.tof x (IntKind.i64.wrap (q - s)) = v at hrec hF
        (refine wpD_region tyOK ?_; ((repeat (rw [wpS_cons]; simp [hi, hi', hx, hEx])); (try simp only [wpS_nil, thenD, blockD])))
        refine CallX.pure globPure (hrec) ?_ (by simp [D.fgts, D.fgt]) (by simp [D.pures, D.pure, Cp.free, D.pures_map]) (by simp [Out.pure, D.pure, D.pures, Cp.free, D.pures_map])
        ((try simp only [wpAft_ret, wpAft_pan, putS, updS, setS]); (repeat (rw [wpS_cons]; simp)); (try simp only [wpS_nil, thenD, blockD]))
        refine hK3 _ _ _ ?_
        clear hK3 K3
        have hw1 : IntKind.i64.wrap ((i : Int) + 1) = (i : Int) + 1 := i64w (by omega) (by omega)
        (refine wpD_region tyOK ?_; ((repeat (rw [wpS_cons]; simp [hw1])); (try simp only [wpS_nil, thenD, blockD])))
        refine hA (n - 1) _ _ _ (LeT.refl _) (by omega) (by kernel_rfl) ?_
        exact ⟨i + 1, _, rfl, by omega, hF, rfl⟩
      · (refine wpD_seqk fun K hK => ?_; refine wpD_region tyOK ?_; ((repeat (rw [wpS_cons]; simp [hi, hi', hs])); (try simp only [wpS_nil, thenD, blockD])); refine hK _ _ _ ?_; clear hK K)
        refine wpD_part rfl (fun h => by simp at h) (fun _ => ?_)
        refine wpD_exit ?_
        refine hK1 _ _ _ ?_
        rw [List.drop_eq_getElem_cons hi, cntF, if_neg hs] at hF
        subst hF
        (refine wpD_seqk fun K hK => ?_; refine wpD_region tyOK ?_; ((repeat (rw [wpS_cons]; simp)); (try simp only [wpS_nil, thenD, blockD])); refine hK _ _ _ ?_; clear hK K)
        (refine wpD_ret ?_; (try simp only [thenD, blockD]); refine EndQ.ret rfl (.inl ?_); simp [tmOf, Out.fgt, D.fgt, D.fgts])
    · have hi' : ¬ (i : Int) < l.length := by omega
      (refine wpD_seqk fun K hK => ?_; refine wpD_region tyOK ?_; ((repeat (rw [wpS_cons]; simp [hi, hi'])); (try simp only [wpS_nil, thenD, blockD])); refine hK _ _ _ ?_; clear hK K)
      refine wpD_part rfl (fun h => by simp at h) (fun _ => ?_)
      refine wpD_exit ?_
      refine hK1 _ _ _ ?_
      rw [List.drop_of_length_le (by omega), cntF] at hF
      subst hF
      (refine wpD_seqk fun K hK => ?_; refine wpD_region tyOK ?_; ((repeat (rw [wpS_cons]; simp)); (try simp only [wpS_nil, thenD, blockD])); refine hK _ _ _ ?_; clear hK K)
      (refine wpD_ret ?_; (try simp only [thenD, blockD]); refine EndQ.ret rfl (.inl ?_); simp [tmOf, Out.fgt, D.fgt, D.fgts])
theorem tof_spec (t : T) : ∀ q, okT t → Spec Tryz.prog glob 36 [encT t, .int .i64 q] [] (fun o _ => o.fgt = .ret (.int .i64 (t.tof q))) := by
  induction t using T.ind with
  | h k n a ls ks ih =>
    intro q ht
    have hks := ht.ks
    simp only [T.ks_mk] at hks
    have hL := lvsN_spec ls q ht.ll
    have hT := tofs_gen ks q _ ht.kl (fun _ _ => rfl) (fun x hx s => ih x hx _ (hks x hx))
    rw [← tofs_cnt] at hT
    have e : (T.mk k n a ls ks).tof q = IntKind.i64.wrap (IntKind.i64.wrap (1 + lvsN q ls) + T.tofs ks 0 q) := by rw [T.tof]
    rw [e]
    generalize lvsN q ls = v at hL ⊢
    generalize T.tofs ks 0 q = v2 at hT ⊢
    rw [encT_eq]
    simp only [T.k_mk, T.n_mk, T.a_mk, T.ls_mk, T.ks_mk]
    refine Spec.movd globPure (wpD_spec tyOK Tryz.func36 rfl (enters _ _ Tryz.func36 rfl (by decide)) rfl rfl ?_)
    (refine wpD_seqk fun K hK => ?_; refine wpD_region tyOK ?_; ((repeat (rw [wpS_cons]; simp)); (try simp only [wpS_nil, thenD, blockD])); refine hK _ _ _ ?_; clear hK K)
    (refine wpD_seqk fun K hK => ?_; refine wpD_drawk tyOK (by kernel_rfl) (by kernel_rfl) fun KT hKT => ?_; ((repeat (rw [wpT_cons]; simp)); (try simp only [wpT_nil])))
    refine CallY.pure globPure (hL) ?_ (by simp [D.fgts, D.fgt]) (by simp [D.pures, D.pure, Cp.free, D.pures_map]) (by simp [Out.pure, D.pure, D.pures, Cp.free, D.pures_map])
    ((try simp only [wpAftT_ret, wpAftT_pan, putS, updS, setS]); (repeat (rw [wpT_cons]; simp)); (try simp only [wpT_nil]))
    refine CallY.pure globPure (hT) ?_ (by simp [D.fgts, D.fgt]) (by simp [D.pures, D.pure, Cp.free, D.pures_map]) (by simp [Out.pure, D.pure, D.pures, Cp.free, D.pures_map])
    ((try simp only [wpAftT_ret, wpAftT_pan, putS, updS, setS]); (repeat (rw [wpT_cons]; simp)); (try simp only [wpT_nil]))
    (refine hKT _ _ _ _ (by kernel_rfl) ?_; clear hKT KT; (try simp only [thenD, blockD]))
    (refine hK _ _ _ ?_; clear hK K)
    (refine wpD_ret ?_; (try simp only [thenD, blockD]); refine EndQ.ret rfl (.inl ?_); simp [tmOf, Out.fgt, D.fgt, D.fgts])
end Go.Proofs.YtebmlojhdnldgaaGreatDoor

namespace Go.Proofs.YtebmlojhdnldgaaGreatDoor
set_option linter.unusedSimpArgs false
set_option linter.unusedVariables false
set_option maxHeartbeats 10000000
set_option maxRecDepth 20000
open Go.RowKit
attribute [local simp] wpAft_ret wpAft_pan wantD evOp opD tmOf putS updS setS hOf isFree isTok fillD TK.isAgg TK.known partD thenD blockD putAll D.ofV inB nilTest isNilS binX binD binE isCst bndD capB IntKind.min IntKind.max IntKind.signed IntKind.bits dstOf late
def vT (n : Int) : T := .mk 1 n 0 [] []
theorem encT_mk (k n a : Int) (ls : List LV) (ks : List T) : encT (.mk k n a ls ks) = .agg [.int .i64 k, .int .i64 n, .int .i64 a, .slice (ls.map encL) .any, .slice (ks.map encT) .any] := encT_eq _
end Go.Proofs.YtebmlojhdnldgaaGreatDoor

namespace Go.Proofs.YtebmlojhdnldgaaGreatDoor
set_option linter.unusedSimpArgs false
set_option linter.unusedVariables false
set_option maxHeartbeats 10000000
set_option maxRecDepth 20000
open Go.RowKit
attribute [local simp] wpAft_ret wpAft_pan wantD evOp opD tmOf putS updS setS hOf isFree isTok fillD TK.isAgg TK.known partD thenD blockD putAll D.ofV inB nilTest isNilS binX binD binE isCst bndD capB IntKind.min IntKind.max IntKind.signed IntKind.bits dstOf late
theorem ok_leaf {k n a : Int} (h1 : I64 k) (h2 : I64 n) (h3 : I64 a) : okT (.mk k n a [] []) := .mk h1 h2 h3 (by simp) (fun _ h => nomatch h) (by simp) (fun _ h => nomatch h)
theorem ok_two {k n a : Int} {x y : T} (h1 : I64 k) (h2 : I64 n) (h3 : I64 a) (hx : okT x) (hy : okT y) : okT (.mk k n a [] [x, y]) := .mk h1 h2 h3 (by simp) (fun _ h => nomatch h) (by unfold LMax; simp) (fun t h => by
  simp only [List.mem_cons, List.not_mem_nil, or_false] at h
  rcases h with rfl | rfl <;> assumption)
theorem i64c {n : Int} (h : -1000000 ≤ n ∧ n ≤ 1000000 := by decide) : I64 n := by unfold I64; omega
theorem ok_v {n : Int} (h : -1000000 ≤ n ∧ n ≤ 1000000 := by decide) : okT (vT n) := ok_leaf (i64c) (i64c h) (i64c)
end Go.Proofs.YtebmlojhdnldgaaGreatDoor

namespace Go.Proofs.YtebmlojhdnldgaaGreatDoor
set_option linter.unusedSimpArgs false
set_option linter.unusedVariables false
set_option maxHeartbeats 10000000
set_option maxRecDepth 20000
open Go.RowKit
attribute [local simp] wpAft_ret wpAft_pan wantD evOp opD tmOf putS updS setS hOf isFree isTok fillD TK.isAgg TK.known partD thenD blockD putAll D.ofV inB nilTest isNilS binX binD binE isCst bndD capB IntKind.min IntKind.max IntKind.signed IntKind.bits dstOf late
mutual
def T.dp : T → Int → Int
  | .mk _ _ _ _ ks, q => IntKind.i64.wrap ((if 0 < q then T.dps ks (IntKind.i64.wrap (q - 1)) 0 else 0) + 1)
def T.dps : List T → Int → Int → Int
  | [], _, s => s
  | t :: r, q, s => T.dps r q (max s (T.dp t q))
end
theorem deep_spec (t : T) : ∀ q, okT t → Spec Tryz.prog glob 34 [encT t, .int .i64 q] [] (fun o _ => o.fgt = .ret (.int .i64 (t.dp q))) := by
  induction t using T.ind with
  | h kk m a ls ks ih =>
  intro q ht
  have hkl : ks.length ≤ LMax := ht.kl
  have hks := ht.ks
  simp only [T.ks_mk] at hks
  unfold LMax at hkl
  have hR0 : T.dp (.mk kk m a ls ks) q = IntKind.i64.wrap ((if 0 < q then T.dps ks (IntKind.i64.wrap (q - 1)) 0 else 0) + 1) := by rw [T.dp]
  rw [hR0]
  rw [encT_eq]
  simp only [T.k_mk, T.n_mk, T.a_mk, T.ls_mk, T.ks_mk]
  refine Spec.movd globPure (wpD_spec tyOK Tryz.func34 rfl (enters _ _ Tryz.func34 rfl (by decide)) rfl rfl ?_)
  (refine wpD_seqk fun K hK => ?_; refine wpD_region tyOK ?_; ((repeat (rw [wpS_cons]; simp)); (try simp only [wpS_nil, thenD, blockD])); refine hK _ _ _ ?_; clear hK K)
  (refine wpD_seqk fun K hK => ?_; refine wpD_region tyOK ?_; ((repeat (rw [wpS_cons]; simp)); (try simp only [wpS_nil, thenD, blockD])); refine hK _ _ _ ?_; clear hK K)
  by_cases hq : 0 < q
  rotate_left
  · rw [if_neg hq]
    refine wpD_seqk fun K1 hK1 => ?_
    (refine wpD_seqk fun K hK => ?_; refine wpD_region tyOK ?_; ((repeat (rw [wpS_cons]; simp)); (try simp only [wpS_nil, thenD, blockD])); refine hK _ _ _ ?_; clear hK K)
    refine wpD_block ?_
    refine wpD_loopWJ [7, 8, 9, 10, 11, 12, 13, 14, 15, 16, 17, 18, 19, 20, 21, 22, 23, 24, 25, 26, 27] [5, 6] (fun n ys hl => ys = [.int .i64 0, .int .i64 0] ∧ n = 0 ∧ hl = [.cells 27 [.int .i64 kk, .int .i64 m, .int .i64 a, .slice (ls.map encL) .any, .slice (ks.map encT) .any]]) (0) (by kernel_rfl) ?_ ?_
    · exact ⟨rfl, rfl, rfl⟩
    · rintro n ys hl A hA ⟨rfl, -, rfl⟩
      simp only [putAll, List.set, List.map_cons, List.map_nil, List.cons_append, List.nil_append]
      refine wpD_seqk fun K2 hK2 => ?_
      by_cases h0 : 0 < ks.length
      · have h0' : (0 : Int) < ks.length := by omega
        (refine wpD_seqk fun K hK => ?_; refine wpD_region tyOK ?_; ((repeat (rw [wpS_cons]; simp [h0, h0', hq])); (try simp only [wpS_nil, thenD, blockD])); refine hK _ _ _ ?_; clear hK K)
        refine wpD_part rfl (fun h => by simp at h) (fun _ => ?_)
        refine wpD_exit ?_
        refine hK1 _ _ _ ?_
        (refine wpD_seqk fun K hK => ?_; refine wpD_region tyOK ?_; ((repeat (rw [wpS_cons]; simp)); (try simp only [wpS_nil, thenD, blockD])); refine hK _ _ _ ?_; clear hK K)
        (refine wpD_ret ?_; (try simp only [thenD, blockD]); refine EndQ.ret rfl (.inl ?_); simp [tmOf, Out.fgt, D.fgt, D.fgts])
      · have h0' : ¬ (0 : Int) < ks.length := by omega
        (refine wpD_seqk fun K hK => ?_; refine wpD_region tyOK ?_; ((repeat (rw [wpS_cons]; simp [h0, h0', hq])); (try simp only [wpS_nil, thenD, blockD])); refine hK _ _ _ ?_; clear hK K)
        refine wpD_part rfl (fun h => by simp at h) (fun _ => ?_)
        refine wpD_exit ?_
        refine hK1 _ _ _ ?_
        (refine wpD_seqk fun K hK => ?_; refine wpD_region tyOK ?_; ((repeat (rw [wpS_cons]; simp)); (try simp only [wpS_nil, thenD, blockD])); refine hK _ _ _ ?_; clear hK K)
        (refine wpD_ret ?_; (try simp only [thenD, blockD]); refine EndQ.ret rfl (.inl ?_); simp [tmOf, Out.fgt, D.fgt, D.fgts])
  rw [if_pos hq]
  obtain ⟨R, hR⟩ : ∃ R, R = T.dps ks (IntKind.i64.wrap (q - 1)) 0 := ⟨_, rfl⟩
  rw [← hR]
  refine wpD_seqk fun K1a hK1a => ?_
  (refine wpD_seqk fun K hK => ?_; refine wpD_region tyOK ?_; ((repeat (rw [wpS_cons]; simp)); (try simp only [wpS_nil, thenD, blockD])); refine hK _ _ _ ?_; clear hK K)
  refine wpD_block ?_
  refine wpD_loopWJ [7, 8, 9, 10, 11, 12, 13, 14, 15, 16, 17, 18, 19, 20, 21, 22, 23, 24, 25, 26, 27] [5, 6] (fun n ys hl => ∃ (k : Nat) (s : Int), ys = [.int .i64 s, .int .i64 k] ∧ n + k = ks.length ∧ R = T.dps (ks.drop k) (IntKind.i64.wrap (q - 1)) s ∧ hl = [.cells 27 [.int .i64 kk, .int .i64 m, .int .i64 a, .slice (ls.map encL) .any, .slice (ks.map encT) .any]]) (ks.length) (by kernel_rfl) ?_ ?_
  · exact ⟨0, 0, rfl, rfl, hR, rfl⟩
  · rintro n1 ys hl A1 hA1 ⟨i1, s, rfl, hn, hF, rfl⟩
    have hA := hA1
    simp only [putAll, List.set, List.map_cons, List.map_nil, List.cons_append, List.nil_append]
    refine wpD_seqk fun K1b hK1b => ?_
    by_cases hi1 : i1 < ks.length
    · have hi1' : (i1 : Int) < ks.length := by omega
      rw [List.drop_eq_getElem_cons hi1, T.dps] at hF
      have hrec := ih ks[i1] (List.getElem_mem hi1) (IntKind.i64.wrap (q - 1)) (hks _ (List.getElem_mem hi1))
      obtain ⟨x, hx⟩ : ∃ x, ks[i1] = x := ⟨_, rfl⟩
      rw [hx] at hrec hF
      have hEx := encT_eq x
      rw [hEx] at hrec
      generalize x.dp (IntKind.i64.wrap (q - 1)) = v at hrec hF
      (refine wpD_seqk fun K hK => ?_; refine wpD_region tyOK ?_; ((repeat (rw [wpS_cons]; simp [hi1, hi1', hq])); (try simp only [wpS_nil, thenD, blockD])); refine hK _ _ _ ?_; clear hK K)
      refine wpD_part rfl (fun _ => ?_) (fun h => by simp at h)
      refine wpD_skip (hK1b _ _ _ ?_)
      clear hK1b K1b
      refine wpD_seqk fun K1c hK1c => ?_
      refine wpD_block ?_
      (refine wpD_region tyOK ?_; ((repeat (rw [wpS_cons]; simp [hi1, hi1', hx, hEx])); (try simp only [wpS_nil, thenD, blockD])))
      refine CallX.pure globPure (hrec) ?_ (by simp [D.fgts, D.fgt]) (by simp [D.pures, D.pure, Cp.free, D.pures_map]) (by simp [Out.pure, D.pure, D.pures, Cp.free, D.pures_map])
      ((try simp only [wpAft_ret, wpAft_pan, putS, updS, setS]); (repeat (rw [wpS_cons]; simp)); (try simp only [wpS_nil, thenD, blockD]))
      refine hK1c _ _ _ ?_
      clear hK1c K1c
      have hw1 : IntKind.i64.wrap ((i1 : Int) + 1) = (i1 : Int) + 1 := i64w (by omega) (by omega)
      (refine wpD_region tyOK ?_; ((repeat (rw [wpS_cons]; simp [hw1])); (try simp only [wpS_nil, thenD, blockD])))
      refine hA (n1 - 1) _ _ _ (LeT.refl _) (by omega) (by kernel_rfl) ?_
      exact ⟨i1 + 1, _, rfl, by omega, hF, rfl⟩
    · have hi1' : ¬ (i1 : Int) < ks.length := by omega
      (refine wpD_seqk fun K hK => ?_; refine wpD_region tyOK ?_; ((repeat (rw [wpS_cons]; simp [hi1, hi1', hq])); (try simp only [wpS_nil, thenD, blockD])); refine hK _ _ _ ?_; clear hK K)
      refine wpD_part rfl (fun h => by simp at h) (fun _ => ?_)
      refine wpD_exit ?_
      refine hK1a _ _ _ ?_
      clear hK1b K1b
      rw [List.drop_of_length_le (by omega), T.dps] at hF
      subst hF
      (refine wpD_seqk fun K hK => ?_; refine wpD_region tyOK ?_; ((repeat (rw [wpS_cons]; simp)); (try simp only [wpS_nil, thenD, blockD])); refine hK _ _ _ ?_; clear hK K)
      (refine wpD_ret ?_; (try simp only [thenD, blockD]); refine EndQ.ret rfl (.inl ?_); simp [tmOf, Out.fgt, D.fgt, D.fgts])
end Go.Proofs.YtebmlojhdnldgaaGreatDoor

namespace Go.Proofs.YtebmlojhdnldgaaGreatDoor
set_option linter.unusedSimpArgs false
set_option linter.unusedVariables false
open Go.RowKit
def finN (n : Int) : T := .mk 22 n 0 [] []
def elemN (m n : Int) : T := .mk 23 m n [] []
def lam6 : T := .mk 5 0 0 [] [finN 2, vT 0]
def red6 : T := .mk 6 0 0 [] [lam6, elemN 1 2]
def pr6 : T := .mk 13 0 0 [] [vT 1, vT 2]
def cas6 : T := .mk 24 0 2 [] [finN 1, vT 1, pr6, red6]
theorem red_step : hstep [] red6 = some (elemN 1 2, 1) := by
  have h0 : hstep [] lam6 = none := by rw [hstep_none rfl]; rfl
  have ht : T.trunc lam6 = lam6 := trunc_none rfl
  have := hstep_at (l := []) (t := red6) (i := 0) (many := 2) rfl (by decide) h0
  rw [show red6.ks[0]'(by decide) = lam6 from rfl, ht] at this
  rw [this]
  rfl
theorem elem_stop : hstep [] (elemN 1 2) = none ∧ T.trunc (elemN 1 2) = elemN 1 2 := ⟨by rw [hstep_none rfl]; rfl, trunc_none rfl⟩
theorem red_hd : Hd [] red6 1 (elemN 1 2) := by
  have := Hd.step red_step (.stop elem_stop.1)
  rwa [elem_stop.2] at this
theorem red_gone : GoneAt [] red6 0 0 := .now red_step (by omega)
def cas7 : T := .mk 24 0 2 [] [finN 1, vT 1, pr6, elemN 1 2]
theorem cas_step : hstep [] cas6 = some (cas7, 1) := hstep_in (l := []) (t := cas6) (i := 3) (many := 4) rfl (by decide) red_step
theorem cas_step2 : hstep [] cas7 = some (pr6, 3) := by
  have := hstep_at (l := []) (t := cas7) (i := 3) (many := 4) rfl (by decide) elem_stop.1
  rw [show cas7.ks[3]'(by decide) = elemN 1 2 from rfl, elem_stop.2] at this
  rw [this]
  rfl
theorem pr_stop : hstep [] pr6 = none ∧ T.trunc pr6 = pr6 := ⟨by rw [hstep_none rfl]; rfl, trunc_none rfl⟩
theorem cas_hd : Hd [] cas6 4 pr6 := by
  have := Hd.step cas_step (.step cas_step2 (.stop pr_stop.1))
  rwa [pr_stop.2] at this
theorem okCs_nil : okCs [] := ⟨by unfold LMax; simp, (fun _ h => nomatch h), (fun _ h => nomatch h), (fun _ h => nomatch h)⟩
theorem ok_finN (n : Int) (h : I64 n) : okT (finN n) := ok_leaf i64c h i64c
theorem ok_elem12 : okT (elemN 1 2) := ok_leaf i64c i64c i64c
theorem ok_red6 : okT red6 := ok_two i64c i64c i64c (ok_two i64c i64c i64c (ok_finN 2 i64c) ok_v) ok_elem12
theorem ok_cas6 : okT cas6 := .mk i64c i64c i64c (by simp) (fun _ h => nomatch h) (by unfold LMax; simp) (fun y hy => by
  simp only [List.mem_cons, List.not_mem_nil, or_false] at hy
  rcases hy with rfl | rfl | rfl | rfl
  · exact ok_finN 1 i64c
  · exact ok_leaf i64c i64c i64c
  · exact ok_two i64c i64c i64c (ok_leaf i64c i64c i64c) (ok_leaf i64c i64c i64c)
  · exact ok_red6)
end Go.Proofs.YtebmlojhdnldgaaGreatDoor

namespace Go.Proofs.YtebmlojhdnldgaaGreatDoor
set_option linter.unusedSimpArgs false
set_option linter.unusedVariables false
open Go.RowKit
def lvSz : List LV → Nat
  | [] => 0
  | l :: r => 1 + l.length + lvSz r
mutual
/-- how great a term is, its levels counted -/
def T.tsz : T → Nat
  | .mk _ _ _ ls ks => 1 + lvSz ls + T.tszs ks
def T.tszs : List T → Nat
  | [] => 0
  | t :: r => T.tsz t + T.tszs r
end
mutual
theorem nsz_tsz : ∀ t : T, t.nsz ≤ t.tsz
  | .mk _ _ _ ls ks => by rw [T.nsz, T.tsz]; have := nszs_tszs ks; omega
theorem nszs_tszs : ∀ ks : List T, T.nszs ks ≤ T.tszs ks
  | [] => by rw [T.nszs, T.tszs]; exact Nat.le_refl _
  | t :: r => by rw [T.nszs, T.tszs]; have := nsz_tsz t; have := nszs_tszs r; omega
end
def QB : Int := 4611686018427387904
theorem lvOf_law (l : LV) (q : Int) (hl : (l.length : Int) < QB) (hq : 0 ≤ q ∧ q ≤ QB) : 1 ≤ lvOf q l ∧ lvOf q l ≤ 1 + l.length ∧ (lvOf q l ≤ q → lvOf q l = 1 + l.length) := by
  unfold QB at hl hq
  unfold lvOf
  rw [i64w (by omega) (by omega), i64w (by omega) (by omega)]
  omega
theorem lvs_law (q : Int) (hq : 0 ≤ q ∧ q ≤ QB) : ∀ (ls : List LV) (s : Int), 0 ≤ s → s + (lvSz ls : Int) ≤ QB →
    s ≤ cntF (fun x s => IntKind.i64.wrap (s + lvOf q x)) q ls s ∧ cntF (fun x s => IntKind.i64.wrap (s + lvOf q x)) q ls s ≤ s + (lvSz ls : Int) ∧ (cntF (fun x s => IntKind.i64.wrap (s + lvOf q x)) q ls s ≤ q → cntF (fun x s => IntKind.i64.wrap (s + lvOf q x)) q ls s = s + (lvSz ls : Int))
  | [], s, h0, h1 => by simp only [cntF, lvSz]; omega
  | l :: r, s, h0, h1 => by
    rw [cntF]
    rw [lvSz] at h1 ⊢
    split
    · rename_i hs
      have hq2 := hq
      unfold QB at h1 hq2
      obtain ⟨a1, a2, a3⟩ := lvOf_law l q (by unfold QB; omega) hq
      rw [i64w (n := s + lvOf q l) (by omega) (by omega)]
      obtain ⟨b1, b2, b3⟩ := lvs_law q hq r (s + lvOf q l) (by omega) (by unfold QB; omega)
      refine ⟨by omega, by omega, fun h => ?_⟩
      have := b3 h
      have := a3 (by omega)
      omega
    · omega
mutual
theorem tof_law : ∀ (t : T) (q : Int), (t.tsz : Int) ≤ QB → 0 ≤ q ∧ q ≤ QB → 1 ≤ t.tof q ∧ t.tof q ≤ t.tsz ∧ (t.tof q ≤ q → t.tof q = t.tsz)
  | .mk k n a ls ks, q, ht, hq => by
    rw [T.tsz] at ht
    have ht2 := ht
    have hq2 := hq
    unfold QB at ht2 hq2
    obtain ⟨a1, a2, a3⟩ := lvs_law q hq ls 0 (by omega) (by unfold QB; omega)
    obtain ⟨b1, b2, b3⟩ := tofs_law ks 0 q (by omega) (by unfold QB; omega) hq
    rw [T.tof, T.tsz]
    unfold lvsN
    generalize cntF (fun x s => IntKind.i64.wrap (s + lvOf q x)) q ls 0 = v at a1 a2 a3
    rw [i64w (n := 1 + v) (by omega) (by omega), i64w (by omega) (by omega)]
    refine ⟨by omega, by omega, fun h => ?_⟩
    have := a3 (by omega)
    have := b3 (by omega)
    omega
theorem tofs_law : ∀ (ks : List T) (s q : Int), 0 ≤ s → s + (T.tszs ks : Int) ≤ QB → 0 ≤ q ∧ q ≤ QB → s ≤ T.tofs ks s q ∧ T.tofs ks s q ≤ s + (T.tszs ks : Int) ∧ (T.tofs ks s q ≤ q → T.tofs ks s q = s + (T.tszs ks : Int))
  | [], s, q, h0, h1, hq => by rw [T.tofs, T.tszs]; omega
  | t :: r, s, q, h0, h1, hq => by
    rw [T.tofs]
    rw [T.tszs] at h1 ⊢
    split
    · rename_i hs
      have h2 := h1
      have hq2 := hq
      unfold QB at h2 hq2
      rw [i64w (n := q - s) (by omega) (by omega)]
      obtain ⟨a1, a2, a3⟩ := tof_law t (q - s) (by unfold QB; omega) ⟨by omega, by unfold QB; omega⟩
      rw [i64w (n := s + t.tof (q - s)) (by omega) (by omega)]
      obtain ⟨b1, b2, b3⟩ := tofs_law r (s + t.tof (q - s)) q (by omega) (by unfold QB; omega) hq
      refine ⟨by omega, by omega, fun h => ?_⟩
      have := b3 h
      have := a3 (by omega)
      omega
    · omega
end
/-- a round of CoresOf -/
def coSt (c : C) (s : Int) : Int := IntKind.i64.wrap (IntKind.i64.wrap (IntKind.i64.wrap (s + 1) + c.ty.tof 600) + c.bo.tof 600)
def cosz : List C → Nat
  | [] => 0
  | c :: r => 1 + c.ty.tsz + c.bo.tsz + cosz r
theorem cores_law : ∀ (l : List C) (s : Int), 0 ≤ s → s + (cosz l : Int) ≤ QB → s ≤ cntF coSt 600 l s ∧ cntF coSt 600 l s ≤ s + (cosz l : Int) ∧ (cntF coSt 600 l s ≤ 600 → cntF coSt 600 l s = s + (cosz l : Int))
  | [], s, h0, h1 => by simp only [cntF, cosz]; omega
  | c :: r, s, h0, h1 => by
    rw [cntF]
    rw [cosz] at h1 ⊢
    split
    · rename_i hs
      have h2 := h1
      unfold QB at h2
      have hq : (0 : Int) ≤ 600 ∧ (600 : Int) ≤ QB := ⟨by omega, by unfold QB; omega⟩
      obtain ⟨a1, a2, a3⟩ := tof_law c.ty 600 (by unfold QB; omega) hq
      obtain ⟨c1, c2, c3⟩ := tof_law c.bo 600 (by unfold QB; omega) hq
      have e : coSt c s = s + 1 + c.ty.tof 600 + c.bo.tof 600 := by
        unfold coSt
        rw [i64w (n := s + 1) (by omega) (by omega), i64w (n := s + 1 + c.ty.tof 600) (by omega) (by omega), i64w (by omega) (by omega)]
      rw [e]
      obtain ⟨b1, b2, b3⟩ := cores_law r (s + 1 + c.ty.tof 600 + c.bo.tof 600) (by omega) (by unfold QB; omega)
      refine ⟨by omega, by omega, fun h => ?_⟩
      have := b3 h
      have := a3 (by omega)
      have := c3 (by omega)
      omega
    · omega
theorem cosz_mem : ∀ {l : List C} {c : C}, c ∈ l → c.ty.tsz ≤ cosz l ∧ c.bo.tsz ≤ cosz l
  | [], c, h => by cases h
  | x :: r, c, h => by
    rw [cosz]
    cases h with
    | head => omega
    | tail _ hm => have := cosz_mem hm; omega
/-- what is not great, is small -/
theorem not_great {l : List C} {t : T} (h : ¬ cntF coSt 600 l 0 + t.tof 600 > 600) (hl : (cosz l : Int) ≤ QB) (ht : (t.tsz : Int) ≤ QB) : t.nsz ≤ 600 ∧ ∀ c, c ∈ l → c.ty.nsz ≤ 600 ∧ c.bo.nsz ≤ 600 := by
  have hq : (0 : Int) ≤ 600 ∧ (600 : Int) ≤ QB := ⟨by omega, by unfold QB; omega⟩
  obtain ⟨a1, a2, a3⟩ := tof_law t 600 ht hq
  obtain ⟨b1, b2, b3⟩ := cores_law l 0 (by omega) (by omega)
  have h1 := a3 (by omega)
  have h2 := b3 (by omega)
  have := nsz_tsz t
  refine ⟨by omega, fun c hc => ?_⟩
  have := cosz_mem hc
  have := nsz_tsz c.ty
  have := nsz_tsz c.bo
  omega
/-- the same, as the program asks it -/
theorem small_of {l : List C} {t : T} (hq : (cosz l : Int) ≤ QB) (htq : (t.tsz : Int) < QB) (h4 : ¬ IntKind.i64.wrap (cntF coSt 600 l 0 + t.tof 600) > 600) : t.nsz ≤ 600 ∧ ∀ c, c ∈ l → c.ty.nsz ≤ 600 ∧ c.bo.nsz ≤ 600 := by
  have hq6 : (0 : Int) ≤ 600 ∧ (600 : Int) ≤ QB := ⟨by omega, by unfold QB; omega⟩
  obtain ⟨a1, a2, -⟩ := tof_law t 600 (Int.le_of_lt htq) hq6
  obtain ⟨b1, b2, -⟩ := cores_law l 0 (by omega) (by omega)
  have hq' := hq
  have htq' := htq
  unfold QB at hq' htq'
  refine not_great ?_ hq (Int.le_of_lt htq)
  generalize cntF coSt 600 l 0 = x at h4 b1 b2 ⊢
  generalize t.tof 600 = y at h4 a1 a2 ⊢
  intro h6
  apply h4
  rw [i64w (by omega) (by omega)]
  exact h6
end Go.Proofs.YtebmlojhdnldgaaGreatDoor

namespace Go.Proofs.YtebmlojhdnldgaaGreatDoor
set_option linter.unusedSimpArgs false
set_option linter.unusedVariables false
set_option maxHeartbeats 10000000
set_option maxRecDepth 20000
open Go.RowKit
attribute [local simp] wpAft_ret wpAft_pan wantD evOp opD tmOf putS updS setS hOf isFree isTok fillD TK.isAgg TK.known partD thenD blockD putAll D.ofV inB nilTest isNilS binX binD binE isCst bndD capB IntKind.min IntKind.max IntKind.signed IntKind.bits dstOf late
theorem coresOf_gen (l : List (C)) (q : Int) (step : C → Int → Int) (hl : l.length ≤ LMax) (hst : ∀ x s, step x s = IntKind.i64.wrap (IntKind.i64.wrap (IntKind.i64.wrap (s + 1) + x.ty.tof q) + x.bo.tof q)) (hg : ∀ x, x ∈ l → ∀ s : Int, okC x) :
    Spec Tryz.prog glob 35 [.slice (l.map encC) .any, .int .i64 q] [] (fun o _ => o.fgt = .ret (.int .i64 (cntF step q l 0))) := by
  obtain ⟨R, hR⟩ : ∃ R, R = cntF step q l 0 := ⟨_, rfl⟩
  rw [← hR]
  have hl0 := hl
  unfold LMax at hl0
  refine Spec.movd globPure (wpD_spec tyOK Tryz.func35 rfl (enters _ _ Tryz.func35 rfl (by decide)) rfl rfl ?_)
  (refine wpD_seqk fun K hK => ?_; refine wpD_region tyOK ?_; ((repeat (rw [wpS_cons]; simp)); (try simp only [wpS_nil, thenD, blockD])); refine hK _ _ _ ?_; clear hK K)
  (refine wpD_seqk fun K hK => ?_; refine wpD_region tyOK ?_; ((repeat (rw [wpS_cons]; simp)); (try simp only [wpS_nil, thenD, blockD])); refine hK _ _ _ ?_; clear hK K)
  refine wpD_seqk fun K1 hK1 => ?_
  (refine wpD_seqk fun K hK => ?_; refine wpD_region tyOK ?_; ((repeat (rw [wpS_cons]; simp)); (try simp only [wpS_nil, thenD, blockD])); refine hK _ _ _ ?_; clear hK K)
  refine wpD_block ?_
  refine wpD_loopWJ [7, 8, 9, 10, 11, 12, 13, 14, 15, 16, 17, 18, 19, 20, 21, 22, 23, 24, 25, 26, 27, 28, 29, 30, 31, 32, 33, 34, 35] [5, 6] (fun n ys hl => ∃ (k : Nat) (s : Int), ys = [.int .i64 s, .int .i64 k] ∧ n + k = l.length ∧ R = cntF step q (l.drop k) s ∧ hl = []) (l.length) (by kernel_rfl) ?_ ?_
  · exact ⟨0, 0, rfl, rfl, hR, rfl⟩
  · rintro n ys hl A hA ⟨i, s, rfl, hn, hF, rfl⟩
    simp only [putAll, List.set, List.map_cons, List.map_nil, List.cons_append, List.nil_append]
    refine wpD_seqk fun K2 hK2 => ?_
    by_cases hi : i < l.length
    · have hi' : (i : Int) < l.length := by omega
      by_cases hs : s ≤ q
      · (refine wpD_seqk fun K hK => ?_; refine wpD_region tyOK ?_; ((repeat (rw [wpS_cons]; simp [hi, hi', hs])); (try simp only [wpS_nil, thenD, blockD])); refine hK _ _ _ ?_; clear hK K)
        refine wpD_part rfl (fun _ => ?_) (fun h => by simp at h)
        refine wpD_skip (hK2 _ _ _ ?_)
        clear hK2 K2
        refine wpD_seqk fun K3 hK3 => ?_
        refine wpD_block ?_
        rw [List.drop_eq_getElem_cons hi, cntF, if_pos hs] at hF
        have hrec := hg l[i] (List.getElem_mem hi) s
        obtain ⟨x, hx⟩ : ∃ x, l[i] = x := ⟨_, rfl⟩
        rw [hx] at hrec hF
        have hE := encC_eq x
        have ht1 := tof_spec x.ty q hrec.2.1
        have ht2 := tof_spec x.bo q hrec.2.2
        rw [encT_eq x.ty] at ht1
        rw [encT_eq x.bo] at ht2
        rw [hst] at hF
        generalize x.ty.tof q = v1 at ht1 hF
        generalize x.bo.tof q = v2 at ht2 hF
        (refine wpD_drawk tyOK (by kernel_rfl) (by kernel_rfl) fun KT hKT => ?_; ((repeat (rw [wpT_cons]; simp [hi, hi', hx, hE])); (try simp only [wpT_nil])))
        refine CallY.pure globPure (ht1) ?_ (by simp [D.fgts, D.fgt]) (by simp [D.pures, D.pure, Cp.free, D.pures_map]) (by simp [Out.pure, D.pure, D.pures, Cp.free, D.pures_map])
        ((try simp only [wpAftT_ret, wpAftT_pan, putS, updS, setS]); (repeat (rw [wpT_cons]; simp [hi, hi', hx, hE])); (try simp only [wpT_nil]))
        refine CallY.pure globPure (ht2) ?_ (by simp [D.fgts, D.fgt]) (by simp [D.pures, D.pure, Cp.free, D.pures_map]) (by simp [Out.pure, D.pure, D.pures, Cp.free, D.pures_map])
        ((try simp only [wpAftT_ret, wpAftT_pan, putS, updS, setS]); (repeat (rw [wpT_cons]; simp [hi, hi', hx, hE])); (try simp only [wpT_nil]))
        (refine hKT _ _ _ _ (by kernel_rfl) ?_; clear hKT KT; (try simp only [thenD, blockD]))
        refine hK3 _ _ _ ?_
        clear hK3 K3
        have hw1 : IntKind.i64.wrap ((i : Int) + 1) = (i : Int) + 1 := i64w (by omega) (by omega)
        (refine wpD_region tyOK ?_; ((repeat (rw [wpS_cons]; simp [hw1])); (try simp only [wpS_nil, thenD, blockD])))
        refine hA (n - 1) _ _ _ (LeT.refl _) (by omega) (by kernel_rfl) ?_
        exact ⟨i + 1, _, rfl, by omega, hF, rfl⟩
      · (refine wpD_seqk fun K hK => ?_; refine wpD_region tyOK ?_; ((repeat (rw [wpS_cons]; simp [hi, hi', hs])); (try simp only [wpS_nil, thenD, blockD])); refine hK _ _ _ ?_; clear hK K)
        refine wpD_part rfl (fun h => by simp at h) (fun _ => ?_)
        refine wpD_exit ?_
        refine hK1 _ _ _ ?_
        rw [List.drop_eq_getElem_cons hi, cntF, if_neg hs] at hF
        subst hF
        (refine wpD_seqk fun K hK => ?_; refine wpD_region tyOK ?_; ((repeat (rw [wpS_cons]; simp)); (try simp only [wpS_nil, thenD, blockD])); refine hK _ _ _ ?_; clear hK K)
        (refine wpD_ret ?_; (try simp only [thenD, blockD]); refine EndQ.ret rfl (.inl ?_); simp [tmOf, Out.fgt, D.fgt, D.fgts])
    · have hi' : ¬ (i : Int) < l.length := by omega
      (refine wpD_seqk fun K hK => ?_; refine wpD_region tyOK ?_; ((repeat (rw [wpS_cons]; simp [hi, hi'])); (try simp only [wpS_nil, thenD, blockD])); refine hK _ _ _ ?_; clear hK K)
      refine wpD_part rfl (fun h => by simp at h) (fun _ => ?_)
      refine wpD_exit ?_
      refine hK1 _ _ _ ?_
      rw [List.drop_of_length_le (by omega), cntF] at hF
      subst hF
      (refine wpD_seqk fun K hK => ?_; refine wpD_region tyOK ?_; ((repeat (rw [wpS_cons]; simp)); (try simp only [wpS_nil, thenD, blockD])); refine hK _ _ _ ?_; clear hK K)
      (refine wpD_ret ?_; (try simp only [thenD, blockD]); refine EndQ.ret rfl (.inl ?_); simp [tmOf, Out.fgt, D.fgt, D.fgts])
theorem coresOf_spec (l : List C) (hl : l.length ≤ LMax) (hls : ∀ c, c ∈ l → okC c) : Spec Tryz.prog glob 35 [Cs l, .int .i64 600] [] (fun o _ => o.fgt = .ret (.int .i64 (cntF coSt 600 l 0))) := coresOf_gen l 600 coSt hl (fun _ _ => rfl) (fun c hc _ => hls c hc)
def gr1 (c : C) : Bool := decide (100 < c.bo.dp 100) || decide (100 < c.ty.dp 100)
theorem great6_spec (l : List C) (t : T) (hl : l.length ≤ LMax) (hls : ∀ c, c ∈ l → okC c) (ht : okT t) : ∃ b, Spec Tryz.prog glob 20 [Cs l, encT t] [] (fun o _ => o.fgt = .ret (.bool b)) ∧ (b = false → ¬ IntKind.i64.wrap (cntF coSt 600 l 0 + t.tof 600) > 600) := by
  have h := coresOf_spec l hl hls
  have h2 := tof_spec t 600 ht
  have h3 := deep_spec t 100 ht
  generalize cntF coSt 600 l 0 = v at h ⊢
  generalize t.tof 600 = w at h2 ⊢
  generalize t.dp 100 = d at h3
  obtain ⟨g, hg⟩ : ∃ g, g = decide (600 < IntKind.i64.wrap (v + w)) := ⟨_, rfl⟩
  refine ⟨decide (100 < d) || ((l.take 600).any gr1 || g), ?_, fun hb => by
    intro h4
    rw [hg, decide_eq_true (show 600 < IntKind.i64.wrap (v + w) by omega)] at hb
    simp at hb⟩
  have hl0 := hl
  unfold LMax at hl0
  rw [encT_eq t] at h2 h3
  rw [encT_eq t]
  unfold Cs at h
  unfold Cs
  by_cases hd : 100 < d
  · refine Spec.movd globPure (wpD_spec tyOK Tryz.func20 rfl (enters _ _ Tryz.func20 rfl (by decide)) rfl rfl ?_)
    (refine wpD_seqk fun K hK => ?_; refine wpD_region tyOK ?_; ((repeat (rw [wpS_cons]; simp)); (try simp only [wpS_nil, thenD, blockD])); refine hK _ _ _ ?_; clear hK K)
    refine wpD_seqk fun K1 hK1 => ?_
    (refine wpD_seqk fun K hK => ?_; refine wpD_region tyOK ?_; ((repeat (rw [wpS_cons]; simp)); (try simp only [wpS_nil, thenD, blockD])))
    refine CallX.pure globPure (h3) ?_ (by simp [D.fgts, D.fgt]) (by simp [D.pures, D.pure, Cp.free, D.pures_map]) (by simp [Out.pure, D.pure, D.pures, Cp.free, D.pures_map])
    ((try simp only [wpAft_ret, wpAft_pan, putS, updS, setS]); (repeat (rw [wpS_cons]; simp [hd])); (try simp only [wpS_nil, thenD, blockD]))
    (refine hK _ _ _ ?_; clear hK K)
    refine wpD_part rfl (fun _ => ?_) (fun h => by simp at h)
    (refine wpD_seqk fun K hK => ?_; refine wpD_region tyOK ?_; ((repeat (rw [wpS_cons]; simp)); (try simp only [wpS_nil, thenD, blockD])); refine hK _ _ _ ?_; clear hK K)
    (refine wpD_ret ?_; (try simp only [thenD, blockD]); refine EndQ.ret rfl (.inl ?_); simp [tmOf, Out.fgt, D.fgt, D.fgts])
    simp [hd]
  rw [decide_eq_false hd, Bool.false_or]
  obtain ⟨R, hR⟩ : ∃ R, R = ((l.take 600).any gr1 || g) := ⟨_, rfl⟩
  rw [← hR]
  have hE : ∀ c, encC c = .agg [.int .i64 c.lv, .int .i64 c.ty.k, .int .i64 c.ty.n, .int .i64 c.ty.a, .slice (c.ty.ls.map encL) .any, .slice (c.ty.ks.map encT) .any, .bool c.has, .int .i64 c.bo.k, .int .i64 c.bo.n, .int .i64 c.bo.a, .slice (c.bo.ls.map encL) .any, .slice (c.bo.ks.map encT) .any] := fun c => encC_eq c
  refine Spec.movd globPure (wpD_spec tyOK Tryz.func20 rfl (enters _ _ Tryz.func20 rfl (by decide)) rfl rfl ?_)
  (refine wpD_seqk fun K hK => ?_; refine wpD_region tyOK ?_; ((repeat (rw [wpS_cons]; simp)); (try simp only [wpS_nil, thenD, blockD])); refine hK _ _ _ ?_; clear hK K)
  refine wpD_seqk fun K1 hK1 => ?_
  (refine wpD_seqk fun K hK => ?_; refine wpD_region tyOK ?_; ((repeat (rw [wpS_cons]; simp)); (try simp only [wpS_nil, thenD, blockD])))
  refine CallX.pure globPure (h3) ?_ (by simp [D.fgts, D.fgt]) (by simp [D.pures, D.pure, Cp.free, D.pures_map]) (by simp [Out.pure, D.pure, D.pures, Cp.free, D.pures_map])
  ((try simp only [wpAft_ret, wpAft_pan, putS, updS, setS]); (repeat (rw [wpS_cons]; simp [hd])); (try simp only [wpS_nil, thenD, blockD]))
  (refine hK _ _ _ ?_; clear hK K)
  refine wpD_part rfl (fun h => by simp at h) (fun _ => ?_)
  refine wpD_skip (hK1 _ _ _ ?_)
  clear hK1 K1
  refine wpD_seqk fun K1a hK1a => ?_
  (refine wpD_seqk fun K hK => ?_; refine wpD_region tyOK ?_; ((repeat (rw [wpS_cons]; simp)); (try simp only [wpS_nil, thenD, blockD])); refine hK _ _ _ ?_; clear hK K)
  refine wpD_block ?_
  refine wpD_loopWJ [4, 9, 10, 11, 12, 13, 14, 15, 16, 17, 18, 19, 20, 21, 22, 23, 24, 25, 26, 27, 28, 29, 30, 31, 32, 33, 34] [5] (fun n ys hl => ∃ (k : Nat), ys = [.int .i64 k] ∧ n + k = l.length ∧ R = (((l.take 600).drop k).any gr1 || g) ∧ hl = [.cells 27 [.int .i64 t.k, .int .i64 t.n, .int .i64 t.a, .slice (t.ls.map encL) .any, .slice (t.ks.map encT) .any]]) (l.length) (by kernel_rfl) ?_ ?_
  · exact ⟨0, rfl, rfl, hR, rfl⟩
  · rintro n1 ys hl A1 hA1 ⟨i, rfl, hn, hF, rfl⟩
    have hA := hA1
    simp only [putAll, List.set, List.map_cons, List.map_nil, List.cons_append, List.nil_append]
    refine wpD_seqk fun K1b hK1b => ?_
    by_cases hi : i < l.length
    · have hi' : (i : Int) < l.length := by omega
      by_cases h6 : i < 600
      · have h6' : (i : Int) < 600 := by omega
        have hti : i < (l.take 600).length := by rw [List.length_take]; omega
        rw [List.drop_eq_getElem_cons hti, List.any_cons, List.getElem_take] at hF
        obtain ⟨x, hx⟩ : ∃ x, l[i] = x := ⟨_, rfl⟩
        have hxo : okC x := by rw [← hx]; exact hls _ (List.getElem_mem hi)
        rw [hx] at hF
        have hg1 : gr1 x = (decide (100 < x.bo.dp 100) || decide (100 < x.ty.dp 100)) := rfl
        rw [hg1] at hF
        have d1 := deep_spec x.bo 100 hxo.2.2
        have d2 := deep_spec x.ty 100 hxo.2.1
        rw [encT_eq x.bo] at d1
        rw [encT_eq x.ty] at d2
        have hEx := hE x
        generalize x.bo.dp 100 = w1 at d1 hF
        generalize x.ty.dp 100 = w2 at d2 hF
        (refine wpD_seqk fun K hK => ?_; refine wpD_region tyOK ?_; ((repeat (rw [wpS_cons]; simp [hi, hi', h6, h6'])); (try simp only [wpS_nil, thenD, blockD])); refine hK _ _ _ ?_; clear hK K)
        refine wpD_part rfl (fun _ => ?_) (fun h => by simp at h)
        refine wpD_skip (hK1b _ _ _ ?_)
        clear hK1b K1b
        refine wpD_seqk fun K1c hK1c => ?_
        refine wpD_block ?_
        by_cases hw : 100 < w1
        · (refine wpD_seqk fun K hK => ?_; refine wpD_region tyOK ?_; ((repeat (rw [wpS_cons]; simp [hi, hi', hx, hEx])); (try simp only [wpS_nil, thenD, blockD])))
          refine CallX.pure globPure (d1) ?_ (by simp [D.fgts, D.fgt]) (by simp [D.pures, D.pure, Cp.free, D.pures_map]) (by simp [Out.pure, D.pure, D.pures, Cp.free, D.pures_map])
          ((try simp only [wpAft_ret, wpAft_pan, putS, updS, setS]); (repeat (rw [wpS_cons]; simp [hw])); (try simp only [wpS_nil, thenD, blockD]))
          (refine hK _ _ _ ?_; clear hK K)
          refine wpD_part rfl (fun _ => ?_) (fun h => by simp at h)
          (refine wpD_seqk fun K hK => ?_; refine wpD_region tyOK ?_; ((repeat (rw [wpS_cons]; simp)); (try simp only [wpS_nil, thenD, blockD])); refine hK _ _ _ ?_; clear hK K)
          (refine wpD_ret ?_; (try simp only [thenD, blockD]); refine EndQ.ret rfl (.inl ?_); simp [tmOf, Out.fgt, D.fgt, D.fgts])
          rw [hF]; simp [hw]
        · by_cases hw2 : 100 < w2
          · (refine wpD_seqk fun K hK => ?_; refine wpD_region tyOK ?_; ((repeat (rw [wpS_cons]; simp [hi, hi', hx, hEx])); (try simp only [wpS_nil, thenD, blockD])))
            refine CallX.pure globPure (d1) ?_ (by simp [D.fgts, D.fgt]) (by simp [D.pures, D.pure, Cp.free, D.pures_map]) (by simp [Out.pure, D.pure, D.pures, Cp.free, D.pures_map])
            ((try simp only [wpAft_ret, wpAft_pan, putS, updS, setS]); (repeat (rw [wpS_cons]; simp [hi, hi', hx, hEx, hw])); (try simp only [wpS_nil, thenD, blockD]))
            refine CallX.pure globPure (d2) ?_ (by simp [D.fgts, D.fgt]) (by simp [D.pures, D.pure, Cp.free, D.pures_map]) (by simp [Out.pure, D.pure, D.pures, Cp.free, D.pures_map])
            ((try simp only [wpAft_ret, wpAft_pan, putS, updS, setS]); (repeat (rw [wpS_cons]; simp [hw, hw2])); (try simp only [wpS_nil, thenD, blockD]))
            (refine hK _ _ _ ?_; clear hK K)
            refine wpD_part rfl (fun _ => ?_) (fun h => by simp at h)
            (refine wpD_seqk fun K hK => ?_; refine wpD_region tyOK ?_; ((repeat (rw [wpS_cons]; simp)); (try simp only [wpS_nil, thenD, blockD])); refine hK _ _ _ ?_; clear hK K)
            (refine wpD_ret ?_; (try simp only [thenD, blockD]); refine EndQ.ret rfl (.inl ?_); simp [tmOf, Out.fgt, D.fgt, D.fgts])
            rw [hF]; simp [hw, hw2]
          · (refine wpD_seqk fun K hK => ?_; refine wpD_region tyOK ?_; ((repeat (rw [wpS_cons]; simp [hi, hi', hx, hEx])); (try simp only [wpS_nil, thenD, blockD])))
            refine CallX.pure globPure (d1) ?_ (by simp [D.fgts, D.fgt]) (by simp [D.pures, D.pure, Cp.free, D.pures_map]) (by simp [Out.pure, D.pure, D.pures, Cp.free, D.pures_map])
            ((try simp only [wpAft_ret, wpAft_pan, putS, updS, setS]); (repeat (rw [wpS_cons]; simp [hi, hi', hx, hEx, hw])); (try simp only [wpS_nil, thenD, blockD]))
            refine CallX.pure globPure (d2) ?_ (by simp [D.fgts, D.fgt]) (by simp [D.pures, D.pure, Cp.free, D.pures_map]) (by simp [Out.pure, D.pure, D.pures, Cp.free, D.pures_map])
            ((try simp only [wpAft_ret, wpAft_pan, putS, updS, setS]); (repeat (rw [wpS_cons]; simp [hw, hw2])); (try simp only [wpS_nil, thenD, blockD]))
            (refine hK _ _ _ ?_; clear hK K)
            refine wpD_part rfl (fun h => by simp at h) (fun _ => ?_)
            refine wpD_skip (hK1c _ _ _ ?_)
            clear hK1c K1c
            have hw1 : IntKind.i64.wrap ((i : Int) + 1) = (i : Int) + 1 := i64w (by omega) (by omega)
            (refine wpD_region tyOK ?_; ((repeat (rw [wpS_cons]; simp [hw1])); (try simp only [wpS_nil, thenD, blockD])))
            refine hA (n1 - 1) _ _ _ (LeT.refl _) (by omega) (by kernel_rfl) ?_
            exact ⟨i + 1, rfl, by omega, by rw [hF]; simp [hw, hw2], rfl⟩
      · have h6' : ¬ (i : Int) < 600 := by omega
        (refine wpD_seqk fun K hK => ?_; refine wpD_region tyOK ?_; ((repeat (rw [wpS_cons]; simp [hi, hi', h6, h6'])); (try simp only [wpS_nil, thenD, blockD])); refine hK _ _ _ ?_; clear hK K)
        refine wpD_part rfl (fun h => by simp at h) (fun _ => ?_)
        refine wpD_exit ?_
        refine hK1a _ _ _ ?_
        clear hK1b K1b
        rw [List.drop_of_length_le (by rw [List.length_take]; omega)] at hF
        (refine wpD_seqk fun K hK => ?_; refine wpD_drawk tyOK (by kernel_rfl) (by kernel_rfl) fun KT hKT => ?_; ((repeat (rw [wpT_cons]; simp)); (try simp only [wpT_nil])))
        refine CallY.pure globPure (h) ?_ (by simp [D.fgts, D.fgt]) (by simp [D.pures, D.pure, Cp.free, D.pures_map]) (by simp [Out.pure, D.pure, D.pures, Cp.free, D.pures_map])
        ((try simp only [wpAftT_ret, wpAftT_pan, putS, updS, setS]); (repeat (rw [wpT_cons]; simp)); (try simp only [wpT_nil]))
        refine CallY.pure globPure (h2) ?_ (by simp [D.fgts, D.fgt]) (by simp [D.pures, D.pure, Cp.free, D.pures_map]) (by simp [Out.pure, D.pure, D.pures, Cp.free, D.pures_map])
        ((try simp only [wpAftT_ret, wpAftT_pan, putS, updS, setS]); (repeat (rw [wpT_cons]; simp)); (try simp only [wpT_nil]))
        (refine hKT _ _ _ _ (by kernel_rfl) ?_; clear hKT KT; (try simp only [thenD, blockD]))
        (refine hK _ _ _ ?_; clear hK K)
        (refine wpD_ret ?_; (try simp only [thenD, blockD]); refine EndQ.ret rfl (.inl ?_); simp [tmOf, Out.fgt, D.fgt, D.fgts])
        rw [hF, hg]; simp
    · have hi' : ¬ (i : Int) < l.length := by omega
      (refine wpD_seqk fun K hK => ?_; refine wpD_region tyOK ?_; ((repeat (rw [wpS_cons]; simp [hi, hi'])); (try simp only [wpS_nil, thenD, blockD])); refine hK _ _ _ ?_; clear hK K)
      refine wpD_part rfl (fun h => by simp at h) (fun _ => ?_)
      refine wpD_exit ?_
      refine hK1a _ _ _ ?_
      clear hK1b K1b
      rw [List.drop_of_length_le (by rw [List.length_take]; omega)] at hF
      (refine wpD_seqk fun K hK => ?_; refine wpD_drawk tyOK (by kernel_rfl) (by kernel_rfl) fun KT hKT => ?_; ((repeat (rw [wpT_cons]; simp)); (try simp only [wpT_nil])))
      refine CallY.pure globPure (h) ?_ (by simp [D.fgts, D.fgt]) (by simp [D.pures, D.pure, Cp.free, D.pures_map]) (by simp [Out.pure, D.pure, D.pures, Cp.free, D.pures_map])
      ((try simp only [wpAftT_ret, wpAftT_pan, putS, updS, setS]); (repeat (rw [wpT_cons]; simp)); (try simp only [wpT_nil]))
      refine CallY.pure globPure (h2) ?_ (by simp [D.fgts, D.fgt]) (by simp [D.pures, D.pure, Cp.free, D.pures_map]) (by simp [Out.pure, D.pure, D.pures, Cp.free, D.pures_map])
      ((try simp only [wpAftT_ret, wpAftT_pan, putS, updS, setS]); (repeat (rw [wpT_cons]; simp)); (try simp only [wpT_nil]))
      (refine hKT _ _ _ _ (by kernel_rfl) ?_; clear hKT KT; (try simp only [thenD, blockD]))
      (refine hK _ _ _ ?_; clear hK K)
      (refine wpD_ret ?_; (try simp only [thenD, blockD]); refine EndQ.ret rfl (.inl ?_); simp [tmOf, Out.fgt, D.fgt, D.fgts])
      rw [hF, hg]; simp
end Go.Proofs.YtebmlojhdnldgaaGreatDoor

namespace Go.Proofs.YtebmlojhdnldgaaGreatDoor
set_option linter.unusedSimpArgs false
set_option linter.unusedVariables false
set_option maxHeartbeats 10000000
set_option maxRecDepth 20000
open Go.RowKit
attribute [local simp] wpAft_ret wpAft_pan wantD evOp opD tmOf putS updS setS hOf isFree isTok fillD TK.isAgg TK.known partD thenD blockD putAll D.ofV inB nilTest isNilS binX binD binE isCst bndD capB IntKind.min IntKind.max IntKind.signed IntKind.bits dstOf late
theorem v6_spec (n : Int) : Spec Tryz.prog glob 50 [.int .i64 n] [] (fun o _ => o.fgt = .ret (encT (vT n))) := by
  unfold vT
  rw [encT_mk]
  refine Spec.movd globPure (wpD_spec tyOK Tryz.func50 rfl (enters _ _ Tryz.func50 rfl (by decide)) rfl rfl ?_)
  (refine wpD_seqk fun K hK => ?_; refine wpD_region tyOK ?_; ((repeat (rw [wpS_cons]; simp)); (try simp only [wpS_nil, thenD, blockD])); refine hK _ _ _ ?_; clear hK K)
  (refine wpD_seqk fun K hK => ?_; refine wpD_region tyOK ?_; ((repeat (rw [wpS_cons]; simp)); (try simp only [wpS_nil, thenD, blockD])); refine hK _ _ _ ?_; clear hK K)
  (refine wpD_ret ?_; (try simp only [thenD, blockD]); refine EndQ.ret rfl (.inl ?_); simp [tmOf, Out.fgt, D.fgt, D.fgts])
theorem fin6_spec (n : Int) : Spec Tryz.prog glob 49 [.int .i64 n] [] (fun o _ => o.fgt = .ret (encT (finN n))) := by
  unfold finN
  rw [encT_mk]
  refine Spec.movd globPure (wpD_spec tyOK Tryz.func49 rfl (enters _ _ Tryz.func49 rfl (by decide)) rfl rfl ?_)
  (refine wpD_seqk fun K hK => ?_; refine wpD_region tyOK ?_; ((repeat (rw [wpS_cons]; simp)); (try simp only [wpS_nil, thenD, blockD])); refine hK _ _ _ ?_; clear hK K)
  (refine wpD_seqk fun K hK => ?_; refine wpD_region tyOK ?_; ((repeat (rw [wpS_cons]; simp)); (try simp only [wpS_nil, thenD, blockD])); refine hK _ _ _ ?_; clear hK K)
  (refine wpD_ret ?_; (try simp only [thenD, blockD]); refine EndQ.ret rfl (.inl ?_); simp [tmOf, Out.fgt, D.fgt, D.fgts])
theorem elem6_spec (m n : Int) : Spec Tryz.prog glob 51 [.int .i64 m, .int .i64 n] [] (fun o _ => o.fgt = .ret (encT (elemN m n))) := by
  unfold elemN
  rw [encT_mk]
  refine Spec.movd globPure (wpD_spec tyOK Tryz.func51 rfl (enters _ _ Tryz.func51 rfl (by decide)) rfl rfl ?_)
  (refine wpD_seqk fun K hK => ?_; refine wpD_region tyOK ?_; ((repeat (rw [wpS_cons]; simp)); (try simp only [wpS_nil, thenD, blockD])); refine hK _ _ _ ?_; clear hK K)
  (refine wpD_seqk fun K hK => ?_; refine wpD_region tyOK ?_; ((repeat (rw [wpS_cons]; simp)); (try simp only [wpS_nil, thenD, blockD])); refine hK _ _ _ ?_; clear hK K)
  (refine wpD_ret ?_; (try simp only [thenD, blockD]); refine EndQ.ret rfl (.inl ?_); simp [tmOf, Out.fgt, D.fgt, D.fgts])
theorem of6_spec (k : Int) (ks : List T) : Spec Tryz.prog glob 48 [.int .i64 k, .slice (ks.map encT) .any] [] (fun o _ => o.fgt = .ret (encT (.mk k 0 0 [] ks))) := by
  rw [encT_mk]
  refine Spec.movd globPure (wpD_spec tyOK Tryz.func48 rfl (enters _ _ Tryz.func48 rfl (by decide)) rfl rfl ?_)
  (refine wpD_seqk fun K hK => ?_; refine wpD_region tyOK ?_; ((repeat (rw [wpS_cons]; simp)); (try simp only [wpS_nil, thenD, blockD])); refine hK _ _ _ ?_; clear hK K)
  (refine wpD_seqk fun K hK => ?_; refine wpD_region tyOK ?_; ((repeat (rw [wpS_cons]; simp)); (try simp only [wpS_nil, thenD, blockD])); refine hK _ _ _ ?_; clear hK K)
  (refine wpD_ret ?_; (try simp only [thenD, blockD]); refine EndQ.ret rfl (.inl ?_); simp [tmOf, Out.fgt, D.fgt, D.fgts])
theorem cases6_spec (f t a b : T) : Spec Tryz.prog glob 53 [encT f, encT t, .slice [encT a, encT b] .any] [] (fun o _ => o.fgt = .ret (encT (.mk 24 0 2 [] [f, a, b, t]))) := by
  rw [encT_mk]
  simp only [List.map_cons, List.map_nil]
  have hEf := encT_eq f
  have hEt := encT_eq t
  rw [hEf, hEt]
  have L3 : 3 ≤ LMax := by unfold LMax; omega
  have L4 : 4 ≤ LMax := by unfold LMax; omega
  refine Spec.movd globPure (wpD_spec tyOK Tryz.func53 rfl (enters _ _ Tryz.func53 rfl (by decide)) rfl rfl ?_)
  (refine wpD_seqk fun K hK => ?_; refine wpD_region tyOK ?_; ((repeat (rw [wpS_cons]; simp)); (try simp only [wpS_nil, thenD, blockD])); refine hK _ _ _ ?_; clear hK K)
  (refine wpD_seqk fun K hK => ?_; refine wpD_drawk tyOK (by kernel_rfl) (by kernel_rfl) fun KT hKT => ?_; ((repeat (rw [wpT_cons]; simp [L3, L4])); (try simp only [wpT_nil])))
  (refine hKT _ _ _ _ (by kernel_rfl) ?_; clear hKT KT; (try simp only [thenD, blockD]))
  (refine hK _ _ _ ?_; clear hK K)
  (refine wpD_ret ?_; (try simp only [thenD, blockD]); refine EndQ.ret rfl (.inl ?_); simp [tmOf, Out.fgt, D.fgt, D.fgts])
theorem awake6_spec : Spec Tryz.prog glob 19 [] [] (fun o _ => o.fgt = .ret (.bool true)) := by
  have f2 := fin6_spec 2
  have f1 := fin6_spec 1
  have v0 := v6_spec 0
  have v1 := v6_spec 1
  have v2 := v6_spec 2
  have e1 := elem6_spec 1 2
  have o1 := of6_spec 5 [finN 2, vT 0]
  have o2 := of6_spec 6 [lam6, elemN 1 2]
  have o3 := of6_spec 13 [vT 1, vT 2]
  have c1 := cases6_spec (finN 1) red6 (vT 1) pr6
  rw [show T.mk 5 0 0 [] [finN 2, vT 0] = lam6 from rfl] at o1
  rw [show T.mk 6 0 0 [] [lam6, elemN 1 2] = red6 from rfl] at o2
  rw [show T.mk 13 0 0 [] [vT 1, vT 2] = pr6 from rfl] at o3
  rw [show T.mk 24 0 2 [] [finN 1, vT 1, pr6, red6] = cas6 from rfl] at c1
  have w1 := whnf_fin okCs_nil (f := 5) (by omega) (by omega) ok_red6 (by decide) red_hd (by omega)
  have w2 := whnf_fin okCs_nil (f := 5) (by omega) (by omega) ok_cas6 (by decide) cas_hd (by omega)
  have w3 := whnf_gone okCs_nil (f := 0) (by omega) (by omega) ok_red6 (by decide) red_gone
  have s1 := eqT_spec (elemN 1 2) (elemN 1 2) ok_elem12 ok_elem12
  rw [show (elemN 1 2).eqB (elemN 1 2) = true from by kernel_rfl] at s1
  rw [show (5 : Int) - ((1 : Nat) : Int) = 4 by omega] at w1
  rw [show (5 : Int) - ((4 : Nat) : Int) = 1 by omega] at w2
  rw [encZ] at w3
  simp only [List.map_cons, List.map_nil] at o1 o2 o3
  have hk : pr6.k = 13 := rfl
  generalize finN 1 = F1 at f1 c1
  generalize finN 2 = F2 at f2 o1
  generalize vT 0 = V0 at v0 o1
  generalize vT 1 = V1 at v1 o3 c1
  generalize vT 2 = V2 at v2 o3
  generalize elemN 1 2 = E1 at e1 o2 w1 s1
  generalize lam6 = L at o1 o2
  generalize red6 = R at o2 c1 w1 w3
  generalize pr6 = P at o3 c1 w2 hk
  generalize cas6 = S at c1 w2
  have hF1 := encT_eq F1
  have hF2 := encT_eq F2
  have hV0 := encT_eq V0
  have hV1 := encT_eq V1
  have hV2 := encT_eq V2
  have hE1 := encT_eq E1
  have hL := encT_eq L
  have hR := encT_eq R
  have hP := encT_eq P
  have hS := encT_eq S
  rw [hk] at hP
  unfold Cs at w1 w2 w3
  simp only [List.map_nil] at w1 w2 w3
  simp only [hF1, hF2, hV0, hV1, hV2, hE1, hL, hR, hP, hS] at f1 f2 v0 v1 v2 e1 o1 o2 o3 c1 w1 w2 w3 s1
  refine Spec.movd globPure (wpD_spec tyOK Tryz.func19 rfl (enters _ _ Tryz.func19 rfl (by decide)) rfl rfl ?_)
  (refine wpD_seqk fun K hK => ?_; refine wpD_region tyOK ?_; ((repeat (rw [wpS_cons]; simp)); (try simp only [wpS_nil, thenD, blockD])); refine hK _ _ _ ?_; clear hK K)
  (refine wpD_seqk fun K hK => ?_; refine wpD_region tyOK ?_; ((repeat (rw [wpS_cons]; simp)); (try simp only [wpS_nil, thenD, blockD])))
  refine CallX.pure globPure (f2) ?_ (by simp [D.fgts, D.fgt]) (by simp [D.pures, D.pure, Cp.free, D.pures_map]) (by simp [Out.pure, D.pure, D.pures, Cp.free, D.pures_map])
  ((try simp only [wpAft_ret, wpAft_pan, putS, updS, setS]); (repeat (rw [wpS_cons]; simp)); (try simp only [wpS_nil, thenD, blockD]))
  refine CallX.pure globPure (v0) ?_ (by simp [D.fgts, D.fgt]) (by simp [D.pures, D.pure, Cp.free, D.pures_map]) (by simp [Out.pure, D.pure, D.pures, Cp.free, D.pures_map])
  ((try simp only [wpAft_ret, wpAft_pan, putS, updS, setS]); (repeat (rw [wpS_cons]; simp)); (try simp only [wpS_nil, thenD, blockD]))
  refine CallX.pureD globPure (o1) ?_ (by simp [D.deeps, D.deep, D.fgts, D.fgt]) (by simp [D.pures, D.pure, Cp.free, D.pures_map]) (by simp [Out.pure, D.pure, D.pures, Cp.free, D.pures_map])
  ((try simp only [wpAft_ret, wpAft_pan, putS, updS, setS]); (repeat (rw [wpS_cons]; simp)); (try simp only [wpS_nil, thenD, blockD]))
  refine CallX.pure globPure (e1) ?_ (by simp [D.fgts, D.fgt]) (by simp [D.pures, D.pure, Cp.free, D.pures_map]) (by simp [Out.pure, D.pure, D.pures, Cp.free, D.pures_map])
  ((try simp only [wpAft_ret, wpAft_pan, putS, updS, setS]); (repeat (rw [wpS_cons]; simp)); (try simp only [wpS_nil, thenD, blockD]))
  refine CallX.pureD globPure (o2) ?_ (by simp [D.deeps, D.deep, D.fgts, D.fgt]) (by simp [D.pures, D.pure, Cp.free, D.pures_map]) (by simp [Out.pure, D.pure, D.pures, Cp.free, D.pures_map])
  ((try simp only [wpAft_ret, wpAft_pan, putS, updS, setS]); (repeat (rw [wpS_cons]; simp)); (try simp only [wpS_nil, thenD, blockD]))
  (refine hK _ _ _ ?_; clear hK K)
  (refine wpD_seqk fun K hK => ?_; refine wpD_region tyOK ?_; ((repeat (rw [wpS_cons]; simp)); (try simp only [wpS_nil, thenD, blockD])))
  refine CallX.pure globPure (w1) ?_ (by simp [D.fgts, D.fgt]) (by simp [D.pures, D.pure, Cp.free, D.pures_map]) (by simp [Out.pure, D.pure, D.pures, Cp.free, D.pures_map])
  ((try simp only [wpAft_ret, wpAft_pan, putS, updS, setS]); (repeat (rw [wpS_cons]; simp)); (try simp only [wpS_nil, thenD, blockD]))
  (refine hK _ _ _ ?_; clear hK K)
  (refine wpD_seqk fun K hK => ?_; refine wpD_drawk tyOK (by kernel_rfl) (by kernel_rfl) fun KT hKT => ?_; ((repeat (rw [wpT_cons]; simp)); (try simp only [wpT_nil])))
  refine CallY.pure globPure (f1) ?_ (by simp [D.fgts, D.fgt]) (by simp [D.pures, D.pure, Cp.free, D.pures_map]) (by simp [Out.pure, D.pure, D.pures, Cp.free, D.pures_map])
  ((try simp only [wpAftT_ret, wpAftT_pan, putS, updS, setS]); (repeat (rw [wpT_cons]; simp)); (try simp only [wpT_nil]))
  refine CallY.pure globPure (v1) ?_ (by simp [D.fgts, D.fgt]) (by simp [D.pures, D.pure, Cp.free, D.pures_map]) (by simp [Out.pure, D.pure, D.pures, Cp.free, D.pures_map])
  ((try simp only [wpAftT_ret, wpAftT_pan, putS, updS, setS]); (repeat (rw [wpT_cons]; simp)); (try simp only [wpT_nil]))
  refine CallY.pure globPure (v1) ?_ (by simp [D.fgts, D.fgt]) (by simp [D.pures, D.pure, Cp.free, D.pures_map]) (by simp [Out.pure, D.pure, D.pures, Cp.free, D.pures_map])
  ((try simp only [wpAftT_ret, wpAftT_pan, putS, updS, setS]); (repeat (rw [wpT_cons]; simp)); (try simp only [wpT_nil]))
  refine CallY.pure globPure (v2) ?_ (by simp [D.fgts, D.fgt]) (by simp [D.pures, D.pure, Cp.free, D.pures_map]) (by simp [Out.pure, D.pure, D.pures, Cp.free, D.pures_map])
  ((try simp only [wpAftT_ret, wpAftT_pan, putS, updS, setS]); (repeat (rw [wpT_cons]; simp)); (try simp only [wpT_nil]))
  refine CallY.pureD globPure (o3) ?_ (by simp [D.deeps, D.deep, D.fgts, D.fgt]) (by simp [D.pures, D.pure, Cp.free, D.pures_map]) (by simp [Out.pure, D.pure, D.pures, Cp.free, D.pures_map])
  ((try simp only [wpAftT_ret, wpAftT_pan, putS, updS, setS]); (repeat (rw [wpT_cons]; simp)); (try simp only [wpT_nil]))
  refine CallY.pureD globPure (c1) ?_ (by simp [D.deeps, D.deep, D.fgts, D.fgt]) (by simp [D.pures, D.pure, Cp.free, D.pures_map]) (by simp [Out.pure, D.pure, D.pures, Cp.free, D.pures_map])
  ((try simp only [wpAftT_ret, wpAftT_pan, putS, updS, setS]); (repeat (rw [wpT_cons]; simp)); (try simp only [wpT_nil]))
  refine CallY.pure globPure (w2) ?_ (by simp [D.fgts, D.fgt]) (by simp [D.pures, D.pure, Cp.free, D.pures_map]) (by simp [Out.pure, D.pure, D.pures, Cp.free, D.pures_map])
  ((try simp only [wpAftT_ret, wpAftT_pan, putS, updS, setS]); (repeat (rw [wpT_cons]; simp)); (try simp only [wpT_nil]))
  (refine hKT _ _ _ _ (by kernel_rfl) ?_; clear hKT KT; (try simp only [thenD, blockD]))
  (refine hK _ _ _ ?_; clear hK K)
  (refine wpD_seqk fun K hK => ?_; refine wpD_region tyOK ?_; ((repeat (rw [wpS_cons]; simp)); (try simp only [wpS_nil, thenD, blockD])))
  refine CallX.pure globPure (w3) ?_ (by simp [D.fgts, D.fgt]) (by simp [D.pures, D.pure, Cp.free, D.pures_map]) (by simp [Out.pure, D.pure, D.pures, Cp.free, D.pures_map])
  ((try simp only [wpAft_ret, wpAft_pan, putS, updS, setS]); (repeat (rw [wpS_cons]; simp)); (try simp only [wpS_nil, thenD, blockD]))
  (refine hK _ _ _ ?_; clear hK K)
  (refine wpD_seqk fun K hK => ?_; refine wpD_drawk tyOK (by kernel_rfl) (by kernel_rfl) fun KT hKT => ?_; ((repeat (rw [wpT_cons]; simp)); (try simp only [wpT_nil])))
  refine CallY.pure globPure (e1) ?_ (by simp [D.fgts, D.fgt]) (by simp [D.pures, D.pure, Cp.free, D.pures_map]) (by simp [Out.pure, D.pure, D.pures, Cp.free, D.pures_map])
  ((try simp only [wpAftT_ret, wpAftT_pan, putS, updS, setS]); (repeat (rw [wpT_cons]; simp)); (try simp only [wpT_nil]))
  refine CallY.pure globPure (s1) ?_ (by simp [D.fgts, D.fgt]) (by simp [D.pures, D.pure, Cp.free, D.pures_map]) (by simp [Out.pure, D.pure, D.pures, Cp.free, D.pures_map])
  ((try simp only [wpAftT_ret, wpAftT_pan, putS, updS, setS]); (repeat (rw [wpT_cons]; simp)); (try simp only [wpT_nil]))
  (refine hKT _ _ _ _ (by kernel_rfl) ?_; clear hKT KT; (try simp only [thenD, blockD]))
  (refine hK _ _ _ ?_; clear hK K)
  (refine wpD_ret ?_; (try simp only [thenD, blockD]); refine EndQ.ret rfl (.inl ?_); simp [tmOf, Out.fgt, D.fgt, D.fgts])
end Go.Proofs.YtebmlojhdnldgaaGreatDoor

namespace Go.Proofs.YtebmlojhdnldgaaGreatDoor
set_option linter.unusedSimpArgs false
set_option linter.unusedVariables false
set_option maxHeartbeats 10000000
set_option maxRecDepth 20000
open Go.RowKit
attribute [local simp] wpAft_ret wpAft_pan wantD evOp opD tmOf putS updS setS hOf isFree isTok fillD TK.isAgg TK.known partD thenD blockD putAll D.ofV inB nilTest isNilS binX binD binE isCst bndD capB IntKind.min IntKind.max IntKind.signed IntKind.bits dstOf late
theorem low6_spec (t : T) : okT t → Spec Tryz.prog glob 23 [encT t] [] (fun o _ => o.fgt = .ret (.bool (t.lowB 400))) := by
  induction t using T.ind with
  | h kk m a ls ks ih =>
  intro ht
  have hkl : ks.length ≤ LMax := ht.kl
  have hll : ls.length ≤ LMax := ht.ll
  have hks := ht.ks
  have hls := ht.ls
  simp only [T.ks_mk, T.ls_mk] at hks hls
  unfold LMax at hkl hll
  obtain ⟨R, hR⟩ : ∃ R, R = T.lowB 400 (.mk kk m a ls ks) := ⟨_, rfl⟩
  rw [← hR]
  rw [T.lowB] at hR
  rw [encT_eq]
  simp only [T.k_mk, T.n_mk, T.a_mk, T.ls_mk, T.ks_mk]
  refine Spec.movd globPure (wpD_spec tyOK Tryz.func23 rfl (enters _ _ Tryz.func23 rfl (by decide)) rfl rfl ?_)
  (refine wpD_seqk fun K hK => ?_; refine wpD_region tyOK ?_; ((repeat (rw [wpS_cons]; simp)); (try simp only [wpS_nil, thenD, blockD])); refine hK _ _ _ ?_; clear hK K)
  refine wpD_seqk fun K1a hK1a => ?_
  (refine wpD_seqk fun K hK => ?_; refine wpD_region tyOK ?_; ((repeat (rw [wpS_cons]; simp)); (try simp only [wpS_nil, thenD, blockD])); refine hK _ _ _ ?_; clear hK K)
  refine wpD_block ?_
  refine wpD_loopWJ [2, 4, 6, 7, 8, 9, 10, 11, 12, 13, 14, 15, 16, 17, 18, 19, 20, 21, 22, 23, 24, 25, 26, 27, 28, 29, 30, 31, 32, 33, 34] [3] (fun n ys hl => ∃ (k : Nat), ys = [.int .i64 k] ∧ n + k = ls.length ∧ R = ((ls.drop k).all (lowL 400) && T.lowsB 400 ks) ∧ hl = [.cells 27 [.int .i64 kk, .int .i64 m, .int .i64 a, .slice (ls.map encL) .any, .slice (ks.map encT) .any]]) (ls.length) (by kernel_rfl) ?_ ?_
  · exact ⟨0, rfl, rfl, hR, rfl⟩
  · rintro n1 ys hl A1 hA1 ⟨i1, rfl, hn, hF, rfl⟩
    have hA := hA1
    simp only [putAll, List.set, List.map_cons, List.map_nil, List.cons_append, List.nil_append]
    refine wpD_seqk fun K1b hK1b => ?_
    by_cases hi1 : i1 < ls.length
    · have hi1' : (i1 : Int) < ls.length := by omega
      rw [List.drop_eq_getElem_cons hi1, List.all_cons, Bool.and_assoc] at hF
      have hxl := (hls ls[i1] (List.getElem_mem hi1)).1
      obtain ⟨x, hx⟩ : ∃ x, ls[i1] = x := ⟨_, rfl⟩
      rw [hx] at hF hxl
      unfold LMax at hxl
      unfold lowL at hF
      rw [show (fun p : LV => p.all fun p => decide (p.2 ≤ 400)) = lowL 400 from rfl] at hF
      (refine wpD_seqk fun K hK => ?_; refine wpD_region tyOK ?_; ((repeat (rw [wpS_cons]; simp [hi1, hi1'])); (try simp only [wpS_nil, thenD, blockD])); refine hK _ _ _ ?_; clear hK K)
      refine wpD_part rfl (fun _ => ?_) (fun h => by simp at h)
      refine wpD_skip (hK1b _ _ _ ?_)
      clear hK1b K1b
      refine wpD_seqk fun K1c hK1c => ?_
      refine wpD_block ?_
      (refine wpD_seqk fun K hK => ?_; refine wpD_region tyOK ?_; ((repeat (rw [wpS_cons]; simp)); (try simp only [wpS_nil, thenD, blockD])); refine hK _ _ _ ?_; clear hK K)
      refine wpD_block ?_
      refine wpD_loopWJ [2, 13, 14, 15, 16, 17, 18, 19, 20, 21, 22, 23, 24, 25, 26, 27, 28, 29, 30, 31, 32, 33, 34] [4] (fun n ys hl => ∃ (k : Nat), ys = [.int .i64 k] ∧ n + k = x.length ∧ R = (((x.drop k).all fun p => decide (p.2 ≤ 400)) && ((ls.drop (i1 + 1)).all (lowL 400) && T.lowsB 400 ks)) ∧ hl = [.cells 27 [.int .i64 kk, .int .i64 m, .int .i64 a, .slice (ls.map encL) .any, .slice (ks.map encT) .any]]) (x.length) (by kernel_rfl) ?_ ?_
      · exact ⟨0, rfl, rfl, hF, rfl⟩
      · rintro n2 ys hl A2 hA2 ⟨i2, rfl, hn2, hF2, rfl⟩
        have hA := hA2
        simp only [putAll, List.set, List.map_cons, List.map_nil, List.cons_append, List.nil_append]
        refine wpD_seqk fun K2b hK2b => ?_
        by_cases hi2 : i2 < x.length
        · have hi2' : (i2 : Int) < x.length := by omega
          rw [List.drop_eq_getElem_cons hi2, List.all_cons] at hF2
          obtain ⟨p, hp⟩ : ∃ p, x[i2] = p := ⟨_, rfl⟩
          rw [hp] at hF2
          (refine wpD_seqk fun K hK => ?_; refine wpD_region tyOK ?_; ((repeat (rw [wpS_cons]; simp [hi2, hi2', hi1, hi1', hx, encL])); (try simp only [wpS_nil, thenD, blockD])); refine hK _ _ _ ?_; clear hK K)
          refine wpD_part rfl (fun _ => ?_) (fun h => by simp at h)
          refine wpD_skip (hK2b _ _ _ ?_)
          clear hK2b K2b
          refine wpD_seqk fun K2c hK2c => ?_
          refine wpD_block ?_
          by_cases hpm : 400 < p.2
          · have hpm' : ¬ p.2 ≤ 400 := by omega
            (refine wpD_seqk fun K hK => ?_; refine wpD_region tyOK ?_; ((repeat (rw [wpS_cons]; simp [hi1, hi1', hx, encL, hi2, hi2', hp, encP, hpm])); (try simp only [wpS_nil, thenD, blockD])); refine hK _ _ _ ?_; clear hK K)
            refine wpD_part rfl (fun _ => ?_) (fun h => by simp at h)
            (refine wpD_seqk fun K hK => ?_; refine wpD_region tyOK ?_; ((repeat (rw [wpS_cons]; simp)); (try simp only [wpS_nil, thenD, blockD])); refine hK _ _ _ ?_; clear hK K)
            (refine wpD_ret ?_; (try simp only [thenD, blockD]); refine EndQ.ret rfl (.inl ?_); simp [tmOf, Out.fgt, D.fgt, D.fgts])
            rw [hF2]; simp [hpm']
          · have hpm' : p.2 ≤ 400 := by omega
            (refine wpD_seqk fun K hK => ?_; refine wpD_region tyOK ?_; ((repeat (rw [wpS_cons]; simp [hi1, hi1', hx, encL, hi2, hi2', hp, encP, hpm])); (try simp only [wpS_nil, thenD, blockD])); refine hK _ _ _ ?_; clear hK K)
            refine wpD_part rfl (fun h => by simp at h) (fun _ => ?_)
            refine wpD_skip (hK2c _ _ _ ?_)
            (try clear hK2c K2c)
            have hA := hA2
            have hw2 : IntKind.i64.wrap ((i2 : Int) + 1) = (i2 : Int) + 1 := i64w (by omega) (by omega)
            (refine wpD_region tyOK ?_; ((repeat (rw [wpS_cons]; simp [hw2])); (try simp only [wpS_nil, thenD, blockD])))
            refine hA (n2 - 1) _ _ _ (LeT.refl _) (by omega) (by kernel_rfl) ?_
            exact ⟨i2 + 1, rfl, by omega, by rw [hF2]; simp [hpm'], rfl⟩
        · have hi2' : ¬ (i2 : Int) < x.length := by omega
          (refine wpD_seqk fun K hK => ?_; refine wpD_region tyOK ?_; ((repeat (rw [wpS_cons]; simp [hi2, hi2', hi1, hi1', hx, encL])); (try simp only [wpS_nil, thenD, blockD])); refine hK _ _ _ ?_; clear hK K)
          refine wpD_part rfl (fun h => by simp at h) (fun _ => ?_)
          refine wpD_exit ?_
          (try clear hK2b K2b)
          rw [List.drop_of_length_le (by omega)] at hF2
          simp only [List.all_nil, Bool.true_and] at hF2
          refine hK1c _ _ _ ?_
          (try clear hK1c K1c)
          have hA := hA1
          have hw1 : IntKind.i64.wrap ((i1 : Int) + 1) = (i1 : Int) + 1 := i64w (by omega) (by omega)
          (refine wpD_region tyOK ?_; ((repeat (rw [wpS_cons]; simp [hw1])); (try simp only [wpS_nil, thenD, blockD])))
          refine hA (n1 - 1) _ _ _ (LeT.refl _) (by omega) (by kernel_rfl) ?_
          exact ⟨i1 + 1, rfl, by omega, hF2, rfl⟩
    · have hi1' : ¬ (i1 : Int) < ls.length := by omega
      (refine wpD_seqk fun K hK => ?_; refine wpD_region tyOK ?_; ((repeat (rw [wpS_cons]; simp [hi1, hi1'])); (try simp only [wpS_nil, thenD, blockD])); refine hK _ _ _ ?_; clear hK K)
      refine wpD_part rfl (fun h => by simp at h) (fun _ => ?_)
      refine wpD_exit ?_
      refine hK1a _ _ _ ?_
      (try clear hK1b K1b)
      rw [List.drop_of_length_le (by omega)] at hF
      simp only [List.all_nil, Bool.true_and] at hF
      refine wpD_seqk fun K3a hK3a => ?_
      (refine wpD_seqk fun K hK => ?_; refine wpD_region tyOK ?_; ((repeat (rw [wpS_cons]; simp)); (try simp only [wpS_nil, thenD, blockD])); refine hK _ _ _ ?_; clear hK K)
      refine wpD_block ?_
      refine wpD_loopWJ [2, 35, 36, 37, 38, 39, 40, 41, 42, 43, 44, 45, 46, 47, 48] [5] (fun n ys hl => ∃ (k : Nat), ys = [.int .i64 k] ∧ n + k = ks.length ∧ R = T.lowsB 400 (ks.drop k) ∧ hl = [.cells 27 [.int .i64 kk, .int .i64 m, .int .i64 a, .slice (ls.map encL) .any, .slice (ks.map encT) .any]]) (ks.length) (by kernel_rfl) ?_ ?_
      · exact ⟨0, rfl, rfl, hF, rfl⟩
      · rintro n3 ys hl A3 hA3 ⟨i3, rfl, hn3, hF3, rfl⟩
        have hA := hA3
        simp only [putAll, List.set, List.map_cons, List.map_nil, List.cons_append, List.nil_append]
        refine wpD_seqk fun K3b hK3b => ?_
        by_cases hi3 : i3 < ks.length
        · have hi3' : (i3 : Int) < ks.length := by omega
          rw [List.drop_eq_getElem_cons hi3, T.lowsB] at hF3
          have hrec := ih ks[i3] (List.getElem_mem hi3) (hks _ (List.getElem_mem hi3))
          obtain ⟨y, hy⟩ : ∃ y, ks[i3] = y := ⟨_, rfl⟩
          rw [hy] at hF3 hrec
          have hEy := encT_eq y
          rw [hEy] at hrec
          generalize y.lowB 400 = B at hF3 hrec
          (refine wpD_seqk fun K hK => ?_; refine wpD_region tyOK ?_; ((repeat (rw [wpS_cons]; simp [hi3, hi3'])); (try simp only [wpS_nil, thenD, blockD])); refine hK _ _ _ ?_; clear hK K)
          refine wpD_part rfl (fun _ => ?_) (fun h => by simp at h)
          refine wpD_skip (hK3b _ _ _ ?_)
          clear hK3b K3b
          refine wpD_seqk fun K3c hK3c => ?_
          refine wpD_block ?_
          cases B with
          | true =>
            (refine wpD_seqk fun K hK => ?_; refine wpD_region tyOK ?_; ((repeat (rw [wpS_cons]; simp [hi3, hi3', hy, hEy])); (try simp only [wpS_nil, thenD, blockD])))
            refine CallX.pure globPure (hrec) ?_ (by simp [D.fgts, D.fgt]) (by simp [D.pures, D.pure, Cp.free, D.pures_map]) (by simp [Out.pure, D.pure, D.pures, Cp.free, D.pures_map])
            ((try simp only [wpAft_ret, wpAft_pan, putS, updS, setS]); (repeat (rw [wpS_cons]; simp)); (try simp only [wpS_nil, thenD, blockD]))
            (refine hK _ _ _ ?_; clear hK K)
            refine wpD_part rfl (fun h => by simp at h) (fun _ => ?_)
            refine wpD_skip (hK3c _ _ _ ?_)
            (try clear hK3c K3c)
            have hA := hA3
            have hw3 : IntKind.i64.wrap ((i3 : Int) + 1) = (i3 : Int) + 1 := i64w (by omega) (by omega)
            (refine wpD_region tyOK ?_; ((repeat (rw [wpS_cons]; simp [hw3])); (try simp only [wpS_nil, thenD, blockD])))
            refine hA (n3 - 1) _ _ _ (LeT.refl _) (by omega) (by kernel_rfl) ?_
            exact ⟨i3 + 1, rfl, by omega, by simpa using hF3, rfl⟩
          | false =>
            (refine wpD_seqk fun K hK => ?_; refine wpD_region tyOK ?_; ((repeat (rw [wpS_cons]; simp [hi3, hi3', hy, hEy])); (try simp only [wpS_nil, thenD, blockD])))
            refine CallX.pure globPure (hrec) ?_ (by simp [D.fgts, D.fgt]) (by simp [D.pures, D.pure, Cp.free, D.pures_map]) (by simp [Out.pure, D.pure, D.pures, Cp.free, D.pures_map])
            ((try simp only [wpAft_ret, wpAft_pan, putS, updS, setS]); (repeat (rw [wpS_cons]; simp)); (try simp only [wpS_nil, thenD, blockD]))
            (refine hK _ _ _ ?_; clear hK K)
            refine wpD_part rfl (fun _ => ?_) (fun h => by simp at h)
            (refine wpD_seqk fun K hK => ?_; refine wpD_region tyOK ?_; ((repeat (rw [wpS_cons]; simp)); (try simp only [wpS_nil, thenD, blockD])); refine hK _ _ _ ?_; clear hK K)
            (refine wpD_ret ?_; (try simp only [thenD, blockD]); refine EndQ.ret rfl (.inl ?_); simp [tmOf, Out.fgt, D.fgt, D.fgts])
            simpa using hF3
        · have hi3' : ¬ (i3 : Int) < ks.length := by omega
          (refine wpD_seqk fun K hK => ?_; refine wpD_region tyOK ?_; ((repeat (rw [wpS_cons]; simp [hi3, hi3'])); (try simp only [wpS_nil, thenD, blockD])); refine hK _ _ _ ?_; clear hK K)
          refine wpD_part rfl (fun h => by simp at h) (fun _ => ?_)
          refine wpD_exit ?_
          refine hK3a _ _ _ ?_
          (try clear hK3b K3b)
          rw [List.drop_of_length_le (by omega), T.lowsB] at hF3
          subst hF3
          (refine wpD_seqk fun K hK => ?_; refine wpD_region tyOK ?_; ((repeat (rw [wpS_cons]; simp)); (try simp only [wpS_nil, thenD, blockD])); refine hK _ _ _ ?_; clear hK K)
          (refine wpD_ret ?_; (try simp only [thenD, blockD]); refine EndQ.ret rfl (.inl ?_); simp [tmOf, Out.fgt, D.fgt, D.fgts])
/-- how many levels the first constants have -/
def lvC (l : List C) (k : Nat) : List Int := (l.take k).map C.lv
theorem lvC_succ {l : List C} {k : Nat} (h : k < l.length) : lvC l (k + 1) = lvC l k ++ [l[k].lv] := by unfold lvC; rw [List.take_succ_eq_append_getElem h, List.map_append]; rfl
theorem lvC_end (l : List C) : lvC l l.length = l.map C.lv := by unfold lvC; rw [List.take_length]
theorem lvC_len {l : List C} {k : Nat} (h : k ≤ l.length) : (lvC l k).length = k := by unfold lvC; rw [List.length_map, List.length_take]; omega
theorem ints_ren (σ : Nat → Nat) (l : List Int) : D.rens σ (l.map (D.int .i64)) = l.map (D.int .i64) := D.rens_pure σ _ (by rw [D.pures_map]; simp [D.pure])
theorem consts_spec (l : List C) (hl : l.length ≤ LMax) : Spec Tryz.prog glob 21 [Cs l] [] (fun o _ => o.fgt = .ret (Ints (l.map C.lv))) := by
  have hE : ∀ c, encC c = .agg [.int .i64 c.lv, .int .i64 c.ty.k, .int .i64 c.ty.n, .int .i64 c.ty.a, .slice (c.ty.ls.map encL) .any, .slice (c.ty.ks.map encT) .any, .bool c.has, .int .i64 c.bo.k, .int .i64 c.bo.n, .int .i64 c.bo.a, .slice (c.bo.ls.map encL) .any, .slice (c.bo.ks.map encT) .any] := fun c => encC_eq c
  rw [← lvC_end]
  unfold Cs Ints
  refine Spec.movd globPure (wpD_spec tyOK Tryz.func21 rfl (enters _ _ Tryz.func21 rfl (by decide)) rfl rfl ?_)
  (refine wpD_seqk fun K hK => ?_; refine wpD_region tyOK ?_; ((repeat (rw [wpS_cons]; simp)); (try simp only [wpS_nil, thenD, blockD])); refine hK _ _ _ ?_; clear hK K)
  (refine wpD_seqk fun K hK => ?_; refine wpD_region tyOK ?_; ((repeat (rw [wpS_cons]; simp)); (try simp only [wpS_nil, thenD, blockD])); refine hK _ _ _ ?_; clear hK K)
  refine wpD_tokT 3 ?_
  simp [D.tokd]
  refine wpD_seqk fun K1 hK1 => ?_
  (refine wpD_seqk fun K hK => ?_; refine wpD_region tyOK ?_; ((repeat (rw [wpS_cons]; simp)); (try simp only [wpS_nil, thenD, blockD])); refine hK _ _ _ ?_; clear hK K)
  refine wpD_rangeJ tyOK globPure (ti := 3) (tk := 8) (tn := 7) (td := 9) (ts := 17) [5, 8, 9, 10, 11, 12, 13, 14, 15, 16, 17] [3] (l.length) (fun k ys hl => ys = [.slice ((lvC l k).map (D.int .i64)) (.tok 0)] ∧ hl = [.tok]) rfl rfl rfl rfl rfl rfl rfl rfl rfl rfl rfl rfl (by simp) (by decide) rfl (by first | assumption | omega | (unfold LMax; omega)) rfl (by kernel_rfl) (by decide) ?_ ?_ ?_
  · exact ⟨rfl, rfl⟩
  · rintro i ys hl A hi ⟨rfl, rfl⟩ hA hA2
    simp only [putAll, List.set, List.map_cons, List.map_nil, List.cons_append, List.nil_append]
    have hi' : (i : Int) < l.length := by omega
    have hsn := lvC_succ hi
    have hln := lvC_len (Nat.le_of_lt hi)
    obtain ⟨c, hc⟩ : ∃ c, l[i] = c := ⟨_, rfl⟩
    rw [hc] at hsn
    have hel : (lvC l i).length + 1 ≤ LMax := by omega
    have hEc := hE c
    generalize lvC l i = es at hsn hln hel ⊢
    (refine wpD_seqk fun K hK => ?_; refine wpD_region tyOK ?_; ((repeat (rw [wpS_cons]; simp [hi, hi', hc, hEc])); (try simp only [wpS_nil, thenD, blockD])); refine hK _ _ _ ?_; clear hK K)
    (refine wpD_region tyOK ?_; ((repeat (rw [wpS_cons]; simp [hel])); (try simp only [wpS_nil, thenD, blockD])))
    (refine hA2 ([2]) _ _ _ (LeT.refl _) (by decide) (by simp) (by simp [movT, movH, movD, D.mov, HO.mov, okM, renM, getW, D.ren, D.rens, D.okN, D.okNs, Cp.ren, Cp.okN, HO.ren, HO.okN, okA, renA, renO, hOf, handed, D.fgt, D.fgts, List.range_succ, List.idxOf_cons, putAll]) ?_ rfl; simp [movT, movH, movD, D.mov, HO.mov, okM, renM, getW, D.ren, D.rens, D.okN, D.okNs, Cp.ren, Cp.okN, HO.ren, HO.okN, okA, renA, renO, hOf, handed, D.fgt, D.fgts, List.range_succ, List.idxOf_cons])
    rw [hsn, show es.map (D.int .i64) ++ [D.int .i64 c.lv] = (es ++ [c.lv]).map (D.int .i64) by simp, ints_ren]
  · rintro ys hl tl' ⟨rfl, rfl⟩ htl
    refine hK1 _ _ _ (wpD_weakL htl ?_)
    simp only [putAll, List.set, List.map_cons, List.map_nil, List.cons_append, List.nil_append]
    (refine wpD_seqk fun K hK => ?_; refine wpD_region tyOK ?_; ((repeat (rw [wpS_cons]; simp)); (try simp only [wpS_nil, thenD, blockD])); refine hK _ _ _ ?_; clear hK K)
    (refine wpD_ret ?_; (try simp only [thenD, blockD]); refine EndQ.ret rfl (.inl ?_); simp [tmOf, Out.fgt, D.fgt, D.fgts])
/-- the constants so far are right -/
def okTo (l : List C) (cs : List Int) (k : Nat) : Prop := ∀ c, c ∈ l.take k → 0 ≤ c.lv ∧ c.lv ≤ 8 ∧ (c.has = true → rightB c.lv 0 cs c.bo = true) ∧ c.bo.lowB 400 = true
theorem okTo_zero (l : List C) (cs : List Int) : okTo l cs 0 := fun c hc => by simp at hc
theorem okTo_succ {l : List C} {cs : List Int} {k : Nat} {c : C} (hk : k < l.length) (h : okTo l cs k) (hc : l[k] = c) (h1 : 0 ≤ c.lv ∧ c.lv ≤ 8 ∧ (c.has = true → rightB c.lv 0 cs c.bo = true) ∧ c.bo.lowB 400 = true) : okTo l cs (k + 1) := fun x hx => by
  rw [List.take_succ_eq_append_getElem hk, hc] at hx
  rcases List.mem_append.1 hx with hx | hx
  · exact h x hx
  · rw [List.mem_singleton.1 hx]; exact h1
theorem okTo_body {l : List C} {cs : List Int} (h : okTo l cs l.length) (hcs : cs = l.map C.lv) (hd : ∀ c, c ∈ l → c.bo.nsz ≤ 600) : BodyOk cs l := by
  unfold okTo at h
  rw [List.take_length] at h
  exact ⟨hcs, fun c hc => ⟨(h c hc).1, (h c hc).2.1⟩, fun c hc hh => (rightB_iff.1 ((h c hc).2.2.1 hh)).2.2, fun c hc => (h c hc).2.2.2, fun c hc => by have := hd c hc; have := T.deep_nsz c.bo; omega⟩
theorem hright_spec {l : List C} {n sc : Int} {t : T} (hcs : okCs l) (hq : (cosz l : Int) ≤ QB) (ht : okT t) (htq : (t.tsz : Int) < QB) : Spec Tryz.prog glob 5 [Cs l, .int .i64 n, .int .i64 sc, encT t] [] (fun o _ => o.fgt = .ret (.bool true)) := by
  obtain ⟨b, gr, hb⟩ := great6_spec l t hcs.len hcs.ok ht
  have aw := awake6_spec
  have co := consts_spec l hcs.len
  have hll := hcs.len
  unfold LMax at hll
  have hclen : (l.map C.lv).length ≤ LMax := by rw [List.length_map]; exact hcs.len
  have hE : ∀ c, encC c = .agg [.int .i64 c.lv, .int .i64 c.ty.k, .int .i64 c.ty.n, .int .i64 c.ty.a, .slice (c.ty.ls.map encL) .any, .slice (c.ty.ks.map encT) .any, .bool c.has, .int .i64 c.bo.k, .int .i64 c.bo.n, .int .i64 c.bo.a, .slice (c.bo.ls.map encL) .any, .slice (c.bo.ks.map encT) .any] := fun c => encC_eq c
  have hbo : ∀ c, c ∈ l → okT c.bo := fun c hc => (hcs.ok c hc).2.2
  have hrb : ∀ c, c ∈ l → Spec Tryz.prog glob 22 [.int .i64 c.lv, .int .i64 0, Ints (l.map C.lv), encT c.bo] [] (fun o _ => o.fgt = .ret (.bool (rightB c.lv 0 (l.map C.lv) c.bo))) := fun c hc => coreRight_spec c.lv 0 _ c.bo hclen (hbo c hc)
  have hlb : ∀ c, c ∈ l → Spec Tryz.prog glob 23 [encT c.bo] [] (fun o _ => o.fgt = .ret (.bool (c.bo.lowB 400))) := fun c hc => low6_spec c.bo (hbo c hc)
  have hlt := low6_spec t ht
  have hrt := coreRight_spec n sc _ t hclen ht
  have hsm := eqT_spec t t ht ht
  rw [(T.eqB_iff t t).2 rfl] at hsm
  -- behind the tests: the step, and what is right then
  have hend : b = false → ¬ 1000 < sc → okTo l (l.map C.lv) l.length → 0 ≤ n ∧ n ≤ 8 → t.lowB 400 = true → rightB n sc (l.map C.lv) t = true →
      (hstep l t = none ∧ Spec Tryz.prog glob 15 [Cs l, encT t] [] (fun o _ => o.fgt = .ret (.tuple [encT t, .int .i64 0, .bool false]))) ∨
      ∃ u c, Spec Tryz.prog glob 15 [Cs l, encT t] [] (fun o _ => o.fgt = .ret (.tuple [encT u, .int .i64 c, .bool true])) ∧ Spec Tryz.prog glob 22 [.int .i64 n, .int .i64 sc, Ints (l.map C.lv), encT u] [] (fun o _ => o.fgt = .ret (.bool true)) := by
    intro hb1 hsc hto hn hlow hr
    obtain ⟨hn600, hbs⟩ := small_of hq htq (hb hb1)
    have hp : t.pot ≤ 4200 := by have := pot_le t; omega
    have hS : okS t := ⟨ht, by unfold PM; omega⟩
    cases hst : hstep l t with
    | none => exact .inl ⟨rfl, hstep_fin hcs hS hst⟩
    | some v =>
      obtain ⟨u, c⟩ := v
      refine .inr ⟨u, c, hstep_more hcs hS hst ?_, ?_⟩
      · have := hstep_bound (B := 1048576) hcs.bo t hp hst
        unfold DM
        omega
      · have h1 := coreRight_spec n sc _ u hclen (hstep_ok hcs.ok t ht hst)
        have h2 := rightB_iff.1 hr
        have h3 := hstep_right (okTo_body hto rfl (fun c hc => (hbs c hc).2)) hn ⟨h2.2.1, by omega⟩ t (by have := T.deep_nsz t; omega) hlow h2.2.2 hst
        rw [rightB_iff.2 ⟨hn.1, h2.2.1, h3⟩] at h1
        exact h1
  generalize l.map C.lv = cs at co hclen hrb hrt hend
  have hEt := encT_eq t
  rw [hEt] at gr hlt hrt hsm hend
  generalize hlow : t.lowB 400 = low at hlt hend
  generalize hrr : rightB n sc cs t = rr at hrt hend
  unfold Ints at co hrb hrt hend
  unfold Cs at gr co hend
  unfold Cs
  rw [hEt]
  refine Spec.movd globPure (wpD_spec tyOK Tryz.func5 rfl (enters _ _ Tryz.func5 rfl (by decide)) rfl rfl ?_)
  (refine wpD_seqk fun K hK => ?_; refine wpD_region tyOK ?_; ((repeat (rw [wpS_cons]; simp)); (try simp only [wpS_nil, thenD, blockD])); refine hK _ _ _ ?_; clear hK K)
  refine wpD_seqk fun K1 hK1 => ?_
  (refine wpD_seqk fun K hK => ?_; refine wpD_region tyOK ?_; ((repeat (rw [wpS_cons]; simp)); (try simp only [wpS_nil, thenD, blockD])))
  refine CallX.pure globPure (aw) ?_ (by simp [D.fgts, D.fgt]) (by simp [D.pures, D.pure, Cp.free, D.pures_map]) (by simp [Out.pure, D.pure, D.pures, Cp.free, D.pures_map])
  ((try simp only [wpAft_ret, wpAft_pan, putS, updS, setS]); (repeat (rw [wpS_cons]; simp)); (try simp only [wpS_nil, thenD, blockD]))
  (refine hK _ _ _ ?_; clear hK K)
  refine wpD_part rfl (fun h => by simp at h) (fun _ => ?_)
  refine wpD_skip (hK1 _ _ _ ?_)
  clear hK1 K1 aw
  refine wpD_seqk fun K1 hK1 => ?_
  cases b with
  | true =>
    (refine wpD_seqk fun K hK => ?_; refine wpD_region tyOK ?_; ((repeat (rw [wpS_cons]; simp)); (try simp only [wpS_nil, thenD, blockD])))
    refine CallX.pure globPure (gr) ?_ (by simp [D.fgts, D.fgt]) (by simp [D.pures, D.pure, Cp.free, D.pures_map]) (by simp [Out.pure, D.pure, D.pures, Cp.free, D.pures_map])
    ((try simp only [wpAft_ret, wpAft_pan, putS, updS, setS]); (repeat (rw [wpS_cons]; simp)); (try simp only [wpS_nil, thenD, blockD]))
    (refine hK _ _ _ ?_; clear hK K)
    refine wpD_part rfl (fun _ => ?_) (fun h => by simp at h)
    (refine wpD_seqk fun K hK => ?_; refine wpD_region tyOK ?_; ((repeat (rw [wpS_cons]; simp)); (try simp only [wpS_nil, thenD, blockD])); refine hK _ _ _ ?_; clear hK K)
    (refine wpD_ret ?_; (try simp only [thenD, blockD]); refine EndQ.ret rfl (.inl ?_); simp [tmOf, Out.fgt, D.fgt, D.fgts])
  | false =>
  by_cases h10 : 1000 < sc
  · (refine wpD_seqk fun K hK => ?_; refine wpD_region tyOK ?_; ((repeat (rw [wpS_cons]; simp [h10])); (try simp only [wpS_nil, thenD, blockD])))
    refine CallX.pure globPure (gr) ?_ (by simp [D.fgts, D.fgt]) (by simp [D.pures, D.pure, Cp.free, D.pures_map]) (by simp [Out.pure, D.pure, D.pures, Cp.free, D.pures_map])
    ((try simp only [wpAft_ret, wpAft_pan, putS, updS, setS]); (repeat (rw [wpS_cons]; simp [h10])); (try simp only [wpS_nil, thenD, blockD]))
    (refine hK _ _ _ ?_; clear hK K)
    refine wpD_part rfl (fun _ => ?_) (fun h => by simp at h)
    (refine wpD_seqk fun K hK => ?_; refine wpD_region tyOK ?_; ((repeat (rw [wpS_cons]; simp)); (try simp only [wpS_nil, thenD, blockD])); refine hK _ _ _ ?_; clear hK K)
    (refine wpD_ret ?_; (try simp only [thenD, blockD]); refine EndQ.ret rfl (.inl ?_); simp [tmOf, Out.fgt, D.fgt, D.fgts])
  have hend := hend rfl h10
  (refine wpD_seqk fun K hK => ?_; refine wpD_region tyOK ?_; ((repeat (rw [wpS_cons]; simp [h10])); (try simp only [wpS_nil, thenD, blockD])))
  refine CallX.pure globPure (gr) ?_ (by simp [D.fgts, D.fgt]) (by simp [D.pures, D.pure, Cp.free, D.pures_map]) (by simp [Out.pure, D.pure, D.pures, Cp.free, D.pures_map])
  ((try simp only [wpAft_ret, wpAft_pan, putS, updS, setS]); (repeat (rw [wpS_cons]; simp [h10])); (try simp only [wpS_nil, thenD, blockD]))
  (refine hK _ _ _ ?_; clear hK K)
  refine wpD_part rfl (fun h => by simp at h) (fun _ => ?_)
  refine wpD_skip (hK1 _ _ _ ?_)
  clear hK1 K1 gr
  (refine wpD_seqk fun K hK => ?_; refine wpD_region tyOK ?_; ((repeat (rw [wpS_cons]; simp)); (try simp only [wpS_nil, thenD, blockD])))
  refine CallX.pure globPure (co) ?_ (by simp [D.fgts, D.fgt]) (by simp [D.pures, D.pure, Cp.free, D.pures_map]) (by simp [Out.pure, D.pure, D.pures, Cp.free, D.pures_map])
  ((try simp only [wpAft_ret, wpAft_pan, putS, updS, setS]); (repeat (rw [wpS_cons]; simp)); (try simp only [wpS_nil, thenD, blockD]))
  (refine hK _ _ _ ?_; clear hK K)
  clear co
  refine wpD_seqk fun K1 hK1 => ?_
  (refine wpD_seqk fun K hK => ?_; refine wpD_region tyOK ?_; ((repeat (rw [wpS_cons]; simp)); (try simp only [wpS_nil, thenD, blockD])); refine hK _ _ _ ?_; clear hK K)
  refine wpD_block ?_
  refine wpD_loopWJ [8, 25, 26, 27, 28, 29, 30, 31, 32, 33, 34, 35, 36, 37, 38, 39, 40, 41, 42, 43, 44, 45, 46, 47, 48, 49, 50, 51, 52, 53, 54, 55, 56, 57, 58, 59, 60, 61, 62, 63, 64, 65, 66, 67, 68, 69, 70, 71, 72, 73, 74, 75] [10] (fun n ys hl => ∃ (k : Nat), ys = [.int .i64 k] ∧ n + k = l.length ∧ okTo l cs k ∧ hl = [.cells 27 [.int .i64 t.k, .int .i64 t.n, .int .i64 t.a, .slice (t.ls.map encL) .any, .slice (t.ks.map encT) .any]]) (l.length) (by kernel_rfl) ?_ ?_
  · exact ⟨0, rfl, rfl, okTo_zero _ _, rfl⟩
  · rintro n1 ys hl A1 hA1 ⟨i, rfl, hn1, hF, rfl⟩
    have hA := hA1
    simp only [putAll, List.set, List.map_cons, List.map_nil, List.cons_append, List.nil_append]
    refine wpD_seqk fun K2 hK2 => ?_
    by_cases hi : i < l.length
    · have hi' : (i : Int) < l.length := by omega
      have hrx := hrb l[i] (List.getElem_mem hi)
      have hlx := hlb l[i] (List.getElem_mem hi)
      obtain ⟨x, hx⟩ : ∃ x, l[i] = x := ⟨_, rfl⟩
      have hsx := @okTo_succ l cs i x hi hF hx
      rw [hx] at hrx hlx
      have hEx := hE x
      have hEb := encT_eq x.bo
      rw [hEb] at hrx hlx
      generalize rightB x.lv 0 cs x.bo = rx at hrx hsx
      generalize x.bo.lowB 400 = lx at hlx hsx
      (refine wpD_seqk fun K hK => ?_; refine wpD_region tyOK ?_; ((repeat (rw [wpS_cons]; simp [hi, hi'])); (try simp only [wpS_nil, thenD, blockD])); refine hK _ _ _ ?_; clear hK K)
      refine wpD_part rfl (fun _ => ?_) (fun h => by simp at h)
      refine wpD_skip (hK2 _ _ _ ?_)
      clear hK2 K2
      refine wpD_seqk fun K3 hK3 => ?_
      refine wpD_block ?_
      have hw1 : IntKind.i64.wrap ((i : Int) + 1) = (i : Int) + 1 := i64w (by omega) (by omega)
      by_cases g1 : x.lv < 0
      · (refine wpD_seqk fun K hK => ?_; refine wpD_drawk tyOK (by kernel_rfl) (by kernel_rfl) fun KT hKT => ?_; ((repeat (rw [wpT_cons]; simp [hi, hi', hx, hEx, g1])); (try simp only [wpT_nil])))
        (refine hKT _ _ _ _ (by kernel_rfl) ?_; clear hKT KT; (try simp only [thenD, blockD]))
        (refine hK _ _ _ ?_; clear hK K)
        refine wpD_part rfl (fun _ => ?_) (fun h => by simp at h)
        (refine wpD_seqk fun K hK => ?_; refine wpD_region tyOK ?_; ((repeat (rw [wpS_cons]; simp)); (try simp only [wpS_nil, thenD, blockD])); refine hK _ _ _ ?_; clear hK K)
        (refine wpD_ret ?_; (try simp only [thenD, blockD]); refine EndQ.ret rfl (.inl ?_); simp [tmOf, Out.fgt, D.fgt, D.fgts])
      by_cases g2 : 8 < x.lv
      · (refine wpD_seqk fun K hK => ?_; refine wpD_drawk tyOK (by kernel_rfl) (by kernel_rfl) fun KT hKT => ?_; ((repeat (rw [wpT_cons]; simp [hi, hi', hx, hEx, g1, g2])); (try simp only [wpT_nil])))
        (refine hKT _ _ _ _ (by kernel_rfl) ?_; clear hKT KT; (try simp only [thenD, blockD]))
        (refine hK _ _ _ ?_; clear hK K)
        refine wpD_part rfl (fun _ => ?_) (fun h => by simp at h)
        (refine wpD_seqk fun K hK => ?_; refine wpD_region tyOK ?_; ((repeat (rw [wpS_cons]; simp)); (try simp only [wpS_nil, thenD, blockD])); refine hK _ _ _ ?_; clear hK K)
        (refine wpD_ret ?_; (try simp only [thenD, blockD]); refine EndQ.ret rfl (.inl ?_); simp [tmOf, Out.fgt, D.fgt, D.fgts])
      cases hh : x.has with
      | true =>
        rw [hh] at hEx
        cases rx with
        | false =>
          (refine wpD_seqk fun K hK => ?_; refine wpD_drawk tyOK (by kernel_rfl) (by kernel_rfl) fun KT hKT => ?_; ((repeat (rw [wpT_cons]; simp [hi, hi', hx, hEx, g1, g2])); (try simp only [wpT_nil])))
          refine CallY.pure globPure (hrx) ?_ (by simp [D.fgts, D.fgt]) (by simp [D.pures, D.pure, Cp.free, D.pures_map]) (by simp [Out.pure, D.pure, D.pures, Cp.free, D.pures_map])
          ((try simp only [wpAftT_ret, wpAftT_pan, putS, updS, setS]); (repeat (rw [wpT_cons]; simp [hi, hi', hx, hEx, g1, g2])); (try simp only [wpT_nil]))
          (refine hKT _ _ _ _ (by kernel_rfl) ?_; clear hKT KT; (try simp only [thenD, blockD]))
          (refine hK _ _ _ ?_; clear hK K)
          refine wpD_part rfl (fun _ => ?_) (fun h => by simp at h)
          (refine wpD_seqk fun K hK => ?_; refine wpD_region tyOK ?_; ((repeat (rw [wpS_cons]; simp)); (try simp only [wpS_nil, thenD, blockD])); refine hK _ _ _ ?_; clear hK K)
          (refine wpD_ret ?_; (try simp only [thenD, blockD]); refine EndQ.ret rfl (.inl ?_); simp [tmOf, Out.fgt, D.fgt, D.fgts])
        | true =>
          cases lx with
          | false =>
            (refine wpD_seqk fun K hK => ?_; refine wpD_drawk tyOK (by kernel_rfl) (by kernel_rfl) fun KT hKT => ?_; ((repeat (rw [wpT_cons]; simp [hi, hi', hx, hEx, g1, g2])); (try simp only [wpT_nil])))
            refine CallY.pure globPure (hrx) ?_ (by simp [D.fgts, D.fgt]) (by simp [D.pures, D.pure, Cp.free, D.pures_map]) (by simp [Out.pure, D.pure, D.pures, Cp.free, D.pures_map])
            ((try simp only [wpAftT_ret, wpAftT_pan, putS, updS, setS]); (repeat (rw [wpT_cons]; simp [hi, hi', hx, hEx, g1, g2])); (try simp only [wpT_nil]))
            refine CallY.pure globPure (hlx) ?_ (by simp [D.fgts, D.fgt]) (by simp [D.pures, D.pure, Cp.free, D.pures_map]) (by simp [Out.pure, D.pure, D.pures, Cp.free, D.pures_map])
            ((try simp only [wpAftT_ret, wpAftT_pan, putS, updS, setS]); (repeat (rw [wpT_cons]; simp [hi, hi', hx, hEx, g1, g2])); (try simp only [wpT_nil]))
            (refine hKT _ _ _ _ (by kernel_rfl) ?_; clear hKT KT; (try simp only [thenD, blockD]))
            (refine hK _ _ _ ?_; clear hK K)
            refine wpD_part rfl (fun _ => ?_) (fun h => by simp at h)
            (refine wpD_seqk fun K hK => ?_; refine wpD_region tyOK ?_; ((repeat (rw [wpS_cons]; simp)); (try simp only [wpS_nil, thenD, blockD])); refine hK _ _ _ ?_; clear hK K)
            (refine wpD_ret ?_; (try simp only [thenD, blockD]); refine EndQ.ret rfl (.inl ?_); simp [tmOf, Out.fgt, D.fgt, D.fgts])
          | true =>
            (refine wpD_seqk fun K hK => ?_; refine wpD_drawk tyOK (by kernel_rfl) (by kernel_rfl) fun KT hKT => ?_; ((repeat (rw [wpT_cons]; simp [hi, hi', hx, hEx, g1, g2])); (try simp only [wpT_nil])))
            refine CallY.pure globPure (hrx) ?_ (by simp [D.fgts, D.fgt]) (by simp [D.pures, D.pure, Cp.free, D.pures_map]) (by simp [Out.pure, D.pure, D.pures, Cp.free, D.pures_map])
            ((try simp only [wpAftT_ret, wpAftT_pan, putS, updS, setS]); (repeat (rw [wpT_cons]; simp [hi, hi', hx, hEx, g1, g2])); (try simp only [wpT_nil]))
            refine CallY.pure globPure (hlx) ?_ (by simp [D.fgts, D.fgt]) (by simp [D.pures, D.pure, Cp.free, D.pures_map]) (by simp [Out.pure, D.pure, D.pures, Cp.free, D.pures_map])
            ((try simp only [wpAftT_ret, wpAftT_pan, putS, updS, setS]); (repeat (rw [wpT_cons]; simp [hi, hi', hx, hEx, g1, g2])); (try simp only [wpT_nil]))
            (refine hKT _ _ _ _ (by kernel_rfl) ?_; clear hKT KT; (try simp only [thenD, blockD]))
            (refine hK _ _ _ ?_; clear hK K)
            refine wpD_part rfl (fun h => by simp at h) (fun _ => ?_)
            refine wpD_skip (hK3 _ _ _ ?_)
            clear hK3 K3
            (refine wpD_region tyOK ?_; ((repeat (rw [wpS_cons]; simp [hw1])); (try simp only [wpS_nil, thenD, blockD])))
            refine hA (n1 - 1) _ _ _ (LeT.refl _) (by omega) (by kernel_rfl) ?_
            exact ⟨i + 1, rfl, by omega, hsx ⟨by omega, by omega, fun _ => rfl, rfl⟩, rfl⟩
      | false =>
        rw [hh] at hEx
        cases lx with
        | false =>
          (refine wpD_seqk fun K hK => ?_; refine wpD_drawk tyOK (by kernel_rfl) (by kernel_rfl) fun KT hKT => ?_; ((repeat (rw [wpT_cons]; simp [hi, hi', hx, hEx, g1, g2])); (try simp only [wpT_nil])))
          refine CallY.pure globPure (hlx) ?_ (by simp [D.fgts, D.fgt]) (by simp [D.pures, D.pure, Cp.free, D.pures_map]) (by simp [Out.pure, D.pure, D.pures, Cp.free, D.pures_map])
          ((try simp only [wpAftT_ret, wpAftT_pan, putS, updS, setS]); (repeat (rw [wpT_cons]; simp [hi, hi', hx, hEx, g1, g2])); (try simp only [wpT_nil]))
          (refine hKT _ _ _ _ (by kernel_rfl) ?_; clear hKT KT; (try simp only [thenD, blockD]))
          (refine hK _ _ _ ?_; clear hK K)
          refine wpD_part rfl (fun _ => ?_) (fun h => by simp at h)
          (refine wpD_seqk fun K hK => ?_; refine wpD_region tyOK ?_; ((repeat (rw [wpS_cons]; simp)); (try simp only [wpS_nil, thenD, blockD])); refine hK _ _ _ ?_; clear hK K)
          (refine wpD_ret ?_; (try simp only [thenD, blockD]); refine EndQ.ret rfl (.inl ?_); simp [tmOf, Out.fgt, D.fgt, D.fgts])
        | true =>
          (refine wpD_seqk fun K hK => ?_; refine wpD_drawk tyOK (by kernel_rfl) (by kernel_rfl) fun KT hKT => ?_; ((repeat (rw [wpT_cons]; simp [hi, hi', hx, hEx, g1, g2])); (try simp only [wpT_nil])))
          refine CallY.pure globPure (hlx) ?_ (by simp [D.fgts, D.fgt]) (by simp [D.pures, D.pure, Cp.free, D.pures_map]) (by simp [Out.pure, D.pure, D.pures, Cp.free, D.pures_map])
          ((try simp only [wpAftT_ret, wpAftT_pan, putS, updS, setS]); (repeat (rw [wpT_cons]; simp [hi, hi', hx, hEx, g1, g2])); (try simp only [wpT_nil]))
          (refine hKT _ _ _ _ (by kernel_rfl) ?_; clear hKT KT; (try simp only [thenD, blockD]))
          (refine hK _ _ _ ?_; clear hK K)
          refine wpD_part rfl (fun h => by simp at h) (fun _ => ?_)
          refine wpD_skip (hK3 _ _ _ ?_)
          clear hK3 K3
          (refine wpD_region tyOK ?_; ((repeat (rw [wpS_cons]; simp [hw1])); (try simp only [wpS_nil, thenD, blockD])))
          refine hA (n1 - 1) _ _ _ (LeT.refl _) (by omega) (by kernel_rfl) ?_
          exact ⟨i + 1, rfl, by omega, hsx ⟨by omega, by omega, fun e => absurd (hh.symm.trans e) (by decide), rfl⟩, rfl⟩
    · have hi' : ¬ (i : Int) < l.length := by omega
      (refine wpD_seqk fun K hK => ?_; refine wpD_region tyOK ?_; ((repeat (rw [wpS_cons]; simp [hi, hi'])); (try simp only [wpS_nil, thenD, blockD])); refine hK _ _ _ ?_; clear hK K)
      refine wpD_part rfl (fun h => by simp at h) (fun _ => ?_)
      refine wpD_exit ?_
      refine hK1 _ _ _ ?_
      clear hrb hlb
      have hend := hend (by rw [show l.length = i by omega]; exact hF)
      refine wpD_seqk fun K4 hK4 => ?_
      by_cases g1 : n < 0
      · (refine wpD_seqk fun K hK => ?_; refine wpD_region tyOK ?_; ((repeat (rw [wpS_cons]; simp [g1])); (try simp only [wpS_nil, thenD, blockD])); refine hK _ _ _ ?_; clear hK K)
        refine wpD_part rfl (fun _ => ?_) (fun h => by simp at h)
        (refine wpD_seqk fun K hK => ?_; refine wpD_region tyOK ?_; ((repeat (rw [wpS_cons]; simp)); (try simp only [wpS_nil, thenD, blockD])); refine hK _ _ _ ?_; clear hK K)
        (refine wpD_ret ?_; (try simp only [thenD, blockD]); refine EndQ.ret rfl (.inl ?_); simp [tmOf, Out.fgt, D.fgt, D.fgts])
      by_cases g2 : 8 < n
      · (refine wpD_seqk fun K hK => ?_; refine wpD_region tyOK ?_; ((repeat (rw [wpS_cons]; simp [g1, g2])); (try simp only [wpS_nil, thenD, blockD])); refine hK _ _ _ ?_; clear hK K)
        refine wpD_part rfl (fun _ => ?_) (fun h => by simp at h)
        (refine wpD_seqk fun K hK => ?_; refine wpD_region tyOK ?_; ((repeat (rw [wpS_cons]; simp)); (try simp only [wpS_nil, thenD, blockD])); refine hK _ _ _ ?_; clear hK K)
        (refine wpD_ret ?_; (try simp only [thenD, blockD]); refine EndQ.ret rfl (.inl ?_); simp [tmOf, Out.fgt, D.fgt, D.fgts])
      cases low with
      | false =>
        (refine wpD_seqk fun K hK => ?_; refine wpD_region tyOK ?_; ((repeat (rw [wpS_cons]; simp [g1, g2])); (try simp only [wpS_nil, thenD, blockD])))
        refine CallX.pure globPure (hlt) ?_ (by simp [D.fgts, D.fgt]) (by simp [D.pures, D.pure, Cp.free, D.pures_map]) (by simp [Out.pure, D.pure, D.pures, Cp.free, D.pures_map])
        ((try simp only [wpAft_ret, wpAft_pan, putS, updS, setS]); (repeat (rw [wpS_cons]; simp [g1, g2])); (try simp only [wpS_nil, thenD, blockD]))
        (refine hK _ _ _ ?_; clear hK K)
        refine wpD_part rfl (fun _ => ?_) (fun h => by simp at h)
        (refine wpD_seqk fun K hK => ?_; refine wpD_region tyOK ?_; ((repeat (rw [wpS_cons]; simp)); (try simp only [wpS_nil, thenD, blockD])); refine hK _ _ _ ?_; clear hK K)
        (refine wpD_ret ?_; (try simp only [thenD, blockD]); refine EndQ.ret rfl (.inl ?_); simp [tmOf, Out.fgt, D.fgt, D.fgts])
      | true =>
      cases rr with
      | false =>
        (refine wpD_seqk fun K hK => ?_; refine wpD_region tyOK ?_; ((repeat (rw [wpS_cons]; simp [g1, g2])); (try simp only [wpS_nil, thenD, blockD])))
        refine CallX.pure globPure (hlt) ?_ (by simp [D.fgts, D.fgt]) (by simp [D.pures, D.pure, Cp.free, D.pures_map]) (by simp [Out.pure, D.pure, D.pures, Cp.free, D.pures_map])
        ((try simp only [wpAft_ret, wpAft_pan, putS, updS, setS]); (repeat (rw [wpS_cons]; simp [g1, g2])); (try simp only [wpS_nil, thenD, blockD]))
        refine CallX.pure globPure (hrt) ?_ (by simp [D.fgts, D.fgt]) (by simp [D.pures, D.pure, Cp.free, D.pures_map]) (by simp [Out.pure, D.pure, D.pures, Cp.free, D.pures_map])
        ((try simp only [wpAft_ret, wpAft_pan, putS, updS, setS]); (repeat (rw [wpS_cons]; simp [g1, g2])); (try simp only [wpS_nil, thenD, blockD]))
        (refine hK _ _ _ ?_; clear hK K)
        refine wpD_part rfl (fun _ => ?_) (fun h => by simp at h)
        (refine wpD_seqk fun K hK => ?_; refine wpD_region tyOK ?_; ((repeat (rw [wpS_cons]; simp)); (try simp only [wpS_nil, thenD, blockD])); refine hK _ _ _ ?_; clear hK K)
        (refine wpD_ret ?_; (try simp only [thenD, blockD]); refine EndQ.ret rfl (.inl ?_); simp [tmOf, Out.fgt, D.fgt, D.fgts])
      | true =>
      (refine wpD_seqk fun K hK => ?_; refine wpD_region tyOK ?_; ((repeat (rw [wpS_cons]; simp [g1, g2])); (try simp only [wpS_nil, thenD, blockD])))
      refine CallX.pure globPure (hlt) ?_ (by simp [D.fgts, D.fgt]) (by simp [D.pures, D.pure, Cp.free, D.pures_map]) (by simp [Out.pure, D.pure, D.pures, Cp.free, D.pures_map])
      ((try simp only [wpAft_ret, wpAft_pan, putS, updS, setS]); (repeat (rw [wpS_cons]; simp [g1, g2])); (try simp only [wpS_nil, thenD, blockD]))
      refine CallX.pure globPure (hrt) ?_ (by simp [D.fgts, D.fgt]) (by simp [D.pures, D.pure, Cp.free, D.pures_map]) (by simp [Out.pure, D.pure, D.pures, Cp.free, D.pures_map])
      ((try simp only [wpAft_ret, wpAft_pan, putS, updS, setS]); (repeat (rw [wpS_cons]; simp [g1, g2])); (try simp only [wpS_nil, thenD, blockD]))
      (refine hK _ _ _ ?_; clear hK K)
      refine wpD_part rfl (fun h => by simp at h) (fun _ => ?_)
      refine wpD_skip (hK4 _ _ _ ?_)
      clear hK4 K4
      rcases hend ⟨by omega, by omega⟩ rfl rfl with ⟨-, hst⟩ | ⟨u, c, hst, hru⟩
      · (refine wpD_seqk fun K hK => ?_; refine wpD_region tyOK ?_; ((repeat (rw [wpS_cons]; simp)); (try simp only [wpS_nil, thenD, blockD])))
        refine CallX.pure globPure (hst) ?_ (by simp [D.fgts, D.fgt]) (by simp [D.pures, D.pure, Cp.free, D.pures_map]) (by simp [Out.pure, D.pure, D.pures, Cp.free, D.pures_map])
        ((try simp only [wpAft_ret, wpAft_pan, putS, updS, setS]); (repeat (rw [wpS_cons]; simp)); (try simp only [wpS_nil, thenD, blockD]))
        (refine hK _ _ _ ?_; clear hK K)
        (refine wpD_seqk fun K hK => ?_; refine wpD_region tyOK ?_; ((repeat (rw [wpS_cons]; simp)); (try simp only [wpS_nil, thenD, blockD])))
        refine CallX.pure globPure (hrt) ?_ (by simp [D.fgts, D.fgt]) (by simp [D.pures, D.pure, Cp.free, D.pures_map]) (by simp [Out.pure, D.pure, D.pures, Cp.free, D.pures_map])
        ((try simp only [wpAft_ret, wpAft_pan, putS, updS, setS]); (repeat (rw [wpS_cons]; simp)); (try simp only [wpS_nil, thenD, blockD]))
        refine CallX.pure globPure (hsm) ?_ (by simp [D.fgts, D.fgt]) (by simp [D.pures, D.pure, Cp.free, D.pures_map]) (by simp [Out.pure, D.pure, D.pures, Cp.free, D.pures_map])
        ((try simp only [wpAft_ret, wpAft_pan, putS, updS, setS]); (repeat (rw [wpS_cons]; simp)); (try simp only [wpS_nil, thenD, blockD]))
        (refine hK _ _ _ ?_; clear hK K)
        (refine wpD_ret ?_; (try simp only [thenD, blockD]); refine EndQ.ret rfl (.inl ?_); simp [tmOf, Out.fgt, D.fgt, D.fgts])
      · have hEu := encT_eq u
        rw [hEu] at hst hru
        (refine wpD_seqk fun K hK => ?_; refine wpD_region tyOK ?_; ((repeat (rw [wpS_cons]; simp)); (try simp only [wpS_nil, thenD, blockD])))
        refine CallX.pure globPure (hst) ?_ (by simp [D.fgts, D.fgt]) (by simp [D.pures, D.pure, Cp.free, D.pures_map]) (by simp [Out.pure, D.pure, D.pures, Cp.free, D.pures_map])
        ((try simp only [wpAft_ret, wpAft_pan, putS, updS, setS]); (repeat (rw [wpS_cons]; simp)); (try simp only [wpS_nil, thenD, blockD]))
        (refine hK _ _ _ ?_; clear hK K)
        (refine wpD_seqk fun K hK => ?_; refine wpD_region tyOK ?_; ((repeat (rw [wpS_cons]; simp)); (try simp only [wpS_nil, thenD, blockD])))
        refine CallX.pure globPure (hru) ?_ (by simp [D.fgts, D.fgt]) (by simp [D.pures, D.pure, Cp.free, D.pures_map]) (by simp [Out.pure, D.pure, D.pures, Cp.free, D.pures_map])
        ((try simp only [wpAft_ret, wpAft_pan, putS, updS, setS]); (repeat (rw [wpS_cons]; simp)); (try simp only [wpS_nil, thenD, blockD]))
        (refine hK _ _ _ ?_; clear hK K)
        (refine wpD_ret ?_; (try simp only [thenD, blockD]); refine EndQ.ret rfl (.inl ?_); simp [tmOf, Out.fgt, D.fgt, D.fgts])
end Go.Proofs.YtebmlojhdnldgaaGreatDoor

namespace Go.Proofs.YtebmlojhdnldgaaGreatDoor
set_option linter.unusedSimpArgs false
set_option linter.unusedVariables false
open Go.RowKit
theorem bulk_one {H : Type} (d : DataW H) : 1 ≤ Rows.uptoBulk d := by
  cases d with
  | lit l => cases l <;> simp [Rows.uptoBulk]
  | nil => simp [Rows.uptoBulk]
  | ptr d => simp [Rows.uptoBulk]
  | slice elems spare => simp [Rows.uptoBulk]
  | agg parts => simp [Rows.uptoBulk]
  | iface t d => simp [Rows.uptoBulk]
  | map entries => simp [Rows.uptoBulk]
  | held h => simp [Rows.uptoBulk]
theorem bulk_part {H : Type} {d : DataW H} {l : List (DataW H)} (h : d ∈ l) : Rows.uptoBulk d ≤ Rows.uptoBulkAll l := by
  induction l with
  | nil => cases h
  | cons x r ih =>
    simp only [Rows.uptoBulkAll]
    cases List.mem_cons.1 h with
    | inl e => subst e; omega
    | inr e => have := ih e; omega
theorem bulk_len {H : Type} (l : List (DataW H)) : l.length ≤ Rows.uptoBulkAll l := by
  induction l with
  | nil => simp [Rows.uptoBulkAll]
  | cons x r ih => have := bulk_one x; simp only [Rows.uptoBulkAll, List.length_cons]; omega
theorem mapM_some {α β : Type} {f : α → Option β} : ∀ {l : List α} {xs : List β}, l.mapM f = some xs → xs.length = l.length ∧ ∀ i (h : i < l.length) (h' : i < xs.length), f l[i] = some xs[i] := by
  intro l
  induction l with
  | nil => intro xs h; simp at h; subst h; exact ⟨rfl, fun i h => absurd h (by simp)⟩
  | cons a r ih =>
    intro xs h
    rw [List.mapM_cons] at h
    cases ha : f a with
    | none => rw [ha] at h; simp at h
    | some b =>
      rw [ha] at h
      cases hr : r.mapM f with
      | none => rw [hr] at h; simp at h
      | some ys =>
        rw [hr] at h
        simp at h
        subst h
        obtain ⟨h1, h2⟩ := ih hr
        refine ⟨by simp [h1], fun i hi hi' => ?_⟩
        cases i with
        | zero => simpa using ha
        | succ i => simpa using h2 i (by simpa using hi) (by simpa using hi')
section
variable {H : Type} {enc : TypeId × Value → H} {P : Program} {w : World} {base : Nat} {sp : Nat → Bool} {held : Bool}
theorem trod_int {fuel : Nat} {t : TypeId} {cs : List Value} {d : DataW H} {ps : List MemPlace} (ht : P.underlying t = some (.int .i64)) (h : DataW.trod enc P w base sp held fuel t cs = some (d, ps)) : ∃ n, cs = [.int .i64 n] ∧ IntKind.i64.min ≤ n ∧ n ≤ IntKind.i64.max := by
  cases fuel with
  | zero => simp [DataW.trod] at h
  | succ fuel =>
    unfold DataW.trod at h
    rw [ht] at h
    rcases cs with _ | ⟨v, _ | ⟨v2, r⟩⟩
    · simp at h
    · cases v <;> simp at h
      rename_i k n
      obtain ⟨⟨rfl, hw⟩, -⟩ := h
      refine ⟨n, rfl, ?_⟩
      simp only [Lit.wf, Bool.and_eq_true, decide_eq_true_eq] at hw
      exact hw
    · simp at h
theorem cells_at {n : Nat} {a : Addr} {cs : List Value} (h : w.cells? base a n = some cs) (hn : 0 < n) : ∃ b o, a = ⟨b, o, none⟩ ∧ b < w.heap.size ∧ cs.length = n ∧ ∀ i u, cs[i]? = some u → w.cell? ⟨b, o + i, none⟩ = some u := by
  unfold World.cells? at h
  split at h
  · obtain ⟨h1, h2⟩ := mapM_some h
    simp only [List.length_range] at h1
    have hall : ∀ i, i < n → w.cell? (a.add i) = some (cs.getD i undef) := fun i hi => by
      have := h2 i (by simpa using hi) (by omega)
      simp only [List.getElem_range] at this
      rw [this]; simp [show i < cs.length by omega]
    have h0 := hall 0 hn
    rw [show a.add 0 = a from by simp [Addr.add]] at h0
    have hs : a.spot = none := by
      cases hsp : a.spot with
      | none => rfl
      | some x =>
        unfold World.cell? at h0
        rw [hsp] at h0
        split at h0 <;> simp at h0
    obtain ⟨b, o, s⟩ := a
    simp only at hs
    subst hs
    refine ⟨b, o, rfl, World.block_lt_of_cell? w _ h0, h1, fun i u hu => ?_⟩
    have hi : i < cs.length := (List.getElem?_eq_some_iff.1 hu).1
    have := hall i (by omega)
    have hadd : (⟨b, o, none⟩ : Addr).add i = ⟨b, o + i, none⟩ := by unfold Addr.add; split <;> simp_all
    rw [hadd] at this
    rw [this]
    simp [List.getD_eq_getElem?_getD, hu]
  · cases h
theorem trod_slice {fuel : Nat} {t e : TypeId} {cs : List Value} {d : DataW H} {ps : List MemPlace} (ht : P.underlying t = some (.slice e)) (h : DataW.trod enc P w base sp held fuel t cs = some (d, ps)) :
    cs = [.slice none 0 0] ∨ ∃ fuel' a len cap elems rest, fuel = fuel' + 1 ∧ cs = [.slice (some a) len cap] ∧ len ≤ cap ∧ cap ≤ maxLen ∧ d = .slice elems rest ∧ elems.length = len ∧
      ∀ i (hi : i < elems.length), ∃ ecs p, w.cells? base (a.add (i * P.cellsOf e)) (P.cellsOf e) = some ecs ∧ DataW.trod enc P w base sp held fuel' e ecs = some (elems[i], p) := by
  cases fuel with
  | zero => simp [DataW.trod] at h
  | succ fuel =>
    unfold DataW.trod at h
    rw [ht] at h
    rcases cs with _ | ⟨v, _ | ⟨v2, r⟩⟩
    · simp at h
    rotate_left
    · simp at h
    cases v <;> try (simp at h; done)
    rename_i ao len cap
    cases ao with
    | none =>
      left
      rcases len with _ | len
      · rcases cap with _ | cap
        · rfl
        · simp at h
      · simp at h
    | some a =>
    right
    dsimp only at h
    split at h
    · rename_i hc
      cases hm : (List.range len).mapM fun i => (w.cells? base (a.add (i * P.cellsOf e)) (P.cellsOf e)).bind (DataW.trod enc P w base sp held fuel e) with
      | none => rw [hm] at h; simp at h
      | some xs =>
        rw [hm] at h
        simp only [Option.bind_some] at h
        obtain ⟨h2, h3⟩ := mapM_some hm
        simp only [List.length_range] at h2
        rw [Option.map_eq_some_iff] at h
        obtain ⟨rest, -, h4⟩ := h
        simp only [Prod.mk.injEq] at h4
        refine ⟨fuel, a, len, cap, xs.map (·.1), rest.map (·.1), rfl, rfl, hc.2.1, hc.2.2, h4.1.symm, by simpa using h2, fun i hi => ?_⟩
        have hi' : i < xs.length := by simpa using hi
        have := h3 i (by simp; omega) hi'
        simp only [List.getElem_range] at this
        rw [Option.bind_eq_some_iff] at this
        obtain ⟨ecs, e1, e2⟩ := this
        exact ⟨ecs, (xs[i]).2, e1, by simpa using e2⟩
    · cases h
theorem trod_struct {fuel : Nat} {t : TypeId} {fs : Array Field} {cs : List Value} {d : DataW H} {ps : List MemPlace} (ht : P.underlying t = some (.struct fs)) (h : DataW.trod enc P w base sp held fuel t cs = some (d, ps)) :
    ∃ fuel' ds, fuel = fuel' + 1 ∧ cs.length = P.cellsOf t ∧ d = .agg ds ∧ ds.length = fs.toList.length ∧ ∀ i (hi : i < fs.toList.length) (hi' : i < ds.length), ∃ p, DataW.trod enc P w base sp held fuel' (fs.toList[i]).type ((cs.drop (fs.toList[i]).offset).take (P.cellsOf (fs.toList[i]).type)) = some (ds[i], p) := by
  cases fuel with
  | zero => simp [DataW.trod] at h
  | succ fuel =>
    unfold DataW.trod at h
    rw [ht] at h
    dsimp only at h
    split at h
    · rename_i hl
      rw [Option.map_eq_some_iff] at h
      obtain ⟨xs, hm, h4⟩ := h
      simp only [Prod.mk.injEq] at h4
      obtain ⟨h2, h3⟩ := mapM_some hm
      refine ⟨fuel, xs.map (·.1), rfl, hl, h4.1.symm, by simpa using h2, fun i hi hi' => ?_⟩
      have hi2 : i < xs.length := by simpa using hi'
      exact ⟨(xs[i]).2, by simpa using h3 i hi hi2⟩
    · cases h
end
theorem len1 {l : List Value} (h : l.length = 1) : ∃ a, l = [a] := by
  rcases l with _ | ⟨a, _ | ⟨b, r⟩⟩
  · cases h
  · exact ⟨a, rfl⟩
  · simp at h
theorem len2 {l : List Value} (h : l.length = 2) : ∃ a b, l = [a, b] := by
  rcases l with _ | ⟨a, r⟩
  · cases h
  · obtain ⟨b, rfl⟩ := len1 (l := r) (by simpa using h)
    exact ⟨a, b, rfl⟩
theorem len5 {l : List Value} (h : l.length = 5) : ∃ a b c d e, l = [a, b, c, d, e] := by
  rcases l with _ | ⟨a, _ | ⟨b, _ | ⟨c, r⟩⟩⟩
  · cases h
  · simp at h
  · simp at h
  · obtain ⟨d, e, rfl⟩ := len2 (l := r) (by simpa using h)
    exact ⟨a, b, c, d, e, rfl⟩
theorem trod_fields {H : Type} {enc : TypeId × Value → H} {P : Program} {w : World} {base : Nat} {sp : Nat → Bool} {held : Bool} {fuel : Nat} {t : TypeId} {fs : Array Field} {cs : List Value} {d : DataW H} {ps : List MemPlace} {l : List (TypeId × Nat)} (ht : P.underlying t = some (.struct fs)) (hl : fs.toList.map (fun f => (f.type, f.offset)) = l)
    (h : DataW.trod enc P w base sp held fuel t cs = some (d, ps)) :
    cs.length = P.cellsOf t ∧ ∀ (i : Nat) ti oi, l[i]? = some (ti, oi) → ∃ f di p, f < fuel ∧ Rows.uptoBulk di < Rows.uptoBulk d ∧ DataW.trod enc P w base sp held f ti ((cs.drop oi).take (P.cellsOf ti)) = some (di, p) := by
  obtain ⟨fuel', ds, rfl, h1, rfl, h3, h4⟩ := trod_struct ht h
  refine ⟨h1, fun i ti oi hi => ?_⟩
  rw [← hl, List.getElem?_map, Option.map_eq_some_iff] at hi
  obtain ⟨f, hf, he⟩ := hi
  obtain ⟨hlt, rfl⟩ := List.getElem?_eq_some_iff.1 hf
  simp only [Prod.mk.injEq] at he
  obtain ⟨rfl, rfl⟩ := he
  obtain ⟨p, hp⟩ := h4 i hlt (by omega)
  refine ⟨fuel', _, p, by omega, ?_, hp⟩
  have := bulk_part (List.getElem_mem (l := ds) (n := i) (by omega))
  simp only [Rows.uptoBulk]; omega
/-- before the call: all stays -/
def rho0 : Rho := ⟨fun _ => none, fun _ => none⟩
theorem cellAt0 {w : World} {b o : Nat} {v : Value} (h : w.cell? ⟨b, o, none⟩ = some v) (h1 : v.oneCell' = true) : cellAt rho0 w b o v := ⟨(fun k hk => nomatch hk), h, h1⟩
theorem RpC_mk {w : World} : ∀ {ds : List D} {cs : List Value} {b o : Nat}, RpL rho0 w ds cs → ds.all D.one = true → (∀ i u, cs[i]? = some u → w.cell? ⟨b, o + i, none⟩ = some u) → RpC rho0 w ds b o
  | [], _, _, _, _, _, _ => by rw [RpC]; trivial
  | d :: r, cs, b, o, h, h1, h2 => by
    rw [RpL] at h
    obtain ⟨v, us, rfl, hv, hr⟩ := h
    rw [List.all_cons, Bool.and_eq_true] at h1
    rw [RpC]
    refine ⟨⟨v, cellAt0 (h2 0 v rfl) (D.one_cell h1.1 hv), hv⟩, RpC_mk hr h1.2 fun i u hu => ?_⟩
    have := h2 (i + 1) u (by simpa using hu)
    rwa [show o + 1 + i = o + (i + 1) by omega]
theorem RpE_mk {w : World} {sz : Nat} : ∀ {els : List D} {b o : Nat}, (∀ e, e ∈ els → e.size = sz ∧ e.cells.all D.one = true) → (∀ i (hi : i < els.length), ∃ cs, RpL rho0 w els[i].cells cs ∧ ∀ j u, cs[j]? = some u → w.cell? ⟨b, o + i * sz + j, none⟩ = some u) → RpE rho0 w els b o
  | [], _, _, _, _ => by rw [RpE]; trivial
  | e :: r, b, o, h, hi => by
    obtain ⟨he, ho⟩ := h e (List.mem_cons_self ..)
    obtain ⟨cs, hc, ha⟩ := hi 0 (by simp)
    have hr : RpE rho0 w r b (o + sz) := RpE_mk (fun x hx => h x (List.mem_cons_of_mem _ hx)) fun i hlt => by
      obtain ⟨cs, h1, h2⟩ := hi (i + 1) (by simpa using hlt)
      refine ⟨cs, by simpa using h1, fun j u hu => ?_⟩
      have := h2 j u hu
      rwa [show o + (i + 1) * sz + j = o + sz + i * sz + j by rw [Nat.add_mul]; omega] at this
    have ha' : ∀ j u, cs[j]? = some u → w.cell? ⟨b, o + j, none⟩ = some u := fun j u hu => by
      have := ha j u hu
      rwa [Nat.zero_mul, Nat.add_zero] at this
    have key : RpC rho0 w e.cells b o := RpC_mk (by simpa using hc) ho ha'
    cases e with
    | agg ds =>
      rw [RpE]
      rw [show o + ds.length = o + sz by rw [← he]; rfl]
      exact ⟨key, hr⟩
    | _ =>
      rw [RpE]
      · have h1 : sz = 1 := he.symm
        rw [h1] at hr
        simp only [D.cells] at key
        rw [RpC] at key
        exact ⟨key.1, hr⟩
      · intro ds hds; cases hds
section
variable {H : Type} {enc : TypeId × Value → H} {w : World} {base : Nat} {sp : Nat → Bool} {held : Bool}
/-- how a slice reads whose elements can be read -/
theorem open_sl {α : Type} (en : α → D) {t e : TypeId} {sz : Nat} (ht : Tryz.prog.underlying t = some (.slice e)) (he : Tryz.prog.cellsOf e = sz) (hsz : 0 < sz) (hes : ∀ x, (en x).size = sz ∧ (en x).cells.all D.one = true) (M : Nat → α → Prop) {fuel : Nat} {cs : List Value} {d : DataW H} {ps : List MemPlace} (hb : Rows.uptoBulk d ≤ 1048576)
    (hE : ∀ f ecs de p, f < fuel → Rows.uptoBulk de < Rows.uptoBulk d → DataW.trod enc Tryz.prog w base sp held f e ecs = some (de, p) → ∃ x, RpL rho0 w (en x).cells ecs ∧ M (Rows.uptoBulk de) x) (hM : ∀ x m n, m ≤ n → M m x → M n x)
    (h : DataW.trod enc Tryz.prog w base sp held fuel t cs = some (d, ps)) : ∃ (v : Value) (xs : List α), cs = [v] ∧ Rp rho0 w (.slice (xs.map en) .any) v ∧ xs.length < Rows.uptoBulk d + 1 ∧ ∀ x, x ∈ xs → M (Rows.uptoBulk d - 1) x := by
  rcases trod_slice ht h with rfl | ⟨fuel', a, len, cap, elems, rest, rfl, rfl, h1, h2, rfl, h3, h4⟩
  · refine ⟨_, [], rfl, ?_, by simp, (fun x hx => nomatch hx)⟩
    rw [Rp]
    exact ⟨none, 0, sz, rfl, by simp, by simp, by simp, (fun e he => nomatch he), trivial, fun h => absurd rfl h⟩
  · have hlen : elems.length + 1 ≤ Rows.uptoBulk (.slice elems rest) := by
      have := bulk_len elems
      simp only [Rows.uptoBulk]; omega
    have key : ∀ i (hi : i < elems.length), ∃ x ecs, w.cells? base (a.add (i * sz)) sz = some ecs ∧ RpL rho0 w (en x).cells ecs ∧ M (Rows.uptoBulk (DataW.slice elems rest) - 1) x := fun i hi => by
      obtain ⟨ecs, p, h5, h6⟩ := h4 i hi
      have hlt : Rows.uptoBulk elems[i] < Rows.uptoBulk (.slice elems rest) := by
        have := bulk_part (List.getElem_mem (l := elems) hi)
        simp only [Rows.uptoBulk]; omega
      obtain ⟨x, h7, h8⟩ := hE fuel' ecs elems[i] p (by omega) hlt h6
      exact ⟨x, ecs, by rw [← he]; exact h5, h7, hM _ _ _ (by omega) h8⟩
    let xs : List α := List.ofFn (n := elems.length) fun i => (key i.1 i.2).choose
    have hxl : xs.length = elems.length := by simp [xs]
    have hget : ∀ i (hi : i < elems.length), xs[i]? = some (key i hi).choose := fun i hi => by simp [xs, List.getElem?_ofFn, hi]
    refine ⟨_, xs, rfl, ?_, by omega, ?_⟩
    · rw [Rp]
      refine ⟨some a, cap, sz, by rw [List.length_map, hxl, h3], by rw [List.length_map]; omega, h2, by rw [List.length_map]; unfold LMax; omega, fun e he => ?_, trivial, fun hne => ?_⟩
      · obtain ⟨x, -, rfl⟩ := List.mem_map.1 he
        exact (hes x).1
      · have h0 : 0 < elems.length := by
          rcases Nat.eq_zero_or_pos elems.length with h | h
          · exact absurd (List.eq_nil_of_length_eq_zero (by rw [List.length_map]; omega)) hne
          · exact h
        obtain ⟨ecs0, c0, -⟩ := (key 0 h0).choose_spec
        rw [show a.add (0 * sz) = a from by simp [Addr.add]] at c0
        obtain ⟨b, o, rfl, hlt, -, -⟩ := cells_at c0 hsz
        refine ⟨b, o, rfl, RpE_mk (sz := sz) (fun e he => ?_) fun i hi => ?_⟩
        · obtain ⟨x, -, rfl⟩ := List.mem_map.1 he
          exact hes x
        · have hi' : i < elems.length := by rw [List.length_map] at hi; omega
          have hx := hget i hi'
          have hx' : (xs.map en)[i] = en (key i hi').choose := by
            rw [List.getElem_map]
            have := List.getElem?_eq_some_iff.1 hx
            exact congrArg en this.2
          rw [hx']
          obtain ⟨ecs, c1, c2, -⟩ := (key i hi').choose_spec
          have hadd : (⟨b, o, none⟩ : Addr).add (i * sz) = ⟨b, o + i * sz, none⟩ := by unfold Addr.add; split <;> simp_all
          rw [hadd] at c1
          obtain ⟨b', o', e, -, c3, c4⟩ := cells_at c1 hsz
          simp only [Addr.mk.injEq, and_true] at e
          obtain ⟨rfl, rfl⟩ := e
          exact ⟨ecs, c2, c4⟩
    · intro x hx
      obtain ⟨i, hi, rfl⟩ := List.getElem_of_mem hx
      have hi' : i < elems.length := by rw [← hxl]; exact hi
      have := hget i hi'
      rw [List.getElem?_eq_getElem hi] at this
      simp only [Option.some.injEq] at this
      rw [this]
      obtain ⟨-, -, -, c⟩ := (key i hi').choose_spec
      exact c
theorem part_under : Tryz.prog.underlying 99 = some (.struct (Tryz.prog.fieldsOf 99)) := by kernel_rfl
theorem level_under : Tryz.prog.underlying 82 = some (.struct (Tryz.prog.fieldsOf 82)) := by kernel_rfl
end
end Go.Proofs.YtebmlojhdnldgaaGreatDoor

namespace Go.Proofs.YtebmlojhdnldgaaGreatDoor
set_option linter.unusedSimpArgs false
set_option linter.unusedVariables false
open Go.RowKit Go.WideShapes Go.ChangeShapes
theorem ex_below {w w' : World} {ρ' : Rho} {H : Nat → HO} (h : Ex rho0 w (hOf []) ρ' w' H) : Below w.heap.size w w' :=
  ⟨h.grow.os, h.grow.tape, h.grow.output, h.grow.size, fun k hk => (h.grow.whole k hk rfl).2⟩
theorem laidOut : laidOutB Tryz.prog = true := by kernel_rfl
section
variable {H : Type} {enc : TypeId × Value → H} {P : Program}
theorem trodAll_stays (hl : laidOutB P = true) {W W' : World} {sp : Nat → Bool} (hb : Below W.heap.size W W') : ∀ (ts : List TypeId) (vs : List Value) (ds : List (DataW H)) (ps : List MemPlace), (∀ t, t ∈ ts → P.readableRec t = true ∧ t < P.types.size) →
    DataW.TrodAll enc P W 0 (fun _ => true) true ts vs ds ps → (∀ x ∈ ps, x.block < W.heap.size) → (∀ x ∈ ps, sp x.block = true) → DataW.TrodAll enc P W' 0 sp true ts vs ds ps
  | [], [], [], ps, _, h, _, _ => h
  | t :: ts, v :: vs, d :: ds, ps, ht, h, hlt, hsp => by
    obtain ⟨p, q, h1, h2, rfl⟩ := h
    obtain ⟨r1, r2⟩ := ht t List.mem_cons_self
    exact ⟨p, q, WideElems.Trod_stays hl r1 r2 h1 (fun x hx => hb.same (hlt x (List.mem_append_left _ hx))) (fun x hx => hsp x (List.mem_append_left _ hx)),
      trodAll_stays hl hb ts vs ds q (fun t h => ht t (List.mem_cons_of_mem _ h)) h2 (fun x hx => hlt x (List.mem_append_right _ hx)) (fun x hx => hsp x (List.mem_append_right _ hx)), rfl⟩
  | [], [], _ :: _, _, _, h, _, _ => h.elim
  | [], _ :: _, _, _, _, h, _, _ => h.elim
  | _ :: _, [], _, _, _, h, _, _ => h.elim
  | _ :: _, _ :: _, [], _, _, h, _, _ => h.elim
theorem post_of_below {f : Func} {s : ChangeSpec} {apart fresh handsOn again : Bool} {W W' : World} {args : Array Value} {v : Value} {ds gs : List (DataW H)} {before pa pv : List MemPlace}
    (hW : DataW.Whole enc P f.params.toList s.vars apart W args.toList ds gs before)
    (hres : ∀ (b : Nat) (sp : Nat → Bool) (hd : Bool), DataW.TrodAll enc P W' b sp hd f.resultTypes.toList (v.resultList f.resultTypes.size) (s.fn H (ds ++ gs)).results [])
    (hargs : ∀ sp : Nat → Bool, (∀ p ∈ before, sp p.block = true) → DataW.TrodAll enc P W' 0 sp true f.params.toList args.toList (s.fn H (ds ++ gs)).args pa)
    (hvars : ∀ sp : Nat → Bool, (∀ p ∈ before, sp p.block = true) → DataW.TrodVars enc P W' sp s.vars (s.fn H (ds ++ gs)).vars pv)
    (hps : before = pa ++ pv) (hb : Below W.heap.size W W')
    (hok : ∀ (j : Nat) (t : TypeId) (r : Value), f.resultTypes[j]? = some t → (v.resultList f.resultTypes.size)[j]? = some r → Value.okWide P W' .any 0 t r) :
    s.post enc P f apart fresh handsOn again W args v W' := by
  have hlt : ∀ p ∈ before, p.block < W.heap.size := fun p hp => hW.lt p hp
  have hold : ∀ p ∈ before, (fun b => decide (b < W.heap.size)) p.block = true := fun p hp => by simpa using hlt p hp
  refine ⟨ds, gs, before, [], pa, pv, hW, hres _ _ _, hargs _ hold, hvars _ hold, World.keptBut_mono (fun p hp => ⟨hp, ?_⟩) (hb.frame (· ∈ before)), fun _ => ?_⟩
  · rw [hps, List.mem_append] at hp
    exact Or.inr hp
  · obtain ⟨_, _, _, _, _, hz, hn⟩ := hW
    refine ⟨hok, _, _, ([] ++ pa) ++ pv, ⟨[] ++ pa, pv, trodAll_append (hargs _ (fun _ _ => rfl)) (hres _ _ _), hvars _ (fun _ _ => rfl), rfl, ?_, ?_⟩, ?_⟩
    · intro b off hp
      have hin : MemPlace.cell b off ∈ before := by rw [hps]; simpa using hp
      rw [hb.frozen (hlt _ hin)]
      exact hz b off hin
    · intro ha
      have := hn ha
      rw [hps] at this
      simpa using this
    · intro p hp _
      rw [hps]
      simpa using hp
/-- the row's end: true is told, memory has grown -/
theorem post_law {f : Func} {s : ChangeSpec} {apart fresh handsOn again : Bool} {W W' : World} {args : Array Value} {ds gs : List (DataW H)} {before : List MemPlace} {tb : TypeId} (hl : laidOutB P = true) (htb : P.underlying tb = some .bool) (hrt : f.resultTypes = #[tb]) (hsv : s.vars = [])
    (hts : ∀ t, t ∈ f.params.toList → P.readableRec t = true ∧ t < P.types.size) (hW : DataW.Whole enc P f.params.toList s.vars apart W args.toList ds gs before) (hs : gs = [] → s.fn H (ds ++ gs) = { results := [.lit (.bool true)], args := ds }) (hb : Below W.heap.size W W') :
    s.post enc P f apart fresh handsOn again W args (.bool true) W' := by
  have hW' := hW
  obtain ⟨p, q, hA, hV, hbf, -, -⟩ := hW
  rw [hsv] at hV
  obtain ⟨rfl, rfl⟩ := trodVars_none hV
  have hs' := hs rfl
  have hlt : ∀ x ∈ p, x.block < W.heap.size := fun x hx => hW'.lt x (by rw [hbf]; simpa using hx)
  refine post_of_below (pa := p) (pv := []) hW' (fun b sp hd => ?_) (fun sp hsp => ?_) (fun sp hsp => ?_) (by rw [hbf]) hb ?_
  · rw [hrt, hs']
    exact trodAll_cons_mk (shut_bool htb _) trodAll_mk0
  · rw [hs']
    exact trodAll_stays hl hb _ _ _ _ hts hA hlt (fun x hx => hsp x (by rw [hbf]; simpa using hx))
  · rw [hs', hsv]; rfl
  · exact ok_one hrt rfl (okWide_bool_mk htb _)
/-! an argument -/
theorem arg_agg {W : World} {base : Nat} {t : TypeId} {v : Value} {fs : Array Field} (ht : P.underlying t = some (.struct fs)) (h : Value.okWide P W .any base t v) : ∃ cs : Array Value, v = .agg cs := by
  unfold Value.okWide at h
  rw [ht] at h
  obtain ⟨cs, h, -⟩ := h
  exact ⟨cs, h⟩
end
section
variable {H : Type} {enc : TypeId × Value → H} {W : World} {base b0 : Nat} {sp : Nat → Bool} {held : Bool} {v : Value} {d : DataW H} {p : List MemPlace}
end
end Go.Proofs.YtebmlojhdnldgaaGreatDoor

namespace Go.Proofs.YtebmlojhdnldgaaGreatDoor
set_option linter.unusedSimpArgs false
set_option linter.unusedVariables false
open Go.RowKit Go.WideShapes Go.ChangeShapes
set_option maxRecDepth 100000
theorem sum_bulk {H α : Type} : ∀ (xs : List α) (elems : List (DataW H)) (μ : α → Nat), xs.length = elems.length → (∀ i (h : i < xs.length) (h' : i < elems.length), μ xs[i] ≤ Rows.uptoBulk elems[i]) → (xs.map μ).sum ≤ Rows.uptoBulkAll elems
  | [], [], μ, _, _ => by simp
  | [], _ :: _, μ, h, _ => by simp at h
  | _ :: _, [], μ, h, _ => by simp at h
  | x :: r, e :: s, μ, h, h2 => by
    simp only [List.map_cons, List.sum_cons, Rows.uptoBulkAll]
    have h3 := h2 0 (by simp) (by simp)
    simp only [List.getElem_cons_zero] at h3
    have h4 := sum_bulk r s μ (by simpa using h) (fun i h5 h6 => by
      have := h2 (i + 1) (by simpa using h5) (by simpa using h6)
      simpa using this)
    omega
theorem nszs_sum : ∀ l : List T, T.nszs l = (l.map T.nsz).sum
  | [] => by rw [T.nszs]; rfl
  | t :: r => by rw [T.nszs, nszs_sum r]; rfl
section
variable {H : Type} {enc : TypeId × Value → H} {w : World} {base : Nat} {sp : Nat → Bool} {held : Bool}
/-- how a slice reads whose elements can be read -/
theorem open_sl2 {α : Type} (en : α → D) {t e : TypeId} {sz : Nat} (ht : Tryz.prog.underlying t = some (.slice e)) (he : Tryz.prog.cellsOf e = sz) (hsz : 0 < sz) (hes : ∀ x, (en x).size = sz ∧ (en x).cells.all D.one = true) (M : Nat → α → Prop) {fuel : Nat} {cs : List Value} {d : DataW H} {ps : List MemPlace} (hb : Rows.uptoBulk d ≤ 1048576)
    (hE : ∀ f ecs de p, f < fuel → Rows.uptoBulk de < Rows.uptoBulk d → DataW.trod enc Tryz.prog w base sp held f e ecs = some (de, p) → ∃ x, RpL rho0 w (en x).cells ecs ∧ M (Rows.uptoBulk de) x) (hM : ∀ x m n, m ≤ n → M m x → M n x)
    (h : DataW.trod enc Tryz.prog w base sp held fuel t cs = some (d, ps)) : ∃ (v : Value) (xs : List α), cs = [v] ∧ Rp rho0 w (.slice (xs.map en) .any) v ∧ xs.length < Rows.uptoBulk d + 1 ∧ (∀ x, x ∈ xs → M (Rows.uptoBulk d - 1) x) ∧ ∀ μ : α → Nat, (∀ x m, M m x → μ x ≤ m) → (xs.map μ).sum + 1 ≤ Rows.uptoBulk d := by
  rcases trod_slice ht h with rfl | ⟨fuel', a, len, cap, elems, rest, rfl, rfl, h1, h2, rfl, h3, h4⟩
  · refine ⟨_, [], rfl, ?_, by simp, (fun x hx => nomatch hx), fun μ _ => by have := bulk_one d; simp; omega⟩
    rw [Rp]
    exact ⟨none, 0, sz, rfl, by simp, by simp, by simp, (fun e he => nomatch he), trivial, fun h => absurd rfl h⟩
  · have hlen : elems.length + 1 ≤ Rows.uptoBulk (.slice elems rest) := by
      have := bulk_len elems
      simp only [Rows.uptoBulk]; omega
    have key : ∀ i (hi : i < elems.length), ∃ x ecs, w.cells? base (a.add (i * sz)) sz = some ecs ∧ RpL rho0 w (en x).cells ecs ∧ M (Rows.uptoBulk (DataW.slice elems rest) - 1) x ∧ M (Rows.uptoBulk elems[i]) x := fun i hi => by
      obtain ⟨ecs, p, h5, h6⟩ := h4 i hi
      have hlt : Rows.uptoBulk elems[i] < Rows.uptoBulk (.slice elems rest) := by
        have := bulk_part (List.getElem_mem (l := elems) hi)
        simp only [Rows.uptoBulk]; omega
      obtain ⟨x, h7, h8⟩ := hE fuel' ecs elems[i] p (by omega) hlt h6
      exact ⟨x, ecs, by rw [← he]; exact h5, h7, hM _ _ _ (by omega) h8, h8⟩
    let xs : List α := List.ofFn (n := elems.length) fun i => (key i.1 i.2).choose
    have hxl : xs.length = elems.length := by simp [xs]
    have hget : ∀ i (hi : i < elems.length), xs[i]? = some (key i hi).choose := fun i hi => by simp [xs, List.getElem?_ofFn, hi]
    refine ⟨_, xs, rfl, ?_, by omega, ?_, ?_⟩
    · rw [Rp]
      refine ⟨some a, cap, sz, by rw [List.length_map, hxl, h3], by rw [List.length_map]; omega, h2, by rw [List.length_map]; unfold LMax; omega, fun e he => ?_, trivial, fun hne => ?_⟩
      · obtain ⟨x, -, rfl⟩ := List.mem_map.1 he
        exact (hes x).1
      · have h0 : 0 < elems.length := by
          rcases Nat.eq_zero_or_pos elems.length with h | h
          · exact absurd (List.eq_nil_of_length_eq_zero (by rw [List.length_map]; omega)) hne
          · exact h
        obtain ⟨ecs0, c0, -⟩ := (key 0 h0).choose_spec
        rw [show a.add (0 * sz) = a from by simp [Addr.add]] at c0
        obtain ⟨b, o, rfl, hlt, -, -⟩ := cells_at c0 hsz
        refine ⟨b, o, rfl, RpE_mk (sz := sz) (fun e he => ?_) fun i hi => ?_⟩
        · obtain ⟨x, -, rfl⟩ := List.mem_map.1 he
          exact hes x
        · have hi' : i < elems.length := by rw [List.length_map] at hi; omega
          have hx := hget i hi'
          have hx' : (xs.map en)[i] = en (key i hi').choose := by
            rw [List.getElem_map]
            have := List.getElem?_eq_some_iff.1 hx
            exact congrArg en this.2
          rw [hx']
          obtain ⟨ecs, c1, c2, -⟩ := (key i hi').choose_spec
          have hadd : (⟨b, o, none⟩ : Addr).add (i * sz) = ⟨b, o + i * sz, none⟩ := by unfold Addr.add; split <;> simp_all
          rw [hadd] at c1
          obtain ⟨b', o', e, -, c3, c4⟩ := cells_at c1 hsz
          simp only [Addr.mk.injEq, and_true] at e
          obtain ⟨rfl, rfl⟩ := e
          exact ⟨ecs, c2, c4⟩
    · intro x hx
      obtain ⟨i, hi, rfl⟩ := List.getElem_of_mem hx
      have hi' : i < elems.length := by rw [← hxl]; exact hi
      have := hget i hi'
      rw [List.getElem?_eq_getElem hi] at this
      simp only [Option.some.injEq] at this
      rw [this]
      obtain ⟨-, -, -, c, -⟩ := (key i hi').choose_spec
      exact c
    · intro μ hμ
      have := sum_bulk xs elems μ hxl fun i h1 h2 => by
        have := hget i h2
        rw [List.getElem?_eq_getElem h1] at this
        simp only [Option.some.injEq] at this
        rw [this]
        obtain ⟨-, -, -, -, c⟩ := (key i h2).choose_spec
        exact hμ _ _ c
      simp only [Rows.uptoBulk]
      omega
theorem ok_bounds {n : Int} (h : IntKind.i64.min ≤ n ∧ n ≤ IntKind.i64.max) : I64 n := by
  simp [IntKind.min, IntKind.max, IntKind.signed, IntKind.bits] at h
  unfold I64
  omega
theorem open_part2 {fuel : Nat} {cs : List Value} {d : DataW H} {ps : List MemPlace} (h : DataW.trod enc Tryz.prog w base sp held fuel 99 cs = some (d, ps)) : ∃ p : Int × Int, RpL rho0 w (encP p).cells cs ∧ I64 p.1 ∧ I64 p.2 := by
  obtain ⟨h1, h2⟩ := trod_fields (l := [(3, 0), (3, 1)]) part_under (by kernel_rfl) h
  rw [show Tryz.prog.cellsOf 99 = 2 from by kernel_rfl] at h1
  obtain ⟨f0, d0, p0, -, -, e0⟩ := h2 0 _ _ rfl
  obtain ⟨f1, d1, p1, -, -, e1⟩ := h2 1 _ _ rfl
  rw [show Tryz.prog.cellsOf 3 = 1 from by kernel_rfl] at e0 e1
  obtain ⟨c0, c1, rfl⟩ := len2 h1
  obtain ⟨n0, k0, b0⟩ := trod_int Tryz.underlying3 e0
  obtain ⟨n1, k1, b1⟩ := trod_int Tryz.underlying3 e1
  simp at k0 k1
  subst k0; subst k1
  refine ⟨(n0, n1), ?_, ok_bounds b0, ok_bounds b1⟩
  show RpL rho0 w [.int .i64 n0, .int .i64 n1] _
  simp only [RpL, Rp]
  exact ⟨_, _, rfl, ⟨rfl, b0⟩, _, _, rfl, ⟨rfl, b1⟩, rfl⟩
theorem open_level2 {fuel : Nat} {cs : List Value} {d : DataW H} {ps : List MemPlace} (hb : Rows.uptoBulk d ≤ 1048576) (h : DataW.trod enc Tryz.prog w base sp held fuel 82 cs = some (d, ps)) : ∃ l : LV, RpL rho0 w (encL l).cells cs ∧ okL l ∧ l.length ≤ Rows.uptoBulk d := by
  obtain ⟨h1, h2⟩ := trod_fields (l := [(80, 0)]) level_under (by kernel_rfl) h
  rw [show Tryz.prog.cellsOf 82 = 1 from by kernel_rfl] at h1
  obtain ⟨f0, d0, p0, -, hb0, e0⟩ := h2 0 _ _ rfl
  rw [show Tryz.prog.cellsOf 80 = 1 from by kernel_rfl] at e0
  obtain ⟨c0, rfl⟩ := len1 h1
  obtain ⟨v, xs, k0, hs, hl, hm⟩ := open_sl encP (sz := 2) Tryz.underlying80 (by kernel_rfl) (by omega) (fun x => ⟨rfl, rfl⟩) (fun _ p => I64 p.1 ∧ I64 p.2) (by omega) (fun f ecs de p _ _ he => (open_part2 he).imp fun _ h => h) (fun _ _ _ _ h => h) e0
  simp at k0
  subst k0
  refine ⟨xs, ?_, ⟨by unfold LMax; omega, hm⟩, by omega⟩
  show RpL rho0 w [.slice (xs.map encP) .any] _
  rw [RpL]
  exact ⟨_, [], rfl, hs, by rw [RpL]⟩
theorem open_levels2 {fuel : Nat} {cs : List Value} {d : DataW H} {ps : List MemPlace} (hb : Rows.uptoBulk d ≤ 1048576) (h : DataW.trod enc Tryz.prog w base sp held fuel 24 cs = some (d, ps)) : ∃ v ls, cs = [v] ∧ Rp rho0 w (Lvs ls) v ∧ ls.length ≤ 1048576 ∧ ∀ l, l ∈ ls → okL l ∧ l.length ≤ 1048576 := by
  obtain ⟨v, xs, k0, hs, hl, hm⟩ := open_sl encL (sz := 1) Tryz.underlying24 (by kernel_rfl) (by omega) (fun x => ⟨rfl, rfl⟩) (fun m l => okL l ∧ l.length ≤ m) hb (fun f ecs de p _ hlt he => (open_level2 (by omega) he).imp fun _ h => h) (fun _ _ _ h1 h2 => ⟨h2.1, Nat.le_trans h2.2 h1⟩) h
  exact ⟨v, xs, k0, hs, by omega, fun l hl => by have := hm l hl; exact ⟨this.1, by omega⟩⟩
theorem term_under : Tryz.prog.underlying 27 = some (.struct (Tryz.prog.fieldsOf 27)) := by kernel_rfl
theorem kind_under : Tryz.prog.underlying 23 = some (.int .i64) := by kernel_rfl
theorem encT_ones (t : T) : (encT t).cells.all D.one = true := by rw [encT_cells]; rfl
variable {W : World} {b0 : Nat} {v : Value} {d : DataW H} {p : List MemPlace}
theorem argI (hv : Value.okWide Tryz.prog W .any base 3 v) (h : DataW.Trod enc Tryz.prog W b0 sp held 3 v d p) : ∃ n : Int, Rp rho0 W (.int .i64 n) v ∧ I64 n := by
  obtain ⟨n, rfl⟩ := Go.WideShapes.okWide_int Tryz.underlying3 hv
  obtain ⟨fuel, hf⟩ := h
  obtain ⟨n', hn, hb⟩ := trod_int Tryz.underlying3 hf
  have hn : ([Value.int .i64 n] : List Value) = [.int .i64 n'] := hn
  have : n = n' := by simpa using hn
  subst this
  exact ⟨n, by rw [Rp]; exact ⟨rfl, hb⟩, ok_bounds hb⟩
end
end Go.Proofs.YtebmlojhdnldgaaGreatDoor

namespace Go.Proofs.YtebmlojhdnldgaaGreatDoor
set_option linter.unusedSimpArgs false
set_option linter.unusedVariables false
open Go.RowKit Go.WideShapes Go.ChangeShapes
set_option maxRecDepth 100000
def ZB : Nat := 1099512676353
theorem lvSz_le : ∀ (ls : List LV), (∀ l, l ∈ ls → l.length ≤ 1048576) → lvSz ls ≤ ls.length * 1048577
  | [], _ => by simp [lvSz]
  | l :: r, h => by
    rw [lvSz, List.length_cons]
    have := h l (List.mem_cons_self ..)
    have := lvSz_le r fun x hx => h x (List.mem_cons_of_mem _ hx)
    omega
theorem tszs_le : ∀ (ks : List T), (∀ t, t ∈ ks → t.tsz ≤ t.nsz * ZB) → T.tszs ks ≤ T.nszs ks * ZB
  | [], _ => by simp [T.tszs]
  | t :: r, h => by
    rw [T.tszs, T.nszs, Nat.add_mul]
    have := h t (List.mem_cons_self ..)
    have := tszs_le r fun x hx => h x (List.mem_cons_of_mem _ hx)
    omega
theorem cosz_le : ∀ (l : List C), (∀ c, c ∈ l → c.ty.tsz ≤ c.ty.nsz * ZB ∧ c.bo.tsz ≤ c.bo.nsz * ZB) → cosz l ≤ l.length + 2 * ((l.map fun c => max c.ty.nsz c.bo.nsz).sum * ZB)
  | [], _ => by simp [cosz]
  | c :: r, h => by
    rw [cosz, List.length_cons, List.map_cons, List.sum_cons, Nat.add_mul]
    obtain ⟨h1, h2⟩ := h c (List.mem_cons_self ..)
    have := cosz_le r fun x hx => h x (List.mem_cons_of_mem _ hx)
    have h3 : c.ty.nsz * ZB ≤ (max c.ty.nsz c.bo.nsz) * ZB := Nat.mul_le_mul_right _ (Nat.le_max_left ..)
    have h4 : c.bo.nsz * ZB ≤ (max c.ty.nsz c.bo.nsz) * ZB := Nat.mul_le_mul_right _ (Nat.le_max_right ..)
    omega
theorem trod_bool {H : Type} {enc : TypeId × Value → H} {P : Program} {w : World} {base : Nat} {sp : Nat → Bool} {held : Bool} {fuel : Nat} {t : TypeId} {cs : List Value} {d : DataW H} {ps : List MemPlace} (ht : P.underlying t = some .bool) (h : DataW.trod enc P w base sp held fuel t cs = some (d, ps)) : ∃ b, cs = [.bool b] := by
  cases fuel with
  | zero => simp [DataW.trod] at h
  | succ fuel =>
    unfold DataW.trod at h
    rw [ht] at h
    rcases cs with _ | ⟨v, _ | ⟨v2, r⟩⟩
    · simp at h
    · cases v <;> simp at h
      exact ⟨_, rfl⟩
    · simp at h
theorem len12 {l : List Value} (h : l.length = 12) : ∃ a b c d e f g i j k m n, l = [a, b, c, d, e, f, g, i, j, k, m, n] := by
  rcases l with _ | ⟨a, _ | ⟨b, r⟩⟩
  · cases h
  · simp at h
  rcases r with _ | ⟨c, _ | ⟨d, _ | ⟨e, _ | ⟨f, _ | ⟨g, r⟩⟩⟩⟩⟩
  · simp at h
  · simp at h
  · simp at h
  · simp at h
  · simp at h
  obtain ⟨i, j, k, m, n, rfl⟩ := len5 (l := r) (by simpa using h)
  exact ⟨a, b, c, d, e, f, g, i, j, k, m, n, rfl⟩
section
variable {H : Type} {enc : TypeId × Value → H} {w : World} {base : Nat} {sp : Nat → Bool} {held : Bool}
theorem open_term3 : ∀ (fuel : Nat) {cs : List Value} {d : DataW H} {ps : List MemPlace}, Rows.uptoBulk d ≤ 1048576 → DataW.trod enc Tryz.prog w base sp held fuel 27 cs = some (d, ps) → ∃ t : T, RpL rho0 w (encT t).cells cs ∧ okT t ∧ t.nsz ≤ Rows.uptoBulk d ∧ t.tsz ≤ t.nsz * ZB := by
  intro fuel
  induction fuel using Nat.strongRecOn with
  | ind fuel ih =>
    intro cs d ps hb h
    obtain ⟨h1, h2⟩ := trod_fields (l := [(23, 0), (3, 1), (3, 2), (24, 3), (25, 4)]) term_under (by kernel_rfl) h
    rw [show Tryz.prog.cellsOf 27 = 5 from by kernel_rfl] at h1
    obtain ⟨f0, d0, p0, -, -, e0⟩ := h2 0 _ _ rfl
    obtain ⟨f1, d1, p1, -, -, e1⟩ := h2 1 _ _ rfl
    obtain ⟨f2, d2, p2, -, -, e2⟩ := h2 2 _ _ rfl
    obtain ⟨f3, d3, p3, -, hb3, e3⟩ := h2 3 _ _ rfl
    obtain ⟨f4, d4, p4, hf4, hb4, e4⟩ := h2 4 _ _ rfl
    rw [show Tryz.prog.cellsOf 3 = 1 from by kernel_rfl] at e1 e2
    rw [show Tryz.prog.cellsOf 23 = 1 from by kernel_rfl] at e0
    rw [show Tryz.prog.cellsOf 24 = 1 from by kernel_rfl] at e3
    rw [show Tryz.prog.cellsOf 25 = 1 from by kernel_rfl] at e4
    obtain ⟨c0, c1, c2, c3, c4, rfl⟩ := len5 h1
    obtain ⟨n0, k0, b0⟩ := trod_int kind_under e0
    obtain ⟨n1, k1, b1⟩ := trod_int Tryz.underlying3 e1
    obtain ⟨n2, k2, b2⟩ := trod_int Tryz.underlying3 e2
    obtain ⟨v3, ls, k3, hl, ll, hls⟩ := open_levels2 (by omega) e3
    obtain ⟨v4, ks, k4, hk, lk, hks, hsum⟩ := open_sl2 encT (sz := 5) Tryz.underlying25 (by kernel_rfl) (by omega) (fun x => ⟨encT_size x, encT_ones x⟩) (fun m t => okT t ∧ t.nsz ≤ m ∧ t.tsz ≤ t.nsz * ZB) (by omega)
      (fun f ecs de p hf hlt he => (ih f (by omega) (by omega) he).imp fun _ h => h) (fun x m n hmn hx => ⟨hx.1, by omega, hx.2.2⟩) e4
    simp at k0 k1 k2 k3 k4
    subst k0; subst k1; subst k2; subst k3; subst k4
    refine ⟨.mk n0 n1 n2 ls ks, ?_, .mk (ok_bounds b0) (ok_bounds b1) (ok_bounds b2) (by unfold LMax; omega) (fun l h => (hls l h).1) (by unfold LMax; omega) (fun t h => (hks t h).1), ?_, ?_⟩
    · rw [encT_cells]
      simp only [T.k_mk, T.n_mk, T.a_mk, T.ls_mk, T.ks_mk]
      refine RpL_cons'.2 ⟨by rw [Rp]; exact ⟨rfl, b0⟩, RpL_cons'.2 ⟨by rw [Rp]; exact ⟨rfl, b1⟩, RpL_cons'.2 ⟨by rw [Rp]; exact ⟨rfl, b2⟩, RpL_cons'.2 ⟨hl, RpL_cons'.2 ⟨hk, by rw [RpL]⟩⟩⟩⟩⟩
    · rw [T.nsz, nszs_sum]
      have := hsum T.nsz (fun x m h => h.2.1)
      omega
    · rw [T.nsz, T.tsz, Nat.add_mul]
      have a1 := lvSz_le ls fun l h => (hls l h).2
      have a2 := tszs_le ks fun t h => (hks t h).2.2
      have a3 : ls.length * 1048577 ≤ 1048576 * 1048577 := Nat.mul_le_mul_right _ ll
      have : 1 * ZB = 1099512676353 := rfl
      omega
theorem core_under : Tryz.prog.underlying 46 = some (.struct (Tryz.prog.fieldsOf 46)) := by kernel_rfl
theorem encC_ones (c : C) : (encC c).cells.all D.one = true := by rw [encC_cells]; rfl
theorem open_core {fuel : Nat} {cs : List Value} {d : DataW H} {ps : List MemPlace} (hb : Rows.uptoBulk d ≤ 1048576) (h : DataW.trod enc Tryz.prog w base sp held fuel 46 cs = some (d, ps)) : ∃ c : C, RpL rho0 w (encC c).cells cs ∧ okC c ∧ max c.ty.nsz c.bo.nsz ≤ Rows.uptoBulk d ∧ c.ty.tsz ≤ c.ty.nsz * ZB ∧ c.bo.tsz ≤ c.bo.nsz * ZB := by
  obtain ⟨h1, h2⟩ := trod_fields (l := [(3, 0), (27, 1), (4, 6), (27, 7)]) core_under (by kernel_rfl) h
  rw [show Tryz.prog.cellsOf 46 = 12 from by kernel_rfl] at h1
  obtain ⟨f0, d0, p0, -, -, e0⟩ := h2 0 _ _ rfl
  obtain ⟨f1, d1, p1, -, hb1, e1⟩ := h2 1 _ _ rfl
  obtain ⟨f2, d2, p2, -, -, e2⟩ := h2 2 _ _ rfl
  obtain ⟨f3, d3, p3, -, hb3, e3⟩ := h2 3 _ _ rfl
  rw [show Tryz.prog.cellsOf 3 = 1 from by kernel_rfl] at e0
  rw [show Tryz.prog.cellsOf 4 = 1 from by kernel_rfl] at e2
  rw [show Tryz.prog.cellsOf 27 = 5 from by kernel_rfl] at e1 e3
  obtain ⟨a, b, c, d, e, f, g, i, j, k, m, n, rfl⟩ := len12 h1
  obtain ⟨n0, k0, b0⟩ := trod_int Tryz.underlying3 e0
  obtain ⟨t1, r1, o1, s1, z1⟩ := open_term3 f1 (by omega) e1
  obtain ⟨b2, k2⟩ := trod_bool Tryz.underlying4 e2
  obtain ⟨t3, r3, o3, s3, z3⟩ := open_term3 f3 (by omega) e3
  simp at k0 k2
  subst k0; subst k2
  refine ⟨⟨n0, t1, b2, t3⟩, ?_, ⟨ok_bounds b0, o1, o3⟩, by have := Nat.max_le.2 ⟨Nat.le_of_lt (Nat.lt_of_le_of_lt s1 hb1), Nat.le_of_lt (Nat.lt_of_le_of_lt s3 hb3)⟩; exact this, z1, z3⟩
  rw [encT_cells] at r1 r3
  have r1 : RpL rho0 w _ [b, c, d, e, f] := r1
  have r3 : RpL rho0 w _ [i, j, k, m, n] := r3
  rw [RpL_cons', RpL_cons', RpL_cons', RpL_cons', RpL_cons'] at r1 r3
  obtain ⟨q1, q2, q3, q4, q5, -⟩ := r1
  obtain ⟨u1, u2, u3, u4, u5, -⟩ := r3
  rw [encC_cells]
  refine RpL_cons'.2 ⟨by rw [Rp]; exact ⟨rfl, b0⟩, RpL_cons'.2 ⟨q1, RpL_cons'.2 ⟨q2, RpL_cons'.2 ⟨q3, RpL_cons'.2 ⟨q4, RpL_cons'.2 ⟨q5, RpL_cons'.2 ⟨by rw [Rp], RpL_cons'.2 ⟨u1, RpL_cons'.2 ⟨u2, RpL_cons'.2 ⟨u3, RpL_cons'.2 ⟨u4, RpL_cons'.2 ⟨u5, by rw [RpL]⟩⟩⟩⟩⟩⟩⟩⟩⟩⟩⟩⟩
theorem open_cores {fuel : Nat} {cs : List Value} {d : DataW H} {ps : List MemPlace} (hb : Rows.uptoBulk d ≤ 1048576) (h : DataW.trod enc Tryz.prog w base sp held fuel 22 cs = some (d, ps)) :
    ∃ v l, cs = [v] ∧ Rp rho0 w (Cs l) v ∧ okCs l ∧ (cosz l : Int) ≤ QB := by
  obtain ⟨v, l, k, hs, hl, hd, hsum⟩ := open_sl2 encC (sz := 12) Tryz.underlying22 (by kernel_rfl) (by omega) (fun x => ⟨encC_size x, encC_ones x⟩) (fun m c => okC c ∧ max c.ty.nsz c.bo.nsz ≤ m ∧ c.ty.tsz ≤ c.ty.nsz * ZB ∧ c.bo.tsz ≤ c.bo.nsz * ZB) hb
    (fun f ecs de p hf hlt he => (open_core (by omega) he).imp fun _ h => h) (fun x m n hmn hx => ⟨hx.1, Nat.le_trans hx.2.1 hmn, hx.2.2⟩) h
  refine ⟨v, l, k, hs, ⟨by unfold LMax; omega, fun c hc => (hd c hc).1, fun c hc => ?_, fun c hc => ?_⟩, ?_⟩
  · have := (hd c hc).2.1
    have := Nat.le_max_right c.ty.nsz c.bo.nsz
    omega
  · have := (hd c hc).2.1
    have := Nat.le_max_left c.ty.nsz c.bo.nsz
    omega
  · have a1 := cosz_le l fun c hc => (hd c hc).2.2
    have a2 := hsum (fun c => max c.ty.nsz c.bo.nsz) (fun x m h => h.2.1)
    have a3 : (l.map fun c => max c.ty.nsz c.bo.nsz).sum * ZB ≤ 1048575 * 1099512676353 := Nat.mul_le_mul_right _ (by omega)
    unfold QB
    omega
variable {W : World} {b0 : Nat} {v : Value} {d : DataW H} {p : List MemPlace}
set_option maxRecDepth 100000 in
theorem argT3 (hk : Rows.uptoBulk d ≤ 1048576) (hv : Value.okWide Tryz.prog W .any base 27 v) (h : DataW.Trod enc Tryz.prog W b0 sp held 27 v d p) : ∃ t : T, Rp rho0 W (encT t) v ∧ okT t ∧ t.nsz ≤ 1048576 ∧ (t.tsz : Int) < QB := by
  obtain ⟨cs, rfl⟩ := arg_agg term_under hv
  obtain ⟨fuel, hf⟩ := h
  obtain ⟨t, ht, h1, h2, h3⟩ := open_term3 fuel hk hf
  refine ⟨t, ?_, h1, by omega, ?_⟩
  · rw [encT_cells] at ht
    rw [encT_eq, Rp]
    exact ⟨_, (by cases cs; rfl), ht⟩
  · have a3 : t.nsz * ZB ≤ 1048576 * 1099512676353 := Nat.mul_le_mul_right _ (by omega)
    unfold QB
    omega
theorem argCs (hk : Rows.uptoBulk d ≤ 1048576) (hv : Value.okWide Tryz.prog W .any base 22 v) (h : DataW.Trod enc Tryz.prog W b0 sp held 22 v d p) : ∃ l : List C, Rp rho0 W (Cs l) v ∧ okCs l ∧ (cosz l : Int) ≤ QB := by
  obtain ⟨a, len, cap, rfl⟩ := okWide_slice Tryz.underlying22 hv
  obtain ⟨fuel, hf⟩ := h
  obtain ⟨v', ls, he, hr, hl, hm⟩ := open_cores hk hf
  have : v' = .slice a len cap := by
    have : ([Value.slice a len cap] : List Value) = [v'] := he
    simpa using this.symm
  subst this
  exact ⟨ls, hr, hl, hm⟩
end
end Go.Proofs.YtebmlojhdnldgaaGreatDoor

