/-
  MV8: the texts Kct Htf Ccm Ccw Ccr Tl2 Tl3 C5 Hg Hvp Cvi, one behind the other.
-/
import Derived.Test.YtebmlojhdnldgaaGreatDoorMV7
namespace Go.Proofs.YtebmlojhdnldgaaGreatDoor
set_option linter.unusedSimpArgs false
set_option linter.unusedVariables false
set_option maxHeartbeats 10000000
set_option maxRecDepth 20000
open Go.RowKit
attribute [local simp] wpAft_ret wpAft_pan wantD evOp opD tmOf putS updS setS hOf isFree isTok fillD TK.isAgg TK.known partD thenD blockD putAll D.ofV inB nilTest isNilS binX binD binE isCst bndD capB IntKind.min IntKind.max IntKind.signed IntKind.bits dstOf late
def cntF {α : Type} (step : α → Int → Int) (q : Int) : List α → Int → Int
  | [], n => n
  | x :: r, n => if n ≤ q then cntF step q r (step x n) else n
def lvOf (q : Int) (l : LV) : Int := min (IntKind.i64.wrap (1 + (l.length : Int))) (IntKind.i64.wrap (q + 1))
theorem lvOf_spec (l : LV) (q : Int) : Spec Tryz.prog glob 112 [encL l, .int .i64 q] [] (fun o _ => o.fgt = .ret (.int .i64 (lvOf q l))) := by
  refine Spec.movd globPure (wpD_spec tyOK Tryz.func112 rfl (enters _ _ Tryz.func112 rfl (by decide)) rfl rfl ?_)
  unfold encL
  (refine wpD_seqk fun K hK => ?_; refine wpD_region tyOK ?_; ((repeat (rw [wpS_cons]; simp)); (try simp only [wpS_nil, thenD, blockD])); refine hK _ _ _ ?_; clear hK K)
  (refine wpD_seqk fun K hK => ?_; refine wpD_region tyOK ?_; ((repeat (rw [wpS_cons]; simp)); (try simp only [wpS_nil, thenD, blockD])); refine hK _ _ _ ?_; clear hK K)
  (refine wpD_ret ?_; (try simp only [thenD, blockD]); refine EndQ.ret rfl (.inl ?_); simp [tmOf, Out.fgt, D.fgt, D.fgts])
  rfl
theorem lvsOf_gen (l : List (LV)) (q : Int) (step : LV → Int → Int) (hl : l.length ≤ LMax) (hst : ∀ x s, step x s = IntKind.i64.wrap (s + lvOf q x)) (hg : ∀ x, x ∈ l → ∀ s : Int, Spec Tryz.prog glob 112 [encL x, .int .i64 q] [] (fun o _ => o.fgt = .ret (.int .i64 (lvOf q x)))) :
    Spec Tryz.prog glob 67 [.slice (l.map encL) .any, .int .i64 q] [] (fun o _ => o.fgt = .ret (.int .i64 (cntF step q l 0))) := by
  obtain ⟨R, hR⟩ : ∃ R, R = cntF step q l 0 := ⟨_, rfl⟩
  rw [← hR]
  have hl0 := hl
  unfold LMax at hl0
  refine Spec.movd globPure (wpD_spec tyOK Tryz.func67 rfl (enters _ _ Tryz.func67 rfl (by decide)) rfl rfl ?_)
  (refine wpD_seqk fun K hK => ?_; refine wpD_region tyOK ?_; ((repeat (rw [wpS_cons]; simp)); (try simp only [wpS_nil, thenD, blockD])); refine hK _ _ _ ?_; clear hK K)
  (refine wpD_seqk fun K hK => ?_; refine wpD_region tyOK ?_; ((repeat (rw [wpS_cons]; simp)); (try simp only [wpS_nil, thenD, blockD])); refine hK _ _ _ ?_; clear hK K)
  refine wpD_seqk fun K1 hK1 => ?_
  (refine wpD_seqk fun K hK => ?_; refine wpD_region tyOK ?_; ((repeat (rw [wpS_cons]; simp)); (try simp only [wpS_nil, thenD, blockD])); refine hK _ _ _ ?_; clear hK K)
  refine wpD_block ?_
  refine wpD_loopWJ [7, 8, 9, 10, 11, 12, 13, 14, 15, 16, 17, 18, 19, 20, 21, 22, 23, 24, 25] [5, 6] (fun n ys hl => ∃ (k : Nat) (s : Int), ys = [.int .i64 s, .int .i64 k] ∧ n + k = l.length ∧ R = cntF step q (l.drop k) s ∧ hl = []) (l.length) (by kernel_rfl) ?_ ?_
  · exact ⟨0, 0, rfl, rfl, hR, rfl⟩
  · rintro n ys hl A hA ⟨i, s, rfl, hn, hF, rfl⟩
    simp only [putAll, List.set, List.map_cons, List.map_nil, List.cons_append, List.nil_append]
    refine wpD_seqk fun K2 hK2 => ?_
    by_cases hi : i < l.length
    · have hi' : (i : Int) < l.length := by omega
      by_cases hs : s ≤ q
      · (refine wpD_seqk fun K hK => ?_; refine wpD_region tyOK ?_; ((repeat (rw [wpS_cons]; simp [hi, hi', hs])); (try simp only [wpS_nil, thenD, blockD])); refine hK _ _ _ ?_; clear hK K)
        refine wpD_part rfl (fun _ => ?_) (fun h => by simp at h)
        refine wpD_skip (hK2 _ _ _ ?_)
        clear hK2 K2
        refine wpD_seqk fun K3 hK3 => ?_
        refine wpD_block ?_
        rw [List.drop_eq_getElem_cons hi, cntF, if_pos hs] at hF
        have hrec := hg l[i] (List.getElem_mem hi) s
        obtain ⟨x, hx⟩ : ∃ x, l[i] = x := ⟨_, rfl⟩
        rw [hx] at hrec hF
        unfold encL at hrec
        obtain ⟨v, hv⟩ : ∃ v, lvOf q x = v := ⟨_, rfl⟩
        rw [hv] at hrec
        rw [hst, hv] at hF
        (refine wpD_region tyOK ?_; ((repeat (rw [wpS_cons]; simp [hi, hi', hx, encL])); (try simp only [wpS_nil, thenD, blockD])))
        refine cXp (hrec) ?_
        ((try simp only [wpAft_ret, wpAft_pan, putS, updS, setS]); (repeat (rw [wpS_cons]; simp)); (try simp only [wpS_nil, thenD, blockD]))
        refine hK3 _ _ _ ?_
        clear hK3 K3
        have hw1 : IntKind.i64.wrap ((i : Int) + 1) = (i : Int) + 1 := i64w (by omega) (by omega)
        (refine wpD_region tyOK ?_; ((repeat (rw [wpS_cons]; simp [hw1])); (try simp only [wpS_nil, thenD, blockD])))
        refine hA (n - 1) _ _ _ (LeT.refl _) (by omega) (by kernel_rfl) ?_
        exact ⟨i + 1, _, rfl, by omega, hF, rfl⟩
      · (refine wpD_seqk fun K hK => ?_; refine wpD_region tyOK ?_; ((repeat (rw [wpS_cons]; simp [hi, hi', hs])); (try simp only [wpS_nil, thenD, blockD])); refine hK _ _ _ ?_; clear hK K)
        refine wpD_part rfl (fun h => by simp at h) (fun _ => ?_)
        refine wpD_exit ?_
        refine hK1 _ _ _ ?_
        rw [List.drop_eq_getElem_cons hi, cntF, if_neg hs] at hF
        subst hF
        (refine wpD_seqk fun K hK => ?_; refine wpD_region tyOK ?_; ((repeat (rw [wpS_cons]; simp)); (try simp only [wpS_nil, thenD, blockD])); refine hK _ _ _ ?_; clear hK K)
        (refine wpD_ret ?_; (try simp only [thenD, blockD]); refine EndQ.ret rfl (.inl ?_); simp [tmOf, Out.fgt, D.fgt, D.fgts])
    · have hi' : ¬ (i : Int) < l.length := by omega
      (refine wpD_seqk fun K hK => ?_; refine wpD_region tyOK ?_; ((repeat (rw [wpS_cons]; simp [hi, hi'])); (try simp only [wpS_nil, thenD, blockD])); refine hK _ _ _ ?_; clear hK K)
      refine wpD_part rfl (fun h => by simp at h) (fun _ => ?_)
      refine wpD_exit ?_
      refine hK1 _ _ _ ?_
      rw [List.drop_of_length_le (by omega), cntF] at hF
      subst hF
      (refine wpD_seqk fun K hK => ?_; refine wpD_region tyOK ?_; ((repeat (rw [wpS_cons]; simp)); (try simp only [wpS_nil, thenD, blockD])); refine hK _ _ _ ?_; clear hK K)
      (refine wpD_ret ?_; (try simp only [thenD, blockD]); refine EndQ.ret rfl (.inl ?_); simp [tmOf, Out.fgt, D.fgt, D.fgts])
def lvsN (q : Int) (ls : List LV) : Int := cntF (fun x s => IntKind.i64.wrap (s + lvOf q x)) q ls 0
theorem lvsN_spec (ls : List LV) (q : Int) (hl : ls.length ≤ LMax) : Spec Tryz.prog glob 67 [.slice (ls.map encL) .any, .int .i64 q] [] (fun o _ => o.fgt = .ret (.int .i64 (lvsN q ls))) :=
  lvsOf_gen ls q _ hl (fun _ _ => rfl) (fun x _ _ => lvOf_spec x q)
mutual
def T.tof : T → Int → Int
  | .mk _ _ _ ls ks, q => IntKind.i64.wrap (IntKind.i64.wrap (1 + lvsN q ls) + T.tofs ks 0 q)
def T.tofs : List T → Int → Int → Int
  | [], n, _ => n
  | t :: r, n, q => if n ≤ q then T.tofs r (IntKind.i64.wrap (n + T.tof t (IntKind.i64.wrap (q - n)))) q else n
end
theorem tofs_cnt (q : Int) : ∀ (l : List T) (n : Int), T.tofs l n q = cntF (fun x s => IntKind.i64.wrap (s + T.tof x (IntKind.i64.wrap (q - s)))) q l n
  | [], n => by rw [T.tofs, cntF]
  | t :: r, n => by rw [T.tofs, cntF, tofs_cnt q r]
theorem tofs_gen (l : List (T)) (q : Int) (step : T → Int → Int) (hl : l.length ≤ LMax) (hst : ∀ x s, step x s = IntKind.i64.wrap (s + T.tof x (IntKind.i64.wrap (q - s)))) (hg : ∀ x, x ∈ l → ∀ s : Int, Spec Tryz.prog glob 36 [encT x, .int .i64 (IntKind.i64.wrap (q - s))] [] (fun o _ => o.fgt = .ret (.int .i64 (T.tof x (IntKind.i64.wrap (q - s)))))) :
    Spec Tryz.prog glob 61 [.slice (l.map encT) .any, .int .i64 q] [] (fun o _ => o.fgt = .ret (.int .i64 (cntF step q l 0))) := by
  obtain ⟨R, hR⟩ : ∃ R, R = cntF step q l 0 := ⟨_, rfl⟩
  rw [← hR]
  have hl0 := hl
  unfold LMax at hl0
  refine Spec.movd globPure (wpD_spec tyOK Tryz.func61 rfl (enters _ _ Tryz.func61 rfl (by decide)) rfl rfl ?_)
  (refine wpD_seqk fun K hK => ?_; refine wpD_region tyOK ?_; ((repeat (rw [wpS_cons]; simp)); (try simp only [wpS_nil, thenD, blockD])); refine hK _ _ _ ?_; clear hK K)
  (refine wpD_seqk fun K hK => ?_; refine wpD_region tyOK ?_; ((repeat (rw [wpS_cons]; simp)); (try simp only [wpS_nil, thenD, blockD])); refine hK _ _ _ ?_; clear hK K)
  refine wpD_seqk fun K1 hK1 => ?_
  (refine wpD_seqk fun K hK => ?_; refine wpD_region tyOK ?_; ((repeat (rw [wpS_cons]; simp)); (try simp only [wpS_nil, thenD, blockD])); refine hK _ _ _ ?_; clear hK K)
  refine wpD_block ?_
  refine wpD_loopWJ [7, 8, 9, 10, 11, 12, 13, 14, 15, 16, 17, 18, 19, 20, 21, 22, 23, 24, 25, 26, 27] [5, 6] (fun n ys hl => ∃ (k : Nat) (s : Int), ys = [.int .i64 s, .int .i64 k] ∧ n + k = l.length ∧ R = cntF step q (l.drop k) s ∧ hl = []) (l.length) (by kernel_rfl) ?_ ?_
  · exact ⟨0, 0, rfl, rfl, hR, rfl⟩
  · rintro n ys hl A hA ⟨i, s, rfl, hn, hF, rfl⟩
    simp only [putAll, List.set, List.map_cons, List.map_nil, List.cons_append, List.nil_append]
    refine wpD_seqk fun K2 hK2 => ?_
    by_cases hi : i < l.length
    · have hi' : (i : Int) < l.length := by omega
      by_cases hs : s ≤ q
      · (refine wpD_seqk fun K hK => ?_; refine wpD_region tyOK ?_; ((repeat (rw [wpS_cons]; simp [hi, hi', hs])); (try simp only [wpS_nil, thenD, blockD])); refine hK _ _ _ ?_; clear hK K)
        refine wpD_part rfl (fun _ => ?_) (fun h => by simp at h)
        refine wpD_skip (hK2 _ _ _ ?_)
        clear hK2 K2
        refine wpD_seqk fun K3 hK3 => ?_
        refine wpD_block ?_
        rw [List.drop_eq_getElem_cons hi, cntF, if_pos hs] at hF
        have hrec := hg l[i] (List.getElem_mem hi) s
        obtain ⟨x, hx⟩ : ∃ x, l[i] = x := ⟨_, rfl⟩
        rw [hx] at hrec hF
        have hEx := encT_eq x
        rw [hEx] at hrec
        rw [hst] at hF
        generalize T.tof x (IntKind.i64.wrap (q - s)) = v at hrec hF
        (refine wpD_region tyOK ?_; ((repeat (rw [wpS_cons]; simp [hi, hi', hx, hEx])); (try simp only [wpS_nil, thenD, blockD])))
        refine cXp (hrec) ?_
        ((try simp only [wpAft_ret, wpAft_pan, putS, updS, setS]); (repeat (rw [wpS_cons]; simp)); (try simp only [wpS_nil, thenD, blockD]))
        refine hK3 _ _ _ ?_
        clear hK3 K3
        have hw1 : IntKind.i64.wrap ((i : Int) + 1) = (i : Int) + 1 := i64w (by omega) (by omega)
        (refine wpD_region tyOK ?_; ((repeat (rw [wpS_cons]; simp [hw1])); (try simp only [wpS_nil, thenD, blockD])))
        refine hA (n - 1) _ _ _ (LeT.refl _) (by omega) (by kernel_rfl) ?_
        exact ⟨i + 1, _, rfl, by omega, hF, rfl⟩
      · (refine wpD_seqk fun K hK => ?_; refine wpD_region tyOK ?_; ((repeat (rw [wpS_cons]; simp [hi, hi', hs])); (try simp only [wpS_nil, thenD, blockD])); refine hK _ _ _ ?_; clear hK K)
        refine wpD_part rfl (fun h => by simp at h) (fun _ => ?_)
        refine wpD_exit ?_
        refine hK1 _ _ _ ?_
        rw [List.drop_eq_getElem_cons hi, cntF, if_neg hs] at hF
        subst hF
        (refine wpD_seqk fun K hK => ?_; refine wpD_region tyOK ?_; ((repeat (rw [wpS_cons]; simp)); (try simp only [wpS_nil, thenD, blockD])); refine hK _ _ _ ?_; clear hK K)
        (refine wpD_ret ?_; (try simp only [thenD, blockD]); refine EndQ.ret rfl (.inl ?_); simp [tmOf, Out.fgt, D.fgt, D.fgts])
    · have hi' : ¬ (i : Int) < l.length := by omega
      (refine wpD_seqk fun K hK => ?_; refine wpD_region tyOK ?_; ((repeat (rw [wpS_cons]; simp [hi, hi'])); (try simp only [wpS_nil, thenD, blockD])); refine hK _ _ _ ?_; clear hK K)
      refine wpD_part rfl (fun h => by simp at h) (fun _ => ?_)
      refine wpD_exit ?_
      refine hK1 _ _ _ ?_
      rw [List.drop_of_length_le (by omega), cntF] at hF
      subst hF
      (refine wpD_seqk fun K hK => ?_; refine wpD_region tyOK ?_; ((repeat (rw [wpS_cons]; simp)); (try simp only [wpS_nil, thenD, blockD])); refine hK _ _ _ ?_; clear hK K)
      (refine wpD_ret ?_; (try simp only [thenD, blockD]); refine EndQ.ret rfl (.inl ?_); simp [tmOf, Out.fgt, D.fgt, D.fgts])
theorem tof_spec (t : T) : ∀ q, okT t → Spec Tryz.prog glob 36 [encT t, .int .i64 q] [] (fun o _ => o.fgt = .ret (.int .i64 (t.tof q))) := by
  induction t using T.ind with
  | h k n a ls ks ih =>
    intro q ht
    have hks := ht.ks
    simp only [T.ks_mk] at hks
    have hL := lvsN_spec ls q ht.ll
    have hT := tofs_gen ks q _ ht.kl (fun _ _ => rfl) (fun x hx s => ih x hx _ (hks x hx))
    rw [← tofs_cnt] at hT
    have e : (T.mk k n a ls ks).tof q = IntKind.i64.wrap (IntKind.i64.wrap (1 + lvsN q ls) + T.tofs ks 0 q) := by rw [T.tof]
    rw [e]
    generalize lvsN q ls = v at hL ⊢
    generalize T.tofs ks 0 q = v2 at hT ⊢
    rw [encT_eq]
    simp only [T.k_mk, T.n_mk, T.a_mk, T.ls_mk, T.ks_mk]
    refine Spec.movd globPure (wpD_spec tyOK Tryz.func36 rfl (enters _ _ Tryz.func36 rfl (by decide)) rfl rfl ?_)
    (refine wpD_seqk fun K hK => ?_; refine wpD_region tyOK ?_; ((repeat (rw [wpS_cons]; simp)); (try simp only [wpS_nil, thenD, blockD])); refine hK _ _ _ ?_; clear hK K)
    (refine wpD_seqk fun K hK => ?_; refine wpD_drawk tyOK (by kernel_rfl) (by kernel_rfl) fun KT hKT => ?_; ((repeat (rw [wpT_cons]; simp)); (try simp only [wpT_nil])))
    refine cYp (hL) ?_
    ((try simp only [wpAftT_ret, wpAftT_pan, putS, updS, setS]); (repeat (rw [wpT_cons]; simp)); (try simp only [wpT_nil]))
    refine cYp (hT) ?_
    ((try simp only [wpAftT_ret, wpAftT_pan, putS, updS, setS]); (repeat (rw [wpT_cons]; simp)); (try simp only [wpT_nil]))
    (refine hKT _ _ _ _ (by kernel_rfl) ?_; clear hKT KT; (try simp only [thenD, blockD]))
    (refine hK _ _ _ ?_; clear hK K)
    (refine wpD_ret ?_; (try simp only [thenD, blockD]); refine EndQ.ret rfl (.inl ?_); simp [tmOf, Out.fgt, D.fgt, D.fgts])
theorem tofs_spec (l : List T) (q : Int) (hl : l.length ≤ LMax) (hls : ∀ x, x ∈ l → okT x) : Spec Tryz.prog glob 61 [.slice (l.map encT) .any, .int .i64 q] [] (fun o _ => o.fgt = .ret (.int .i64 (T.tofs l 0 q))) := by
  rw [tofs_cnt]
  exact tofs_gen l q _ hl (fun _ _ => rfl) (fun x hx s => tof_spec x _ (hls x hx))
end Go.Proofs.YtebmlojhdnldgaaGreatDoor

namespace Go.Proofs.YtebmlojhdnldgaaGreatDoor
set_option linter.unusedSimpArgs false
set_option linter.unusedVariables false
open Go.RowKit
def lvSz : List LV → Nat
  | [] => 0
  | l :: r => 1 + l.length + lvSz r
mutual
/-- how great a term is, its levels counted -/
def T.tsz : T → Nat
  | .mk _ _ _ ls ks => 1 + lvSz ls + T.tszs ks
def T.tszs : List T → Nat
  | [] => 0
  | t :: r => T.tsz t + T.tszs r
end
mutual
theorem nsz_tsz : ∀ t : T, t.nsz ≤ t.tsz
  | .mk _ _ _ ls ks => by rw [T.nsz, T.tsz]; have := nszs_tszs ks; omega
theorem nszs_tszs : ∀ ks : List T, T.nszs ks ≤ T.tszs ks
  | [] => by rw [T.nszs, T.tszs]; exact Nat.le_refl _
  | t :: r => by rw [T.nszs, T.tszs]; have := nsz_tsz t; have := nszs_tszs r; omega
end
def QB : Int := 4611686018427387904
theorem lvOf_law (l : LV) (q : Int) (hl : (l.length : Int) < QB) (hq : 0 ≤ q ∧ q ≤ QB) : 1 ≤ lvOf q l ∧ lvOf q l ≤ 1 + l.length ∧ (lvOf q l ≤ q → lvOf q l = 1 + l.length) := by
  unfold QB at hl hq
  unfold lvOf
  rw [i64w (by omega) (by omega), i64w (by omega) (by omega)]
  omega
theorem lvs_law (q : Int) (hq : 0 ≤ q ∧ q ≤ QB) : ∀ (ls : List LV) (s : Int), 0 ≤ s → s + (lvSz ls : Int) ≤ QB →
    s ≤ cntF (fun x s => IntKind.i64.wrap (s + lvOf q x)) q ls s ∧ cntF (fun x s => IntKind.i64.wrap (s + lvOf q x)) q ls s ≤ s + (lvSz ls : Int) ∧ (cntF (fun x s => IntKind.i64.wrap (s + lvOf q x)) q ls s ≤ q → cntF (fun x s => IntKind.i64.wrap (s + lvOf q x)) q ls s = s + (lvSz ls : Int))
  | [], s, h0, h1 => by simp only [cntF, lvSz]; omega
  | l :: r, s, h0, h1 => by
    rw [cntF]
    rw [lvSz] at h1 ⊢
    split
    · rename_i hs
      have hq2 := hq
      unfold QB at h1 hq2
      obtain ⟨a1, a2, a3⟩ := lvOf_law l q (by unfold QB; omega) hq
      rw [i64w (n := s + lvOf q l) (by omega) (by omega)]
      obtain ⟨b1, b2, b3⟩ := lvs_law q hq r (s + lvOf q l) (by omega) (by unfold QB; omega)
      refine ⟨by omega, by omega, fun h => ?_⟩
      have := b3 h
      have := a3 (by omega)
      omega
    · omega
mutual
theorem tof_law : ∀ (t : T) (q : Int), (t.tsz : Int) ≤ QB → 0 ≤ q ∧ q ≤ QB → 1 ≤ t.tof q ∧ t.tof q ≤ t.tsz ∧ (t.tof q ≤ q → t.tof q = t.tsz)
  | .mk k n a ls ks, q, ht, hq => by
    rw [T.tsz] at ht
    have ht2 := ht
    have hq2 := hq
    unfold QB at ht2 hq2
    obtain ⟨a1, a2, a3⟩ := lvs_law q hq ls 0 (by omega) (by unfold QB; omega)
    obtain ⟨b1, b2, b3⟩ := tofs_law ks 0 q (by omega) (by unfold QB; omega) hq
    rw [T.tof, T.tsz]
    unfold lvsN
    generalize cntF (fun x s => IntKind.i64.wrap (s + lvOf q x)) q ls 0 = v at a1 a2 a3
    rw [i64w (n := 1 + v) (by omega) (by omega), i64w (by omega) (by omega)]
    refine ⟨by omega, by omega, fun h => ?_⟩
    have := a3 (by omega)
    have := b3 (by omega)
    omega
theorem tofs_law : ∀ (ks : List T) (s q : Int), 0 ≤ s → s + (T.tszs ks : Int) ≤ QB → 0 ≤ q ∧ q ≤ QB → s ≤ T.tofs ks s q ∧ T.tofs ks s q ≤ s + (T.tszs ks : Int) ∧ (T.tofs ks s q ≤ q → T.tofs ks s q = s + (T.tszs ks : Int))
  | [], s, q, h0, h1, hq => by rw [T.tofs, T.tszs]; omega
  | t :: r, s, q, h0, h1, hq => by
    rw [T.tofs]
    rw [T.tszs] at h1 ⊢
    split
    · rename_i hs
      have h2 := h1
      have hq2 := hq
      unfold QB at h2 hq2
      rw [i64w (n := q - s) (by omega) (by omega)]
      obtain ⟨a1, a2, a3⟩ := tof_law t (q - s) (by unfold QB; omega) ⟨by omega, by unfold QB; omega⟩
      rw [i64w (n := s + t.tof (q - s)) (by omega) (by omega)]
      obtain ⟨b1, b2, b3⟩ := tofs_law r (s + t.tof (q - s)) q (by omega) (by unfold QB; omega) hq
      refine ⟨by omega, by omega, fun h => ?_⟩
      have := b3 h
      have := a3 (by omega)
      omega
    · omega
end
def cosz : List C → Nat
  | [] => 0
  | c :: r => 1 + c.ty.tsz + c.bo.tsz + cosz r
end Go.Proofs.YtebmlojhdnldgaaGreatDoor

namespace Go.Proofs.YtebmlojhdnldgaaGreatDoor
set_option linter.unusedSimpArgs false
set_option linter.unusedVariables false
set_option maxHeartbeats 10000000
set_option maxRecDepth 20000
open Go.RowKit
attribute [local simp] wpAft_ret wpAft_pan wantD evOp opD tmOf putS updS setS hOf isFree isTok fillD TK.isAgg TK.known partD thenD blockD putAll D.ofV inB nilTest isNilS binX binD binE isCst bndD capB IntKind.min IntKind.max IntKind.signed IntKind.bits dstOf late
def idxOf (b : Bool) : List Bool → Int → Int
  | [], _ => -1
  | x :: r, i => if b = x then i else idxOf b r (i + 1)
/-- which function asks for which kind -/
def coreAsk : List (Int × FuncId) := [(1, 90), (2, 91), (3, 92), (4, 93), (5, 93), (6, 93), (7, 94),
  (12, 93), (13, 93), (14, 95), (15, 95), (16, 93), (17, 93), (18, 96), (19, 94),
  (20, 97), (21, 98), (22, 99), (23, 100), (24, 101)]
def coreKeys : List D := coreAsk.map fun p => .int .i64 p.1
def coreVals : List D := coreAsk.map fun p => .fn (.func p.2) [] []
def coreMap : D := .mapc coreKeys coreVals
@[simp high] theorem coreMap_fgt : coreMap.fgt = coreMap := rfl
@[simp high] theorem coreMap_pure : coreMap.pure = true := by kernel_rfl
@[simp high] theorem coreMap_one : coreMap.one = true := rfl
@[simp high] theorem coreMap_cells : coreMap.cells = [coreMap] := rfl
@[simp high] theorem coreMap_size : coreMap.size = 1 := rfl
@[simp high] theorem coreMap_frz (bx : FK) (i : Nat) (x : D) : D.frz bx i x coreMap = coreMap := D.frz_pure bx i x _ coreMap_pure
@[simp high] theorem coreMap_low (m : Nat) : coreMap.low m = true := D.low_pure m _ coreMap_pure
@[simp high] theorem coreKeys_pure : D.pures coreKeys = true := by kernel_rfl
@[simp high] theorem coreVals_pure : D.pures coreVals = true := by kernel_rfl
@[simp high] theorem coreKeys_okN (p : Nat → Bool) : D.okNs p coreKeys = true := D.okNs_pure p _ coreKeys_pure
@[simp high] theorem coreVals_okN (p : Nat → Bool) : D.okNs p coreVals = true := D.okNs_pure p _ coreVals_pure
@[simp high] theorem coreKeys_ren (σ : Nat → Nat) : D.rens σ coreKeys = coreKeys := D.rens_pure σ _ coreKeys_pure
@[simp high] theorem coreVals_ren (σ : Nat → Nat) : D.rens σ coreVals = coreVals := D.rens_pure σ _ coreVals_pure
@[simp high] theorem coreMap_okN (p : Nat → Bool) : D.okN p coreMap = true := D.okN_pure p _ coreMap_pure
@[simp high] theorem coreMap_ren (σ : Nat → Nat) : D.ren σ coreMap = coreMap := D.ren_pure σ _ coreMap_pure
end Go.Proofs.YtebmlojhdnldgaaGreatDoor

namespace Go.Proofs.YtebmlojhdnldgaaGreatDoor
set_option linter.unusedSimpArgs false
set_option linter.unusedVariables false
set_option maxHeartbeats 10000000
set_option maxRecDepth 20000
open Go.RowKit
attribute [local simp] wpAft_ret wpAft_pan wantD evOp opD tmOf putS updS setS hOf isFree isTok fillD TK.isAgg TK.known partD thenD blockD putAll D.ofV inB nilTest isNilS binX binD binE isCst bndD capB IntKind.min IntKind.max IntKind.signed IntKind.bits dstOf late
end Go.Proofs.YtebmlojhdnldgaaGreatDoor

namespace Go.Proofs.YtebmlojhdnldgaaGreatDoor
set_option linter.unusedSimpArgs false
set_option linter.unusedVariables false
set_option maxHeartbeats 10000000
set_option maxRecDepth 20000
open Go.RowKit
attribute [local simp] wpAft_ret wpAft_pan wantD evOp opD tmOf putS updS setS hOf isFree isTok fillD TK.isAgg TK.known partD thenD blockD putAll D.ofV inB nilTest isNilS binX binD binE isCst bndD capB IntKind.min IntKind.max IntKind.signed IntKind.bits dstOf late
end Go.Proofs.YtebmlojhdnldgaaGreatDoor

namespace Go.Proofs.YtebmlojhdnldgaaGreatDoor
set_option linter.unusedSimpArgs false
set_option linter.unusedVariables false
set_option maxHeartbeats 10000000
set_option maxRecDepth 20000
open Go.RowKit
attribute [local simp] wpAft_ret wpAft_pan wantD evOp opD tmOf putS updS setS hOf isFree isTok fillD TK.isAgg TK.known partD thenD blockD putAll D.ofV inB nilTest isNilS binX binD binE isCst bndD capB IntKind.min IntKind.max IntKind.signed IntKind.bits dstOf late
def vT (n : Int) : T := .mk 1 n 0 [] []
theorem encT_mk (k n a : Int) (ls : List LV) (ks : List T) : encT (.mk k n a ls ks) = .agg [.int .i64 k, .int .i64 n, .int .i64 a, .slice (ls.map encL) .any, .slice (ks.map encT) .any] := encT_eq _
end Go.Proofs.YtebmlojhdnldgaaGreatDoor

namespace Go.Proofs.YtebmlojhdnldgaaGreatDoor
set_option linter.unusedSimpArgs false
set_option linter.unusedVariables false
set_option maxHeartbeats 10000000
set_option maxRecDepth 20000
open Go.RowKit
attribute [local simp] wpAft_ret wpAft_pan wantD evOp opD tmOf putS updS setS hOf isFree isTok fillD TK.isAgg TK.known partD thenD blockD putAll D.ofV inB nilTest isNilS binX binD binE isCst bndD capB IntKind.min IntKind.max IntKind.signed IntKind.bits dstOf late
end Go.Proofs.YtebmlojhdnldgaaGreatDoor

namespace Go.Proofs.YtebmlojhdnldgaaGreatDoor
set_option linter.unusedSimpArgs false
set_option linter.unusedVariables false
set_option maxHeartbeats 10000000
set_option maxRecDepth 20000
open Go.RowKit
attribute [local simp] wpAft_ret wpAft_pan wantD evOp opD tmOf putS updS setS hOf isFree isTok fillD TK.isAgg TK.known partD thenD blockD putAll D.ofV inB nilTest isNilS binX binD binE isCst bndD capB IntKind.min IntKind.max IntKind.signed IntKind.bits dstOf late
mutual
def T.dp : T → Int → Int
  | .mk _ _ _ _ ks, q => IntKind.i64.wrap ((if 0 < q then T.dps ks (IntKind.i64.wrap (q - 1)) 0 else 0) + 1)
def T.dps : List T → Int → Int → Int
  | [], _, s => s
  | t :: r, q, s => T.dps r q (max s (T.dp t q))
end
theorem deep_spec (t : T) : ∀ q, okT t → Spec Tryz.prog glob 34 [encT t, .int .i64 q] [] (fun o _ => o.fgt = .ret (.int .i64 (t.dp q))) := by
  induction t using T.ind with
  | h kk m a ls ks ih =>
  intro q ht
  have hkl : ks.length ≤ LMax := ht.kl
  have hks := ht.ks
  simp only [T.ks_mk] at hks
  unfold LMax at hkl
  have hR0 : T.dp (.mk kk m a ls ks) q = IntKind.i64.wrap ((if 0 < q then T.dps ks (IntKind.i64.wrap (q - 1)) 0 else 0) + 1) := by rw [T.dp]
  rw [hR0]
  rw [encT_eq]
  simp only [T.k_mk, T.n_mk, T.a_mk, T.ls_mk, T.ks_mk]
  refine Spec.movd globPure (wpD_spec tyOK Tryz.func34 rfl (enters _ _ Tryz.func34 rfl (by decide)) rfl rfl ?_)
  (refine wpD_seqk fun K hK => ?_; refine wpD_region tyOK ?_; ((repeat (rw [wpS_cons]; simp)); (try simp only [wpS_nil, thenD, blockD])); refine hK _ _ _ ?_; clear hK K)
  (refine wpD_seqk fun K hK => ?_; refine wpD_region tyOK ?_; ((repeat (rw [wpS_cons]; simp)); (try simp only [wpS_nil, thenD, blockD])); refine hK _ _ _ ?_; clear hK K)
  by_cases hq : 0 < q
  rotate_left
  · rw [if_neg hq]
    refine wpD_seqk fun K1 hK1 => ?_
    (refine wpD_seqk fun K hK => ?_; refine wpD_region tyOK ?_; ((repeat (rw [wpS_cons]; simp)); (try simp only [wpS_nil, thenD, blockD])); refine hK _ _ _ ?_; clear hK K)
    refine wpD_block ?_
    refine wpD_loopWJ [7, 8, 9, 10, 11, 12, 13, 14, 15, 16, 17, 18, 19, 20, 21, 22, 23, 24, 25, 26, 27] [5, 6] (fun n ys hl => ys = [.int .i64 0, .int .i64 0] ∧ n = 0 ∧ hl = [.cells 27 [.int .i64 kk, .int .i64 m, .int .i64 a, .slice (ls.map encL) .any, .slice (ks.map encT) .any]]) (0) (by kernel_rfl) ?_ ?_
    · exact ⟨rfl, rfl, rfl⟩
    · rintro n ys hl A hA ⟨rfl, -, rfl⟩
      simp only [putAll, List.set, List.map_cons, List.map_nil, List.cons_append, List.nil_append]
      refine wpD_seqk fun K2 hK2 => ?_
      by_cases h0 : 0 < ks.length
      · have h0' : (0 : Int) < ks.length := by omega
        (refine wpD_seqk fun K hK => ?_; refine wpD_region tyOK ?_; ((repeat (rw [wpS_cons]; simp [h0, h0', hq])); (try simp only [wpS_nil, thenD, blockD])); refine hK _ _ _ ?_; clear hK K)
        refine wpD_part rfl (fun h => by simp at h) (fun _ => ?_)
        refine wpD_exit ?_
        refine hK1 _ _ _ ?_
        (refine wpD_seqk fun K hK => ?_; refine wpD_region tyOK ?_; ((repeat (rw [wpS_cons]; simp)); (try simp only [wpS_nil, thenD, blockD])); refine hK _ _ _ ?_; clear hK K)
        (refine wpD_ret ?_; (try simp only [thenD, blockD]); refine EndQ.ret rfl (.inl ?_); simp [tmOf, Out.fgt, D.fgt, D.fgts])
      · have h0' : ¬ (0 : Int) < ks.length := by omega
        (refine wpD_seqk fun K hK => ?_; refine wpD_region tyOK ?_; ((repeat (rw [wpS_cons]; simp [h0, h0', hq])); (try simp only [wpS_nil, thenD, blockD])); refine hK _ _ _ ?_; clear hK K)
        refine wpD_part rfl (fun h => by simp at h) (fun _ => ?_)
        refine wpD_exit ?_
        refine hK1 _ _ _ ?_
        (refine wpD_seqk fun K hK => ?_; refine wpD_region tyOK ?_; ((repeat (rw [wpS_cons]; simp)); (try simp only [wpS_nil, thenD, blockD])); refine hK _ _ _ ?_; clear hK K)
        (refine wpD_ret ?_; (try simp only [thenD, blockD]); refine EndQ.ret rfl (.inl ?_); simp [tmOf, Out.fgt, D.fgt, D.fgts])
  rw [if_pos hq]
  obtain ⟨R, hR⟩ : ∃ R, R = T.dps ks (IntKind.i64.wrap (q - 1)) 0 := ⟨_, rfl⟩
  rw [← hR]
  refine wpD_seqk fun K1a hK1a => ?_
  (refine wpD_seqk fun K hK => ?_; refine wpD_region tyOK ?_; ((repeat (rw [wpS_cons]; simp)); (try simp only [wpS_nil, thenD, blockD])); refine hK _ _ _ ?_; clear hK K)
  refine wpD_block ?_
  refine wpD_loopWJ [7, 8, 9, 10, 11, 12, 13, 14, 15, 16, 17, 18, 19, 20, 21, 22, 23, 24, 25, 26, 27] [5, 6] (fun n ys hl => ∃ (k : Nat) (s : Int), ys = [.int .i64 s, .int .i64 k] ∧ n + k = ks.length ∧ R = T.dps (ks.drop k) (IntKind.i64.wrap (q - 1)) s ∧ hl = [.cells 27 [.int .i64 kk, .int .i64 m, .int .i64 a, .slice (ls.map encL) .any, .slice (ks.map encT) .any]]) (ks.length) (by kernel_rfl) ?_ ?_
  · exact ⟨0, 0, rfl, rfl, hR, rfl⟩
  · rintro n1 ys hl A1 hA1 ⟨i1, s, rfl, hn, hF, rfl⟩
    have hA := hA1
    simp only [putAll, List.set, List.map_cons, List.map_nil, List.cons_append, List.nil_append]
    refine wpD_seqk fun K1b hK1b => ?_
    by_cases hi1 : i1 < ks.length
    · have hi1' : (i1 : Int) < ks.length := by omega
      rw [List.drop_eq_getElem_cons hi1, T.dps] at hF
      have hrec := ih ks[i1] (List.getElem_mem hi1) (IntKind.i64.wrap (q - 1)) (hks _ (List.getElem_mem hi1))
      obtain ⟨x, hx⟩ : ∃ x, ks[i1] = x := ⟨_, rfl⟩
      rw [hx] at hrec hF
      have hEx := encT_eq x
      rw [hEx] at hrec
      generalize x.dp (IntKind.i64.wrap (q - 1)) = v at hrec hF
      (refine wpD_seqk fun K hK => ?_; refine wpD_region tyOK ?_; ((repeat (rw [wpS_cons]; simp [hi1, hi1', hq])); (try simp only [wpS_nil, thenD, blockD])); refine hK _ _ _ ?_; clear hK K)
      refine wpD_part rfl (fun _ => ?_) (fun h => by simp at h)
      refine wpD_skip (hK1b _ _ _ ?_)
      clear hK1b K1b
      refine wpD_seqk fun K1c hK1c => ?_
      refine wpD_block ?_
      (refine wpD_region tyOK ?_; ((repeat (rw [wpS_cons]; simp [hi1, hi1', hx, hEx])); (try simp only [wpS_nil, thenD, blockD])))
      refine cXp (hrec) ?_
      ((try simp only [wpAft_ret, wpAft_pan, putS, updS, setS]); (repeat (rw [wpS_cons]; simp)); (try simp only [wpS_nil, thenD, blockD]))
      refine hK1c _ _ _ ?_
      clear hK1c K1c
      have hw1 : IntKind.i64.wrap ((i1 : Int) + 1) = (i1 : Int) + 1 := i64w (by omega) (by omega)
      (refine wpD_region tyOK ?_; ((repeat (rw [wpS_cons]; simp [hw1])); (try simp only [wpS_nil, thenD, blockD])))
      refine hA (n1 - 1) _ _ _ (LeT.refl _) (by omega) (by kernel_rfl) ?_
      exact ⟨i1 + 1, _, rfl, by omega, hF, rfl⟩
    · have hi1' : ¬ (i1 : Int) < ks.length := by omega
      (refine wpD_seqk fun K hK => ?_; refine wpD_region tyOK ?_; ((repeat (rw [wpS_cons]; simp [hi1, hi1', hq])); (try simp only [wpS_nil, thenD, blockD])); refine hK _ _ _ ?_; clear hK K)
      refine wpD_part rfl (fun h => by simp at h) (fun _ => ?_)
      refine wpD_exit ?_
      refine hK1a _ _ _ ?_
      clear hK1b K1b
      rw [List.drop_of_length_le (by omega), T.dps] at hF
      subst hF
      (refine wpD_seqk fun K hK => ?_; refine wpD_region tyOK ?_; ((repeat (rw [wpS_cons]; simp)); (try simp only [wpS_nil, thenD, blockD])); refine hK _ _ _ ?_; clear hK K)
      (refine wpD_ret ?_; (try simp only [thenD, blockD]); refine EndQ.ret rfl (.inl ?_); simp [tmOf, Out.fgt, D.fgt, D.fgts])
end Go.Proofs.YtebmlojhdnldgaaGreatDoor

namespace Go.Proofs.YtebmlojhdnldgaaGreatDoor
set_option linter.unusedSimpArgs false
set_option linter.unusedVariables false
set_option maxHeartbeats 10000000
set_option maxRecDepth 20000
open Go.RowKit
attribute [local simp] wpAft_ret wpAft_pan wantD evOp opD tmOf putS updS setS hOf isFree isTok fillD TK.isAgg TK.known partD thenD blockD putAll D.ofV inB nilTest isNilS binX binD binE isCst bndD capB IntKind.min IntKind.max IntKind.signed IntKind.bits dstOf late
theorem coresOf_gen (l : List (C)) (q : Int) (step : C → Int → Int) (hl : l.length ≤ LMax) (hst : ∀ x s, step x s = IntKind.i64.wrap (IntKind.i64.wrap (IntKind.i64.wrap (s + 1) + x.ty.tof q) + x.bo.tof q)) (hg : ∀ x, x ∈ l → ∀ s : Int, okC x) :
    Spec Tryz.prog glob 35 [.slice (l.map encC) .any, .int .i64 q] [] (fun o _ => o.fgt = .ret (.int .i64 (cntF step q l 0))) := by
  obtain ⟨R, hR⟩ : ∃ R, R = cntF step q l 0 := ⟨_, rfl⟩
  rw [← hR]
  have hl0 := hl
  unfold LMax at hl0
  refine Spec.movd globPure (wpD_spec tyOK Tryz.func35 rfl (enters _ _ Tryz.func35 rfl (by decide)) rfl rfl ?_)
  (refine wpD_seqk fun K hK => ?_; refine wpD_region tyOK ?_; ((repeat (rw [wpS_cons]; simp)); (try simp only [wpS_nil, thenD, blockD])); refine hK _ _ _ ?_; clear hK K)
  (refine wpD_seqk fun K hK => ?_; refine wpD_region tyOK ?_; ((repeat (rw [wpS_cons]; simp)); (try simp only [wpS_nil, thenD, blockD])); refine hK _ _ _ ?_; clear hK K)
  refine wpD_seqk fun K1 hK1 => ?_
  (refine wpD_seqk fun K hK => ?_; refine wpD_region tyOK ?_; ((repeat (rw [wpS_cons]; simp)); (try simp only [wpS_nil, thenD, blockD])); refine hK _ _ _ ?_; clear hK K)
  refine wpD_block ?_
  refine wpD_loopWJ [7, 8, 9, 10, 11, 12, 13, 14, 15, 16, 17, 18, 19, 20, 21, 22, 23, 24, 25, 26, 27, 28, 29, 30, 31, 32, 33, 34, 35] [5, 6] (fun n ys hl => ∃ (k : Nat) (s : Int), ys = [.int .i64 s, .int .i64 k] ∧ n + k = l.length ∧ R = cntF step q (l.drop k) s ∧ hl = []) (l.length) (by kernel_rfl) ?_ ?_
  · exact ⟨0, 0, rfl, rfl, hR, rfl⟩
  · rintro n ys hl A hA ⟨i, s, rfl, hn, hF, rfl⟩
    simp only [putAll, List.set, List.map_cons, List.map_nil, List.cons_append, List.nil_append]
    refine wpD_seqk fun K2 hK2 => ?_
    by_cases hi : i < l.length
    · have hi' : (i : Int) < l.length := by omega
      by_cases hs : s ≤ q
      · (refine wpD_seqk fun K hK => ?_; refine wpD_region tyOK ?_; ((repeat (rw [wpS_cons]; simp [hi, hi', hs])); (try simp only [wpS_nil, thenD, blockD])); refine hK _ _ _ ?_; clear hK K)
        refine wpD_part rfl (fun _ => ?_) (fun h => by simp at h)
        refine wpD_skip (hK2 _ _ _ ?_)
        clear hK2 K2
        refine wpD_seqk fun K3 hK3 => ?_
        refine wpD_block ?_
        rw [List.drop_eq_getElem_cons hi, cntF, if_pos hs] at hF
        have hrec := hg l[i] (List.getElem_mem hi) s
        obtain ⟨x, hx⟩ : ∃ x, l[i] = x := ⟨_, rfl⟩
        rw [hx] at hrec hF
        have hE := encC_eq x
        have ht1 := tof_spec x.ty q hrec.2.1
        have ht2 := tof_spec x.bo q hrec.2.2
        rw [encT_eq x.ty] at ht1
        rw [encT_eq x.bo] at ht2
        rw [hst] at hF
        generalize x.ty.tof q = v1 at ht1 hF
        generalize x.bo.tof q = v2 at ht2 hF
        (refine wpD_drawk tyOK (by kernel_rfl) (by kernel_rfl) fun KT hKT => ?_; ((repeat (rw [wpT_cons]; simp [hi, hi', hx, hE])); (try simp only [wpT_nil])))
        refine cYp (ht1) ?_
        ((try simp only [wpAftT_ret, wpAftT_pan, putS, updS, setS]); (repeat (rw [wpT_cons]; simp [hi, hi', hx, hE])); (try simp only [wpT_nil]))
        refine cYp (ht2) ?_
        ((try simp only [wpAftT_ret, wpAftT_pan, putS, updS, setS]); (repeat (rw [wpT_cons]; simp [hi, hi', hx, hE])); (try simp only [wpT_nil]))
        (refine hKT _ _ _ _ (by kernel_rfl) ?_; clear hKT KT; (try simp only [thenD, blockD]))
        refine hK3 _ _ _ ?_
        clear hK3 K3
        have hw1 : IntKind.i64.wrap ((i : Int) + 1) = (i : Int) + 1 := i64w (by omega) (by omega)
        (refine wpD_region tyOK ?_; ((repeat (rw [wpS_cons]; simp [hw1])); (try simp only [wpS_nil, thenD, blockD])))
        refine hA (n - 1) _ _ _ (LeT.refl _) (by omega) (by kernel_rfl) ?_
        exact ⟨i + 1, _, rfl, by omega, hF, rfl⟩
      · (refine wpD_seqk fun K hK => ?_; refine wpD_region tyOK ?_; ((repeat (rw [wpS_cons]; simp [hi, hi', hs])); (try simp only [wpS_nil, thenD, blockD])); refine hK _ _ _ ?_; clear hK K)
        refine wpD_part rfl (fun h => by simp at h) (fun _ => ?_)
        refine wpD_exit ?_
        refine hK1 _ _ _ ?_
        rw [List.drop_eq_getElem_cons hi, cntF, if_neg hs] at hF
        subst hF
        (refine wpD_seqk fun K hK => ?_; refine wpD_region tyOK ?_; ((repeat (rw [wpS_cons]; simp)); (try simp only [wpS_nil, thenD, blockD])); refine hK _ _ _ ?_; clear hK K)
        (refine wpD_ret ?_; (try simp only [thenD, blockD]); refine EndQ.ret rfl (.inl ?_); simp [tmOf, Out.fgt, D.fgt, D.fgts])
    · have hi' : ¬ (i : Int) < l.length := by omega
      (refine wpD_seqk fun K hK => ?_; refine wpD_region tyOK ?_; ((repeat (rw [wpS_cons]; simp [hi, hi'])); (try simp only [wpS_nil, thenD, blockD])); refine hK _ _ _ ?_; clear hK K)
      refine wpD_part rfl (fun h => by simp at h) (fun _ => ?_)
      refine wpD_exit ?_
      refine hK1 _ _ _ ?_
      rw [List.drop_of_length_le (by omega), cntF] at hF
      subst hF
      (refine wpD_seqk fun K hK => ?_; refine wpD_region tyOK ?_; ((repeat (rw [wpS_cons]; simp)); (try simp only [wpS_nil, thenD, blockD])); refine hK _ _ _ ?_; clear hK K)
      (refine wpD_ret ?_; (try simp only [thenD, blockD]); refine EndQ.ret rfl (.inl ?_); simp [tmOf, Out.fgt, D.fgt, D.fgts])
end Go.Proofs.YtebmlojhdnldgaaGreatDoor

namespace Go.Proofs.YtebmlojhdnldgaaGreatDoor
set_option linter.unusedSimpArgs false
set_option linter.unusedVariables false
open Go.RowKit
def finN (n : Int) : T := .mk 22 n 0 [] []
theorem okCs_nil : okCs [] := ⟨by unfold LMax; simp, (fun _ h => nomatch h), (fun _ h => nomatch h), (fun _ h => nomatch h)⟩
end Go.Proofs.YtebmlojhdnldgaaGreatDoor

namespace Go.Proofs.YtebmlojhdnldgaaGreatDoor
set_option linter.unusedSimpArgs false
set_option linter.unusedVariables false
set_option maxHeartbeats 10000000
set_option maxRecDepth 20000
open Go.RowKit
attribute [local simp] wpAft_ret wpAft_pan wantD evOp opD tmOf putS updS setS hOf isFree isTok fillD TK.isAgg TK.known partD thenD blockD putAll D.ofV inB nilTest isNilS binX binD binE isCst bndD capB IntKind.min IntKind.max IntKind.signed IntKind.bits dstOf late
def gr8 (c : C) : Bool := decide (60 < c.bo.dp 60) || decide (60 < c.ty.dp 60)
def coSt4 (c : C) (s : Int) : Int := IntKind.i64.wrap (IntKind.i64.wrap (IntKind.i64.wrap (s + 1) + c.ty.tof 400) + c.bo.tof 400)
theorem great8_spec (l : List C) (ts : List T) (hl : l.length ≤ LMax) (hls : ∀ c, c ∈ l → okC c) (hts : ts.length ≤ LMax) (htk : ∀ t, t ∈ ts → okT t) : ∃ b, Spec Tryz.prog glob 25 [Cs l, Ts ts] [] (fun o _ => o.fgt = .ret (.bool b)) := by
  have h : Spec Tryz.prog glob 35 [Cs l, .int .i64 400] [] (fun o _ => o.fgt = .ret (.int .i64 (cntF coSt4 400 l 0))) := coresOf_gen l 400 coSt4 hl (fun _ _ => rfl) (fun c hc _ => hls c hc)
  have h2 := tofs_spec ts 400 hts htk
  generalize cntF coSt4 400 l 0 = v at h
  generalize T.tofs ts 0 400 = w at h2
  obtain ⟨g, hg⟩ : ∃ g, g = decide (400 < IntKind.i64.wrap (v + w)) := ⟨_, rfl⟩
  obtain ⟨R2, hR2⟩ : ∃ R, R = ((l.take 400).any gr8 || g) := ⟨_, rfl⟩
  obtain ⟨R, hR⟩ : ∃ R, R = ((ts.any fun t => decide (60 < t.dp 60)) || R2) := ⟨_, rfl⟩
  refine ⟨R, ?_⟩
  have hl0 := hl
  have hts0 := hts
  unfold LMax at hl0 hts0
  have hE : ∀ c, encC c = .agg [.int .i64 c.lv, .int .i64 c.ty.k, .int .i64 c.ty.n, .int .i64 c.ty.a, .slice (c.ty.ls.map encL) .any, .slice (c.ty.ks.map encT) .any, .bool c.has, .int .i64 c.bo.k, .int .i64 c.bo.n, .int .i64 c.bo.a, .slice (c.bo.ls.map encL) .any, .slice (c.bo.ks.map encT) .any] := fun c => encC_eq c
  unfold Cs at h
  unfold Cs Ts
  refine Spec.movd globPure (wpD_spec tyOK Tryz.func25 rfl (enters _ _ Tryz.func25 rfl (by decide)) rfl rfl ?_)
  (refine wpD_seqk fun K hK => ?_; refine wpD_region tyOK ?_; ((repeat (rw [wpS_cons]; simp)); (try simp only [wpS_nil, thenD, blockD])); refine hK _ _ _ ?_; clear hK K)
  refine wpD_seqk fun K1a hK1a => ?_
  (refine wpD_seqk fun K hK => ?_; refine wpD_region tyOK ?_; ((repeat (rw [wpS_cons]; simp)); (try simp only [wpS_nil, thenD, blockD])); refine hK _ _ _ ?_; clear hK K)
  refine wpD_block ?_
  refine wpD_loopWJ [4, 7, 8, 9, 10, 11, 12, 13, 14, 15, 16, 17, 18] [5] (fun n ys hl => ∃ (k : Nat), ys = [.int .i64 k] ∧ n + k = ts.length ∧ R = (((ts.drop k).any fun t => decide (60 < t.dp 60)) || R2) ∧ hl = []) (ts.length) (by kernel_rfl) ?_ ?_
  · exact ⟨0, rfl, rfl, hR, rfl⟩
  · rintro n1 ys hl A1 hA1 ⟨i1, rfl, hn, hF, rfl⟩
    have hA := hA1
    simp only [putAll, List.set, List.map_cons, List.map_nil, List.cons_append, List.nil_append]
    refine wpD_seqk fun K1b hK1b => ?_
    by_cases hi1 : i1 < ts.length
    · have hi1' : (i1 : Int) < ts.length := by omega
      rw [List.drop_eq_getElem_cons hi1, List.any_cons] at hF
      have hrec := deep_spec ts[i1] 60 (htk _ (List.getElem_mem hi1))
      obtain ⟨x, hx⟩ : ∃ x, ts[i1] = x := ⟨_, rfl⟩
      rw [hx] at hrec hF
      have hEx := encT_eq x
      rw [hEx] at hrec
      generalize x.dp 60 = w at hrec hF
      (refine wpD_seqk fun K hK => ?_; refine wpD_region tyOK ?_; ((repeat (rw [wpS_cons]; simp [hi1, hi1'])); (try simp only [wpS_nil, thenD, blockD])); refine hK _ _ _ ?_; clear hK K)
      refine wpD_part rfl (fun _ => ?_) (fun h => by simp at h)
      refine wpD_skip (hK1b _ _ _ ?_)
      clear hK1b K1b
      refine wpD_seqk fun K1c hK1c => ?_
      refine wpD_block ?_
      by_cases hw : 60 < w
      · (refine wpD_seqk fun K hK => ?_; refine wpD_region tyOK ?_; ((repeat (rw [wpS_cons]; simp [hi1, hi1', hx, hEx])); (try simp only [wpS_nil, thenD, blockD])))
        refine cXp (hrec) ?_
        ((try simp only [wpAft_ret, wpAft_pan, putS, updS, setS]); (repeat (rw [wpS_cons]; simp [hw])); (try simp only [wpS_nil, thenD, blockD]))
        (refine hK _ _ _ ?_; clear hK K)
        refine wpD_part rfl (fun _ => ?_) (fun h => by simp at h)
        (refine wpD_seqk fun K hK => ?_; refine wpD_region tyOK ?_; ((repeat (rw [wpS_cons]; simp)); (try simp only [wpS_nil, thenD, blockD])); refine hK _ _ _ ?_; clear hK K)
        (refine wpD_ret ?_; (try simp only [thenD, blockD]); refine EndQ.ret rfl (.inl ?_); simp [tmOf, Out.fgt, D.fgt, D.fgts])
        rw [hF]; simp [hw]
      · (refine wpD_seqk fun K hK => ?_; refine wpD_region tyOK ?_; ((repeat (rw [wpS_cons]; simp [hi1, hi1', hx, hEx])); (try simp only [wpS_nil, thenD, blockD])))
        refine cXp (hrec) ?_
        ((try simp only [wpAft_ret, wpAft_pan, putS, updS, setS]); (repeat (rw [wpS_cons]; simp [hw])); (try simp only [wpS_nil, thenD, blockD]))
        (refine hK _ _ _ ?_; clear hK K)
        refine wpD_part rfl (fun h => by simp at h) (fun _ => ?_)
        refine wpD_skip (hK1c _ _ _ ?_)
        (try clear hK1c K1c)
        have hA := hA1
        have hw1 : IntKind.i64.wrap ((i1 : Int) + 1) = (i1 : Int) + 1 := i64w (by omega) (by omega)
        (refine wpD_region tyOK ?_; ((repeat (rw [wpS_cons]; simp [hw1])); (try simp only [wpS_nil, thenD, blockD])))
        refine hA (n1 - 1) _ _ _ (LeT.refl _) (by omega) (by kernel_rfl) ?_
        exact ⟨i1 + 1, rfl, by omega, by rw [hF]; simp [hw], rfl⟩
    · have hi1' : ¬ (i1 : Int) < ts.length := by omega
      (refine wpD_seqk fun K hK => ?_; refine wpD_region tyOK ?_; ((repeat (rw [wpS_cons]; simp [hi1, hi1'])); (try simp only [wpS_nil, thenD, blockD])); refine hK _ _ _ ?_; clear hK K)
      refine wpD_part rfl (fun h => by simp at h) (fun _ => ?_)
      refine wpD_exit ?_
      refine hK1a _ _ _ ?_
      (try clear hK1b K1b)
      rw [List.drop_of_length_le (by omega)] at hF
      have hF1 : R = ((l.take 400).any gr8 || g) := by rw [hF, ← hR2]; simp
      refine wpD_seqk fun K1a hK1a => ?_
      (refine wpD_seqk fun K hK => ?_; refine wpD_region tyOK ?_; ((repeat (rw [wpS_cons]; simp)); (try simp only [wpS_nil, thenD, blockD])); refine hK _ _ _ ?_; clear hK K)
      refine wpD_block ?_
      refine wpD_loopWJ [4, 19, 20, 21, 22, 23, 24, 25, 26, 27, 28, 29, 30, 31, 32, 33, 34, 35, 36, 37, 38, 39, 40, 41, 42, 43, 44] [6] (fun n ys hl => ∃ (k : Nat), ys = [.int .i64 k] ∧ n + k = l.length ∧ R = (((l.take 400).drop k).any gr8 || g) ∧ hl = []) (l.length) (by kernel_rfl) ?_ ?_
      · exact ⟨0, rfl, rfl, hF1, rfl⟩
      · rintro n1b ys hl A1b hA1b ⟨i, rfl, hnb, hF2, rfl⟩
        have hA := hA1b
        simp only [putAll, List.set, List.map_cons, List.map_nil, List.cons_append, List.nil_append]
        refine wpD_seqk fun K1b hK1b => ?_
        by_cases hi : i < l.length
        · have hi' : (i : Int) < l.length := by omega
          by_cases h6 : i < 400
          · have h6' : (i : Int) < 400 := by omega
            have hti : i < (l.take 400).length := by rw [List.length_take]; omega
            rw [List.drop_eq_getElem_cons hti, List.any_cons, List.getElem_take] at hF2
            obtain ⟨x, hx⟩ : ∃ x, l[i] = x := ⟨_, rfl⟩
            have hxo : okC x := by rw [← hx]; exact hls _ (List.getElem_mem hi)
            rw [hx] at hF2
            have hg1 : gr8 x = (decide (60 < x.bo.dp 60) || decide (60 < x.ty.dp 60)) := rfl
            rw [hg1] at hF2
            have d1 := deep_spec x.bo 60 hxo.2.2
            have d2 := deep_spec x.ty 60 hxo.2.1
            rw [encT_eq x.bo] at d1
            rw [encT_eq x.ty] at d2
            have hEx := hE x
            generalize x.bo.dp 60 = w1 at d1 hF2
            generalize x.ty.dp 60 = w2 at d2 hF2
            (refine wpD_seqk fun K hK => ?_; refine wpD_region tyOK ?_; ((repeat (rw [wpS_cons]; simp [hi, hi', h6, h6'])); (try simp only [wpS_nil, thenD, blockD])); refine hK _ _ _ ?_; clear hK K)
            refine wpD_part rfl (fun _ => ?_) (fun h => by simp at h)
            refine wpD_skip (hK1b _ _ _ ?_)
            clear hK1b K1b
            refine wpD_seqk fun K1c hK1c => ?_
            refine wpD_block ?_
            by_cases hw : 60 < w1
            · (refine wpD_seqk fun K hK => ?_; refine wpD_region tyOK ?_; ((repeat (rw [wpS_cons]; simp [hi, hi', hx, hEx])); (try simp only [wpS_nil, thenD, blockD])))
              refine cXp (d1) ?_
              ((try simp only [wpAft_ret, wpAft_pan, putS, updS, setS]); (repeat (rw [wpS_cons]; simp [hw])); (try simp only [wpS_nil, thenD, blockD]))
              (refine hK _ _ _ ?_; clear hK K)
              refine wpD_part rfl (fun _ => ?_) (fun h => by simp at h)
              (refine wpD_seqk fun K hK => ?_; refine wpD_region tyOK ?_; ((repeat (rw [wpS_cons]; simp)); (try simp only [wpS_nil, thenD, blockD])); refine hK _ _ _ ?_; clear hK K)
              (refine wpD_ret ?_; (try simp only [thenD, blockD]); refine EndQ.ret rfl (.inl ?_); simp [tmOf, Out.fgt, D.fgt, D.fgts])
              rw [hF2]; simp [hw]
            · by_cases hw2 : 60 < w2
              · (refine wpD_seqk fun K hK => ?_; refine wpD_region tyOK ?_; ((repeat (rw [wpS_cons]; simp [hi, hi', hx, hEx])); (try simp only [wpS_nil, thenD, blockD])))
                refine cXp (d1) ?_
                ((try simp only [wpAft_ret, wpAft_pan, putS, updS, setS]); (repeat (rw [wpS_cons]; simp [hi, hi', hx, hEx, hw])); (try simp only [wpS_nil, thenD, blockD]))
                refine cXp (d2) ?_
                ((try simp only [wpAft_ret, wpAft_pan, putS, updS, setS]); (repeat (rw [wpS_cons]; simp [hw, hw2])); (try simp only [wpS_nil, thenD, blockD]))
                (refine hK _ _ _ ?_; clear hK K)
                refine wpD_part rfl (fun _ => ?_) (fun h => by simp at h)
                (refine wpD_seqk fun K hK => ?_; refine wpD_region tyOK ?_; ((repeat (rw [wpS_cons]; simp)); (try simp only [wpS_nil, thenD, blockD])); refine hK _ _ _ ?_; clear hK K)
                (refine wpD_ret ?_; (try simp only [thenD, blockD]); refine EndQ.ret rfl (.inl ?_); simp [tmOf, Out.fgt, D.fgt, D.fgts])
                rw [hF2]; simp [hw, hw2]
              · (refine wpD_seqk fun K hK => ?_; refine wpD_region tyOK ?_; ((repeat (rw [wpS_cons]; simp [hi, hi', hx, hEx])); (try simp only [wpS_nil, thenD, blockD])))
                refine cXp (d1) ?_
                ((try simp only [wpAft_ret, wpAft_pan, putS, updS, setS]); (repeat (rw [wpS_cons]; simp [hi, hi', hx, hEx, hw])); (try simp only [wpS_nil, thenD, blockD]))
                refine cXp (d2) ?_
                ((try simp only [wpAft_ret, wpAft_pan, putS, updS, setS]); (repeat (rw [wpS_cons]; simp [hw, hw2])); (try simp only [wpS_nil, thenD, blockD]))
                (refine hK _ _ _ ?_; clear hK K)
                refine wpD_part rfl (fun h => by simp at h) (fun _ => ?_)
                refine wpD_skip (hK1c _ _ _ ?_)
                clear hK1c K1c
                have hw1 : IntKind.i64.wrap ((i : Int) + 1) = (i : Int) + 1 := i64w (by omega) (by omega)
                (refine wpD_region tyOK ?_; ((repeat (rw [wpS_cons]; simp [hw1])); (try simp only [wpS_nil, thenD, blockD])))
                refine hA (n1b - 1) _ _ _ (LeT.refl _) (by omega) (by kernel_rfl) ?_
                exact ⟨i + 1, rfl, by omega, by rw [hF2]; simp [hw, hw2], rfl⟩
          · have h6' : ¬ (i : Int) < 400 := by omega
            (refine wpD_seqk fun K hK => ?_; refine wpD_region tyOK ?_; ((repeat (rw [wpS_cons]; simp [hi, hi', h6, h6'])); (try simp only [wpS_nil, thenD, blockD])); refine hK _ _ _ ?_; clear hK K)
            refine wpD_part rfl (fun h => by simp at h) (fun _ => ?_)
            refine wpD_exit ?_
            refine hK1a _ _ _ ?_
            clear hK1b K1b
            rw [List.drop_of_length_le (by rw [List.length_take]; omega)] at hF2
            (refine wpD_seqk fun K hK => ?_; refine wpD_region tyOK ?_; ((repeat (rw [wpS_cons]; simp)); (try simp only [wpS_nil, thenD, blockD])))
            refine cXp (h) ?_
            ((try simp only [wpAft_ret, wpAft_pan, putS, updS, setS]); (repeat (rw [wpS_cons]; simp)); (try simp only [wpS_nil, thenD, blockD]))
            refine cXp (h2) ?_
            ((try simp only [wpAft_ret, wpAft_pan, putS, updS, setS]); (repeat (rw [wpS_cons]; simp)); (try simp only [wpS_nil, thenD, blockD]))
            (refine hK _ _ _ ?_; clear hK K)
            (refine wpD_ret ?_; (try simp only [thenD, blockD]); refine EndQ.ret rfl (.inl ?_); simp [tmOf, Out.fgt, D.fgt, D.fgts])
            rw [hF2, hg]; simp
        · have hi' : ¬ (i : Int) < l.length := by omega
          (refine wpD_seqk fun K hK => ?_; refine wpD_region tyOK ?_; ((repeat (rw [wpS_cons]; simp [hi, hi'])); (try simp only [wpS_nil, thenD, blockD])); refine hK _ _ _ ?_; clear hK K)
          refine wpD_part rfl (fun h => by simp at h) (fun _ => ?_)
          refine wpD_exit ?_
          refine hK1a _ _ _ ?_
          clear hK1b K1b
          rw [List.drop_of_length_le (by rw [List.length_take]; omega)] at hF2
          (refine wpD_seqk fun K hK => ?_; refine wpD_region tyOK ?_; ((repeat (rw [wpS_cons]; simp)); (try simp only [wpS_nil, thenD, blockD])))
          refine cXp (h) ?_
          ((try simp only [wpAft_ret, wpAft_pan, putS, updS, setS]); (repeat (rw [wpS_cons]; simp)); (try simp only [wpS_nil, thenD, blockD]))
          refine cXp (h2) ?_
          ((try simp only [wpAft_ret, wpAft_pan, putS, updS, setS]); (repeat (rw [wpS_cons]; simp)); (try simp only [wpS_nil, thenD, blockD]))
          (refine hK _ _ _ ?_; clear hK K)
          (refine wpD_ret ?_; (try simp only [thenD, blockD]); refine EndQ.ret rfl (.inl ?_); simp [tmOf, Out.fgt, D.fgt, D.fgts])
          rw [hF2, hg]; simp
theorem v8_spec (n : Int) : Spec Tryz.prog glob 59 [.int .i64 n] [] (fun o _ => o.fgt = .ret (encT (vT n))) := by
  unfold vT
  rw [encT_mk]
  refine Spec.movd globPure (wpD_spec tyOK Tryz.func59 rfl (enters _ _ Tryz.func59 rfl (by decide)) rfl rfl ?_)
  (refine wpD_seqk fun K hK => ?_; refine wpD_region tyOK ?_; ((repeat (rw [wpS_cons]; simp)); (try simp only [wpS_nil, thenD, blockD])); refine hK _ _ _ ?_; clear hK K)
  (refine wpD_seqk fun K hK => ?_; refine wpD_region tyOK ?_; ((repeat (rw [wpS_cons]; simp)); (try simp only [wpS_nil, thenD, blockD])); refine hK _ _ _ ?_; clear hK K)
  (refine wpD_ret ?_; (try simp only [thenD, blockD]); refine EndQ.ret rfl (.inl ?_); simp [tmOf, Out.fgt, D.fgt, D.fgts])
theorem fin8_spec (n : Int) : Spec Tryz.prog glob 58 [.int .i64 n] [] (fun o _ => o.fgt = .ret (encT (finN n))) := by
  unfold finN
  rw [encT_mk]
  refine Spec.movd globPure (wpD_spec tyOK Tryz.func58 rfl (enters _ _ Tryz.func58 rfl (by decide)) rfl rfl ?_)
  (refine wpD_seqk fun K hK => ?_; refine wpD_region tyOK ?_; ((repeat (rw [wpS_cons]; simp)); (try simp only [wpS_nil, thenD, blockD])); refine hK _ _ _ ?_; clear hK K)
  (refine wpD_seqk fun K hK => ?_; refine wpD_region tyOK ?_; ((repeat (rw [wpS_cons]; simp)); (try simp only [wpS_nil, thenD, blockD])); refine hK _ _ _ ?_; clear hK K)
  (refine wpD_ret ?_; (try simp only [thenD, blockD]); refine EndQ.ret rfl (.inl ?_); simp [tmOf, Out.fgt, D.fgt, D.fgts])
theorem of8_spec (k : Int) (ks : List T) : Spec Tryz.prog glob 28 [.int .i64 k, .slice (ks.map encT) .any] [] (fun o _ => o.fgt = .ret (encT (.mk k 0 0 [] ks))) := by
  rw [encT_mk]
  refine Spec.movd globPure (wpD_spec tyOK Tryz.func28 rfl (enters _ _ Tryz.func28 rfl (by decide)) rfl rfl ?_)
  (refine wpD_seqk fun K hK => ?_; refine wpD_region tyOK ?_; ((repeat (rw [wpS_cons]; simp)); (try simp only [wpS_nil, thenD, blockD])); refine hK _ _ _ ?_; clear hK K)
  (refine wpD_seqk fun K hK => ?_; refine wpD_region tyOK ?_; ((repeat (rw [wpS_cons]; simp)); (try simp only [wpS_nil, thenD, blockD])); refine hK _ _ _ ?_; clear hK K)
  (refine wpD_ret ?_; (try simp only [thenD, blockD]); refine EndQ.ret rfl (.inl ?_); simp [tmOf, Out.fgt, D.fgt, D.fgts])
def sortT (v p : Int) : T := .mk 2 0 0 [[(v, p)]] []
theorem sort8_spec (v p : Int) : Spec Tryz.prog glob 60 [.int .i64 v, .int .i64 p] [] (fun o _ => o.fgt = .ret (encT (sortT v p))) := by
  unfold sortT
  refine Spec.deepR (e := .agg [.int .i64 2, .int .i64 0, .int .i64 0, .slice [.agg [.slice [.agg [.int .i64 v, .int .i64 p]] .full]] .any, .slice [] .any]) ?_ ?_
  rotate_left
  · rw [encT_mk]
    simp only [List.map_cons, List.map_nil, D.deep, D.deeps, encL, encP]
  refine Spec.movd globPure (wpD_spec tyOK Tryz.func60 rfl (enters _ _ Tryz.func60 rfl (by decide)) rfl rfl ?_)
  (refine wpD_seqk fun K hK => ?_; refine wpD_region tyOK ?_; ((repeat (rw [wpS_cons]; simp)); (try simp only [wpS_nil, thenD, blockD])); refine hK _ _ _ ?_; clear hK K)
  (refine wpD_seqk fun K hK => ?_; refine wpD_region tyOK ?_; ((repeat (rw [wpS_cons]; simp)); (try simp only [wpS_nil, thenD, blockD])); refine hK _ _ _ ?_; clear hK K)
  (refine wpD_ret ?_; (try simp only [thenD, blockD]); refine EndQ.ret rfl (.inl ?_); simp [tmOf, Out.fgt, D.fgt, D.fgts])
def lam8 : T := .mk 5 0 0 [] [finN 2, .mk 6 0 0 [] [vT 1, vT 0]]
theorem hd_stuck {l : List C} {t : T} (h1 : spot t = none) (h2 : ownS l t zeroT = none) {f : Int} (h0 : 0 ≤ f) : HdO l t f (some (t, f)) := by
  have h3 : hstep l t = none := by rw [hstep_none h1]; exact h2
  have := Hd.stop h3
  rw [trunc_none h1] at this
  exact .of this (by omega) (by omega)
theorem aw1 : CR [] 2 [lam8] [vT 0] 5 (some (true, 3)) :=
  .yes (x := lam8) (y := vT 0) (f1 := 4) (f2 := 4) (g := 3) (ds := [.mk 6 0 0 [] [vT 1, vT 0]]) (bs := [appliedT (vT 0)]) (by omega) (by kernel_rfl) (hd_stuck rfl rfl (by omega)) (hd_stuck rfl rfl (by omega)) rfl (.same (by omega) (by kernel_rfl) .nil) .nil
theorem aw2 : LR [] 0 (sortT 1 0) (sortT 1 1) 5 (some (true, 4)) := by
  have h : LR [] 0 (sortT 1 0) (sortT 1 1) 5 (some (leqM [(1, 0)] [(1, 1)], 4)) := .sort (x := sortT 1 0) (y := sortT 1 1) (f1 := 4) (by omega) (by kernel_rfl) (hd_stuck rfl rfl (by omega)) (hd_stuck rfl rfl (by omega)) ⟨rfl, rfl⟩ ⟨rfl, rfl⟩
  rwa [show leqM [(1, 0)] [(1, 1)] = true from by kernel_rfl] at h
theorem aw3 : CR [] 1 [sortT 1 0] [sortT 1 1] 5 (some (false, 4)) :=
  .mis (x := sortT 1 0) (y := sortT 1 1) (f1 := 4) (by omega) (by kernel_rfl) (hd_stuck rfl rfl (by omega)) (hd_stuck rfl rfl (by omega)) (by
    unfold prs
    rw [if_neg (by decide), if_neg (by decide), if_neg (fun h => by
      have h2 : sameLs [[(1, 0)]] [[(1, 1)]] = true := h.2.2.2.2
      rw [show sameLs [[(1, 0)]] [[(1, 1)]] = false from by kernel_rfl] at h2
      cases h2)])
theorem okL_one {a b : Int} (ha : I64 a) (hb : I64 b) : okL [(a, b)] := ⟨by unfold LMax; simp, fun p hp => by rw [List.mem_singleton.1 hp]; exact ⟨ha, hb⟩⟩
theorem i64_small {n : Int} (h : 0 ≤ n ∧ n ≤ 100) : I64 n := by unfold I64; omega
theorem v_okT {n : Int} (h : 0 ≤ n ∧ n ≤ 100) : okT (vT n) := .mk (i64_small (by omega)) (i64_small h) (i64_small (by omega)) (by unfold LMax; simp) (fun _ h => nomatch h) (by unfold LMax; simp) (fun _ h => nomatch h)
theorem fin_okT {n : Int} (h : 0 ≤ n ∧ n ≤ 100) : okT (finN n) := .mk (i64_small (by omega)) (i64_small h) (i64_small (by omega)) (by unfold LMax; simp) (fun _ h => nomatch h) (by unfold LMax; simp) (fun _ h => nomatch h)
theorem sort_okT {v p : Int} (h : 0 ≤ v ∧ v ≤ 100) (h2 : 0 ≤ p ∧ p ≤ 100) : okT (sortT v p) := .mk (i64_small (by omega)) (i64_small (by omega)) (i64_small (by omega)) (by unfold LMax; simp) (fun l hl => by rw [List.mem_singleton.1 hl]; exact okL_one (i64_small h) (i64_small h2)) (by unfold LMax; simp) (fun _ h => nomatch h)
theorem lam8_okT : okT lam8 := ok_of2 (i64_small (by omega)) (fin_okT (by omega)) (ok_of2 (i64_small (by omega)) (v_okT (by omega)) (v_okT (by omega)))
theorem awake8_spec : Spec Tryz.prog glob 24 [] [] (fun o _ => o.fgt = .ret (.bool true)) := by
  have f2 := fin8_spec 2
  have v0 := v8_spec 0
  have v1 := v8_spec 1
  have o1 := of8_spec 6 [vT 1, vT 0]
  have o2 := of8_spec 5 [finN 2, .mk 6 0 0 [] [vT 1, vT 0]]
  have s0 := sort8_spec 1 0
  have s1 := sort8_spec 1 1
  have pm : ∀ t : T, t.pot ≤ 100 → okT t → okP 5 t := fun t h1 h2 => ⟨h2, by have : (5 : Int).toNat = 5 := rfl; unfold PM; omega⟩
  have c1 := conv_spec okCs_nil (by omega) (by omega) (pm lam8 (by decide +kernel) lam8_okT) (pm (vT 0) (by decide +kernel) (v_okT (by omega))) aw1
  have c2 := convLeq_spec okCs_nil (by omega) (by omega) (pm (sortT 1 0) (by decide +kernel) (sort_okT (by omega) (by omega))) (pm (sortT 1 1) (by decide +kernel) (sort_okT (by omega) (by omega))) aw2
  have c3 := conv_spec okCs_nil (by omega) (by omega) (pm (sortT 1 0) (by decide +kernel) (sort_okT (by omega) (by omega))) (pm (sortT 1 1) (by decide +kernel) (sort_okT (by omega) (by omega))) aw3
  unfold Cs ansD at c1 c2 c3
  simp only [List.map_cons, List.map_nil] at c1 c2 c3 o1 o2
  rw [show (T.mk 5 0 0 [] [finN 2, .mk 6 0 0 [] [vT 1, vT 0]]) = lam8 from rfl] at o2
  generalize T.mk 6 0 0 [] [vT 1, vT 0] = a6 at o1 o2
  generalize lam8 = la at o2 c1
  generalize vT 0 = e0 at v0 o1 c1
  generalize vT 1 = e1 at v1 o1
  generalize finN 2 = ef at f2 o2
  generalize sortT 1 0 = es0 at s0 c2 c3
  generalize sortT 1 1 = es1 at s1 c2 c3
  have L2 : 2 ≤ LMax := by unfold LMax; omega
  refine Spec.movd globPure (wpD_spec tyOK Tryz.func24 rfl (enters _ _ Tryz.func24 rfl (by decide)) rfl rfl ?_)
  (refine wpD_seqk fun K hK => ?_; refine wpD_region tyOK ?_; ((repeat (rw [wpS_cons]; simp)); (try simp only [wpS_nil, thenD, blockD])); refine hK _ _ _ ?_; clear hK K)
  (refine wpD_seqk fun K hK => ?_; refine wpD_region tyOK ?_; ((repeat (rw [wpS_cons]; simp)); (try simp only [wpS_nil, thenD, blockD])))
  refine cXp (f2) ?_
  ((try simp only [wpAft_ret, wpAft_pan, putS, updS, setS]); (repeat (rw [wpS_cons]; simp)); (try simp only [wpS_nil, thenD, blockD]))
  refine cXp (v1) ?_
  ((try simp only [wpAft_ret, wpAft_pan, putS, updS, setS]); (repeat (rw [wpS_cons]; simp)); (try simp only [wpS_nil, thenD, blockD]))
  refine cXp (v0) ?_
  ((try simp only [wpAft_ret, wpAft_pan, putS, updS, setS]); (repeat (rw [wpS_cons]; simp)); (try simp only [wpS_nil, thenD, blockD]))
  refine cXp (o1) ?_
  ((try simp only [wpAft_ret, wpAft_pan, putS, updS, setS]); (repeat (rw [wpS_cons]; simp)); (try simp only [wpS_nil, thenD, blockD]))
  refine cXp (o2) ?_
  ((try simp only [wpAft_ret, wpAft_pan, putS, updS, setS]); (repeat (rw [wpS_cons]; simp)); (try simp only [wpS_nil, thenD, blockD]))
  refine cXp (v0) ?_
  ((try simp only [wpAft_ret, wpAft_pan, putS, updS, setS]); (repeat (rw [wpS_cons]; simp)); (try simp only [wpS_nil, thenD, blockD]))
  refine cXp (c1) ?_
  ((try simp only [wpAft_ret, wpAft_pan, putS, updS, setS]); (repeat (rw [wpS_cons]; simp)); (try simp only [wpS_nil, thenD, blockD]))
  (refine hK _ _ _ ?_; clear hK K)
  (refine wpD_seqk fun K hK => ?_; refine wpD_region tyOK ?_; ((repeat (rw [wpS_cons]; simp)); (try simp only [wpS_nil, thenD, blockD])))
  refine cXp (s0) ?_
  ((try simp only [wpAft_ret, wpAft_pan, putS, updS, setS]); (repeat (rw [wpS_cons]; simp)); (try simp only [wpS_nil, thenD, blockD]))
  refine cXp (s1) ?_
  ((try simp only [wpAft_ret, wpAft_pan, putS, updS, setS]); (repeat (rw [wpS_cons]; simp)); (try simp only [wpS_nil, thenD, blockD]))
  refine cXp (c2) ?_
  ((try simp only [wpAft_ret, wpAft_pan, putS, updS, setS]); (repeat (rw [wpS_cons]; simp)); (try simp only [wpS_nil, thenD, blockD]))
  (refine hK _ _ _ ?_; clear hK K)
  (refine wpD_seqk fun K hK => ?_; refine wpD_region tyOK ?_; ((repeat (rw [wpS_cons]; simp)); (try simp only [wpS_nil, thenD, blockD])))
  refine cXp (s0) ?_
  ((try simp only [wpAft_ret, wpAft_pan, putS, updS, setS]); (repeat (rw [wpS_cons]; simp)); (try simp only [wpS_nil, thenD, blockD]))
  refine cXp (s1) ?_
  ((try simp only [wpAft_ret, wpAft_pan, putS, updS, setS]); (repeat (rw [wpS_cons]; simp)); (try simp only [wpS_nil, thenD, blockD]))
  refine cXp (c3) ?_
  ((try simp only [wpAft_ret, wpAft_pan, putS, updS, setS]); (repeat (rw [wpS_cons]; simp)); (try simp only [wpS_nil, thenD, blockD]))
  (refine hK _ _ _ ?_; clear hK K)
  (refine wpD_seqk fun K hK => ?_; refine wpD_region tyOK ?_; ((repeat (rw [wpS_cons]; simp)); (try simp only [wpS_nil, thenD, blockD])); refine hK _ _ _ ?_; clear hK K)
  (refine wpD_ret ?_; (try simp only [thenD, blockD]); refine EndQ.ret rfl (.inl ?_); simp [tmOf, Out.fgt, D.fgt, D.fgts])
end Go.Proofs.YtebmlojhdnldgaaGreatDoor

