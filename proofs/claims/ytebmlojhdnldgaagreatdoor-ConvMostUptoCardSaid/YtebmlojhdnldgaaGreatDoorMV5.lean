/-
  MV5: the texts Tsm Tpla Hdd Tok Hdp Hdl Cvd Cve Dfo Ddp Hen Hk Hs Ho Hw, one behind the other.
-/
import Derived.Test.YtebmlojhdnldgaaGreatDoorMV4
namespace Go.Proofs.YtebmlojhdnldgaaGreatDoor
set_option linter.unusedSimpArgs false
set_option linter.unusedVariables false
set_option maxHeartbeats 10000000
set_option maxRecDepth 20000
open Go.RowKit
attribute [local simp] wpAft_ret wpAft_pan wantD evOp opD tmOf putS updS setS hOf isFree isTok fillD TK.isAgg TK.known partD thenD blockD putAll D.ofV inB nilTest isNilS binX binD binE isCst bndD capB IntKind.min IntKind.max IntKind.signed IntKind.bits dstOf late
def eqAll {α : Type} (p : α → α → Bool) : List α → List α → Bool
  | [], [] => true
  | a :: r, b :: s => p a b && eqAll p r s
  | _, _ => false
theorem eqAll_len {α : Type} {p : α → α → Bool} : ∀ {l m : List α}, l.length ≠ m.length → eqAll p l m = false
  | [], [], h => absurd rfl h
  | [], _ :: _, _ => rfl
  | _ :: _, [], _ => rfl
  | a :: r, b :: s, h => by
    rw [eqAll, eqAll_len (l := r) (m := s) (by simpa using h), Bool.and_false]
theorem eqAll_drop {α : Type} {p : α → α → Bool} {l m : List α} {k : Nat} (h : k < l.length) (h' : k < m.length) : eqAll p (l.drop k) (m.drop k) = (p l[k] m[k] && eqAll p (l.drop (k + 1)) (m.drop (k + 1))) := by
  rw [List.drop_eq_getElem_cons h, List.drop_eq_getElem_cons h', eqAll]
theorem eqAll_end {α : Type} {p : α → α → Bool} {l m : List α} (h : l.length = m.length) : eqAll p (l.drop l.length) (m.drop l.length) = true := by
  rw [List.drop_length, h, List.drop_length]; rfl
theorem equalFuncL_spec (p : LV → LV → Bool) (g : FuncId) (l m : List LV) (hl : l.length ≤ LMax) (hm : m.length ≤ LMax) (hg : ∀ x y, x ∈ l → y ∈ m → Spec Tryz.prog glob g [encL x, encL y] [] (fun o _ => o.fgt = .ret (.bool (p x y)))) :
    Spec Tryz.prog glob 45 [.slice (l.map encL) .any, .slice (m.map encL) .any, .fn (.func g) [] []] [] (fun o _ => o.fgt = .ret (.bool (eqAll p l m))) := by
  obtain ⟨R, hR⟩ : ∃ R, R = eqAll p l m := ⟨_, rfl⟩
  rw [← hR]
  refine Spec.movd globPure (wpD_spec tyOK Tryz.func45 rfl (enters _ _ Tryz.func45 rfl (by decide)) rfl rfl ?_)
  (refine wpD_seqk fun K hK => ?_; refine wpD_region tyOK ?_; ((repeat (rw [wpS_cons]; simp)); (try simp only [wpS_nil, thenD, blockD])); refine hK _ _ _ ?_; clear hK K)
  refine wpD_seqk fun K1 hK1 => ?_
  by_cases hlen : l.length = m.length
  · have hlen' : (l.length : Int) = m.length := by omega
    (refine wpD_seqk fun K hK => ?_; refine wpD_region tyOK ?_; ((repeat (rw [wpS_cons]; simp [hlen, hlen'])); (try simp only [wpS_nil, thenD, blockD])); refine hK _ _ _ ?_; clear hK K)
    refine wpD_part rfl (fun h => by simp at h) (fun _ => ?_)
    refine wpD_skip (hK1 _ _ _ ?_)
    clear hK1 K1
    refine wpD_seqk fun K1 hK1 => ?_
    (refine wpD_seqk fun K hK => ?_; refine wpD_region tyOK ?_; ((repeat (rw [wpS_cons]; simp)); (try simp only [wpS_nil, thenD, blockD])); refine hK _ _ _ ?_; clear hK K)
    rw [← hlen]
    refine wpD_rangeJ tyOK globPure (ti := 3) (tk := 17) (tn := 16) (td := 18) (ts := 31) [6, 7, 8, 9, 17, 18, 19, 20, 21, 22, 23, 24, 25, 26, 27, 28, 29, 30, 31] [] (l.length) (fun k ys hl => ys = [] ∧ R = eqAll p (l.drop k) (m.drop k) ∧ hl = []) rfl rfl rfl rfl rfl rfl rfl rfl rfl rfl rfl rfl (by simp) (by decide) rfl (by first | assumption | omega | (unfold LMax; omega)) rfl (by kernel_rfl) (by decide) ?_ ?_ ?_
    · exact ⟨rfl, hR, rfl⟩
    · rintro i ys hl A hi ⟨rfl, hF, rfl⟩ hA hA2
      simp only [putAll, List.set, List.map_cons, List.map_nil, List.cons_append, List.nil_append]
      have hi2 : i < m.length := by omega
      have hi' : (i : Int) < l.length := by omega
      have hi2' : (i : Int) < m.length := by omega
      rw [eqAll_drop hi hi2] at hF
      have hrec := hg l[i] m[i] (List.getElem_mem hi) (List.getElem_mem hi2)
      obtain ⟨x, hx⟩ : ∃ x, l[i] = x := ⟨_, rfl⟩
      obtain ⟨y, hy⟩ : ∃ y, m[i] = y := ⟨_, rfl⟩
      rw [hx, hy] at hrec hF
      unfold encL at hrec
      generalize p x y = B at hrec hF
      (refine wpD_seqk fun K hK => ?_; refine wpD_region tyOK ?_; ((repeat (rw [wpS_cons]; simp [hi, hi', hx, encL])); (try simp only [wpS_nil, thenD, blockD])); refine hK _ _ _ ?_; clear hK K)
      (refine wpD_seqk fun K hK => ?_; refine wpD_region tyOK ?_; ((repeat (rw [wpS_cons]; simp [hi2, hi2', hy, encL])); (try simp only [wpS_nil, thenD, blockD])); refine hK _ _ _ ?_; clear hK K)
      (refine wpD_seqk fun K hK => ?_; refine wpD_region tyOK ?_; ((repeat (rw [wpS_cons]; simp)); (try simp only [wpS_nil, thenD, blockD])))
      refine cXp (hrec) ?_
      ((try simp only [wpAft_ret, wpAft_pan, putS, updS, setS]); (repeat (rw [wpS_cons]; simp)); (try simp only [wpS_nil, thenD, blockD]))
      (refine hK _ _ _ ?_; clear hK K)
      cases B with
      | true =>
        refine wpD_part rfl (fun h => by simp at h) (fun _ => ?_)
        refine wpD_skip ?_
        (refine hA2 ([]) _ _ _ (LeT.refl _) (by decide) (by simp) (by simp [movT, movH, movD, D.mov, HO.mov, okM, renM, getW, D.ren, D.rens, D.okN, D.okNs, Cp.ren, Cp.okN, HO.ren, HO.okN, okA, renA, renO, hOf, handed, D.fgt, D.fgts, List.range_succ, List.idxOf_cons, putAll]) ?_ rfl; simp [movT, movH, movD, D.mov, HO.mov, okM, renM, getW, D.ren, D.rens, D.okN, D.okNs, Cp.ren, Cp.okN, HO.ren, HO.okN, okA, renA, renO, hOf, handed, D.fgt, D.fgts, List.range_succ, List.idxOf_cons])
        simpa using hF
      | false =>
        refine wpD_part rfl (fun _ => ?_) (fun h => by simp at h)
        (refine wpD_seqk fun K hK => ?_; refine wpD_region tyOK ?_; ((repeat (rw [wpS_cons]; simp)); (try simp only [wpS_nil, thenD, blockD])); refine hK _ _ _ ?_; clear hK K)
        (refine wpD_ret ?_; (try simp only [thenD, blockD]); refine EndQ.ret rfl (.inl ?_); simp [tmOf, Out.fgt, D.fgt, D.fgts])
        simpa using hF
    · rintro ys hl tl' ⟨rfl, hF, rfl⟩ htl
      refine hK1 _ _ _ (wpD_weakL htl ?_)
      simp only [putAll, List.set, List.map_cons, List.map_nil, List.cons_append, List.nil_append]
      rw [eqAll_end hlen] at hF
      subst hF
      (refine wpD_seqk fun K hK => ?_; refine wpD_region tyOK ?_; ((repeat (rw [wpS_cons]; simp)); (try simp only [wpS_nil, thenD, blockD])); refine hK _ _ _ ?_; clear hK K)
      (refine wpD_ret ?_; (try simp only [thenD, blockD]); refine EndQ.ret rfl (.inl ?_); simp [tmOf, Out.fgt, D.fgt, D.fgts])
  · have hlen' : ¬ (l.length : Int) = m.length := by omega
    (refine wpD_seqk fun K hK => ?_; refine wpD_region tyOK ?_; ((repeat (rw [wpS_cons]; simp [hlen, hlen'])); (try simp only [wpS_nil, thenD, blockD])); refine hK _ _ _ ?_; clear hK K)
    refine wpD_part rfl (fun _ => ?_) (fun h => by simp at h)
    (refine wpD_seqk fun K hK => ?_; refine wpD_region tyOK ?_; ((repeat (rw [wpS_cons]; simp)); (try simp only [wpS_nil, thenD, blockD])); refine hK _ _ _ ?_; clear hK K)
    (refine wpD_ret ?_; (try simp only [thenD, blockD]); refine EndQ.ret rfl (.inl ?_); simp [tmOf, Out.fgt, D.fgt, D.fgts])
    rw [hR]; exact eqAll_len hlen
theorem equalFuncT_spec (p : T → T → Bool) (g : FuncId) (l m : List T) (hl : l.length ≤ LMax) (hm : m.length ≤ LMax) (hg : ∀ x y, x ∈ l → y ∈ m → Spec Tryz.prog glob g [encT x, encT y] [] (fun o _ => o.fgt = .ret (.bool (p x y)))) :
    Spec Tryz.prog glob 47 [.slice (l.map encT) .any, .slice (m.map encT) .any, .fn (.func g) [] []] [] (fun o _ => o.fgt = .ret (.bool (eqAll p l m))) := by
  obtain ⟨R, hR⟩ : ∃ R, R = eqAll p l m := ⟨_, rfl⟩
  rw [← hR]
  refine Spec.movd globPure (wpD_spec tyOK Tryz.func47 rfl (enters _ _ Tryz.func47 rfl (by decide)) rfl rfl ?_)
  (refine wpD_seqk fun K hK => ?_; refine wpD_region tyOK ?_; ((repeat (rw [wpS_cons]; simp)); (try simp only [wpS_nil, thenD, blockD])); refine hK _ _ _ ?_; clear hK K)
  refine wpD_seqk fun K1 hK1 => ?_
  by_cases hlen : l.length = m.length
  · have hlen' : (l.length : Int) = m.length := by omega
    (refine wpD_seqk fun K hK => ?_; refine wpD_region tyOK ?_; ((repeat (rw [wpS_cons]; simp [hlen, hlen'])); (try simp only [wpS_nil, thenD, blockD])); refine hK _ _ _ ?_; clear hK K)
    refine wpD_part rfl (fun h => by simp at h) (fun _ => ?_)
    refine wpD_skip (hK1 _ _ _ ?_)
    clear hK1 K1
    refine wpD_seqk fun K1 hK1 => ?_
    (refine wpD_seqk fun K hK => ?_; refine wpD_region tyOK ?_; ((repeat (rw [wpS_cons]; simp)); (try simp only [wpS_nil, thenD, blockD])); refine hK _ _ _ ?_; clear hK K)
    rw [← hlen]
    refine wpD_rangeJ tyOK globPure (ti := 3) (tk := 17) (tn := 16) (td := 18) (ts := 31) [6, 7, 8, 9, 17, 18, 19, 20, 21, 22, 23, 24, 25, 26, 27, 28, 29, 30, 31] [] (l.length) (fun k ys hl => ys = [] ∧ R = eqAll p (l.drop k) (m.drop k) ∧ hl = []) rfl rfl rfl rfl rfl rfl rfl rfl rfl rfl rfl rfl (by simp) (by decide) rfl (by first | assumption | omega | (unfold LMax; omega)) rfl (by kernel_rfl) (by decide) ?_ ?_ ?_
    · exact ⟨rfl, hR, rfl⟩
    · rintro i ys hl A hi ⟨rfl, hF, rfl⟩ hA hA2
      simp only [putAll, List.set, List.map_cons, List.map_nil, List.cons_append, List.nil_append]
      have hi2 : i < m.length := by omega
      have hi' : (i : Int) < l.length := by omega
      have hi2' : (i : Int) < m.length := by omega
      rw [eqAll_drop hi hi2] at hF
      have hrec := hg l[i] m[i] (List.getElem_mem hi) (List.getElem_mem hi2)
      obtain ⟨x, hx⟩ : ∃ x, l[i] = x := ⟨_, rfl⟩
      obtain ⟨y, hy⟩ : ∃ y, m[i] = y := ⟨_, rfl⟩
      rw [hx, hy] at hrec hF
      have hEx := encT_eq x
      have hEy := encT_eq y
      rw [hEx, hEy] at hrec
      generalize p x y = B at hrec hF
      (refine wpD_seqk fun K hK => ?_; refine wpD_region tyOK ?_; ((repeat (rw [wpS_cons]; simp [hi, hi', hx, hEx])); (try simp only [wpS_nil, thenD, blockD])); refine hK _ _ _ ?_; clear hK K)
      (refine wpD_seqk fun K hK => ?_; refine wpD_region tyOK ?_; ((repeat (rw [wpS_cons]; simp [hi2, hi2', hy, hEy])); (try simp only [wpS_nil, thenD, blockD])); refine hK _ _ _ ?_; clear hK K)
      (refine wpD_seqk fun K hK => ?_; refine wpD_region tyOK ?_; ((repeat (rw [wpS_cons]; simp)); (try simp only [wpS_nil, thenD, blockD])))
      refine cXp (hrec) ?_
      ((try simp only [wpAft_ret, wpAft_pan, putS, updS, setS]); (repeat (rw [wpS_cons]; simp)); (try simp only [wpS_nil, thenD, blockD]))
      (refine hK _ _ _ ?_; clear hK K)
      cases B with
      | true =>
        refine wpD_part rfl (fun h => by simp at h) (fun _ => ?_)
        refine wpD_skip ?_
        (refine hA2 ([]) _ _ _ (LeT.refl _) (by decide) (by simp) (by simp [movT, movH, movD, D.mov, HO.mov, okM, renM, getW, D.ren, D.rens, D.okN, D.okNs, Cp.ren, Cp.okN, HO.ren, HO.okN, okA, renA, renO, hOf, handed, D.fgt, D.fgts, List.range_succ, List.idxOf_cons, putAll]) ?_ rfl; simp [movT, movH, movD, D.mov, HO.mov, okM, renM, getW, D.ren, D.rens, D.okN, D.okNs, Cp.ren, Cp.okN, HO.ren, HO.okN, okA, renA, renO, hOf, handed, D.fgt, D.fgts, List.range_succ, List.idxOf_cons])
        simpa using hF
      | false =>
        refine wpD_part rfl (fun _ => ?_) (fun h => by simp at h)
        (refine wpD_seqk fun K hK => ?_; refine wpD_region tyOK ?_; ((repeat (rw [wpS_cons]; simp)); (try simp only [wpS_nil, thenD, blockD])); refine hK _ _ _ ?_; clear hK K)
        (refine wpD_ret ?_; (try simp only [thenD, blockD]); refine EndQ.ret rfl (.inl ?_); simp [tmOf, Out.fgt, D.fgt, D.fgts])
        simpa using hF
    · rintro ys hl tl' ⟨rfl, hF, rfl⟩ htl
      refine hK1 _ _ _ (wpD_weakL htl ?_)
      simp only [putAll, List.set, List.map_cons, List.map_nil, List.cons_append, List.nil_append]
      rw [eqAll_end hlen] at hF
      subst hF
      (refine wpD_seqk fun K hK => ?_; refine wpD_region tyOK ?_; ((repeat (rw [wpS_cons]; simp)); (try simp only [wpS_nil, thenD, blockD])); refine hK _ _ _ ?_; clear hK K)
      (refine wpD_ret ?_; (try simp only [thenD, blockD]); refine EndQ.ret rfl (.inl ?_); simp [tmOf, Out.fgt, D.fgt, D.fgts])
  · have hlen' : ¬ (l.length : Int) = m.length := by omega
    (refine wpD_seqk fun K hK => ?_; refine wpD_region tyOK ?_; ((repeat (rw [wpS_cons]; simp [hlen, hlen'])); (try simp only [wpS_nil, thenD, blockD])); refine hK _ _ _ ?_; clear hK K)
    refine wpD_part rfl (fun _ => ?_) (fun h => by simp at h)
    (refine wpD_seqk fun K hK => ?_; refine wpD_region tyOK ?_; ((repeat (rw [wpS_cons]; simp)); (try simp only [wpS_nil, thenD, blockD])); refine hK _ _ _ ?_; clear hK K)
    (refine wpD_ret ?_; (try simp only [thenD, blockD]); refine EndQ.ret rfl (.inl ?_); simp [tmOf, Out.fgt, D.fgt, D.fgts])
    rw [hR]; exact eqAll_len hlen
def sameLs : List LV → List LV → Bool
  | [], [] => true
  | a :: r, b :: s => decide (normOf a = normOf b) && sameLs r s
  | _, _ => false
theorem sameLs_all : ∀ l m : List LV, sameLs l m = eqAll (fun a b => decide (normOf a = normOf b)) l m
  | [], [] => rfl
  | a :: r, b :: s => by rw [sameLs, sameLs_all r s]; rfl
  | [], _ :: _ => rfl
  | _ :: _, [] => rfl
mutual
def T.sameB : T → T → Bool
  | .mk k n a ls ks, .mk k' n' a' ls' ks' => decide (k = k') && decide (n = n') && decide (a = a') && sameLs ls ls' && T.samesB ks ks'
def T.samesB : List T → List T → Bool
  | [], [] => true
  | a :: r, b :: s => T.sameB a b && T.samesB r s
  | [], _ :: _ => false
  | _ :: _, [] => false
end
theorem sames_all : ∀ l m : List T, T.samesB l m = eqAll T.sameB l m
  | [], [] => by rw [T.samesB]; rfl
  | a :: r, b :: s => by rw [T.samesB, sames_all r s]; rfl
  | [], _ :: _ => by rw [T.samesB]; rfl
  | _ :: _, [] => by rw [T.samesB]; rfl
theorem sameT_spec (t : T) : ∀ u, okT t → okT u → Spec Tryz.prog glob 18 [encT t, encT u] [] (fun o _ => o.fgt = .ret (.bool (t.sameB u))) := by
  induction t using T.ind with
  | h k n a ls ks ih =>
    rintro ⟨k', n', a', ls', ks'⟩ ht hu
    have hll : ls.length ≤ LMax := ht.ll
    have hll' : ls'.length ≤ LMax := hu.ll
    have hkl : ks.length ≤ LMax := ht.kl
    have hkl' : ks'.length ≤ LMax := hu.kl
    have hls := ht.ls
    have hls' := hu.ls
    have hks := ht.ks
    have hks' := hu.ks
    simp only [T.ls_mk, T.ks_mk] at hls hls' hks hks'
    have hL := equalFuncL_spec (fun a b => decide (normOf a = normOf b)) 46 ls ls' hll hll' (fun x y hx hy => same_spec x y (hls x hx).1 (hls' y hy).1)
    have hT := equalFuncT_spec T.sameB 18 ks ks' hkl hkl' (fun x y hx hy => ih x hx y (hks x hx) (hks' y hy))
    have hF : (T.mk k n a ls ks).sameB (.mk k' n' a' ls' ks') = (decide (k = k') && decide (n = n') && decide (a = a') && sameLs ls ls' && T.samesB ks ks') := by rw [T.sameB]
    rw [hF, sames_all, sameLs_all]
    generalize eqAll T.sameB ks ks' = B2 at hT ⊢
    generalize eqAll (fun a b => decide (normOf a = normOf b)) ls ls' = B1 at hL ⊢
    clear hF ih hll hll' hkl hkl' hls hls' hks hks' ht hu
    rw [encT_eq, encT_eq]
    simp only [T.k_mk, T.n_mk, T.a_mk, T.ls_mk, T.ks_mk]
    refine Spec.movd globPure (wpD_spec tyOK Tryz.func18 rfl (enters _ _ Tryz.func18 rfl (by decide)) rfl rfl ?_)
    (refine wpD_seqk fun K hK => ?_; refine wpD_region tyOK ?_; ((repeat (rw [wpS_cons]; simp)); (try simp only [wpS_nil, thenD, blockD])); refine hK _ _ _ ?_; clear hK K)
    by_cases h1 : k = k'
    · subst h1
      by_cases h2 : n = n'
      · subst h2
        by_cases h3 : a = a'
        · subst h3
          cases B1 with
          | true =>
            (refine wpD_seqk fun K hK => ?_; refine wpD_region tyOK ?_; ((repeat (rw [wpS_cons]; simp)); (try simp only [wpS_nil, thenD, blockD])))
            refine cXp (hL) ?_
            ((try simp only [wpAft_ret, wpAft_pan, putS, updS, setS]); (repeat (rw [wpS_cons]; simp)); (try simp only [wpS_nil, thenD, blockD]))
            refine cXp (hT) ?_
            ((try simp only [wpAft_ret, wpAft_pan, putS, updS, setS]); (repeat (rw [wpS_cons]; simp)); (try simp only [wpS_nil, thenD, blockD]))
            (refine hK _ _ _ ?_; clear hK K)
            (refine wpD_ret ?_; (try simp only [thenD, blockD]); refine EndQ.ret rfl (.inl ?_); simp [tmOf, Out.fgt, D.fgt, D.fgts])
          | false =>
            (refine wpD_seqk fun K hK => ?_; refine wpD_region tyOK ?_; ((repeat (rw [wpS_cons]; simp)); (try simp only [wpS_nil, thenD, blockD])))
            refine cXp (hL) ?_
            ((try simp only [wpAft_ret, wpAft_pan, putS, updS, setS]); (repeat (rw [wpS_cons]; simp)); (try simp only [wpS_nil, thenD, blockD]))
            (refine hK _ _ _ ?_; clear hK K)
            (refine wpD_ret ?_; (try simp only [thenD, blockD]); refine EndQ.ret rfl (.inl ?_); simp [tmOf, Out.fgt, D.fgt, D.fgts])
        · (refine wpD_seqk fun K hK => ?_; refine wpD_region tyOK ?_; ((repeat (rw [wpS_cons]; simp [h3])); (try simp only [wpS_nil, thenD, blockD])); refine hK _ _ _ ?_; clear hK K)
          (refine wpD_ret ?_; (try simp only [thenD, blockD]); refine EndQ.ret rfl (.inl ?_); simp [tmOf, Out.fgt, D.fgt, D.fgts])
          simp [h3]
      · (refine wpD_seqk fun K hK => ?_; refine wpD_region tyOK ?_; ((repeat (rw [wpS_cons]; simp [h2])); (try simp only [wpS_nil, thenD, blockD])); refine hK _ _ _ ?_; clear hK K)
        (refine wpD_ret ?_; (try simp only [thenD, blockD]); refine EndQ.ret rfl (.inl ?_); simp [tmOf, Out.fgt, D.fgt, D.fgts])
        simp [h2]
    · (refine wpD_seqk fun K hK => ?_; refine wpD_region tyOK ?_; ((repeat (rw [wpS_cons]; simp [h1])); (try simp only [wpS_nil, thenD, blockD])); refine hK _ _ _ ?_; clear hK K)
      (refine wpD_ret ?_; (try simp only [thenD, blockD]); refine EndQ.ret rfl (.inl ?_); simp [tmOf, Out.fgt, D.fgt, D.fgts])
      simp [h1]
end Go.Proofs.YtebmlojhdnldgaaGreatDoor

namespace Go.Proofs.YtebmlojhdnldgaaGreatDoor
set_option linter.unusedSimpArgs false
set_option linter.unusedVariables false
open Go.RowKit
mutual
/-- all variables from 0 to 1000 -/
def T.tameB : T → Bool
  | .mk k n _ _ ks => !(decide (k = 1) && (decide (n < 0) || decide (1000 < n))) && T.tamesB ks
def T.tamesB : List T → Bool
  | [] => true
  | t :: r => T.tameB t && T.tamesB r
end
theorem walk_inr {f : Turn} {k n a : Int} {ls : List LV} {ks : List T} {d : Int} {x : Int × List LV} (h : f d (.mk k n a ls ks) = .inr x) : T.walk f (.mk k n a ls ks) d = .mk k x.1 a x.2 (T.walks f k ks 0 d) := by rw [T.walk, h]
theorem walk_inl {f : Turn} {k n a : Int} {ls : List LV} {ks : List T} {d : Int} {u : T} (h : f d (.mk k n a ls ks) = .inl u) : T.walk f (.mk k n a ls ks) d = u := by rw [T.walk, h]
theorem walk_lift (m fr k n a : Int) (ls : List LV) (ks : List T) (d : Int) : T.walk (liftTurn m fr) (.mk k n a ls ks) d = .mk k (liftNum m fr d k n) a ls (T.walks (liftTurn m fr) k ks 0 d) := by rw [T.walk]; rfl
theorem Fits.le {d : Int} {t : T} (h : Fits d t) : 0 ≤ d ∧ d ≤ 1099511627776 := by unfold Fits DM at h; omega
mutual
theorem T.lift_zero_aux (fr : Int) : ∀ (t : T) (d : Int), okT t → T.walk (liftTurn 0 fr) t d = t
  | .mk k n a ls ks, d, h => by
    rw [walk_lift, T.lifts_zero_aux fr k ks 0 d h.ks]
    have hn := h.n
    simp only [T.n_mk] at hn
    unfold I64 at hn
    have : liftNum 0 fr d k n = n := by
      unfold liftNum
      split
      · rw [Int.add_zero, i64w hn.1 hn.2]
      · rfl
    rw [this]
theorem T.lifts_zero_aux (fr k : Int) : ∀ (ks : List T) (i : Nat) (d : Int), (∀ t, t ∈ ks → okT t) → T.walks (liftTurn 0 fr) k ks i d = ks
  | [], _, _, _ => by rw [T.walks]
  | t :: r, i, d, h => by
    rw [T.walks, T.lift_zero_aux fr t _ (h t List.mem_cons_self), T.lifts_zero_aux fr k r (i + 1) d (fun t ht => h t (List.mem_cons_of_mem _ ht))]
end
theorem lift_zero {t : T} (h : okT t) (fr : Int) : t.lift 0 fr 0 = t := T.lift_zero_aux fr t 0 h
/-! sizes -/
mutual
theorem sz_lift (n fr : Int) : ∀ (t : T) (d : Int), (T.walk (liftTurn n fr) t d).sz = t.sz
  | .mk k m a ls ks, d => by rw [walk_lift, T.sz, T.sz, szs_lift n fr k ks 0 d 1]
theorem szs_lift (n fr k : Int) : ∀ (ks : List T) (i : Nat) (d s : Int), T.szs (T.walks (liftTurn n fr) k ks i d) s = T.szs ks s
  | [], _, _, _ => by rw [T.walks]
  | t :: r, i, d, s => by rw [T.walks, T.szs, T.szs, sz_lift n fr t, szs_lift n fr k r]
end
mutual
theorem free_none (lo : Int) : ∀ (t : T) (d : Int), t.freeB lo lo d = false
  | .mk k n a ls ks, d => by
    rw [T.freeB, frees_none lo k ks 0 d]
    simp [hitB]
theorem frees_none (lo k : Int) : ∀ (ks : List T) (i : Nat) (d : Int), T.freesB lo lo k ks i d = false
  | [], _, _ => by rw [T.freesB]
  | t :: r, i, d => by rw [T.freesB, free_none lo t, frees_none lo k r]; rfl
end
/-! what is the same -/
theorem sameLs_refl : ∀ l : List LV, sameLs l l = true
  | [] => rfl
  | a :: r => by rw [sameLs, sameLs_refl r]; simp
mutual
theorem T.same_refl : ∀ t : T, T.sameB t t = true
  | .mk k n a ls ks => by rw [T.sameB, sameLs_refl, T.sames_refl ks]; simp
theorem T.sames_refl : ∀ ks : List T, T.samesB ks ks = true
  | [] => by rw [T.samesB]
  | t :: r => by rw [T.samesB, T.same_refl t, T.sames_refl r]; rfl
end
theorem T.same_mk {k n a k' n' a' : Int} {ls ls' : List LV} {ks ks' : List T} : T.sameB (.mk k n a ls ks) (.mk k' n' a' ls' ks') = true ↔ k = k' ∧ n = n' ∧ a = a' ∧ sameLs ls ls' = true ∧ T.samesB ks ks' = true := by
  rw [T.sameB]; simp [and_assoc]
theorem putTurn_in {bys : List T} {d : Int} {t : T} (h1 : t.k = 1 ∧ d ≤ t.n) (h : (t.n - d).toNat < bys.length) : putTurn bys d t = .inl ((bys[bys.length - 1 - (t.n - d).toNat]'(by omega)).lift d 0 0) := by
  unfold putTurn; rw [if_pos h1, dif_pos h]
theorem putTurn_over {bys : List T} {d : Int} {t : T} (h1 : t.k = 1 ∧ d ≤ t.n) (h : ¬ (t.n - d).toNat < bys.length) : putTurn bys d t = .inr (IntKind.i64.wrap (t.n - bys.length), t.ls) := by
  unfold putTurn; rw [if_pos h1, dif_neg h]
theorem putTurn_low {bys : List T} {d : Int} {t : T} (h1 : ¬ (t.k = 1 ∧ d ≤ t.n)) : putTurn bys d t = .inr (t.n, t.ls) := by
  unfold putTurn; rw [if_neg h1]
mutual
theorem sz_same : ∀ (t u : T), T.sameB t u = true → t.sz = u.sz
  | .mk k n a ls ks, .mk k' n' a' ls' ks', h => by
    obtain ⟨_, _, _, _, h5⟩ := T.same_mk.1 h
    rw [T.sz, T.sz, szs_same ks ks' 1 h5]
theorem szs_same : ∀ (ks ks' : List T) (n : Int), T.samesB ks ks' = true → T.szs ks n = T.szs ks' n
  | [], [], n, _ => rfl
  | [], _ :: _, _, h => by simp [T.samesB] at h
  | _ :: _, [], _, h => by simp [T.samesB] at h
  | t :: r, u :: s, n, h => by
    rw [T.samesB, Bool.and_eq_true] at h
    rw [T.szs, T.szs, sz_same t u h.1, szs_same r s _ h.2]
end
end Go.Proofs.YtebmlojhdnldgaaGreatDoor

namespace Go.Proofs.YtebmlojhdnldgaaGreatDoor
set_option linter.unusedSimpArgs false
set_option linter.unusedVariables false
open Go.RowKit
/-- a constant: how many levels, its type, its body if it has one -/
structure C where
  lv : Int
  ty : T
  has : Bool
  bo : T
def zeroT : T := .mk 0 0 0 [] []
def T.kid (t : T) (i : Nat) : T := t.ks.getD i zeroT
def withK (ks : List T) (x : T) (i many : Nat) : List T := (List.range many).map fun j => if j = i then x else ks.getD j zeroT
def T.withT (t x : T) (i many : Nat) : T := .mk t.k t.n t.a t.ls (withK t.ks x i many)
def ofT (k : Int) (ks : List T) : T := .mk k 0 0 [] ks
/-- the place that decides, how many kids -/
def spot (t : T) : Option (Nat × Nat) :=
  if t.k = 6 then some (0, 2) else if t.k = 14 ∨ t.k = 15 then some (0, 1) else if t.k = 18 then some (4, 5) else if t.k = 21 then some (5, 6)
  else if t.k = 24 ∧ 0 ≤ t.a ∧ (t.ks.length : Int) - 2 = t.a then some (t.a.toNat + 1, t.a.toNat + 2) else none
mutual
/-- how many nodes -/
def T.nsz : T → Nat
  | .mk _ _ _ _ ks => 1 + T.nszs ks
def T.nszs : List T → Nat
  | [] => 0
  | t :: r => T.nsz t + T.nszs r
end
mutual
/-- how many nodes, one of so many put for a variable -/
def T.sd (many : Nat) : T → Int → Nat
  | .mk k n _ _ ks, b => if k = 1 ∧ n = b then many else 1 + T.sds many k ks 0 b
def T.sds (many : Nat) (k : Int) : List T → Nat → Int → Nat
  | [], _, _ => 0
  | t :: r, i, b => T.sd many t (belowD b k i) + T.sds many k r (i + 1) b
end
def bodyC (l : List C) (num : Int) (lv : List LV) : Option T :=
  if h : 0 ≤ num ∧ num.toNat < l.length then if (l[num.toNat]'h.2).lv = lv.length ∧ (l[num.toNat]'h.2).has = true then some ((l[num.toNat]'h.2).bo.levels lv 0) else none else none
def treeT (t s : T) : T :=
  let a := s.kid 0
  let f := s.kid 1
  let rest := ofT 18 [(t.kid 0).lift 1 0 0, (t.kid 1).lift 1 1 0, (t.kid 2).lift 1 0 0, (t.kid 3).lift 1 0 0, ofT 6 [f.lift 1 0 0, ofT 1 []]]
  ofT 6 [ofT 6 [ofT 6 [t.kid 3, a], f], ofT 5 [(t.kid 1).put [a] 0, rest]]
def treeN (t s : T) : Nat :=
  let a := s.kid 0
  let f := s.kid 1
  7 + (a.nsz + f.nsz + f.nsz + (t.kid 3).nsz + (t.kid 3).nsz + (t.kid 0).nsz + (t.kid 1).nsz + (t.kid 2).nsz) + (t.kid 1).sd a.nsz 0
/-- a term's own step, its place at its head -/
def ownS (l : List C) (t x : T) : Option (T × Nat) :=
  if t.k = 6 then if x.k = 5 then some ((x.kid 1).put [t.kid 1] 0, (x.kid 1).sd (t.kid 1).nsz 0) else none
  else if t.k = 14 ∨ t.k = 15 then if x.k = 13 then some (x.kid (if t.k = 15 then 1 else 0), (x.kid (if t.k = 15 then 1 else 0)).nsz) else none
  else if t.k = 7 then some ((t.kid 2).put [t.kid 1] 0, (t.kid 2).sd (t.kid 1).nsz 0)
  else if t.k = 3 then (bodyC l t.n t.ls).map fun b => (b, b.nsz)
  else if t.k = 18 then if x.k = 17 then some (treeT t x, treeN t x) else none
  else if t.k = 21 then if x.k = 20 then some (t.kid 3, (t.kid 3).nsz) else none
  else if t.k = 24 ∧ (spot t).isSome then if x.k = 23 ∧ 0 ≤ x.n ∧ x.n < t.a then some (t.kid (x.n.toNat + 1), (t.kid (x.n.toNat + 1)).nsz) else none
  else none
/-- what is left of a term that does not step -/
def T.trunc (t : T) : T :=
  match spot t with
  | none => t
  | some (i, many) => if h : i < t.ks.length then t.withT (T.trunc t.ks[i]) i many else t.withT zeroT i many
termination_by t.deep
decreasing_by
  cases t with
  | mk k n a ls ks => exact T.deep_kid (List.getElem_mem h)
/-- the first step of a term's head, what it costs -/
def hstep (l : List C) (t : T) : Option (T × Nat) :=
  match spot t with
  | none => ownS l t zeroT
  | some (i, many) => if h : i < t.ks.length then (match hstep l t.ks[i] with
      | some u => some (t.withT u.1 i many, u.2)
      | none => ownS l (t.withT (T.trunc t.ks[i]) i many) (T.trunc t.ks[i])) else ownS l (t.withT zeroT i many) zeroT
termination_by t.deep
decreasing_by
  cases t with
  | mk k n a ls ks => exact T.deep_kid (List.getElem_mem h)
/-- comes to its head, at a cost -/
inductive Hd (l : List C) : T → Nat → T → Prop where
  | stop {t : T} (h : hstep l t = none) : Hd l t 0 t.trunc
  | step {t u v : T} {c n : Nat} (h : hstep l t = some (u, c)) (r : Hd l u n v) : Hd l t (c + n) v
/-- the fuel is gone ahead of that -/
inductive Gone (l : List C) : T → Int → Prop where
  | now {t u : T} {c : Nat} {f : Int} (h : hstep l t = some (u, c)) (hf : f < c) : Gone l t f
  | later {t u : T} {c : Nat} {f : Int} (h : hstep l t = some (u, c)) (hf : (c : Int) ≤ f) (r : Gone l u (f - c)) : Gone l t f
theorem Hd.det {l : List C} {t v w : T} {n m : Nat} (h : Hd l t n v) : Hd l t m w → n = m ∧ v = w := by
  induction h generalizing m w with
  | stop h => intro h2; cases h2 with
    | stop _ => exact ⟨rfl, rfl⟩
    | step h3 _ => rw [h] at h3; cases h3
  | step h r ih => intro h2; cases h2 with
    | stop h3 => rw [h] at h3; cases h3
    | step h3 r3 =>
      rw [h] at h3
      cases h3
      obtain ⟨rfl, rfl⟩ := ih r3
      exact ⟨rfl, rfl⟩
theorem Hd.gone {l : List C} {t v : T} {n : Nat} (h : Hd l t n v) : ∀ {f : Int}, f < (n : Int) → 0 ≤ f → Gone l t f := by
  induction h with
  | stop h => intro f hf h0; omega
  | @step t u v c n h r ih =>
    intro f hf h0
    by_cases hc : (c : Int) ≤ f
    · exact .later h hc (ih (by omega) (by omega))
    · exact .now h (by omega)
theorem spot_of (t : T) : spot t = none ∨ ∃ i many, spot t = some (i, many) := by
  cases h : spot t with
  | none => exact .inl rfl
  | some p => exact .inr ⟨p.1, p.2, rfl⟩
theorem withK_len (ks : List T) (x : T) (i many : Nat) : (withK ks x i many).length = many := by simp [withK]
theorem withK_get {ks : List T} {x : T} {i many j : Nat} (h : j < many) : (withK ks x i many).getD j zeroT = if j = i then x else ks.getD j zeroT := by
  rw [List.getD_eq_getElem?_getD, List.getElem?_eq_getElem (by rw [withK_len]; exact h)]
  simp [withK]
theorem spot_lt {t : T} {i many : Nat} (h : spot t = some (i, many)) : i < many := by
  unfold spot at h
  repeat' split at h
  all_goals first | (cases h; omega) | cases h
theorem spot_with {t x : T} {i many : Nat} (h : spot t = some (i, many)) : spot (t.withT x i many) = some (i, many) := by
  unfold spot at h ⊢
  unfold T.withT
  simp only [T.k_mk, T.a_mk, T.ks_mk, withK_len]
  by_cases h1 : t.k = 6
  · rw [if_pos h1] at h ⊢; exact h
  rw [if_neg h1] at h ⊢
  by_cases h1 : t.k = 14 ∨ t.k = 15
  · rw [if_pos h1] at h ⊢; exact h
  rw [if_neg h1] at h ⊢
  by_cases h1 : t.k = 18
  · rw [if_pos h1] at h ⊢; exact h
  rw [if_neg h1] at h ⊢
  by_cases h1 : t.k = 21
  · rw [if_pos h1] at h ⊢; exact h
  rw [if_neg h1] at h ⊢
  by_cases h1 : t.k = 24 ∧ 0 ≤ t.a ∧ (t.ks.length : Int) - 2 = t.a
  · rw [if_pos h1] at h
    obtain ⟨h1, h2, h3⟩ := h1
    cases h
    rw [if_pos ⟨h1, h2, by omega⟩]
  · rw [if_neg h1] at h; cases h
theorem with_with (t x y : T) (i many : Nat) : (t.withT x i many).withT y i many = t.withT y i many := by
  unfold T.withT
  simp only [T.k_mk, T.n_mk, T.a_mk, T.ls_mk, T.ks_mk]
  congr 1
  unfold withK
  apply List.map_congr_left
  intro j hj
  have hj' : j < many := by simpa using hj
  split
  · rfl
  · rename_i hne
    have := withK_get (ks := t.ks) (x := x) (i := i) hj'
    unfold withK at this
    rw [this, if_neg hne]
theorem with_get {t x : T} {i many : Nat} (h : i < many) (h2 : i < (t.withT x i many).ks.length) : (t.withT x i many).ks[i] = x := by
  unfold T.withT at h2 ⊢
  simp [withK]
theorem trunc_none {t : T} (h : spot t = none) : t.trunc = t := by rw [T.trunc, h]
theorem trunc_in {t : T} {i many : Nat} (h : spot t = some (i, many)) (hi : i < t.ks.length) : t.trunc = t.withT (T.trunc t.ks[i]) i many := by rw [T.trunc, h]; simp only; rw [dif_pos hi]
theorem trunc_out {t : T} {i many : Nat} (h : spot t = some (i, many)) (hi : ¬ i < t.ks.length) : t.trunc = t.withT zeroT i many := by rw [T.trunc, h]; simp only; rw [dif_neg hi]
theorem hstep_none {l : List C} {t : T} (h : spot t = none) : hstep l t = ownS l t zeroT := by rw [hstep, h]
theorem hstep_in {l : List C} {t : T} {i many : Nat} (h : spot t = some (i, many)) (hi : i < t.ks.length) {u : T} {c : Nat} (hu : hstep l t.ks[i] = some (u, c)) : hstep l t = some (t.withT u i many, c) := by rw [hstep, h]; simp only; rw [dif_pos hi, hu]
theorem hstep_at {l : List C} {t : T} {i many : Nat} (h : spot t = some (i, many)) (hi : i < t.ks.length) (hu : hstep l t.ks[i] = none) : hstep l t = ownS l (t.withT (T.trunc t.ks[i]) i many) (T.trunc t.ks[i]) := by rw [hstep, h]; simp only; rw [dif_pos hi, hu]
theorem hstep_out {l : List C} {t : T} {i many : Nat} (h : spot t = some (i, many)) (hi : ¬ i < t.ks.length) : hstep l t = ownS l (t.withT zeroT i many) zeroT := by rw [hstep, h]; simp only; rw [dif_neg hi]
theorem zero_spot : spot zeroT = none := rfl
theorem zero_step (l : List C) : hstep l zeroT = none := by rw [hstep_none zero_spot]; rfl
/-- what does not step, does not step when what is too much is gone -/
theorem trunc_stuck {l : List C} (t : T) : hstep l t = none → hstep l t.trunc = none ∧ t.trunc.trunc = t.trunc := by
  induction t using T.ind with
  | h k n a ls ks ih =>
    intro h
    rcases spot_of (.mk k n a ls ks) with hs | ⟨i, many, hs⟩
    · rw [trunc_none hs]; exact ⟨h, trunc_none hs⟩
    · have hlt := spot_lt hs
      by_cases hi : i < ks.length
      · have hi' : i < (T.mk k n a ls ks).ks.length := hi
        cases hu : hstep l ks[i] with
        | some u => rw [hstep_in hs hi' (u := u.1) (c := u.2) hu] at h; cases h
        | none =>
          obtain ⟨h1, h2⟩ := ih _ (List.getElem_mem hi) hu
          rw [hstep_at hs hi' hu] at h
          rw [trunc_in hs hi']
          have hs2 := spot_with (x := T.trunc (T.mk k n a ls ks).ks[i]) hs
          have hi2 : i < ((T.mk k n a ls ks).withT (T.trunc (T.mk k n a ls ks).ks[i]) i many).ks.length := by unfold T.withT; rw [T.ks_mk, withK_len]; exact hlt
          have hg := with_get hlt hi2
          constructor
          · rw [hstep_at hs2 hi2 (by rw [hg]; exact h1), hg, with_with, show T.trunc (T.trunc (T.mk k n a ls ks).ks[i]) = T.trunc (T.mk k n a ls ks).ks[i] from h2]
            exact h
          · rw [trunc_in hs2 hi2, hg, with_with, show T.trunc (T.trunc (T.mk k n a ls ks).ks[i]) = T.trunc (T.mk k n a ls ks).ks[i] from h2]
      · have hi' : ¬ i < (T.mk k n a ls ks).ks.length := hi
        rw [hstep_out hs hi'] at h
        rw [trunc_out hs hi']
        have hs2 := spot_with (x := zeroT) hs
        have hi2 : i < ((T.mk k n a ls ks).withT zeroT i many).ks.length := by unfold T.withT; rw [T.ks_mk, withK_len]; exact hlt
        have hg := with_get hlt hi2
        constructor
        · rw [hstep_at hs2 hi2 (by rw [hg]; exact zero_step l), hg, trunc_none zero_spot, with_with]
          exact h
        · rw [trunc_in hs2 hi2, hg, trunc_none zero_spot, with_with]
/-! sizes -/
theorem T.nsz_pos (t : T) : 1 ≤ t.nsz := by cases t; rw [T.nsz]; omega
theorem T.deep_nsz (t : T) : t.deep ≤ t.nsz := by
  induction t using T.ind with
  | h k n a ls ks ih =>
    rw [T.deep, T.nsz]
    have : ∀ l : List T, (∀ x, x ∈ l → x.deep ≤ x.nsz) → T.deeps l ≤ T.nszs l := by
      intro l
      induction l with
      | nil => intro _; simp [T.deeps, T.nszs]
      | cons x r ihl =>
        intro hl
        have h1 := hl x List.mem_cons_self
        have h2 := ihl (fun y hy => hl y (List.mem_cons_of_mem _ hy))
        rw [T.deeps, T.nszs]
        omega
    have := this ks ih
    omega
mutual
theorem T.sd_pos (many : Nat) (hm : 1 ≤ many) : ∀ (t : T) (b : Int), 1 ≤ t.sd many b
  | .mk k n a ls ks, b => by
    rw [T.sd]
    split <;> omega
end
mutual
theorem T.sd_le (many : Nat) (hm : 1 ≤ many) : ∀ (t : T) (b : Int), t.sd many b ≤ t.nsz * many
  | .mk k n a ls ks, b => by
    rw [T.sd, T.nsz]
    split
    · exact Nat.le_mul_of_pos_left _ (by omega)
    · have := T.sds_le many hm k ks 0 b
      rw [Nat.add_mul]
      omega
theorem T.sds_le (many : Nat) (hm : 1 ≤ many) (k : Int) : ∀ (ks : List T) (i : Nat) (b : Int), T.sds many k ks i b ≤ T.nszs ks * many
  | [], _, _ => by rw [T.sds]; omega
  | t :: r, i, b => by
    have h1 := T.sd_le many hm t (belowD b k i)
    have h2 := T.sds_le many hm k r (i + 1) b
    rw [T.sds, T.nszs, Nat.add_mul]
    omega
end
mutual
theorem nsz_lift (n fr : Int) : ∀ (t : T) (d : Int), (T.walk (liftTurn n fr) t d).nsz = t.nsz
  | .mk k m a ls ks, d => by rw [walk_lift, T.nsz, T.nsz, nszs_lift n fr k ks 0 d]
theorem nszs_lift (n fr k : Int) : ∀ (ks : List T) (i : Nat) (d : Int), T.nszs (T.walks (liftTurn n fr) k ks i d) = T.nszs ks
  | [], _, _ => by rw [T.walks]
  | t :: r, i, d => by rw [T.walks, T.nszs, T.nszs, nsz_lift n fr t, nszs_lift n fr k r]
end
mutual
theorem nsz_levels (bys : List LV) : ∀ (t : T) (d : Int), (T.walk (levTurn bys) t d).nsz = t.nsz
  | .mk k m a ls ks, d => by rw [walk_inr (f := levTurn bys) (x := (m, ls.map fun l => normOf (putL l bys))) rfl, T.nsz, T.nsz, nszs_levels bys k ks 0 d]
theorem nszs_levels (bys : List LV) (k : Int) : ∀ (ks : List T) (i : Nat) (d : Int), T.nszs (T.walks (levTurn bys) k ks i d) = T.nszs ks
  | [], _, _ => by rw [T.walks]
  | t :: r, i, d => by rw [T.walks, T.nszs, T.nszs, nsz_levels bys t, nszs_levels bys k r]
end
/-- what is put costs its size -/
theorem nsz_put (x : T) (t : T) : ∀ d, (T.walk (putTurn [x]) t d).nsz = t.sd x.nsz d := by
  induction t using T.ind with
  | h k m a ls ks ih =>
    intro d
    have hks : ∀ (l : List T), (∀ y, y ∈ l → y ∈ ks) → ∀ i, T.nszs (T.walks (putTurn [x]) k l i d) = T.sds x.nsz k l i d := by
      intro l
      induction l with
      | nil => intro _ i; simp [T.walks, T.nszs, T.sds]
      | cons y r ihl =>
        intro hl i
        rw [T.walks, T.nszs, T.sds, ih y (hl y List.mem_cons_self), ihl (fun z hz => hl z (List.mem_cons_of_mem _ hz))]
    have hks0 := hks ks (fun _ h => h) 0
    rw [T.sd]
    by_cases hh : k = 1 ∧ d ≤ m
    · by_cases hl : (m - d).toNat < [x].length
      · rw [walk_inl (putTurn_in (t := .mk k m a ls ks) hh hl), if_pos ⟨hh.1, by simp only [List.length_cons, List.length_nil] at hl; omega⟩]
        unfold T.lift
        rw [nsz_lift]
        simp
      · rw [walk_inr (putTurn_over (t := .mk k m a ls ks) hh hl), T.nsz, hks0, if_neg]
        rintro ⟨-, h2⟩
        apply hl
        simp only [List.length_cons, List.length_nil]; omega
    · rw [walk_inr (putTurn_low (t := .mk k m a ls ks) hh), T.nsz]
      rw [hks0, if_neg]
      rintro ⟨h1, h2⟩
      exact hh ⟨h1, by omega⟩
end Go.Proofs.YtebmlojhdnldgaaGreatDoor

namespace Go.Proofs.YtebmlojhdnldgaaGreatDoor
set_option linter.unusedSimpArgs false
set_option linter.unusedVariables false
open Go.RowKit
def TurnOk (f : Turn) : Prop := ∀ d t, okT t → (∀ u, f d t = .inl u → okT u) ∧ (∀ x, f d t = .inr x → I64 x.1 ∧ x.2.length ≤ LMax ∧ ∀ l, l ∈ x.2 → okL l)
theorem walk_ok {f : Turn} (hf : TurnOk f) (t : T) : ∀ d, okT t → okT (T.walk f t d) := by
  induction t using T.ind with
  | h k m a ls ks ih =>
    intro d ht
    obtain ⟨h1, h2⟩ := hf d _ ht
    cases hturn : f d (.mk k m a ls ks) with
    | inl u => rw [walk_inl hturn]; exact h1 u hturn
    | inr x =>
      rw [walk_inr hturn]
      obtain ⟨h3, h4, h5⟩ := h2 x hturn
      refine .mk ht.k h3 ht.a h4 h5 (by rw [T.walks_length]; exact ht.kl) ?_
      have hks := ht.ks
      simp only [T.ks_mk] at hks
      have : ∀ (l : List T), (∀ x, x ∈ l → x ∈ ks) → ∀ (i : Nat) t, t ∈ T.walks f k l i d → okT t := by
        intro l
        induction l with
        | nil => intro _ i t h; rw [T.walks] at h; cases h
        | cons x r ihl =>
          intro hl i t h
          rw [T.walks] at h
          cases h with
          | head => exact ih x (hl x List.mem_cons_self) _ (hks x (hl x List.mem_cons_self))
          | tail _ hm => exact ihl (fun y hy => hl y (List.mem_cons_of_mem _ hy)) (i + 1) t hm
      exact this ks (fun _ h => h) 0
theorem lift_turn_ok (n fr : Int) : TurnOk (liftTurn n fr) := fun d t ht => ⟨(fun u h => by cases h), fun x h => by
  cases h
  exact ⟨liftNum_ok ht.n, ht.ll, ht.ls⟩⟩
theorem lift_ok {t : T} (n fr d : Int) (h : okT t) : okT (t.lift n fr d) := walk_ok (lift_turn_ok n fr) t d h
theorem put_turn_ok {bys : List T} (hb : ∀ b, b ∈ bys → okT b) : TurnOk (putTurn bys) := fun d t ht => by
  by_cases hh : t.k = 1 ∧ d ≤ t.n
  · by_cases hl : (t.n - d).toNat < bys.length
    · rw [putTurn_in hh hl]
      exact ⟨(fun u h => by cases h; exact lift_ok _ _ _ (hb _ (List.getElem_mem _))), (fun x h => by cases h)⟩
    · rw [putTurn_over hh hl]
      exact ⟨(fun u h => by cases h), (fun x h => by cases h; exact ⟨i64_wrap _, ht.ll, ht.ls⟩)⟩
  · rw [putTurn_low hh]
    exact ⟨(fun u h => by cases h), (fun x h => by cases h; exact ⟨ht.n, ht.ll, ht.ls⟩)⟩
theorem put_ok {t : T} {bys : List T} (hb : ∀ b, b ∈ bys → okT b) (d : Int) (h : okT t) : okT (t.put bys d) := walk_ok (put_turn_ok hb) t d h
theorem norm_okL (l : LV) : okL (normOf l) := ⟨normOf_lmax l, fun p hp => by
  have := badP_nn ((normOf_nf l).ok p hp)
  unfold I64
  omega⟩
theorem lev_turn_ok (bys : List LV) : TurnOk (levTurn bys) := fun d t ht => ⟨(fun u h => by cases h), fun x h => by
  cases h
  refine ⟨ht.n, by rw [List.length_map]; exact ht.ll, fun l hl => ?_⟩
  rw [List.mem_map] at hl
  obtain ⟨y, _, rfl⟩ := hl
  exact norm_okL _⟩
theorem levels_ok {t : T} (bys : List LV) (d : Int) (h : okT t) : okT (t.levels bys d) := walk_ok (lev_turn_ok bys) t d h
end Go.Proofs.YtebmlojhdnldgaaGreatDoor

namespace Go.Proofs.YtebmlojhdnldgaaGreatDoor
set_option linter.unusedSimpArgs false
set_option linter.unusedVariables false
open Go.RowKit
/-- how many kids a head may get more -/
def lackN (k : Int) (len : Nat) : Nat := if k = 6 then 2 - len else if k = 14 ∨ k = 15 then 1 - len else if k = 18 then 5 - len else if k = 21 then 6 - len else 0
mutual
/-- a term's size, with what its heads may get -/
def T.pot : T → Nat
  | .mk k _ _ _ ks => 1 + lackN k ks.length + T.pots ks
def T.pots : List T → Nat
  | [] => 0
  | t :: r => T.pot t + T.pots r
end
theorem lackN_le (k : Int) (len : Nat) : lackN k len ≤ 6 := by unfold lackN; (repeat' split) <;> omega
mutual
theorem nsz_pot : ∀ t : T, t.nsz ≤ t.pot
  | .mk k n a ls ks => by rw [T.nsz, T.pot]; have := nszs_pots ks; omega
theorem nszs_pots : ∀ ks : List T, T.nszs ks ≤ T.pots ks
  | [] => by rw [T.nszs]; omega
  | t :: r => by rw [T.nszs, T.pots]; have := nsz_pot t; have := nszs_pots r; omega
end
mutual
theorem pot_le : ∀ t : T, t.pot ≤ 7 * t.nsz
  | .mk k n a ls ks => by rw [T.nsz, T.pot]; have := pots_le ks; have := lackN_le k ks.length; omega
theorem pots_le : ∀ ks : List T, T.pots ks ≤ 7 * T.nszs ks
  | [] => by rw [T.pots]; omega
  | t :: r => by rw [T.nszs, T.pots]; have := pot_le t; have := pots_le r; omega
end
theorem pots_mem {t : T} {ks : List T} (h : t ∈ ks) : t.pot ≤ T.pots ks := by
  induction ks with
  | nil => cases h
  | cons x r ih =>
    rw [T.pots]
    cases h with
    | head => omega
    | tail _ hm => have := ih hm; omega
theorem pot_pos (t : T) : 1 ≤ t.pot := by have := nsz_pot t; have := t.nsz_pos; omega
theorem pot_zero : zeroT.pot = 1 := rfl
theorem kid_pot (t : T) (i : Nat) : (t.kid i).pot ≤ t.pot := by
  unfold T.kid
  rw [List.getD_eq_getElem?_getD]
  by_cases h : i < t.ks.length
  · rw [List.getElem?_eq_getElem h]
    have := pots_mem (List.getElem_mem h)
    cases t with
    | mk k n a ls ks => rw [T.pot]; simp only [T.ks_mk, Option.getD_some] at this ⊢; omega
  · rw [List.getElem?_eq_none (by omega)]
    have := pot_pos t
    exact this
theorem pots_append : ∀ a b : List T, T.pots (a ++ b) = T.pots a + T.pots b
  | [], b => by simp [T.pots]
  | t :: r, b => by rw [List.cons_append, T.pots, T.pots, pots_append r b]; omega
/-- the first kids, padded -/
theorem pots_pad (ks : List T) : ∀ m : Nat, T.pots ((List.range m).map fun j => ks.getD j zeroT) ≤ T.pots (ks.take m) + (m - ks.length)
  | 0 => by simp [T.pots]
  | m + 1 => by
    rw [List.range_succ, List.map_append, pots_append]
    have ih := pots_pad ks m
    simp only [List.map_cons, List.map_nil, T.pots]
    by_cases h : m < ks.length
    · rw [List.take_succ_eq_append_getElem h, pots_append]
      simp only [T.pots]
      rw [List.getD_eq_getElem?_getD, List.getElem?_eq_getElem h]
      simp only [Option.getD_some]
      omega
    · rw [List.take_of_length_le (by omega)] at ih ⊢
      rw [List.getD_eq_getElem?_getD, List.getElem?_eq_none (by omega)]
      simp only [Option.getD_none, pot_zero]
      omega
theorem pots_take : ∀ (ks : List T) (m : Nat), T.pots (ks.take m) ≤ T.pots ks
  | [], m => by simp
  | t :: r, 0 => by simp [T.pots]
  | t :: r, m + 1 => by rw [List.take_succ_cons, T.pots, T.pots]; have := pots_take r m; omega
theorem pots_withK (ks : List T) (x : T) (i : Nat) : ∀ m : Nat, T.pots (withK ks x i m) + (if i < m then (ks.getD i zeroT).pot else 0) = T.pots ((List.range m).map fun j => ks.getD j zeroT) + (if i < m then x.pot else 0)
  | 0 => by simp [withK, T.pots]
  | m + 1 => by
    have ih := pots_withK ks x i m
    unfold withK at ih ⊢
    rw [List.range_succ, List.map_append, List.map_append, pots_append, pots_append]
    simp only [List.map_cons, List.map_nil, T.pots]
    by_cases h1 : m = i
    · subst h1
      rw [if_neg (by omega)] at ih
      rw [if_neg (by omega)] at ih
      simp only [if_true, if_pos (Nat.lt_succ_self m)]
      omega
    · simp only [h1, if_false]
      by_cases h2 : i < m
      · rw [if_pos h2, if_pos h2] at ih
        rw [if_pos (by omega), if_pos (by omega)]
        omega
      · rw [if_neg h2, if_neg h2] at ih
        rw [if_neg (by omega), if_neg (by omega)]
        omega
theorem spot_lack {t : T} {i many : Nat} (h : spot t = some (i, many)) : lackN t.k many = 0 ∧ many - t.ks.length ≤ lackN t.k t.ks.length := by
  unfold spot at h
  unfold lackN
  by_cases h1 : t.k = 6
  · rw [if_pos h1] at h ⊢; rw [if_pos h1]; cases h; omega
  rw [if_neg h1] at h ⊢; rw [if_neg h1]
  by_cases h1 : t.k = 14 ∨ t.k = 15
  · rw [if_pos h1] at h ⊢; rw [if_pos h1]; cases h; omega
  rw [if_neg h1] at h ⊢; rw [if_neg h1]
  by_cases h1 : t.k = 18
  · rw [if_pos h1] at h ⊢; rw [if_pos h1]; cases h; omega
  rw [if_neg h1] at h ⊢; rw [if_neg h1]
  by_cases h1 : t.k = 21
  · rw [if_pos h1] at h ⊢; rw [if_pos h1]; cases h; omega
  rw [if_neg h1] at h ⊢; rw [if_neg h1]
  by_cases h1 : t.k = 24 ∧ 0 ≤ t.a ∧ (t.ks.length : Int) - 2 = t.a
  · rw [if_pos h1] at h; cases h; omega
  · rw [if_neg h1] at h; cases h
theorem with_pot {t x : T} {i many : Nat} (h : spot t = some (i, many)) : (t.withT x i many).pot + (t.kid i).pot ≤ t.pot + x.pot := by
  have hlt := spot_lt h
  have hlack := spot_lack h
  have h1 := pots_withK t.ks x i many
  have h2 := pots_pad t.ks many
  have h3 := pots_take t.ks many
  rw [if_pos hlt, if_pos hlt] at h1
  cases t with
  | mk k n a ls ks =>
    unfold T.withT T.kid
    rw [T.pot, T.pot]
    simp only [T.k_mk, T.ks_mk, withK_len] at hlack h1 h2 h3 ⊢
    omega
theorem trunc_pot (t : T) : t.trunc.pot ≤ t.pot := by
  induction t using T.ind with
  | h k n a ls ks ih =>
    rcases spot_of (.mk k n a ls ks) with hs | ⟨i, many, hs⟩
    · rw [trunc_none hs]; exact Nat.le_refl _
    · by_cases hi : i < (T.mk k n a ls ks).ks.length
      · rw [trunc_in hs hi]
        have h1 := with_pot (x := T.trunc (T.mk k n a ls ks).ks[i]) hs
        have h2 := ih _ (List.getElem_mem hi)
        have h3 : (T.mk k n a ls ks).kid i = (T.mk k n a ls ks).ks[i] := by unfold T.kid; rw [List.getD_eq_getElem?_getD, List.getElem?_eq_getElem hi]; rfl
        rw [h3] at h1
        simp only [T.ks_mk] at h1 h2 ⊢
        omega
      · rw [trunc_out hs hi]
        have h1 := with_pot (x := zeroT) hs
        have h2 := pot_pos ((T.mk k n a ls ks).kid i)
        rw [pot_zero] at h1
        omega
theorem nsz_of2 (k : Int) (x y : T) : (ofT k [x, y]).nsz = 1 + x.nsz + y.nsz := by unfold ofT; rw [T.nsz, T.nszs, T.nszs, T.nszs]; omega
theorem nsz_lift0 (t : T) (n fr : Int) : (t.lift n fr 0).nsz = t.nsz := nsz_lift n fr t 0
theorem tree_nsz (t s : T) : (treeT t s).nsz = treeN t s := by
  unfold treeT treeN
  simp only [nsz_of2]
  unfold ofT
  simp only [T.nsz, T.nszs, nsz_lift0]
  have : ((t.kid 1).put [s.kid 0] 0).nsz = (t.kid 1).sd (s.kid 0).nsz 0 := nsz_put _ _ _
  rw [this]
  omega
theorem own_nsz {l : List C} {t x u : T} {c : Nat} (h : ownS l t x = some (u, c)) : u.nsz = c := by
  unfold ownS at h
  repeat' split at h
  all_goals first | (cases h; done) | skip
  all_goals first
    | (cases h; exact nsz_put _ _ _)
    | (cases h; exact tree_nsz _ _)
    | (cases h; rfl)
    | (rw [Option.map_eq_some_iff] at h; obtain ⟨b, -, hb⟩ := h; cases hb; rfl)
theorem own_pos {l : List C} {t x u : T} {c : Nat} (h : ownS l t x = some (u, c)) : 1 ≤ c := by rw [← own_nsz h]; exact u.nsz_pos
/-- a step, by its place -/
theorem hstep_cases {l : List C} {t u : T} {c : Nat} (h : hstep l t = some (u, c)) :
    (∃ i many, spot t = some (i, many) ∧ ∃ hi : i < t.ks.length, ∃ v, hstep l t.ks[i] = some (v, c) ∧ u = t.withT v i many) ∨
    (∃ i many, spot t = some (i, many) ∧ ∃ x, x.pot ≤ (t.kid i).pot ∧ ownS l (t.withT x i many) x = some (u, c)) ∨
    (spot t = none ∧ ownS l t zeroT = some (u, c)) := by
  rcases spot_of t with hs | ⟨i, many, hs⟩
  · exact .inr (.inr ⟨hs, by rw [← hstep_none hs]; exact h⟩)
  · by_cases hi : i < t.ks.length
    · cases hk : hstep l t.ks[i] with
      | some v =>
        rw [hstep_in hs hi (u := v.1) (c := v.2) hk] at h
        cases h
        exact .inl ⟨i, many, hs, hi, v.1, hk, rfl⟩
      | none =>
        rw [hstep_at hs hi hk] at h
        refine .inr (.inl ⟨i, many, hs, _, ?_, h⟩)
        have h3 : t.kid i = t.ks[i] := by unfold T.kid; rw [List.getD_eq_getElem?_getD, List.getElem?_eq_getElem hi]; rfl
        rw [h3]
        exact trunc_pot _
    · rw [hstep_out hs hi] at h
      exact .inr (.inl ⟨i, many, hs, zeroT, by rw [pot_zero]; exact pot_pos _, h⟩)
theorem hstep_pos {l : List C} (t : T) : ∀ {u : T} {c : Nat}, hstep l t = some (u, c) → 1 ≤ c := by
  induction t using T.ind with
  | h k n a ls ks ih =>
    intro u c h
    rcases hstep_cases h with ⟨i, many, hs, hi, v, hv, -⟩ | ⟨i, many, hs, x, -, ho⟩ | ⟨hs, ho⟩
    · exact ih _ (List.getElem_mem hi) hv
    · exact own_pos ho
    · exact own_pos ho
theorem hstep_pot {l : List C} (t : T) : ∀ {u : T} {c : Nat}, hstep l t = some (u, c) → u.pot ≤ t.pot + 7 * c := by
  induction t using T.ind with
  | h k n a ls ks ih =>
    intro u c h
    rcases hstep_cases h with ⟨i, many, hs, hi, v, hv, rfl⟩ | ⟨i, many, hs, x, -, ho⟩ | ⟨hs, ho⟩
    · have h1 := ih _ (List.getElem_mem hi) hv
      have h2 := with_pot (x := v) hs
      have h3 : (T.mk k n a ls ks).kid i = (T.mk k n a ls ks).ks[i] := by unfold T.kid; rw [List.getD_eq_getElem?_getD, List.getElem?_eq_getElem hi]; rfl
      rw [h3] at h2
      simp only [T.ks_mk] at h2 h1 ⊢
      omega
    · have h1 := own_nsz ho
      have h2 := pot_le u
      omega
    · have h1 := own_nsz ho
      have h2 := pot_le u
      omega
/-! bounds -/
theorem zero_ok : okT zeroT := .mk (by unfold I64; omega) (by unfold I64; omega) (by unfold I64; omega) (by simp) (fun _ h => nomatch h) (by simp) (fun _ h => nomatch h)
theorem getD_ok {ks : List T} (h : ∀ t, t ∈ ks → okT t) (i : Nat) : okT (ks.getD i zeroT) := by
  rw [List.getD_eq_getElem?_getD]
  by_cases hi : i < ks.length
  · rw [List.getElem?_eq_getElem hi]; exact h _ (List.getElem_mem hi)
  · rw [List.getElem?_eq_none (by omega)]; exact zero_ok
theorem kid_ok {t : T} (h : okT t) (i : Nat) : okT (t.kid i) := getD_ok h.ks i
theorem with_ok {t x : T} {i many : Nat} (h : okT t) (hx : okT x) (hm : many ≤ LMax) : okT (t.withT x i many) := by
  unfold T.withT
  refine .mk h.k h.n h.a h.ll h.ls (by rw [withK_len]; exact hm) fun y hy => ?_
  unfold withK at hy
  rw [List.mem_map] at hy
  obtain ⟨j, -, rfl⟩ := hy
  split
  · exact hx
  · exact getD_ok h.ks j
theorem spot_many {t : T} {i many : Nat} (h : spot t = some (i, many)) (ht : okT t) : many ≤ LMax := by
  have hk := ht.kl
  unfold spot at h
  unfold LMax at hk ⊢
  repeat' split at h
  all_goals first | (cases h; omega) | cases h
theorem trunc_ok (t : T) : okT t → okT t.trunc := by
  induction t using T.ind with
  | h k n a ls ks ih =>
    intro ht
    rcases spot_of (.mk k n a ls ks) with hs | ⟨i, many, hs⟩
    · rw [trunc_none hs]; exact ht
    · by_cases hi : i < (T.mk k n a ls ks).ks.length
      · rw [trunc_in hs hi]
        exact with_ok ht (ih _ (List.getElem_mem hi) (ht.ks _ (List.getElem_mem hi))) (spot_many hs ht)
      · rw [trunc_out hs hi]
        exact with_ok ht zero_ok (spot_many hs ht)
theorem ok_of {k : Int} {ks : List T} (hk : I64 k) (hl : ks.length ≤ LMax) (h : ∀ t, t ∈ ks → okT t) : okT (ofT k ks) := .mk hk (by unfold I64; omega) (by unfold I64; omega) (by simp) (fun _ h => nomatch h) hl h
theorem ok_of2 {k : Int} {x y : T} (hk : I64 k) (hx : okT x) (hy : okT y) : okT (ofT k [x, y]) := ok_of hk (by unfold LMax; simp) fun t h => by
  simp only [List.mem_cons, List.not_mem_nil, or_false] at h
  rcases h with rfl | rfl <;> assumption
theorem one_mem {x t : T} (h : t ∈ [x]) : t = x := by simpa using h
theorem tree_ok {t s : T} (ht : okT t) (hs : okT s) : okT (treeT t s) := by
  have i6 : I64 6 := by unfold I64; omega
  have i5 : I64 5 := by unfold I64; omega
  have i18 : I64 18 := by unfold I64; omega
  have i1 : I64 1 := by unfold I64; omega
  unfold treeT
  refine ok_of2 i6 (ok_of2 i6 (ok_of2 i6 (kid_ok ht 3) (kid_ok hs 0)) (kid_ok hs 1)) (ok_of2 i5 (put_ok (fun b hb => by rw [one_mem hb]; exact kid_ok hs 0) 0 (kid_ok ht 1)) (ok_of i18 (by unfold LMax; simp) fun y hy => ?_))
  simp only [List.mem_cons, List.not_mem_nil, or_false] at hy
  rcases hy with rfl | rfl | rfl | rfl | rfl
  · exact lift_ok _ _ _ (kid_ok ht 0)
  · exact lift_ok _ _ _ (kid_ok ht 1)
  · exact lift_ok _ _ _ (kid_ok ht 2)
  · exact lift_ok _ _ _ (kid_ok ht 3)
  · exact ok_of2 i6 (lift_ok _ _ _ (kid_ok hs 1)) (ok_of i1 (by simp) (fun _ h => nomatch h))
def okC (c : C) : Prop := I64 c.lv ∧ okT c.ty ∧ okT c.bo
theorem body_ok {l : List C} (hl : ∀ c, c ∈ l → okC c) {n : Int} {lv : List LV} {b : T} (h : bodyC l n lv = some b) : okT b := by
  unfold bodyC at h
  split at h
  · rename_i h1
    split at h
    · cases h; exact levels_ok _ _ (hl _ (List.getElem_mem h1.2)).2.2
    · cases h
  · cases h
theorem body_nsz {l : List C} {B : Nat} (hl : ∀ c, c ∈ l → c.bo.nsz ≤ B) {n : Int} {lv : List LV} {b : T} (h : bodyC l n lv = some b) : b.nsz ≤ B := by
  unfold bodyC at h
  split at h
  · rename_i h1
    split at h
    · cases h; unfold T.levels; rw [nsz_levels]; exact hl _ (List.getElem_mem h1.2)
    · cases h
  · cases h
theorem own_ok {l : List C} (hl : ∀ c, c ∈ l → okC c) {t x u : T} {c : Nat} (ht : okT t) (hx : okT x) (h : ownS l t x = some (u, c)) : okT u := by
  unfold ownS at h
  repeat' split at h
  all_goals first | (cases h; done) | skip
  all_goals first
    | (cases h; exact put_ok (fun b hb => by rw [one_mem hb]; exact kid_ok ht 1) 0 (kid_ok hx 1))
    | (cases h; exact put_ok (fun b hb => by rw [one_mem hb]; exact kid_ok ht 1) 0 (kid_ok ht 2))
    | (cases h; exact tree_ok ht hx)
    | (cases h; exact kid_ok hx _)
    | (cases h; exact kid_ok ht _)
    | (rw [Option.map_eq_some_iff] at h; obtain ⟨b, hb1, hb⟩ := h; cases hb; exact body_ok hl hb1)
theorem hstep_ok {l : List C} (hl : ∀ c, c ∈ l → okC c) (t : T) : ∀ {u : T} {c : Nat}, okT t → hstep l t = some (u, c) → okT u := by
  induction t using T.ind with
  | h k n a ls ks ih =>
    intro u c ht h
    rcases spot_of (.mk k n a ls ks) with hs | ⟨i, many, hs⟩
    · rw [hstep_none hs] at h; exact own_ok hl ht zero_ok h
    · by_cases hi : i < (T.mk k n a ls ks).ks.length
      · have hki := ht.ks _ (List.getElem_mem hi)
        cases hk : hstep l (T.mk k n a ls ks).ks[i] with
        | some v =>
          rw [hstep_in hs hi (u := v.1) (c := v.2) hk] at h
          cases h
          exact with_ok ht (ih _ (List.getElem_mem hi) hki hk) (spot_many hs ht)
        | none =>
          rw [hstep_at hs hi hk] at h
          exact own_ok hl (with_ok ht (trunc_ok _ hki) (spot_many hs ht)) (trunc_ok _ hki) h
      · rw [hstep_out hs hi] at h
        exact own_ok hl (with_ok ht zero_ok (spot_many hs ht)) zero_ok h
theorem sd_bound {t a : T} {A : Nat} (h1 : t.pot ≤ A) (h2 : a.pot ≤ A) : t.sd a.nsz 0 ≤ A * A := by
  have h3 := T.sd_le a.nsz a.nsz_pos t 0
  have h4 := nsz_pot t
  have h5 := nsz_pot a
  exact Nat.le_trans h3 (Nat.mul_le_mul (by omega) (by omega))
end Go.Proofs.YtebmlojhdnldgaaGreatDoor

namespace Go.Proofs.YtebmlojhdnldgaaGreatDoor
set_option linter.unusedSimpArgs false
set_option linter.unusedVariables false
open Go.RowKit
/-- the fuel is gone, with so much left -/
inductive GoneAt (l : List C) : T → Int → Int → Prop where
  | now {t u : T} {c : Nat} {f : Int} (h : hstep l t = some (u, c)) (hf : f < c) : GoneAt l t f f
  | later {t u : T} {c : Nat} {f q : Int} (h : hstep l t = some (u, c)) (hf : (c : Int) ≤ f) (r : GoneAt l u (f - c) q) : GoneAt l t f q
theorem hd_or_gone (l : List C) (k : Nat) : ∀ (t : T) (f : Int), 0 ≤ f → f ≤ k → (∃ n u, Hd l t n u ∧ (n : Int) ≤ f) ∨ ∃ q, GoneAt l t f q := by
  induction k with
  | zero =>
    intro t f h0 h1
    cases h : hstep l t with
    | none => exact .inl ⟨0, _, .stop h, by omega⟩
    | some p =>
      have := hstep_pos t h
      exact .inr ⟨f, .now h (by omega)⟩
  | succ k ih =>
    intro t f h0 h1
    cases h : hstep l t with
    | none => exact .inl ⟨0, _, .stop h, by omega⟩
    | some p =>
      have hp := hstep_pos t h
      by_cases hc : (p.2 : Int) ≤ f
      · rcases ih p.1 (f - p.2) (by omega) (by omega) with ⟨n, u, h2, h3⟩ | ⟨q, h2⟩
        · exact .inl ⟨p.2 + n, u, .step h h2, by omega⟩
        · exact .inr ⟨q, .later h hc h2⟩
      · exact .inr ⟨f, .now h (by omega)⟩
theorem Hd.done {l : List C} {t v : T} {n : Nat} (h : Hd l t n v) : hstep l v = none ∧ v.trunc = v := by
  induction h with
  | stop h => exact trunc_stuck _ h
  | step h r ih => exact ih
/-- what stands at the place -/
def placeX (t : T) : T := match spot t with
  | some p => t.kid p.1
  | none => zeroT
theorem kid_in {t : T} {i : Nat} (h : i < t.ks.length) : t.kid i = t.ks[i] := by unfold T.kid; rw [List.getD_eq_getElem?_getD, List.getElem?_eq_getElem h]; rfl
theorem kid_out {t : T} {i : Nat} (h : ¬ i < t.ks.length) : t.kid i = zeroT := by unfold T.kid; rw [List.getD_eq_getElem?_getD, List.getElem?_eq_none (by omega)]; rfl
theorem with_len {t x : T} {i many : Nat} : (t.withT x i many).ks.length = many := by unfold T.withT; rw [T.ks_mk, withK_len]
theorem with_kid {t x : T} {i many : Nat} (h : spot t = some (i, many)) : (t.withT x i many).kid i = x := by
  have hlt := spot_lt h
  have h2 : i < (t.withT x i many).ks.length := by rw [with_len]; exact hlt
  rw [kid_in h2, with_get hlt h2]
theorem place_with {t x : T} {i many : Nat} (h : spot t = some (i, many)) : placeX (t.withT x i many) = x := by
  unfold placeX
  rw [spot_with h]
  exact with_kid h
theorem kid_step {l : List C} {t : T} {i many : Nat} (hs : spot t = some (i, many)) {u : T} {c : Nat} (hu : hstep l (t.kid i) = some (u, c)) : hstep l t = some (t.withT u i many, c) := by
  by_cases hi : i < t.ks.length
  · rw [kid_in hi] at hu; exact hstep_in hs hi hu
  · rw [kid_out hi, zero_step] at hu; cases hu
theorem kid_stuck {l : List C} {t : T} {i many : Nat} (hs : spot t = some (i, many)) (hu : hstep l (t.kid i) = none) : hstep l t = ownS l (t.withT (t.kid i).trunc i many) (t.kid i).trunc ∧ t.trunc = t.withT (t.kid i).trunc i many := by
  by_cases hi : i < t.ks.length
  · rw [kid_in hi] at hu ⊢; exact ⟨hstep_at hs hi hu, trunc_in hs hi⟩
  · rw [kid_out hi, trunc_none zero_spot]; exact ⟨hstep_out hs hi, trunc_out hs hi⟩
/-- a place that is brought to its head -/
theorem ready {l : List C} {t v : T} {i many : Nat} (hs : spot t = some (i, many)) (hv : hstep l v = none) (hv2 : v.trunc = v) : hstep l (t.withT v i many) = ownS l (t.withT v i many) v ∧ (t.withT v i many).trunc = t.withT v i many := by
  have h1 := spot_with (x := v) hs
  have h2 := kid_stuck (l := l) h1 (by rw [with_kid hs]; exact hv)
  rw [with_kid hs, hv2, with_with] at h2
  exact h2
theorem ready_kid {l : List C} {t : T} {i many : Nat} (hs : spot t = some (i, many)) (hu : hstep l (t.kid i) = none) : hstep l (t.withT (t.kid i).trunc i many) = hstep l t ∧ (t.withT (t.kid i).trunc i many).trunc = t.trunc := by
  obtain ⟨h1, h2⟩ := trunc_stuck _ hu
  obtain ⟨h3, h4⟩ := ready hs h1 h2
  obtain ⟨h5, h6⟩ := kid_stuck hs hu
  exact ⟨by rw [h3, h5], by rw [h4, h6]⟩
theorem Hd.place {l : List C} {t u : T} {n : Nat} (h : Hd l t n u) : ∀ {i many : Nat}, spot t = some (i, many) → ∃ m v, Hd l (t.kid i) m v ∧ m ≤ n ∧ Hd l (t.withT v i many) (n - m) u := by
  induction h with
  | @stop t h =>
    intro i many hs
    cases hk : hstep l (t.kid i) with
    | some p => rw [kid_step hs (u := p.1) (c := p.2) hk] at h; cases h
    | none =>
      obtain ⟨h1, h2⟩ := ready_kid hs hk
      refine ⟨0, _, .stop hk, Nat.le_refl _, ?_⟩
      rw [← h2]
      exact .stop (by rw [h1]; exact h)
  | @step t u v c n h r ih =>
    intro i many hs
    cases hk : hstep l (t.kid i) with
    | some p =>
      rw [kid_step hs (u := p.1) (c := p.2) hk] at h
      cases h
      obtain ⟨m, w, h1, h2, h3⟩ := ih (spot_with hs)
      rw [with_kid hs] at h1
      rw [with_with] at h3
      exact ⟨p.2 + m, w, .step hk h1, by omega, by rw [show p.2 + n - (p.2 + m) = n - m by omega]; exact h3⟩
    | none =>
      obtain ⟨h1, h2⟩ := ready_kid hs hk
      exact ⟨0, _, .stop hk, Nat.zero_le _, .step (by rw [h1]; exact h) r⟩
theorem GoneAt.place {l : List C} {t : T} {f q : Int} (h : GoneAt l t f q) : ∀ {i many : Nat}, 0 ≤ f → spot t = some (i, many) → GoneAt l (t.kid i) f q ∨ ∃ m v, Hd l (t.kid i) m v ∧ (m : Int) ≤ f ∧ GoneAt l (t.withT v i many) (f - m) q := by
  induction h with
  | @now t u c f h hf =>
    intro i many h0 hs
    cases hk : hstep l (t.kid i) with
    | some p =>
      rw [kid_step hs (u := p.1) (c := p.2) hk] at h
      cases h
      exact .inl (.now hk hf)
    | none =>
      obtain ⟨h1, h2⟩ := ready_kid hs hk
      refine .inr ⟨0, _, .stop hk, by omega, ?_⟩
      have : GoneAt l (t.withT (t.kid i).trunc i many) f f := .now (by rw [h1]; exact h) hf
      simpa using this
  | @later t u c f q h hf r ih =>
    intro i many h0 hs
    cases hk : hstep l (t.kid i) with
    | some p =>
      rw [kid_step hs (u := p.1) (c := p.2) hk] at h
      cases h
      rcases ih (by omega) (spot_with hs) with h1 | ⟨m, w, h1, h2, h3⟩
      · rw [with_kid hs] at h1
        exact .inl (.later hk hf h1)
      · rw [with_kid hs] at h1
        rw [with_with] at h3
        refine .inr ⟨p.2 + m, w, .step hk h1, by omega, ?_⟩
        rw [show f - ((p.2 + m : Nat) : Int) = f - p.2 - m by omega]
        exact h3
    | none =>
      obtain ⟨h1, h2⟩ := ready_kid hs hk
      refine .inr ⟨0, _, .stop hk, by omega, ?_⟩
      have : GoneAt l (t.withT (t.kid i).trunc i many) f q := .later (by rw [h1]; exact h) hf r
      simpa using this
end Go.Proofs.YtebmlojhdnldgaaGreatDoor

namespace Go.Proofs.YtebmlojhdnldgaaGreatDoor
set_option linter.unusedSimpArgs false
set_option linter.unusedVariables false
open Go.RowKit
def appliedT (t : T) : T := ofT 6 [t.lift 1 0 0, ofT 1 []]
/-- the parts of a function, a pair; of another one what eta says -/
def partsT (k : Int) (t : T) : List T :=
  if t.k = k then (if k = 13 then [t.kid 0, t.kid 1] else [t.kid 1]) else (if k = 13 then [ofT 14 [t], ofT 15 [t]] else [appliedT t])
def mattersT (t : T) : List T := if t.k = 18 then [t.kid 2, t.kid 3, t.kid 4] else if t.k = 21 then [t.kid 2, t.kid 3, t.kid 5] else t.ks
def alikeT (x y : T) : Prop := x.k = y.k ∧ x.n = y.n ∧ x.a = y.a ∧ x.ks.length = y.ks.length ∧ sameLs x.ls y.ls = true
instance (x y : T) : Decidable (alikeT x y) := by unfold alikeT; infer_instance
/-- what two heads are asked -/
def prs (x y : T) : Option (List T × List T) :=
  if x.k = 5 ∨ y.k = 5 then some (partsT 5 x, partsT 5 y) else if x.k = 13 ∨ y.k = 13 then some (partsT 13 x, partsT 13 y) else if alikeT x y then some (mattersT x, mattersT y) else none
/-- what to bring to the head comes to -/
inductive HdO (l : List C) (t : T) (f : Int) : Option (T × Int) → Prop where
  | fin {m : Nat} {u : T} (h : Hd l t m u) (hm : (m : Int) ≤ f) : HdO l t f (some (u, f - m))
  | gone {q : Int} (h : GoneAt l t f q) : HdO l t f none
/-- whether the terms of two rows are one, one by one: the answer and what is left, or the fuel is gone -/
inductive CR (l : List C) : Nat → List T → List T → Int → Option (Bool × Int) → Prop where
  | nil {h : Nat} {f : Int} : CR l h [] [] f (some (true, f))
  | out {h : Nat} {p q : T} {ps qs : List T} : CR l (h + 1) (p :: ps) (q :: qs) 0 none
  | same {h : Nat} {p q : T} {ps qs : List T} {f : Int} {o : Option (Bool × Int)} (hf : 1 ≤ f) (hs : p.sameB q = true) (hr : CR l (h + 1) ps qs (f - 1) o) : CR l (h + 1) (p :: ps) (q :: qs) f o
  | gone1 {h : Nat} {p q : T} {ps qs : List T} {f : Int} (hf : 1 ≤ f) (hs : p.sameB q = false) (h1 : HdO l p (f - 1) none) : CR l (h + 1) (p :: ps) (q :: qs) f none
  | gone2 {h : Nat} {p q x : T} {ps qs : List T} {f f1 : Int} (hf : 1 ≤ f) (hs : p.sameB q = false) (h1 : HdO l p (f - 1) (some (x, f1))) (h2 : HdO l q f1 none) : CR l (h + 1) (p :: ps) (q :: qs) f none
  | mis {h : Nat} {p q x y : T} {ps qs : List T} {f f1 f2 : Int} (hf : 1 ≤ f) (hs : p.sameB q = false) (h1 : HdO l p (f - 1) (some (x, f1))) (h2 : HdO l q f1 (some (y, f2))) (hp : prs x y = none) : CR l (h + 1) (p :: ps) (q :: qs) f (some (false, f2))
  | kids {h : Nat} {p q x y : T} {ps qs ds bs : List T} {f f1 f2 : Int} {o : Option (Bool × Int)} (hf : 1 ≤ f) (hs : p.sameB q = false) (h1 : HdO l p (f - 1) (some (x, f1))) (h2 : HdO l q f1 (some (y, f2))) (hp : prs x y = some (ds, bs))
      (hk : CR l h ds bs f2 o) (hn : ∀ g, o ≠ some (true, g)) : CR l (h + 1) (p :: ps) (q :: qs) f o
  | yes {h : Nat} {p q x y : T} {ps qs ds bs : List T} {f f1 f2 g : Int} {o : Option (Bool × Int)} (hf : 1 ≤ f) (hs : p.sameB q = false) (h1 : HdO l p (f - 1) (some (x, f1))) (h2 : HdO l q f1 (some (y, f2))) (hp : prs x y = some (ds, bs))
      (hk : CR l h ds bs f2 (some (true, g))) (hr : CR l (h + 1) ps qs g o) : CR l (h + 1) (p :: ps) (q :: qs) f o
/-- whether a term is at most another one -/
inductive LR (l : List C) : Nat → T → T → Int → Option (Bool × Int) → Prop where
  | out {h : Nat} {p q : T} : LR l h p q 0 none
  | same {h : Nat} {p q : T} {f : Int} (hf : 1 ≤ f) (hs : p.sameB q = true) : LR l h p q f (some (true, f - 1))
  | gone1 {h : Nat} {p q : T} {f : Int} (hf : 1 ≤ f) (hs : p.sameB q = false) (h1 : HdO l p (f - 1) none) : LR l h p q f none
  | gone2 {h : Nat} {p q x : T} {f f1 : Int} (hf : 1 ≤ f) (hs : p.sameB q = false) (h1 : HdO l p (f - 1) (some (x, f1))) (h2 : HdO l q f1 none) : LR l h p q f none
  | sort {h : Nat} {p q x y : T} {a b : LV} {f f1 f2 : Int} (hf : 1 ≤ f) (hs : p.sameB q = false) (h1 : HdO l p (f - 1) (some (x, f1))) (h2 : HdO l q f1 (some (y, f2))) (hx : x.k = 2 ∧ x.ls = [a]) (hy : y.k = 2 ∧ y.ls = [b]) : LR l h p q f (some (leqM a b, f2))
  | pino {h : Nat} {p q x y : T} {f f1 f2 : Int} {o : Option (Bool × Int)} (hf : 1 ≤ f) (hs : p.sameB q = false) (h1 : HdO l p (f - 1) (some (x, f1))) (h2 : HdO l q f1 (some (y, f2))) (hx : x.k = 4) (hy : y.k = 4)
      (hk : CR l h [x.kid 0] [y.kid 0] f2 o) (hn : ∀ g, o ≠ some (true, g)) : LR l h p q f o
  | pi {h : Nat} {p q x y : T} {f f1 f2 g : Int} {o : Option (Bool × Int)} (hf : 1 ≤ f) (hs : p.sameB q = false) (h1 : HdO l p (f - 1) (some (x, f1))) (h2 : HdO l q f1 (some (y, f2))) (hx : x.k = 4) (hy : y.k = 4)
      (hk : CR l h [x.kid 0] [y.kid 0] f2 (some (true, g))) (hr : LR l h (x.kid 1) (y.kid 1) g o) : LR l h p q f o
  | one {h : Nat} {p q x y : T} {f f1 f2 : Int} {o : Option (Bool × Int)} (hf : 1 ≤ f) (hs : p.sameB q = false) (h1 : HdO l p (f - 1) (some (x, f1))) (h2 : HdO l q f1 (some (y, f2)))
      (hn : ¬ (x.k = 2 ∧ y.k = 2 ∧ x.ls.length = 1 ∧ y.ls.length = 1)) (hn2 : ¬ (x.k = 4 ∧ y.k = 4)) (hr : CR l h [x] [y] f2 o) : LR l h p q f o
/-! heads -/
theorem hdO_total (l : List C) (t : T) (f : Int) (h0 : 0 ≤ f) : ∃ o, HdO l t f o := by
  rcases hd_or_gone l f.toNat t f h0 (by omega) with ⟨n, u, h, hn⟩ | ⟨q, g⟩
  · exact ⟨_, .fin h hn⟩
  · exact ⟨_, .gone g⟩
theorem goneAt_lt {l : List C} {t : T} {f q : Int} (g : GoneAt l t f q) : ∀ {m : Nat} {u : T}, Hd l t m u → f < m := by
  induction g with
  | now h hf =>
    intro m u hd
    cases hd with
    | stop h3 => rw [h] at h3; cases h3
    | step h3 r => rw [h] at h3; cases h3; omega
  | later h hf r ih =>
    intro m u hd
    cases hd with
    | stop h3 => rw [h] at h3; cases h3
    | step h3 r3 => rw [h] at h3; cases h3; have := ih r3; omega
theorem HdO.le {l : List C} {t u : T} {f g : Int} (h : HdO l t f (some (u, g))) : 0 ≤ g ∧ g ≤ f := by
  cases h with
  | fin h hm => omega
theorem HdO.det {l : List C} {t : T} {f : Int} {o o' : Option (T × Int)} (h : HdO l t f o) (h' : HdO l t f o') : o = o' := by
  cases h with
  | fin h hm =>
    cases h' with
    | fin h' hm' => obtain ⟨rfl, rfl⟩ := h.det h'; rfl
    | gone g => have := goneAt_lt g h; omega
  | gone g =>
    cases h' with
    | fin h' hm' => have := goneAt_lt g h'; omega
    | gone g' => rfl
theorem HdO.more {l : List C} {t u : T} {f g d : Int} (h : HdO l t f (some (u, g))) (hd : 0 ≤ d) : HdO l t (f + d) (some (u, g + d)) := by
  generalize ho : some (u, g) = o at h
  cases h with
  | @fin m u' h hm =>
    cases ho
    have := HdO.fin (f := f + d) h (by omega)
    rw [show f + d - (m : Int) = f - m + d by omega] at this
    exact this
  | gone g => cases ho
theorem Hd.again {l : List C} {t u : T} {m : Nat} (h : Hd l t m u) : Hd l u 0 u := by
  obtain ⟨h1, h2⟩ := h.done
  have := Hd.stop h1
  rwa [h2] at this
theorem HdO.again {l : List C} {t u : T} {f g : Int} (h : HdO l t f (some (u, g))) {f' : Int} (h0 : 0 ≤ f') : HdO l u f' (some (u, f')) := by
  generalize ho : some (u, g) = o at h
  cases h with
  | fin h hm =>
    cases ho
    have := HdO.fin (f := f') h.again (by omega)
    rw [show f' - ((0 : Nat) : Int) = f' by omega] at this
    exact this
  | gone g => cases ho
theorem parts_len (k : Int) (x y : T) : (partsT k x).length = (partsT k y).length := by
  unfold partsT
  split <;> split <;> split <;> rfl
theorem prs_len {x y : T} {ds bs : List T} (h : prs x y = some (ds, bs)) : ds.length = bs.length := by
  unfold prs at h
  split at h
  · cases h; exact parts_len _ _ _
  · split at h
    · cases h; exact parts_len _ _ _
    · split at h
      · rename_i ha
        cases h
        unfold alikeT at ha
        unfold mattersT
        rw [ha.1]
        split
        · rfl
        · split
          · rfl
          · exact ha.2.2.2.1
      · cases h
/-! what the question comes to -/
theorem CR.mono {l : List C} {h : Nat} {ps qs : List T} {f : Int} {o : Option (Bool × Int)} (H : CR l h ps qs f o) : ∀ {h' : Nat}, h ≤ h' → CR l h' ps qs f o := by
  induction H with
  | nil => intro h' _; exact .nil
  | out => intro h' hh; obtain ⟨k, rfl⟩ : ∃ k, h' = k + 1 := ⟨h' - 1, by omega⟩; exact .out
  | same hf hs hr ih => intro h' hh; obtain ⟨k, rfl⟩ : ∃ k, h' = k + 1 := ⟨h' - 1, by omega⟩; exact .same hf hs (ih hh)
  | gone1 hf hs h1 => intro h' hh; obtain ⟨k, rfl⟩ : ∃ k, h' = k + 1 := ⟨h' - 1, by omega⟩; exact .gone1 hf hs h1
  | gone2 hf hs h1 h2 => intro h' hh; obtain ⟨k, rfl⟩ : ∃ k, h' = k + 1 := ⟨h' - 1, by omega⟩; exact .gone2 hf hs h1 h2
  | mis hf hs h1 h2 hp => intro h' hh; obtain ⟨k, rfl⟩ : ∃ k, h' = k + 1 := ⟨h' - 1, by omega⟩; exact .mis hf hs h1 h2 hp
  | kids hf hs h1 h2 hp hk hn ih => intro h' hh; obtain ⟨k, rfl⟩ : ∃ k, h' = k + 1 := ⟨h' - 1, by omega⟩; exact .kids hf hs h1 h2 hp (ih (by omega)) hn
  | yes hf hs h1 h2 hp hk hr ih1 ih2 => intro h' hh; obtain ⟨k, rfl⟩ : ∃ k, h' = k + 1 := ⟨h' - 1, by omega⟩; exact .yes hf hs h1 h2 hp (ih1 (by omega)) (ih2 hh)
theorem CR.det {l : List C} {h : Nat} {ps qs : List T} {f : Int} {o : Option (Bool × Int)} (H : CR l h ps qs f o) : ∀ {h' : Nat} {o' : Option (Bool × Int)}, CR l h' ps qs f o' → o = o' := by
  induction H with
  | nil => intro h' o' K; cases K; rfl
  | out => intro h' o' K; cases K <;> first | rfl | omega
  | same hf hs hr ih =>
    intro h' o' K
    cases K with
    | out => omega
    | same _ _ hr' => exact ih hr'
    | gone1 _ hs' _ | gone2 _ hs' _ _ | mis _ hs' _ _ _ | kids _ hs' _ _ _ _ _ | yes _ hs' _ _ _ _ _ => rw [hs] at hs'; cases hs'
  | gone1 hf hs h1 =>
    intro h' o' K
    cases K with
    | out => rfl
    | same _ hs' _ => rw [hs] at hs'; cases hs'
    | gone1 _ _ _ => rfl
    | gone2 _ _ h1' _ | mis _ _ h1' _ _ | kids _ _ h1' _ _ _ _ | yes _ _ h1' _ _ _ _ => cases h1.det h1'
  | gone2 hf hs h1 h2 =>
    intro h' o' K
    cases K with
    | out => rfl
    | same _ hs' _ => rw [hs] at hs'; cases hs'
    | gone1 _ _ _ => rfl
    | gone2 _ _ _ _ => rfl
    | mis _ _ h1' h2' _ | kids _ _ h1' h2' _ _ _ | yes _ _ h1' h2' _ _ _ => cases h1.det h1'; cases h2.det h2'
  | mis hf hs h1 h2 hp =>
    intro h' o' K
    cases K with
    | out => omega
    | same _ hs' _ => rw [hs] at hs'; cases hs'
    | gone1 _ _ h1' => cases h1.det h1'
    | gone2 _ _ h1' h2' => cases h1.det h1'; cases h2.det h2'
    | mis _ _ h1' h2' _ => cases h1.det h1'; cases h2.det h2'; rfl
    | kids _ _ h1' h2' hp' _ _ | yes _ _ h1' h2' hp' _ _ => cases h1.det h1'; cases h2.det h2'; rw [hp] at hp'; cases hp'
  | kids hf hs h1 h2 hp hk hn ih =>
    intro h' o' K
    cases K with
    | out => omega
    | same _ hs' _ => rw [hs] at hs'; cases hs'
    | gone1 _ _ h1' => cases h1.det h1'
    | gone2 _ _ h1' h2' => cases h1.det h1'; cases h2.det h2'
    | mis _ _ h1' h2' hp' => cases h1.det h1'; cases h2.det h2'; rw [hp] at hp'; cases hp'
    | kids _ _ h1' h2' hp' hk' _ => cases h1.det h1'; cases h2.det h2'; rw [hp] at hp'; cases hp'; exact ih hk'
    | yes _ _ h1' h2' hp' hk' _ => cases h1.det h1'; cases h2.det h2'; rw [hp] at hp'; cases hp'; exact absurd (ih hk') (hn _)
  | yes hf hs h1 h2 hp hk hr ih1 ih2 =>
    intro h' o' K
    cases K with
    | out => omega
    | same _ hs' _ => rw [hs] at hs'; cases hs'
    | gone1 _ _ h1' => cases h1.det h1'
    | gone2 _ _ h1' h2' => cases h1.det h1'; cases h2.det h2'
    | mis _ _ h1' h2' hp' => cases h1.det h1'; cases h2.det h2'; rw [hp] at hp'; cases hp'
    | kids _ _ h1' h2' hp' hk' hn' => cases h1.det h1'; cases h2.det h2'; rw [hp] at hp'; cases hp'; exact absurd (ih1 hk').symm (hn' _)
    | yes _ _ h1' h2' hp' hk' hr' => cases h1.det h1'; cases h2.det h2'; rw [hp] at hp'; cases hp'; cases ih1 hk'; exact ih2 hr'
theorem CR.le {l : List C} {h : Nat} {ps qs : List T} {f : Int} {o : Option (Bool × Int)} (H : CR l h ps qs f o) : 0 ≤ f → ∀ b g, o = some (b, g) → 0 ≤ g ∧ g ≤ f := by
  induction H with
  | nil => intro h0 b g e; cases e; omega
  | out | gone1 _ _ _ | gone2 _ _ _ _ => intro h0 b g e; cases e
  | same hf hs hr ih => intro h0 b g e; have := ih (by omega) b g e; omega
  | mis hf hs h1 h2 hp => intro h0 b g e; cases e; have := h1.le; have := h2.le; omega
  | kids hf hs h1 h2 hp hk hn ih => intro h0 b g e; have := h1.le; have := h2.le; have := ih (by omega) b g e; omega
  | yes hf hs h1 h2 hp hk hr ih1 ih2 => intro h0 b g e; have := h1.le; have := h2.le; have := ih1 (by omega) _ _ rfl; have := ih2 (by omega) b g e; omega
theorem CR.more {l : List C} {h : Nat} {ps qs : List T} {f d : Int} {o : Option (Bool × Int)} (H : CR l h ps qs f o) (hd : 0 ≤ d) : ∀ b g, o = some (b, g) → CR l h ps qs (f + d) (some (b, g + d)) := by
  induction H with
  | nil => intro b g e; cases e; exact .nil
  | out | gone1 _ _ _ | gone2 _ _ _ _ => intro b g e; cases e
  | @same h p q ps qs f o hf hs hr ih =>
    intro b g e
    have := ih b g e
    rw [show f - 1 + d = f + d - 1 by omega] at this
    exact .same (by omega) hs this
  | @mis h p q x y ps qs f f1 f2 hf hs h1 h2 hp =>
    intro b g e; cases e
    have := h1.more hd
    rw [show f - 1 + d = f + d - 1 by omega] at this
    exact .mis (by omega) hs this (h2.more hd) hp
  | @kids h p q x y ps qs ds bs f f1 f2 o hf hs h1 h2 hp hk hn ih =>
    intro b g e
    have h3 := h1.more hd
    rw [show f - 1 + d = f + d - 1 by omega] at h3
    refine .kids (by omega) hs h3 (h2.more hd) hp (ih b g e) fun g' e' => ?_
    cases e'
    exact hn g e
  | @yes h p q x y ps qs ds bs f f1 f2 g' o hf hs h1 h2 hp hk hr ih1 ih2 =>
    intro b g e
    have h3 := h1.more hd
    rw [show f - 1 + d = f + d - 1 by omega] at h3
    exact .yes (by omega) hs h3 (h2.more hd) hp (ih1 _ _ rfl) (ih2 b g e)
/-- the answer does not hang on the fuel -/
theorem CR.agree {l : List C} {h h' : Nat} {ps qs : List T} {f f' g g' : Int} {b b' : Bool} (H : CR l h ps qs f (some (b, g))) (H' : CR l h' ps qs f' (some (b', g'))) : b = b' := by
  rcases Int.le_total f f' with hl | hl
  · have := H.more (d := f' - f) (by omega) b g rfl
    rw [show f + (f' - f) = f' by omega] at this
    cases this.det H'; rfl
  · have := H'.more (d := f - f') (by omega) b' g' rfl
    rw [show f' + (f - f') = f by omega] at this
    cases H.det this; rfl
theorem cr_total (l : List C) (n : Nat) : ∀ (ps qs : List T), ps.length = qs.length → ∀ f : Int, 0 ≤ f → f ≤ n → ∃ h o, CR l h ps qs f o := by
  induction n using Nat.strongRecOn with
  | ind n ihn =>
    intro ps
    induction ps with
    | nil => intro qs hl f _ _; cases qs with
      | nil => exact ⟨0, _, .nil⟩
      | cons _ _ => cases hl
    | cons p ps ihp =>
      intro qs hl f h0 h1
      cases qs with
      | nil => cases hl
      | cons q qs =>
        have hl' : ps.length = qs.length := by simpa using hl
        by_cases hf : f = 0
        · subst hf; exact ⟨1, _, .out⟩
        have hf1 : 1 ≤ f := by omega
        cases hs : p.sameB q with
        | true =>
          obtain ⟨h, o, H⟩ := ihn (n - 1) (by omega) ps qs hl' (f - 1) (by omega) (by omega)
          exact ⟨h + 1, o, .same hf1 hs (H.mono (by omega))⟩
        | false =>
          obtain ⟨o1, g1⟩ := hdO_total l p (f - 1) (by omega)
          cases o1 with
          | none => exact ⟨1, _, .gone1 hf1 hs g1⟩
          | some v1 =>
            obtain ⟨x, f1⟩ := v1
            have l1 := g1.le
            obtain ⟨o2, g2⟩ := hdO_total l q f1 l1.1
            cases o2 with
            | none => exact ⟨1, _, .gone2 hf1 hs g1 g2⟩
            | some v2 =>
              obtain ⟨y, f2⟩ := v2
              have l2 := g2.le
              cases hp : prs x y with
              | none => exact ⟨1, _, .mis hf1 hs g1 g2 hp⟩
              | some v =>
                obtain ⟨ds, bs⟩ := v
                obtain ⟨h, o, H⟩ := ihn (n - 1) (by omega) ds bs (prs_len hp) f2 l2.1 (by omega)
                by_cases hn : ∃ g, o = some (true, g)
                · obtain ⟨g, rfl⟩ := hn
                  have l3 := H.le l2.1 _ _ rfl
                  obtain ⟨h', o', H'⟩ := ihn (n - 1) (by omega) ps qs hl' g l3.1 (by omega)
                  exact ⟨max h h' + 1, o', .yes hf1 hs g1 g2 hp (H.mono (Nat.le_max_left ..)) (H'.mono (by have := Nat.le_max_right h h'; omega))⟩
                · exact ⟨h + 1, o, .kids hf1 hs g1 g2 hp H fun g e => hn ⟨g, e⟩⟩
/-- a row is asked one by one -/
theorem CR.split {l : List C} {h : Nat} {p q : T} {ps qs : List T} {f : Int} {o : Option (Bool × Int)} (H : CR l (h + 1) (p :: ps) (q :: qs) f o) :
    (CR l (h + 1) [p] [q] f none ∧ o = none) ∨ (∃ g, CR l (h + 1) [p] [q] f (some (false, g)) ∧ o = some (false, g)) ∨ ∃ g, CR l (h + 1) [p] [q] f (some (true, g)) ∧ CR l (h + 1) ps qs g o := by
  cases H with
  | out => exact .inl ⟨.out, rfl⟩
  | same hf hs hr => exact .inr (.inr ⟨_, .same hf hs .nil, hr⟩)
  | gone1 hf hs h1 => exact .inl ⟨.gone1 hf hs h1, rfl⟩
  | gone2 hf hs h1 h2 => exact .inl ⟨.gone2 hf hs h1 h2, rfl⟩
  | mis hf hs h1 h2 hp => exact .inr (.inl ⟨_, .mis hf hs h1 h2 hp, rfl⟩)
  | kids hf hs h1 h2 hp hk hn =>
    cases o with
    | none => exact .inl ⟨.kids hf hs h1 h2 hp hk hn, rfl⟩
    | some v =>
      obtain ⟨b, g⟩ := v
      cases b with
      | true => exact absurd rfl (hn g)
      | false => exact .inr (.inl ⟨g, .kids hf hs h1 h2 hp hk hn, rfl⟩)
  | yes hf hs h1 h2 hp hk hr => exact .inr (.inr ⟨_, .yes hf hs h1 h2 hp hk .nil, hr⟩)
/-- if all are one, each is -/
theorem CR.each {l : List C} {h : Nat} : ∀ {ps qs : List T} {f g : Int}, CR l h ps qs f (some (true, g)) → ∀ i (hi : i < ps.length) (hj : i < qs.length), ∃ f' g', 0 ≤ f → 0 ≤ f' ∧ CR l h [ps[i]] [qs[i]] f' (some (true, g'))
  | [], qs, f, g, H, i, hi, hj => absurd hi (by simp)
  | p :: ps, [], f, g, H, i, hi, hj => absurd hj (by simp)
  | p :: ps, q :: qs, f, g, H, i, hi, hj => by
    cases h with
    | zero => cases H
    | succ h =>
      rcases H.split with ⟨-, e⟩ | ⟨g', -, e⟩ | ⟨g', h1, h2⟩
      · cases e
      · cases e
      · cases i with
        | zero => exact ⟨f, g', fun h0 => ⟨h0, h1⟩⟩
        | succ i =>
          obtain ⟨f', g'', h3⟩ := CR.each h2 i (by simpa using hi) (by simpa using hj)
          exact ⟨f', g'', fun h0 => h3 (h1.le h0 _ _ rfl).1⟩
end Go.Proofs.YtebmlojhdnldgaaGreatDoor

namespace Go.Proofs.YtebmlojhdnldgaaGreatDoor
set_option linter.unusedSimpArgs false
set_option linter.unusedVariables false
open Go.RowKit
theorem eqAll_symm {α : Type} {p : α → α → Bool} (hp : ∀ a b, p a b = p b a) (l m : List α) : eqAll p l m = eqAll p m l := by
  induction l generalizing m with
  | nil => cases m <;> rfl
  | cons a r ih => cases m with
    | nil => rfl
    | cons b s => simp only [eqAll]; rw [hp a b, ih s]
theorem sameLs_symm (l m : List LV) : sameLs l m = sameLs m l := by
  rw [sameLs_all, sameLs_all]
  exact eqAll_symm (fun a b => by simp [eq_comm]) l m
mutual
theorem sameB_symm : ∀ t u : T, t.sameB u = u.sameB t
  | .mk k n a ls ks, .mk k' n' a' ls' ks' => by
    rw [T.sameB, T.sameB, sameLs_symm ls ls', samesB_symm ks ks']
    simp [eq_comm]
theorem samesB_symm : ∀ l m : List T, T.samesB l m = T.samesB m l
  | [], [] => rfl
  | [], _ :: _ => by rw [T.samesB, T.samesB] <;> simp
  | _ :: _, [] => by rw [T.samesB, T.samesB] <;> simp
  | t :: r, u :: s => by rw [T.samesB, T.samesB, sameB_symm t u, samesB_symm r s]
end
mutual
theorem sameB_refl : ∀ t : T, t.sameB t = true
  | .mk k n a ls ks => by rw [T.sameB, sameLs_refl, samesB_refl ks]; simp
theorem samesB_refl : ∀ l : List T, T.samesB l l = true
  | [] => rfl
  | t :: r => by rw [T.samesB, sameB_refl t, samesB_refl r]; rfl
end
theorem alike_symm {x y : T} : alikeT x y ↔ alikeT y x := by
  unfold alikeT
  rw [sameLs_symm x.ls y.ls]
  constructor
  · rintro ⟨a, b, c, d, e⟩; exact ⟨a.symm, b.symm, c.symm, d.symm, e⟩
  · rintro ⟨a, b, c, d, e⟩; exact ⟨a.symm, b.symm, c.symm, d.symm, e⟩
theorem prs_symm (x y : T) : prs y x = (prs x y).map fun v => (v.2, v.1) := by
  unfold prs
  by_cases h5 : x.k = 5 ∨ y.k = 5
  · rw [if_pos h5, if_pos h5.symm]; rfl
  · rw [if_neg h5, if_neg fun h => h5 h.symm]
    by_cases h13 : x.k = 13 ∨ y.k = 13
    · rw [if_pos h13, if_pos h13.symm]; rfl
    · rw [if_neg h13, if_neg fun h => h13 h.symm]
      by_cases ha : alikeT x y
      · rw [if_pos ha, if_pos (alike_symm.1 ha)]; rfl
      · rw [if_neg ha, if_neg fun h => ha (alike_symm.1 h)]; rfl
theorem HdO.cost {l : List C} {t u : T} {f g : Int} (h : HdO l t f (some (u, g))) : ∃ m : Nat, Hd l t m u ∧ g = f - m ∧ (m : Int) ≤ f := by
  generalize ho : some (u, g) = o at h
  cases h with
  | fin h hm => cases ho; exact ⟨_, h, rfl, hm⟩
  | gone g => cases ho
theorem HdO.of {l : List C} {t u : T} {f g : Int} {m : Nat} (h : Hd l t m u) (hg : g = f - m) (hm : (m : Int) ≤ f) : HdO l t f (some (u, g)) := by subst hg; exact .fin h hm
theorem HdO.lt {l : List C} {t u : T} {f : Int} {m : Nat} (h : HdO l t f none) (h2 : Hd l t m u) : f < m := by
  cases h with
  | gone g => exact goneAt_lt g h2
theorem HdO.none_of {l : List C} {t : T} {f : Int} (h0 : 0 ≤ f) (h : ∀ m u, Hd l t m u → f < (m : Nat)) : HdO l t f none := by
  obtain ⟨o, H⟩ := hdO_total l t f h0
  cases o with
  | none => exact H
  | some v => obtain ⟨u, g⟩ := v; obtain ⟨m, h1, -, h2⟩ := H.cost; have := h m u h1; omega
theorem swap2 {l : List C} {p q x y : T} {f f1 f2 : Int} (h1 : HdO l p f (some (x, f1))) (h2 : HdO l q f1 (some (y, f2))) : ∃ f1', HdO l q f (some (y, f1')) ∧ HdO l p f1' (some (x, f2)) := by
  obtain ⟨m, a1, a2, a3⟩ := h1.cost
  obtain ⟨n, b1, b2, b3⟩ := h2.cost
  exact ⟨f - n, .of b1 rfl (by omega), .of a1 (by omega) (by omega)⟩
theorem CR.symm {l : List C} {h : Nat} {ps qs : List T} {f : Int} {o : Option (Bool × Int)} (H : CR l h ps qs f o) : CR l h qs ps f o := by
  induction H with
  | nil => exact .nil
  | out => exact .out
  | same hf hs hr ih => exact .same hf (by rw [sameB_symm]; exact hs) ih
  | @gone1 h p q ps qs f hf hs h1 =>
    have hs' : q.sameB p = false := by rw [sameB_symm]; exact hs
    obtain ⟨o, H⟩ := hdO_total l q (f - 1) (by omega)
    cases o with
    | none => exact .gone1 hf hs' H
    | some v =>
      obtain ⟨y, f2⟩ := v
      have := H.le
      exact .gone2 hf hs' H (.none_of this.1 fun m u hd => by have := h1.lt hd; omega)
  | @gone2 h p q x ps qs f f1 hf hs h1 h2 =>
    have hs' : q.sameB p = false := by rw [sameB_symm]; exact hs
    obtain ⟨m, a1, a2, a3⟩ := h1.cost
    obtain ⟨o, H⟩ := hdO_total l q (f - 1) (by omega)
    cases o with
    | none => exact .gone1 hf hs' H
    | some v =>
      obtain ⟨y, f2⟩ := v
      obtain ⟨n, b1, b2, b3⟩ := H.cost
      have := h2.lt b1
      exact .gone2 hf hs' H (.none_of (by omega) fun m' u hd => by
        obtain ⟨rfl, -⟩ := a1.det hd
        omega)
  | mis hf hs h1 h2 hp =>
    obtain ⟨f1', c1, c2⟩ := swap2 h1 h2
    exact .mis hf (by rw [sameB_symm]; exact hs) c1 c2 (by rw [prs_symm, hp]; rfl)
  | kids hf hs h1 h2 hp hk hn ih =>
    obtain ⟨f1', c1, c2⟩ := swap2 h1 h2
    exact .kids hf (by rw [sameB_symm]; exact hs) c1 c2 (by rw [prs_symm, hp]; rfl) ih hn
  | yes hf hs h1 h2 hp hk hr ih1 ih2 =>
    obtain ⟨f1', c1, c2⟩ := swap2 h1 h2
    exact .yes hf (by rw [sameB_symm]; exact hs) c1 c2 (by rw [prs_symm, hp]; rfl) ih1 ih2
/-! at most -/
theorem LR.mono {l : List C} {h : Nat} {p q : T} {f : Int} {o : Option (Bool × Int)} (H : LR l h p q f o) : ∀ {h' : Nat}, h ≤ h' → LR l h' p q f o := by
  induction H with
  | out => intro h' _; exact .out
  | same hf hs => intro h' _; exact .same hf hs
  | gone1 hf hs h1 => intro h' _; exact .gone1 hf hs h1
  | gone2 hf hs h1 h2 => intro h' _; exact .gone2 hf hs h1 h2
  | sort hf hs h1 h2 hx hy => intro h' _; exact .sort hf hs h1 h2 hx hy
  | pino hf hs h1 h2 hx hy hk hn => intro h' hh; exact .pino hf hs h1 h2 hx hy (hk.mono hh) hn
  | pi hf hs h1 h2 hx hy hk hr ih => intro h' hh; exact .pi hf hs h1 h2 hx hy (hk.mono hh) (ih hh)
  | one hf hs h1 h2 hn hn2 hr => intro h' hh; exact .one hf hs h1 h2 hn hn2 (hr.mono hh)
theorem lr_total (l : List C) (n : Nat) : ∀ (p q : T) (f : Int), 0 ≤ f → f ≤ n → ∃ h o, LR l h p q f o := by
  induction n using Nat.strongRecOn with
  | ind n ihn =>
    intro p q f h0 h1
    by_cases hf : f = 0
    · subst hf; exact ⟨0, _, .out⟩
    have hf1 : 1 ≤ f := by omega
    cases hs : p.sameB q with
    | true => exact ⟨0, _, .same hf1 hs⟩
    | false =>
      obtain ⟨o1, g1⟩ := hdO_total l p (f - 1) (by omega)
      cases o1 with
      | none => exact ⟨0, _, .gone1 hf1 hs g1⟩
      | some v1 =>
        obtain ⟨x, f1⟩ := v1
        have l1 := g1.le
        obtain ⟨o2, g2⟩ := hdO_total l q f1 l1.1
        cases o2 with
        | none => exact ⟨0, _, .gone2 hf1 hs g1 g2⟩
        | some v2 =>
          obtain ⟨y, f2⟩ := v2
          have l2 := g2.le
          by_cases hso : x.k = 2 ∧ y.k = 2 ∧ x.ls.length = 1 ∧ y.ls.length = 1
          · obtain ⟨a, ha⟩ := List.length_eq_one_iff.1 hso.2.2.1
            obtain ⟨b, hb⟩ := List.length_eq_one_iff.1 hso.2.2.2
            exact ⟨0, _, .sort hf1 hs g1 g2 ⟨hso.1, ha⟩ ⟨hso.2.1, hb⟩⟩
          by_cases hpi : x.k = 4 ∧ y.k = 4
          · obtain ⟨h, o, H⟩ := cr_total l f2.toNat [x.kid 0] [y.kid 0] rfl f2 l2.1 (by omega)
            by_cases hn : ∃ g, o = some (true, g)
            · obtain ⟨g, rfl⟩ := hn
              have l3 := H.le l2.1 _ _ rfl
              obtain ⟨h', o', H'⟩ := ihn (n - 1) (by omega) (x.kid 1) (y.kid 1) g l3.1 (by omega)
              exact ⟨max h h', o', .pi hf1 hs g1 g2 hpi.1 hpi.2 (H.mono (Nat.le_max_left ..)) (H'.mono (Nat.le_max_right ..))⟩
            · exact ⟨h, o, .pino hf1 hs g1 g2 hpi.1 hpi.2 H fun g e => hn ⟨g, e⟩⟩
          · obtain ⟨h, o, H⟩ := cr_total l f2.toNat [x] [y] rfl f2 l2.1 (by omega)
            exact ⟨h, o, .one hf1 hs g1 g2 hso hpi H⟩
theorem LR.more {l : List C} {h : Nat} {p q : T} {f d : Int} {o : Option (Bool × Int)} (H : LR l h p q f o) (hd : 0 ≤ d) : ∀ b g, o = some (b, g) → LR l h p q (f + d) (some (b, g + d)) := by
  induction H with
  | out | gone1 _ _ _ | gone2 _ _ _ _ => intro b g e; cases e
  | @same p q f hf hs =>
    intro b g e; cases e
    have := LR.same (l := l) (h := h) (f := f + d) (by omega) hs
    rw [show f + d - 1 = f - 1 + d by omega] at this
    exact this
  | @sort p q x y a b f f1 f2 hf hs h1 h2 hx hy =>
    intro b' g e; cases e
    have h3 := h1.more hd
    rw [show f - 1 + d = f + d - 1 by omega] at h3
    exact .sort (by omega) hs h3 (h2.more hd) hx hy
  | @pino p q x y f f1 f2 o hf hs h1 h2 hx hy hk hn =>
    intro b g e
    have h3 := h1.more hd
    rw [show f - 1 + d = f + d - 1 by omega] at h3
    exact .pino (by omega) hs h3 (h2.more hd) hx hy (hk.more hd b g e) fun g' e' => by cases e'; exact hn g e
  | @pi p q x y f f1 f2 g' o hf hs h1 h2 hx hy hk hr ih =>
    intro b g e
    have h3 := h1.more hd
    rw [show f - 1 + d = f + d - 1 by omega] at h3
    exact .pi (by omega) hs h3 (h2.more hd) hx hy (hk.more hd _ _ rfl) (ih b g e)
  | @one p q x y f f1 f2 o hf hs h1 h2 hn hn2 hr =>
    intro b g e
    have h3 := h1.more hd
    rw [show f - 1 + d = f + d - 1 by omega] at h3
    exact .one (by omega) hs h3 (h2.more hd) hn hn2 (hr.more hd b g e)
theorem LR.le {l : List C} {h : Nat} {p q : T} {f : Int} {o : Option (Bool × Int)} (H : LR l h p q f o) : ∀ b g, o = some (b, g) → 0 ≤ g ∧ g ≤ f := by
  induction H with
  | out | gone1 _ _ _ | gone2 _ _ _ _ => intro b g e; cases e
  | same hf hs => intro b g e; cases e; omega
  | sort hf hs h1 h2 hx hy => intro b' g e; cases e; have := h1.le; have := h2.le; omega
  | pino hf hs h1 h2 hx hy hk hn => intro b g e; have := h1.le; have := h2.le; have := hk.le (by omega) b g e; omega
  | pi hf hs h1 h2 hx hy hk hr ih => intro b g e; have := h1.le; have := h2.le; have := hk.le (by omega) _ _ rfl; have := ih b g e; omega
  | one hf hs h1 h2 hn hn2 hr => intro b g e; have := h1.le; have := h2.le; have := hr.le (by omega) b g e; omega
theorem leqN_refl (a : LV) : leqN a a = true := by
  unfold leqN
  rw [Bool.not_eq_true', List.any_eq_false]
  intro p hp
  have : (a.any (underP p)) = true := List.any_eq_true.2 ⟨p, hp, by unfold underP; simp⟩
  rw [this]
  simp
theorem sameLs_one {a b : LV} (h : sameLs [a] [b] = true) : leqM a b = true := by
  rw [sameLs_all] at h
  simp [eqAll] at h
  unfold leqM
  rw [h]
  exact leqN_refl _
/-- the heads' question, if two terms are one but not the same -/
theorem CR.heads {l : List C} {h : Nat} {p q : T} {f g : Int} (H : CR l h [p] [q] f (some (true, g))) (hs : p.sameB q = false) :
    ∃ h' x y ds bs f0 f1 f2 g', h = h' + 1 ∧ HdO l p f0 (some (x, f1)) ∧ HdO l q f1 (some (y, f2)) ∧ prs x y = some (ds, bs) ∧ CR l h' ds bs f2 (some (true, g')) := by
  cases H with
  | same _ hs' _ => rw [hs] at hs'; cases hs'
  | kids hf hs h1 h2 hp hk hn => exact absurd rfl (hn _)
  | yes hf hs h1 h2 hp hk hr => exact ⟨_, _, _, _, _, _, _, _, _, rfl, h1, h2, hp, hk⟩
theorem HdO.same_head {l : List C} {t u v : T} {f f' g g' : Int} (h : HdO l t f (some (u, g))) (h' : HdO l t f' (some (v, g'))) : u = v := by
  obtain ⟨m, a, -, -⟩ := h.cost
  obtain ⟨n, b, -, -⟩ := h'.cost
  exact (a.det b).2
theorem prs_same {x y : T} {ds bs : List T} (h : prs x y = some (ds, bs)) (h5 : x.k ≠ 5) (h13 : x.k ≠ 13) (hk : x.k = y.k) : alikeT x y ∧ ds = mattersT x ∧ bs = mattersT y := by
  unfold prs at h
  rw [if_neg (by omega), if_neg (by omega)] at h
  split at h
  · rename_i ha; cases h; exact ⟨ha, rfl, rfl⟩
  · cases h
theorem kid_one {l : List C} {h : Nat} {x y : T} {f g : Int} (H : CR l h x.ks y.ks f (some (true, g))) (h0 : 0 ≤ f) (hl : x.ks.length = y.ks.length) (i : Nat) : ∃ h' f' g', 0 ≤ f' ∧ CR l h' [x.kid i] [y.kid i] f' (some (true, g')) := by
  by_cases hi : i < x.ks.length
  · obtain ⟨f', g', h3⟩ := H.each i hi (by omega)
    have e1 : x.kid i = x.ks[i] := by unfold T.kid; rw [List.getD_eq_getElem?_getD, List.getElem?_eq_getElem hi]; rfl
    have e2 : y.kid i = y.ks[i]'(by omega) := by unfold T.kid; rw [List.getD_eq_getElem?_getD, List.getElem?_eq_getElem (by omega)]; rfl
    rw [e1, e2]
    exact ⟨h, f', g', (h3 h0).1, (h3 h0).2⟩
  · have e1 : x.kid i = zeroT := by unfold T.kid; rw [List.getD_eq_getElem?_getD, List.getElem?_eq_none (by omega)]; rfl
    have e2 : y.kid i = zeroT := by unfold T.kid; rw [List.getD_eq_getElem?_getD, List.getElem?_eq_none (by omega)]; rfl
    rw [e1, e2]
    exact ⟨1, 1, _, by omega, .same (by omega) (sameB_refl _) .nil⟩
/-- what is one, is at most -/
theorem one_leq {l : List C} {h : Nat} {p q : T} {f : Int} {o : Option (Bool × Int)} (L : LR l h p q f o) : ∀ {h' : Nat} {f' g' : Int}, 0 ≤ f' → CR l h' [p] [q] f' (some (true, g')) → ∀ b g, o = some (b, g) → b = true := by
  induction L with
  | out | gone1 _ _ _ | gone2 _ _ _ _ => intro h' f' g' _ _ b g e; cases e
  | same hf hs => intro h' f' g' _ _ b g e; cases e; rfl
  | sort hf hs h1 h2 hx hy =>
    intro h' f' g' h0 H b g e; cases e
    obtain ⟨h'', x', y', ds, bs, f0, f1', f2', g'', rfl, c1, c2, hp, hk⟩ := H.heads hs
    cases h1.same_head c1
    cases h2.same_head c2
    obtain ⟨ha, -, -⟩ := prs_same hp (by omega) (by omega) (by omega)
    have := ha.2.2.2.2
    rw [hx.2, hy.2] at this
    exact sameLs_one this
  | pino hf hs h1 h2 hx hy hk hn =>
    intro h' f' g' h0 H b g e
    obtain ⟨h'', x', y', ds, bs, f0, f1', f2', g'', rfl, c1, c2, hp, hk'⟩ := H.heads hs
    cases h1.same_head c1
    cases h2.same_head c2
    obtain ⟨ha, rfl, rfl⟩ := prs_same hp (by omega) (by omega) (by omega)
    unfold mattersT at hk'
    rw [if_neg (by omega), if_neg (by omega), if_neg (by omega), if_neg (by omega)] at hk'
    obtain ⟨h3, f3, g3, -, H3⟩ := kid_one hk' c2.le.1 ha.2.2.2.1 0
    subst e
    exact (hk.agree H3)
  | pi hf hs h1 h2 hx hy hk hr ih =>
    intro h' f' g' h0 H b g e
    obtain ⟨h'', x', y', ds, bs, f0, f1', f2', g'', rfl, c1, c2, hp, hk'⟩ := H.heads hs
    cases h1.same_head c1
    cases h2.same_head c2
    obtain ⟨ha, rfl, rfl⟩ := prs_same hp (by omega) (by omega) (by omega)
    unfold mattersT at hk'
    rw [if_neg (by omega), if_neg (by omega), if_neg (by omega), if_neg (by omega)] at hk'
    obtain ⟨h3, f3, g3, h03, H3⟩ := kid_one hk' c2.le.1 ha.2.2.2.1 1
    exact ih h03 H3 b g e
  | @one p q x y f f1 f2 o hf hs h1 h2 hn hn2 hr =>
    intro h' f' g' h0 H b g e
    obtain ⟨h'', x', y', ds, bs, f0, f1', f2', g'', rfl, c1, c2, hp, hk'⟩ := H.heads hs
    cases h1.same_head c1
    cases h2.same_head c2
    subst e
    cases hsx : x.sameB y with
    | true => exact hr.agree (CR.same (l := l) (h := 0) (f := 1) (by omega) hsx .nil)
    | false =>
      have K : CR l (h'' + 1) [x] [y] (f2' + 1) (some (true, g'')) := by
        have hf2 := c2.le
        refine .yes (by omega) hsx (f1 := f2') (f2 := f2') ?_ ?_ hp hk' .nil
        · rw [show f2' + 1 - 1 = f2' by omega]; exact c1.again hf2.1
        · exact c2.again hf2.1
      exact hr.agree K
/-- a product is at most another one if what it tells is -/
theorem pi_stuck (l : List C) (c a : T) : Hd l (ofT 4 [c, a]) 0 (ofT 4 [c, a]) := by
  have h1 : spot (ofT 4 [c, a]) = none := rfl
  have h2 : hstep l (ofT 4 [c, a]) = none := by rw [hstep_none h1]; rfl
  have := Hd.stop h2
  rwa [trunc_none h1] at this
theorem pi_leq {l : List C} {h : Nat} {a b : T} (c : T) {f g : Int} {up : Bool} (L : LR l h a b f (some (up, g))) : ∃ h' g', LR l h' (ofT 4 [c, a]) (ofT 4 [c, b]) (2 * f + 4) (some (up, g')) := by
  have hl := L.le _ _ rfl
  have hf : 1 ≤ f := by
    generalize ho : some (up, g) = o at L
    cases L <;> first | (cases ho; done) | assumption
  cases hs : (ofT 4 [c, a]).sameB (ofT 4 [c, b]) with
  | true =>
    have hab : a.sameB b = true := by
      unfold ofT at hs
      rw [T.sameB, T.samesB, T.samesB] at hs
      simp only [Bool.and_eq_true] at hs
      exact hs.2.2.1
    have : up = true := by
      generalize ho : some (up, g) = o at L
      cases L with
      | out => cases ho
      | same _ _ => cases ho; rfl
      | gone1 _ hs' _ | gone2 _ hs' _ _ | sort _ hs' _ _ _ _ | pino _ hs' _ _ _ _ _ _ | pi _ hs' _ _ _ _ _ _ | one _ hs' _ _ _ _ _ => rw [hab] at hs'; cases hs'
    subst this
    exact ⟨0, _, .same (by omega) hs⟩
  | false =>
    have h1 : HdO l (ofT 4 [c, a]) (2 * f + 4 - 1) (some (ofT 4 [c, a], 2 * f + 3)) := .of (pi_stuck l c a) (by omega) (by omega)
    have h2 : HdO l (ofT 4 [c, b]) (2 * f + 3) (some (ofT 4 [c, b], 2 * f + 3)) := .of (pi_stuck l c b) (by omega) (by omega)
    have h3 : CR l (h + 1) [c] [c] (2 * f + 3) (some (true, 2 * f + 3 - 1)) := .same (by omega) (sameB_refl c) .nil
    have h4 := L.more (d := f + 2) (by omega) _ _ rfl
    rw [show f + (f + 2) = 2 * f + 3 - 1 by omega] at h4
    exact ⟨h + 1, _, .pi (by omega) hs h1 h2 rfl rfl h3 (h4.mono (by omega))⟩
end Go.Proofs.YtebmlojhdnldgaaGreatDoor

namespace Go.Proofs.YtebmlojhdnldgaaGreatDoor
set_option linter.unusedSimpArgs false
set_option linter.unusedVariables false
open Go.RowKit
theorem wpD_fgtO {P : Program} {G : Nat → Option D} {M : Nat} {Q : DQ} {tl : List D} {hl : List HO} {df : Df} {c : Code} (i : Nat) {ty : TypeId} {ds : List D} (hi : hOf hl i = .cells ty ds) (h : wpD P G M c Q tl (hl.set i (.cells ty (D.fgts ds))) df) : wpD P G M c Q tl hl df := fun ρ0 w0 H0 ρ w a hbs hst => by
  have hlt : i < hl.length := by
    rcases Nat.lt_or_ge i hl.length with h | h
    · exact h
    · unfold hOf at hi; rw [List.getD_eq_getElem?_getD, List.getElem?_eq_none h] at hi; cases hi
  refine h ρ0 w0 H0 ρ w a hbs ?_
  have hH : ∀ k, hOf (hl.set i (.cells ty (D.fgts ds))) k = if k = i then .cells ty (D.fgts ds) else hOf hl k := fun k => by
    unfold hOf
    rw [List.getD_eq_getElem?_getD, List.getD_eq_getElem?_getD]
    by_cases hk : k = i
    · subst hk
      rw [if_pos rfl, List.getElem?_set_self hlt]; rfl
    · rw [if_neg hk, List.getElem?_set_ne (fun e => hk e.symm)]
  have hlv : ∀ k, (hOf (hl.set i (.cells ty (D.fgts ds))) k).live = (hOf hl k).live := fun k => by
    rw [hH k]
    split
    · rename_i hk; subst hk; rw [hi]; rfl
    · rfl
  have hL : ∀ b, Live ρ (hOf (hl.set i (.cells ty (D.fgts ds)))) b → Live ρ (hOf hl) b := fun b ⟨k, f, q1, q2⟩ => ⟨k, f, q1, by rw [← hlv k]; exact q2⟩
  have hR := hst.rel
  refine ⟨⟨fun k hk => hR.free k ?_, hR.fresh, fun k b f hk => ?_, fun k l b f g e1 e2 e3 e4 => hR.inj k l b f g e1 e2 (by rw [← hlv k]; exact e3) (by rw [← hlv l]; exact e4), hR.glob⟩, ⟨hst.ex.grow, hst.ex.frame, fun b hb hlt => hst.ex.live b (hL b hb) hlt⟩, hst.tmp, hst.size, hst.df⟩
  · rw [hH k] at hk
    split at hk
    · cases hk
    · exact hk
  · rw [hH k]
    have h2 := hR.obj k b f hk
    split
    · rename_i hki
      subst hki
      rw [hi] at h2
      obtain ⟨c0, vs, q1, q2⟩ := h2
      exact ⟨c0, vs, q1, RpL_fgt _ _ q2⟩
    · exact h2
mutual
theorem D.fgt_of_deep : ∀ d : D, d.deep.fgt = d.deep
  | .agg ds => by rw [D.deep, D.fgt, D.fgts_of_deeps ds]
  | .tuple ds => by rw [D.deep, D.fgt, D.fgts_of_deeps ds]
  | .iface t d => by rw [D.deep, D.fgt, D.fgt_of_deep d]
  | .slice els _ => by rw [D.deep, D.fgt]
  | .fn f a b => by simp [D.deep, D.fgt]
  | .ref d => by simp [D.deep, D.fgt]
  | .mapc ks vs => by simp [D.deep, D.fgt]
  | .junk | .int k n | .bool b | .str s | .nilp | .nilf | .nili | .nilm | .box i o | .map i | .own i n | .ebox i sz k o => by simp [D.deep, D.fgt]
theorem D.fgts_of_deeps : ∀ ds : List D, D.fgts (D.deeps ds) = D.deeps ds
  | [] => by rw [D.deeps, D.fgts]
  | d :: r => by rw [D.deeps, D.fgts, D.fgt_of_deep d, D.fgts_of_deeps r]
end
mutual
theorem D.deep_of_fgt : ∀ d : D, d.fgt.deep = d.deep
  | .agg ds => by rw [D.fgt, D.deep, D.deep, D.deeps_of_fgts ds]
  | .tuple ds => by rw [D.fgt, D.deep, D.deep, D.deeps_of_fgts ds]
  | .iface t d => by rw [D.fgt, D.deep, D.deep, D.deep_of_fgt d]
  | .slice els _ => by rw [D.fgt, D.deep, D.deep]
  | .fn f a b => by simp [D.deep, D.fgt]
  | .ref d => by simp [D.deep, D.fgt]
  | .mapc ks vs => by simp [D.deep, D.fgt]
  | .junk | .int k n | .bool b | .str s | .nilp | .nilf | .nili | .nilm | .box i o | .map i | .own i n | .ebox i sz k o => by simp [D.deep, D.fgt]
theorem D.deeps_of_fgts : ∀ ds : List D, D.deeps (D.fgts ds) = D.deeps ds
  | [] => by rw [D.fgts]
  | d :: r => by rw [D.fgts, D.deeps, D.deeps, D.deep_of_fgt d, D.deeps_of_fgts r]
end
def Out.deep : Out → Out
  | .ret d => .ret d.deep
  | .pan d => .pan d.deep
theorem OutM.deep {ρ : Rho} {w : World} {o : Out} {e : Ending} (h : OutM ρ w o e) : OutM ρ w o.deep e := by
  cases o with
  | ret d => obtain ⟨u, h1, h2⟩ := h; exact ⟨u, h1, Rp_deep _ _ h2⟩
  | pan d => obtain ⟨u, h1, h2⟩ := h; exact ⟨u, h1, Rp_deep _ _ h2⟩
theorem Out.deep_ret {o : Out} {e : D} (h : o.fgt = .ret e) : o.deep.fgt = .ret e.deep := by
  cases o with
  | ret x =>
    have h' : x.fgt = e := by simpa [Out.fgt] using h
    subst h'
    show Out.ret _ = _
    rw [D.fgt_of_deep, D.deep_of_fgt]
  | pan x => simp [Out.fgt] at h
/-- of what is told no room is known, however deep -/
theorem Spec.deepR {P : Program} {G : Nat → Option D} {f : FuncId} {args : List D} {objs : List HO} {e d : D} (h : Spec P G f args objs (fun o _ => o.fgt = .ret e)) (he : e.deep = d) : Spec P G f args objs (fun o _ => o.fgt = .ret d) := fun ρ w vs hR hv => by
  obtain ⟨h1, h2⟩ := h ρ w vs hR hv
  refine ⟨h1, h2.mono ?_⟩
  rintro e' w' ⟨ρ', out, hc, hp, hm, hr, hx⟩
  exact ⟨ρ', out.deep, hc, (Out.deep_ret hp).trans (by rw [he]), hm.deep, hr, hx⟩
end Go.Proofs.YtebmlojhdnldgaaGreatDoor

namespace Go.Proofs.YtebmlojhdnldgaaGreatDoor
set_option linter.unusedSimpArgs false
set_option linter.unusedVariables false
open Go.RowKit
/-- behind a statement whose ends are many, of which something is told: a -/
theorem wpD_seqE {P : Program} {G : Nat → Option D} {M : Nat} {Q : DX → List D → List HO → Df → Prop} {tl : List D} {hl : List HO} {df : Df} {α : Type} {x y : Code} (W : List Nat) (ds : α → List D) (hl1 : α → List HO) (Pre : α → Prop) (h1 : ∀ a, Pre a → wpD P G M y Q (putAll tl W (ds a)) (hl1 a) df)
    (h2 : ∀ K : List D → List HO → Df → Prop, (∀ a tl', Pre a → leT (putAll tl W (ds a)) tl' → K tl' (hl1 a) df) → wpD P G M x (thenD K Q) tl hl df) : wpD P G M (.seq x y) Q tl hl df :=
  wpD_seqk fun K hK => h2 K fun a tl' hp h => hK _ _ _ (wpD_weak h (h1 a hp))
@[simp high] theorem encP_deep (p : Int × Int) : (encP p).deep = encP p := rfl
theorem mapP_deep (l : LV) : D.deeps (l.map encP) = l.map encP := by rw [D.deeps_map, List.map_map]; rfl
@[simp high] theorem mapP_deep' (l : LV) : D.deeps (l.map encP) = l.map encP := mapP_deep l
@[simp high] theorem encL_deep (l : LV) : (encL l).deep = encL l := by
  unfold encL
  simp only [D.deep, D.deeps, mapP_deep]
@[simp high] theorem mapL_deep (l : List LV) : D.deeps (l.map encL) = l.map encL := by
  rw [D.deeps_map, List.map_map]
  exact List.map_congr_left fun x _ => encL_deep x
@[simp high] theorem encT_deep (t : T) : (encT t).deep = encT t := by
  induction t using T.ind with
  | h k n a ls ks ih =>
    rw [encT_eq]
    have : D.deeps (ks.map encT) = ks.map encT := by
      rw [D.deeps_map, List.map_map]
      exact List.map_congr_left fun x hx => ih x hx
    simp only [D.deep, D.deeps, mapL_deep, T.ks_mk, this]
@[simp high] theorem mapT_deep (l : List T) : D.deeps (l.map encT) = l.map encT := by
  rw [D.deeps_map, List.map_map]
  exact List.map_congr_left fun x _ => encT_deep x
@[simp high] theorem mapI_deep (l : List Int) : D.deeps (l.map (.int .i64)) = l.map (.int .i64) := by
  rw [D.deeps_map, List.map_map]; rfl
end Go.Proofs.YtebmlojhdnldgaaGreatDoor

namespace Go.Proofs.YtebmlojhdnldgaaGreatDoor
set_option linter.unusedSimpArgs false
set_option linter.unusedVariables false
open Go.RowKit
def encC (c : C) : D := .agg [.int .i64 c.lv, .int .i64 c.ty.k, .int .i64 c.ty.n, .int .i64 c.ty.a, .slice (c.ty.ls.map encL) .any, .slice (c.ty.ks.map encT) .any, .bool c.has, .int .i64 c.bo.k, .int .i64 c.bo.n, .int .i64 c.bo.a, .slice (c.bo.ls.map encL) .any, .slice (c.bo.ks.map encT) .any]
def Cs (l : List C) : D := .slice (l.map encC) .any
def zeroC : C := ⟨0, zeroT, false, zeroT⟩
@[simp high] theorem encC_pure (c : C) : (encC c).pure = true := by simp [encC, D.pure, D.pures, Cp.free]
@[simp high] theorem encC_fgt (c : C) : (encC c).fgt = encC c := by simp [encC, D.fgt, D.fgts]
@[simp high] theorem encC_size (c : C) : (encC c).size = 12 := rfl
@[simp high] theorem encC_cells (c : C) : (encC c).cells = [.int .i64 c.lv, .int .i64 c.ty.k, .int .i64 c.ty.n, .int .i64 c.ty.a, .slice (c.ty.ls.map encL) .any, .slice (c.ty.ks.map encT) .any, .bool c.has, .int .i64 c.bo.k, .int .i64 c.bo.n, .int .i64 c.bo.a, .slice (c.bo.ls.map encL) .any, .slice (c.bo.ks.map encT) .any] := rfl
@[simp high] theorem encC_frz (bx : FK) (i : Nat) (x : D) (c : C) : D.frz bx i x (encC c) = encC c := D.frz_pure bx i x _ (encC_pure c)
@[simp high] theorem mapC_frz (bx : FK) (i : Nat) (x : D) (l : List C) : D.frzs bx i x (l.map encC) = l.map encC := D.frzs_pure bx i x _ (by simp [D.pures_map])
@[simp high] theorem encC_low (m : Nat) (c : C) : (encC c).low m = true := D.low_pure m _ (encC_pure c)
@[simp high] theorem mapC_low (m : Nat) (l : List C) : D.lows m (l.map encC) = true := D.lows_pure m _ (by simp [D.pures_map])
@[simp high] theorem encC_okN (p : Nat → Bool) (c : C) : (encC c).okN p = true := D.okN_pure p _ (encC_pure c)
@[simp high] theorem encC_ren (σ : Nat → Nat) (c : C) : D.ren σ (encC c) = encC c := D.ren_pure σ _ (encC_pure c)
@[simp high] theorem mapC_okN (p : Nat → Bool) (l : List C) : D.okNs p (l.map encC) = true := D.okNs_pure p _ (by simp [D.pures_map])
@[simp high] theorem mapC_ren (σ : Nat → Nat) (l : List C) : D.rens σ (l.map encC) = l.map encC := D.rens_pure σ _ (by simp [D.pures_map])
@[simp high] theorem mapC_pures (l : List C) : D.pures (l.map encC) = true := by simp [D.pures_map]
@[simp high] theorem encC_deep (c : C) : (encC c).deep = encC c := by simp only [encC, D.deep, D.deeps, mapL_deep, mapT_deep]
@[simp high] theorem mapC_deep (l : List C) : D.deeps (l.map encC) = l.map encC := by
  rw [D.deeps_map, List.map_map]
  exact List.map_congr_left fun x _ => encC_deep x
theorem encZ : encT zeroT = .agg [.int .i64 0, .int .i64 0, .int .i64 0, .slice [] .any, .slice [] .any] := encT_eq _
/-- a kid of a number -/
def kidI (t : T) (n : Int) : T := if n < 0 then zeroT else t.kid n.toNat
theorem kidI_nat (t : T) (n : Nat) : kidI t (n : Int) = t.kid n := by unfold kidI; rw [if_neg (by omega)]; rfl
theorem encT_mk' (k n a : Int) (ls : List LV) (ks : List T) : encT (.mk k n a ls ks) = .agg [.int .i64 k, .int .i64 n, .int .i64 a, .slice (ls.map encL) .any, .slice (ks.map encT) .any] := encT_eq _
/-- who brings to the head -/
def headD (left : Int) (l : List C) (once done : Bool) : HO := .cells 76 [.int .i64 left, Cs l, .bool once, .bool done, .map 1]
def goneD : D := .iface 122 (.agg [])
/-! sizes as the machine counts -/
mutual
def T.sdw (many : Int) : T → Int → Int
  | .mk k n _ _ ks, b => if k = 1 ∧ n = b then many else T.sdws many k ks 0 b 1
def T.sdws (many k : Int) : List T → Nat → Int → Int → Int
  | [], _, _, s => s
  | t :: r, i, b, s => T.sdws many k r (i + 1) b (IntKind.i64.wrap (s + T.sdw many t (belowD b k i)))
end
theorem wrap_both (a b : Int) : IntKind.i64.wrap (IntKind.i64.wrap a + IntKind.i64.wrap b) = IntKind.i64.wrap (a + b) := by
  simp only [IntKind.wrap_i64]; omega
mutual
theorem sz_true : ∀ t : T, t.sz = IntKind.i64.wrap (t.nsz : Int)
  | .mk k n a ls ks => by
    rw [T.sz, T.nsz, szs_true ks 1 1 (by rfl)]
theorem szs_true : ∀ (ks : List T) (s : Int) (m : Nat), s = IntKind.i64.wrap (m : Int) → T.szs ks s = IntKind.i64.wrap ((m + T.nszs ks : Nat) : Int)
  | [], s, m, h => by rw [T.szs, T.nszs, h]; rfl
  | t :: r, s, m, h => by
    rw [T.szs, T.nszs, szs_true r _ (m + t.nsz) (by
      rw [h, sz_true t, wrap_both, Int.natCast_add])]
    congr 2
    omega
end
mutual
theorem sdw_true (many : Nat) : ∀ (t : T) (b : Int), T.sdw (IntKind.i64.wrap (many : Int)) t b = IntKind.i64.wrap ((t.sd many b : Nat) : Int)
  | .mk k n a ls ks, b => by
    rw [T.sdw, T.sd]
    split
    · rfl
    · rw [sdws_true many k ks 0 b 1 1 (by rfl)]
theorem sdws_true (many : Nat) (k : Int) : ∀ (ks : List T) (i : Nat) (b s : Int) (m : Nat), s = IntKind.i64.wrap (m : Int) → T.sdws (IntKind.i64.wrap (many : Int)) k ks i b s = IntKind.i64.wrap ((m + T.sds many k ks i b : Nat) : Int)
  | [], i, b, s, m, h => by rw [T.sdws, T.sds, h]; rfl
  | t :: r, i, b, s, m, h => by
    rw [T.sdws, T.sds, sdws_true many k r (i + 1) b _ (m + t.sd many (belowD b k i)) (by
      rw [h, sdw_true many t, wrap_both, Int.natCast_add])]
    congr 2
    omega
end
end Go.Proofs.YtebmlojhdnldgaaGreatDoor

namespace Go.Proofs.YtebmlojhdnldgaaGreatDoor
set_option linter.unusedSimpArgs false
set_option linter.unusedVariables false
set_option maxHeartbeats 10000000
set_option maxRecDepth 20000
open Go.RowKit
attribute [local simp] wpAft_ret wpAft_pan wantD evOp opD tmOf putS updS setS hOf isFree isTok fillD TK.isAgg TK.known partD thenD blockD putAll D.ofV inB nilTest isNilS binX binD binE isCst bndD capB IntKind.min IntKind.max IntKind.signed IntKind.bits dstOf late
theorem kid_spec (t : T) (n : Int) : Spec Tryz.prog glob 80 [encT t, .int .i64 n] [] (fun o _ => o.fgt = .ret (encT (kidI t n))) := by
  obtain ⟨r, hr⟩ : ∃ r, r = kidI t n := ⟨_, rfl⟩
  rw [← hr]
  rw [encT_eq t]
  refine Spec.movd globPure (wpD_spec tyOK Tryz.func80 rfl (enters _ _ Tryz.func80 rfl (by decide)) rfl rfl ?_)
  (refine wpD_seqk fun K hK => ?_; refine wpD_region tyOK ?_; ((repeat (rw [wpS_cons]; simp)); (try simp only [wpS_nil, thenD, blockD])); refine hK _ _ _ ?_; clear hK K)
  refine wpD_seqk fun K1 hK1 => ?_
  by_cases h1 : n < 0
  · rw [show kidI t n = zeroT from by unfold kidI; rw [if_pos h1]] at hr
    subst hr
    (refine wpD_seqk fun K hK => ?_; refine wpD_region tyOK ?_; ((repeat (rw [wpS_cons]; simp [h1])); (try simp only [wpS_nil, thenD, blockD])); refine hK _ _ _ ?_; clear hK K)
    refine wpD_part rfl (fun _ => ?_) (fun h => by simp at h)
    (refine wpD_seqk fun K hK => ?_; refine wpD_region tyOK ?_; ((repeat (rw [wpS_cons]; simp)); (try simp only [wpS_nil, thenD, blockD])); refine hK _ _ _ ?_; clear hK K)
    (refine wpD_ret ?_; (try simp only [thenD, blockD]); refine EndQ.ret rfl (.inl ?_); simp [tmOf, Out.fgt, D.fgt, D.fgts])
    exact encZ.symm
  · obtain ⟨j, rfl⟩ : ∃ j : Nat, n = j := ⟨n.toNat, by omega⟩
    rw [kidI_nat] at hr
    unfold T.kid at hr
    rw [List.getD_eq_getElem?_getD] at hr
    by_cases h2 : j < t.ks.length
    · have h2' : (j : Int) < t.ks.length := by omega
      have h2n : ¬ t.ks.length ≤ j := by omega
      rw [List.getElem?_eq_getElem h2, Option.getD_some] at hr
      have hEr := encT_eq r
      have hx : t.ks[j] = r := hr.symm
      (refine wpD_seqk fun K hK => ?_; refine wpD_region tyOK ?_; ((repeat (rw [wpS_cons]; simp [h1, h2, h2', h2n])); (try simp only [wpS_nil, thenD, blockD])); refine hK _ _ _ ?_; clear hK K)
      refine wpD_part rfl (fun h => by simp at h) (fun _ => ?_)
      refine wpD_skip (hK1 _ _ _ ?_)
      (refine wpD_seqk fun K hK => ?_; refine wpD_region tyOK ?_; ((repeat (rw [wpS_cons]; simp [h1, h2, h2', hx, hEr])); (try simp only [wpS_nil, thenD, blockD])); refine hK _ _ _ ?_; clear hK K)
      (refine wpD_ret ?_; (try simp only [thenD, blockD]); refine EndQ.ret rfl (.inl ?_); simp [tmOf, Out.fgt, D.fgt, D.fgts])
      exact hEr.symm
    · have h2' : ¬ (j : Int) < t.ks.length := by omega
      have h2n : t.ks.length ≤ j := by omega
      rw [List.getElem?_eq_none h2n, Option.getD_none] at hr
      subst hr
      (refine wpD_seqk fun K hK => ?_; refine wpD_region tyOK ?_; ((repeat (rw [wpS_cons]; simp [h1, h2, h2', h2n])); (try simp only [wpS_nil, thenD, blockD])); refine hK _ _ _ ?_; clear hK K)
      refine wpD_part rfl (fun _ => ?_) (fun h => by simp at h)
      (refine wpD_seqk fun K hK => ?_; refine wpD_region tyOK ?_; ((repeat (rw [wpS_cons]; simp)); (try simp only [wpS_nil, thenD, blockD])); refine hK _ _ _ ?_; clear hK K)
      (refine wpD_ret ?_; (try simp only [thenD, blockD]); refine EndQ.ret rfl (.inl ?_); simp [tmOf, Out.fgt, D.fgt, D.fgts])
      exact encZ.symm
theorem hof_spec (k : Int) (ks : List T) : Spec Tryz.prog glob 121 [.int .i64 k, .slice (ks.map encT) .any] [] (fun o _ => o.fgt = .ret (encT (ofT k ks))) := by
  unfold ofT
  rw [encT_mk']
  refine Spec.movd globPure (wpD_spec tyOK Tryz.func121 rfl (enters _ _ Tryz.func121 rfl (by decide)) rfl rfl ?_)
  (refine wpD_seqk fun K hK => ?_; refine wpD_region tyOK ?_; ((repeat (rw [wpS_cons]; simp)); (try simp only [wpS_nil, thenD, blockD])); refine hK _ _ _ ?_; clear hK K)
  (refine wpD_seqk fun K hK => ?_; refine wpD_region tyOK ?_; ((repeat (rw [wpS_cons]; simp)); (try simp only [wpS_nil, thenD, blockD])); refine hK _ _ _ ?_; clear hK K)
  (refine wpD_ret ?_; (try simp only [thenD, blockD]); refine EndQ.ret rfl (.inl ?_); simp [tmOf, Out.fgt, D.fgt, D.fgts])
/-- the kids so far -/
def wkT (ks : List T) (x : T) (i j : Nat) : List T := withK ks x i j
theorem wkT_succ (ks : List T) (x : T) (i j : Nat) : wkT ks x i (j + 1) = wkT ks x i j ++ [if j = i then x else ks.getD j zeroT] := by
  unfold wkT withK; rw [List.range_succ, List.map_append]; rfl
theorem wkT_len (ks : List T) (x : T) (i j : Nat) : (wkT ks x i j).length = j := withK_len ks x i j
theorem with_spec (t x : T) (i many : Nat) (hm : many ≤ LMax) : Spec Tryz.prog glob 79 [encT t, encT x, .int .i64 i, .int .i64 many] [] (fun o _ => o.fgt = .ret (encT (t.withT x i many))) := by
  obtain ⟨kk, nn, aa, ls, ks⟩ := t
  have hT : (T.mk kk nn aa ls ks).withT x i many = .mk kk nn aa ls (wkT ks x i many) := rfl
  rw [hT]
  have hEx := encT_eq x
  have hk := fun j : Nat => kid_spec (.mk kk nn aa ls ks) j
  simp only [kidI_nat] at hk
  unfold T.kid at hk
  simp only [T.ks_mk] at hk
  simp only [encT_mk'] at hk ⊢
  rw [hEx]
  refine Spec.movd globPure (wpD_spec tyOK Tryz.func79 rfl (enters _ _ Tryz.func79 rfl (by decide)) rfl rfl ?_)
  (refine wpD_seqk fun K hK => ?_; refine wpD_region tyOK ?_; ((repeat (rw [wpS_cons]; simp)); (try simp only [wpS_nil, thenD, blockD])); refine hK _ _ _ ?_; clear hK K)
  (refine wpD_seqk fun K hK => ?_; refine wpD_region tyOK ?_; ((repeat (rw [wpS_cons]; simp)); (try simp only [wpS_nil, thenD, blockD])); refine hK _ _ _ ?_; clear hK K)
  refine wpD_tokO 3 4 (ty := 27) (ds := [.int .i64 kk, .int .i64 nn, .int .i64 aa, .slice (ls.map encL) .any, .slice [] .full]) rfl ?_
  simp [D.tokd]
  refine wpD_seqk fun K1 hK1 => ?_
  (refine wpD_seqk fun K hK => ?_; refine wpD_region tyOK ?_; ((repeat (rw [wpS_cons]; simp)); (try simp only [wpS_nil, thenD, blockD])); refine hK _ _ _ ?_; clear hK K)
  refine wpD_rangeJ tyOK globPure (ti := 3) (tk := 21) (tn := 20) (td := 22) (ts := 41) [10, 21, 22, 23, 24, 25, 26, 27, 28, 29, 30, 31, 32, 33, 34, 35, 36, 37, 38, 39, 40, 41] [] (many) (fun k ys hl => ys = [] ∧ hl = [.cells 27 [.int .i64 kk, .int .i64 nn, .int .i64 aa, .slice (ls.map encL) .any, .slice (ks.map encT) .any], .cells 27 [.int .i64 x.k, .int .i64 x.n, .int .i64 x.a, .slice (x.ls.map encL) .any, .slice (x.ks.map encT) .any], .cells 27 [.int .i64 0, .int .i64 0, .int .i64 0, .slice [] .full, .slice [] .full], .cells 27 [.int .i64 kk, .int .i64 nn, .int .i64 aa, .slice (ls.map encL) .any, .slice ((wkT ks x i k).map encT) (.tok 4)], .tok]) rfl rfl rfl rfl rfl rfl rfl rfl rfl rfl rfl rfl (by simp) (by decide) rfl (by first | assumption | omega | (unfold LMax; omega)) rfl (by kernel_rfl) (by decide) ?_ ?_ ?_
  · exact ⟨rfl, rfl⟩
  · rintro j ys hl A hj ⟨rfl, rfl⟩ hA hA2
    simp only [putAll, List.set, List.map_cons, List.map_nil, List.cons_append, List.nil_append]
    have hsn := wkT_succ ks x i j
    have hln := wkT_len ks x i j
    have hel : (wkT ks x i j).length + 1 ≤ LMax := by omega
    have hkj := hk j
    generalize ks.getD j zeroT = y at hsn hkj
    generalize wkT ks x i j = es at hsn hln hel ⊢
    (refine wpD_seqk fun K hK => ?_; refine wpD_region tyOK ?_; ((repeat (rw [wpS_cons]; simp)); (try simp only [wpS_nil, thenD, blockD])); refine hK _ _ _ ?_; clear hK K)
    refine wpD_seqk fun K2 hK2 => ?_
    by_cases hji : j = i
    · subst hji
      rw [if_pos rfl] at hsn
      (refine wpD_seqk fun K hK => ?_; refine wpD_region tyOK ?_; ((repeat (rw [wpS_cons]; simp)); (try simp only [wpS_nil, thenD, blockD])); refine hK _ _ _ ?_; clear hK K)
      refine wpD_part rfl (fun _ => ?_) (fun h => by simp at h)
      (refine wpD_seqk fun K hK => ?_; refine wpD_region tyOK ?_; ((repeat (rw [wpS_cons]; simp [hel])); (try simp only [wpS_nil, thenD, blockD])); refine hK _ _ _ ?_; clear hK K)
      refine wpD_exit ?_
      (refine hA2 ([0, 1, 2, 3, 5]) _ _ _ (LeT.refl _) (by decide) (by simp) (by simp [movT, movH, movD, D.mov, HO.mov, okM, renM, getW, D.ren, D.rens, D.okN, D.okNs, Cp.ren, Cp.okN, HO.ren, HO.okN, okA, renA, renO, hOf, handed, D.fgt, D.fgts, List.range_succ, List.idxOf_cons, putAll]) ?_ rfl; simp [movT, movH, movD, D.mov, HO.mov, okM, renM, getW, D.ren, D.rens, D.okN, D.okNs, Cp.ren, Cp.okN, HO.ren, HO.okN, okA, renA, renO, hOf, handed, D.fgt, D.fgts, List.range_succ, List.idxOf_cons])
      rw [hsn, ← hEx, show es.map encT ++ [encT x] = (es ++ [x]).map encT by simp, mapT_ren]
    · have hji' : ¬ (j : Int) = i := by omega
      rw [if_neg hji] at hsn
      (refine wpD_seqk fun K hK => ?_; refine wpD_region tyOK ?_; ((repeat (rw [wpS_cons]; simp [hji, hji'])); (try simp only [wpS_nil, thenD, blockD])); refine hK _ _ _ ?_; clear hK K)
      refine wpD_part rfl (fun h => by simp at h) (fun _ => ?_)
      refine wpD_skip (hK2 _ _ _ ?_)
      (refine wpD_drawk tyOK (by kernel_rfl) (by kernel_rfl) fun KT hKT => ?_; ((repeat (rw [wpT_cons]; simp [hel])); (try simp only [wpT_nil])))
      refine cYp (hkj) ?_
      ((try simp only [wpAftT_ret, wpAftT_pan, putS, updS, setS]); (repeat (rw [wpT_cons]; simp [hel])); (try simp only [wpT_nil]))
      (refine hKT _ _ _ _ (by kernel_rfl) ?_; clear hKT KT; (try simp only [thenD, blockD]))
      (refine hA2 ([0, 1, 2, 3, 5]) _ _ _ (LeT.refl _) (by decide) (by simp) (by simp [movT, movH, movD, D.mov, HO.mov, okM, renM, getW, D.ren, D.rens, D.okN, D.okNs, Cp.ren, Cp.okN, HO.ren, HO.okN, okA, renA, renO, hOf, handed, D.fgt, D.fgts, List.range_succ, List.idxOf_cons, putAll]) ?_ rfl; simp [movT, movH, movD, D.mov, HO.mov, okM, renM, getW, D.ren, D.rens, D.okN, D.okNs, Cp.ren, Cp.okN, HO.ren, HO.okN, okA, renA, renO, hOf, handed, D.fgt, D.fgts, List.range_succ, List.idxOf_cons])
      rw [hsn, show es.map encT ++ [encT y] = (es ++ [y]).map encT by simp, mapT_ren]
  · rintro ys hl tl' ⟨rfl, rfl⟩ htl
    refine hK1 _ _ _ (wpD_weakL htl ?_)
    simp only [putAll, List.set, List.map_cons, List.map_nil, List.cons_append, List.nil_append]
    (refine wpD_seqk fun K hK => ?_; refine wpD_region tyOK ?_; ((repeat (rw [wpS_cons]; simp)); (try simp only [wpS_nil, thenD, blockD])); refine hK _ _ _ ?_; clear hK K)
    (refine wpD_ret ?_; (try simp only [thenD, blockD]); refine EndQ.ret rfl (.inl ?_); simp [tmOf, Out.fgt, D.fgt, D.fgts])
/-- what spot tells -/
def spotO (t : T) : D :=
  if t.k = 6 then .tuple [.int .i64 0, .int .i64 2, .bool true] else if t.k = 14 ∨ t.k = 15 then .tuple [.int .i64 0, .int .i64 1, .bool true]
  else if t.k = 18 then .tuple [.int .i64 4, .int .i64 5, .bool true] else if t.k = 21 then .tuple [.int .i64 5, .int .i64 6, .bool true]
  else if t.k = 24 then .tuple [.int .i64 (IntKind.i64.wrap (t.a + 1)), .int .i64 (IntKind.i64.wrap (t.a + 2)), .bool (decide (0 ≤ t.a) && decide ((t.ks.length : Int) - 2 = t.a))] else .tuple [.int .i64 0, .int .i64 0, .bool false]
theorem spotO_some {t : T} {i many : Nat} (h : spot t = some (i, many)) (hl : t.ks.length ≤ LMax) : spotO t = .tuple [.int .i64 i, .int .i64 many, .bool true] := by
  unfold LMax at hl
  unfold spot at h
  unfold spotO
  by_cases h1 : t.k = 6
  · rw [if_pos h1] at h ⊢; cases h; rfl
  rw [if_neg h1] at h ⊢
  by_cases h1 : t.k = 14 ∨ t.k = 15
  · rw [if_pos h1] at h ⊢; cases h; rfl
  rw [if_neg h1] at h ⊢
  by_cases h1 : t.k = 18
  · rw [if_pos h1] at h ⊢; cases h; rfl
  rw [if_neg h1] at h ⊢
  by_cases h1 : t.k = 21
  · rw [if_pos h1] at h ⊢; cases h; rfl
  rw [if_neg h1] at h ⊢
  by_cases h1 : t.k = 24 ∧ 0 ≤ t.a ∧ (t.ks.length : Int) - 2 = t.a
  · rw [if_pos h1] at h
    rw [if_pos h1.1]
    cases h
    rw [i64w (by omega) (by omega), i64w (by omega) (by omega)]
    have e1 : t.a + 1 = ((t.a.toNat + 1 : Nat) : Int) := by omega
    have e2 : t.a + 2 = ((t.a.toNat + 2 : Nat) : Int) := by omega
    rw [e1, e2]
    simp [h1.2.1, h1.2.2]
  · rw [if_neg h1] at h; cases h
theorem spotO_none {t : T} (h : spot t = none) : ∃ p q, spotO t = .tuple [.int .i64 p, .int .i64 q, .bool false] := by
  unfold spot at h
  unfold spotO
  by_cases h1 : t.k = 6
  · rw [if_pos h1] at h; cases h
  rw [if_neg h1] at h ⊢
  by_cases h1 : t.k = 14 ∨ t.k = 15
  · rw [if_pos h1] at h; cases h
  rw [if_neg h1] at h ⊢
  by_cases h1 : t.k = 18
  · rw [if_pos h1] at h; cases h
  rw [if_neg h1] at h ⊢
  by_cases h1 : t.k = 21
  · rw [if_pos h1] at h; cases h
  rw [if_neg h1] at h ⊢
  by_cases h1 : t.k = 24
  · rw [if_pos h1]
    refine ⟨IntKind.i64.wrap (t.a + 1), IntKind.i64.wrap (t.a + 2), ?_⟩
    have : (decide (0 ≤ t.a) && decide ((t.ks.length : Int) - 2 = t.a)) = false := by
      rw [Bool.eq_false_iff]
      intro h2
      simp only [Bool.and_eq_true, decide_eq_true_eq] at h2
      rw [if_pos ⟨h1, h2⟩] at h
      cases h
    rw [this]
  · rw [if_neg h1]; exact ⟨_, _, rfl⟩
theorem spot_spec (t : T) (hl : t.ks.length ≤ LMax) : Spec Tryz.prog glob 78 [encT t] [] (fun o _ => o.fgt = .ret (spotO t)) := by
  obtain ⟨kk, nn, aa, ls, ks⟩ := t
  simp only [T.ks_mk] at hl
  unfold LMax at hl
  unfold spotO
  simp only [T.k_mk, T.a_mk, T.ks_mk]
  rw [encT_mk']
  refine Spec.movd globPure (wpD_spec tyOK Tryz.func78 rfl (enters _ _ Tryz.func78 rfl (by decide)) rfl rfl ?_)
  (refine wpD_seqk fun K hK => ?_; refine wpD_region tyOK ?_; ((repeat (rw [wpS_cons]; simp)); (try simp only [wpS_nil, thenD, blockD])); refine hK _ _ _ ?_; clear hK K)
  refine wpD_seqk fun K1 hK1 => ?_
  (refine wpD_seqk fun K hK => ?_; refine wpD_region tyOK ?_; ((repeat (rw [wpS_cons]; simp)); (try simp only [wpS_nil, thenD, blockD])); refine hK _ _ _ ?_; clear hK K)
  refine wpD_block ?_
  by_cases h6 : kk = 6
  · subst h6
    (refine wpD_seqk fun K hK => ?_; refine wpD_region tyOK ?_; ((repeat (rw [wpS_cons]; simp)); (try simp only [wpS_nil, thenD, blockD])); refine hK _ _ _ ?_; clear hK K)
    refine wpD_part rfl (fun _ => ?_) (fun h => by simp at h)
    (refine wpD_seqk fun K hK => ?_; refine wpD_region tyOK ?_; ((repeat (rw [wpS_cons]; simp)); (try simp only [wpS_nil, thenD, blockD])); refine hK _ _ _ ?_; clear hK K)
    (refine wpD_ret ?_; (try simp only [thenD, blockD]); refine EndQ.ret rfl (.inl ?_); simp [tmOf, Out.fgt, D.fgt, D.fgts])
  (refine wpD_seqk fun K hK => ?_; refine wpD_region tyOK ?_; ((repeat (rw [wpS_cons]; simp [h6])); (try simp only [wpS_nil, thenD, blockD])); refine hK _ _ _ ?_; clear hK K)
  refine wpD_part rfl (fun h => by simp at h) (fun _ => ?_)
  refine wpD_seqk fun K2 hK2 => ?_
  by_cases h14 : kk = 14
  · subst h14
    (refine wpD_seqk fun K hK => ?_; refine wpD_region tyOK ?_; ((repeat (rw [wpS_cons]; simp)); (try simp only [wpS_nil, thenD, blockD])); refine hK _ _ _ ?_; clear hK K)
    refine wpD_part rfl (fun _ => ?_) (fun h => by simp at h)
    refine wpD_skip (hK2 _ _ _ ?_)
    refine wpD_part rfl (fun _ => ?_) (fun h => by simp at h)
    (refine wpD_seqk fun K hK => ?_; refine wpD_region tyOK ?_; ((repeat (rw [wpS_cons]; simp)); (try simp only [wpS_nil, thenD, blockD])); refine hK _ _ _ ?_; clear hK K)
    (refine wpD_ret ?_; (try simp only [thenD, blockD]); refine EndQ.ret rfl (.inl ?_); simp [tmOf, Out.fgt, D.fgt, D.fgts])
  by_cases h15 : kk = 15
  · subst h15
    (refine wpD_seqk fun K hK => ?_; refine wpD_region tyOK ?_; ((repeat (rw [wpS_cons]; simp)); (try simp only [wpS_nil, thenD, blockD])); refine hK _ _ _ ?_; clear hK K)
    refine wpD_part rfl (fun h => by simp at h) (fun _ => ?_)
    (refine wpD_region tyOK ?_; ((repeat (rw [wpS_cons]; simp)); (try simp only [wpS_nil, thenD, blockD])))
    refine hK2 _ _ _ ?_
    refine wpD_part rfl (fun _ => ?_) (fun h => by simp at h)
    (refine wpD_seqk fun K hK => ?_; refine wpD_region tyOK ?_; ((repeat (rw [wpS_cons]; simp)); (try simp only [wpS_nil, thenD, blockD])); refine hK _ _ _ ?_; clear hK K)
    (refine wpD_ret ?_; (try simp only [thenD, blockD]); refine EndQ.ret rfl (.inl ?_); simp [tmOf, Out.fgt, D.fgt, D.fgts])
  (refine wpD_seqk fun K hK => ?_; refine wpD_region tyOK ?_; ((repeat (rw [wpS_cons]; simp [h14])); (try simp only [wpS_nil, thenD, blockD])); refine hK _ _ _ ?_; clear hK K)
  refine wpD_part rfl (fun h => by simp at h) (fun _ => ?_)
  (refine wpD_region tyOK ?_; ((repeat (rw [wpS_cons]; simp [h15])); (try simp only [wpS_nil, thenD, blockD])))
  refine hK2 _ _ _ ?_
  refine wpD_part rfl (fun h => by simp at h) (fun _ => ?_)
  by_cases h18 : kk = 18
  · subst h18
    (refine wpD_seqk fun K hK => ?_; refine wpD_region tyOK ?_; ((repeat (rw [wpS_cons]; simp)); (try simp only [wpS_nil, thenD, blockD])); refine hK _ _ _ ?_; clear hK K)
    refine wpD_part rfl (fun _ => ?_) (fun h => by simp at h)
    (refine wpD_seqk fun K hK => ?_; refine wpD_region tyOK ?_; ((repeat (rw [wpS_cons]; simp)); (try simp only [wpS_nil, thenD, blockD])); refine hK _ _ _ ?_; clear hK K)
    (refine wpD_ret ?_; (try simp only [thenD, blockD]); refine EndQ.ret rfl (.inl ?_); simp [tmOf, Out.fgt, D.fgt, D.fgts])
  (refine wpD_seqk fun K hK => ?_; refine wpD_region tyOK ?_; ((repeat (rw [wpS_cons]; simp [h18])); (try simp only [wpS_nil, thenD, blockD])); refine hK _ _ _ ?_; clear hK K)
  refine wpD_part rfl (fun h => by simp at h) (fun _ => ?_)
  by_cases h21 : kk = 21
  · subst h21
    (refine wpD_seqk fun K hK => ?_; refine wpD_region tyOK ?_; ((repeat (rw [wpS_cons]; simp)); (try simp only [wpS_nil, thenD, blockD])); refine hK _ _ _ ?_; clear hK K)
    refine wpD_part rfl (fun _ => ?_) (fun h => by simp at h)
    (refine wpD_seqk fun K hK => ?_; refine wpD_region tyOK ?_; ((repeat (rw [wpS_cons]; simp)); (try simp only [wpS_nil, thenD, blockD])); refine hK _ _ _ ?_; clear hK K)
    (refine wpD_ret ?_; (try simp only [thenD, blockD]); refine EndQ.ret rfl (.inl ?_); simp [tmOf, Out.fgt, D.fgt, D.fgts])
  (refine wpD_seqk fun K hK => ?_; refine wpD_region tyOK ?_; ((repeat (rw [wpS_cons]; simp [h21])); (try simp only [wpS_nil, thenD, blockD])); refine hK _ _ _ ?_; clear hK K)
  refine wpD_part rfl (fun h => by simp at h) (fun _ => ?_)
  by_cases h24 : kk = 24
  · subst h24
    have hw : IntKind.i64.wrap ((ks.length : Int) - 2) = (ks.length : Int) - 2 := i64w (by omega) (by omega)
    (refine wpD_seqk fun K hK => ?_; refine wpD_region tyOK ?_; ((repeat (rw [wpS_cons]; simp)); (try simp only [wpS_nil, thenD, blockD])); refine hK _ _ _ ?_; clear hK K)
    refine wpD_part rfl (fun _ => ?_) (fun h => by simp at h)
    by_cases h0 : 0 ≤ aa
    · (refine wpD_seqk fun K hK => ?_; refine wpD_drawk tyOK (by kernel_rfl) (by kernel_rfl) fun KT hKT => ?_; ((repeat (rw [wpT_cons]; simp [h0, hw])); (try simp only [wpT_nil])))
      (refine hKT _ _ _ _ (by kernel_rfl) ?_; clear hKT KT; (try simp only [thenD, blockD]))
      (refine hK _ _ _ ?_; clear hK K)
      (refine wpD_ret ?_; (try simp only [thenD, blockD]); refine EndQ.ret rfl (.inl ?_); simp [tmOf, Out.fgt, D.fgt, D.fgts])
      simp only [h0, decide_true, Bool.true_and]
      exact decide_eq_decide.2 Iff.rfl
    · (refine wpD_seqk fun K hK => ?_; refine wpD_drawk tyOK (by kernel_rfl) (by kernel_rfl) fun KT hKT => ?_; ((repeat (rw [wpT_cons]; simp [h0, hw])); (try simp only [wpT_nil])))
      (refine hKT _ _ _ _ (by kernel_rfl) ?_; clear hKT KT; (try simp only [thenD, blockD]))
      (refine hK _ _ _ ?_; clear hK K)
      (refine wpD_ret ?_; (try simp only [thenD, blockD]); refine EndQ.ret rfl (.inl ?_); simp [tmOf, Out.fgt, D.fgt, D.fgts])
      simp [h0]
  · (refine wpD_seqk fun K hK => ?_; refine wpD_region tyOK ?_; ((repeat (rw [wpS_cons]; simp [h24])); (try simp only [wpS_nil, thenD, blockD])); refine hK _ _ _ ?_; clear hK K)
    refine wpD_part rfl (fun h => by simp at h) (fun _ => ?_)
    refine wpD_skip (hK1 _ _ _ ?_)
    (refine wpD_seqk fun K hK => ?_; refine wpD_region tyOK ?_; ((repeat (rw [wpS_cons]; simp)); (try simp only [wpS_nil, thenD, blockD])); refine hK _ _ _ ?_; clear hK K)
    (refine wpD_ret ?_; (try simp only [thenD, blockD]); refine EndQ.ret rfl (.inl ?_); simp [tmOf, Out.fgt, D.fgt, D.fgts])
    simp [h6, h14, h15, h18, h21, h24]
theorem sizes_spec (l : List T) (hl : l.length ≤ LMax) (hls : ∀ x, x ∈ l → okT x) : Spec Tryz.prog glob 118 [.slice (l.map encT) .any] [] (fun o _ => o.fgt = .ret (.int .i64 (T.szs l 0))) := by
  obtain ⟨R, hR⟩ : ∃ R, R = T.szs l 0 := ⟨_, rfl⟩
  rw [← hR]
  refine Spec.movd globPure (wpD_spec tyOK Tryz.func118 rfl (enters _ _ Tryz.func118 rfl (by decide)) rfl rfl ?_)
  (refine wpD_seqk fun K hK => ?_; refine wpD_region tyOK ?_; ((repeat (rw [wpS_cons]; simp)); (try simp only [wpS_nil, thenD, blockD])); refine hK _ _ _ ?_; clear hK K)
  (refine wpD_seqk fun K hK => ?_; refine wpD_region tyOK ?_; ((repeat (rw [wpS_cons]; simp)); (try simp only [wpS_nil, thenD, blockD])); refine hK _ _ _ ?_; clear hK K)
  refine wpD_seqk fun K1 hK1 => ?_
  (refine wpD_seqk fun K hK => ?_; refine wpD_region tyOK ?_; ((repeat (rw [wpS_cons]; simp)); (try simp only [wpS_nil, thenD, blockD])); refine hK _ _ _ ?_; clear hK K)
  refine wpD_rangeJ tyOK globPure (ti := 3) (tk := 8) (tn := 7) (td := 9) (ts := 16) [5, 8, 9, 10, 11, 12, 13, 14, 15, 16] [3] (l.length) (fun k ys hl => ∃ (s : Int), ys = [.int .i64 s] ∧ R = T.szs (l.drop k) s ∧ hl = []) rfl rfl rfl rfl rfl rfl rfl rfl rfl rfl rfl rfl (by simp) (by decide) rfl (by first | assumption | omega | (unfold LMax; omega)) rfl (by kernel_rfl) (by decide) ?_ ?_ ?_
  · exact ⟨0, rfl, hR, rfl⟩
  · rintro i ys hl A hi ⟨s, rfl, hF, rfl⟩ hA hA2
    simp only [putAll, List.set, List.map_cons, List.map_nil, List.cons_append, List.nil_append]
    have hi' : (i : Int) < l.length := by omega
    rw [List.drop_eq_getElem_cons hi, T.szs] at hF
    have hrec := size_spec l[i] (hls _ (List.getElem_mem hi))
    obtain ⟨x, hx⟩ : ∃ x, l[i] = x := ⟨_, rfl⟩
    rw [hx] at hF hrec
    have hEx := encT_eq x
    rw [hEx] at hrec
    generalize x.sz = v at hF hrec
    (refine wpD_seqk fun K hK => ?_; refine wpD_region tyOK ?_; ((repeat (rw [wpS_cons]; simp [hi, hi', hx, hEx])); (try simp only [wpS_nil, thenD, blockD])); refine hK _ _ _ ?_; clear hK K)
    (refine wpD_region tyOK ?_; ((repeat (rw [wpS_cons]; simp)); (try simp only [wpS_nil, thenD, blockD])))
    refine cXp (hrec) ?_
    ((try simp only [wpAft_ret, wpAft_pan, putS, updS, setS]); (repeat (rw [wpS_cons]; simp)); (try simp only [wpS_nil, thenD, blockD]))
    (refine hA2 ([]) _ _ _ (LeT.refl _) (by decide) (by simp) (by simp [movT, movH, movD, D.mov, HO.mov, okM, renM, getW, D.ren, D.rens, D.okN, D.okNs, Cp.ren, Cp.okN, HO.ren, HO.okN, okA, renA, renO, hOf, handed, D.fgt, D.fgts, List.range_succ, List.idxOf_cons, putAll]) ?_ rfl; simp [movT, movH, movD, D.mov, HO.mov, okM, renM, getW, D.ren, D.rens, D.okN, D.okNs, Cp.ren, Cp.okN, HO.ren, HO.okN, okA, renA, renO, hOf, handed, D.fgt, D.fgts, List.range_succ, List.idxOf_cons])
    exact hF
  · rintro ys hl tl' ⟨s, rfl, hF, rfl⟩ htl
    refine hK1 _ _ _ (wpD_weakL htl ?_)
    simp only [putAll, List.set, List.map_cons, List.map_nil, List.cons_append, List.nil_append]
    rw [List.drop_length, T.szs] at hF
    subst hF
    (refine wpD_seqk fun K hK => ?_; refine wpD_region tyOK ?_; ((repeat (rw [wpS_cons]; simp)); (try simp only [wpS_nil, thenD, blockD])); refine hK _ _ _ ?_; clear hK K)
    (refine wpD_ret ?_; (try simp only [thenD, blockD]); refine EndQ.ret rfl (.inl ?_); simp [tmOf, Out.fgt, D.fgt, D.fgts])
theorem sized_spec (many : Int) (t : T) : ∀ b, okT t → Spec Tryz.prog glob 139 [encT t, .int .i64 many, .int .i64 b] [] (fun o _ => o.fgt = .ret (.int .i64 (T.sdw many t b))) := by
  induction t using T.ind with
  | h kk nn aa ls ks ih =>
  intro b ht
  have hkl : ks.length ≤ LMax := ht.kl
  have hks := ht.ks
  simp only [T.ks_mk] at hks
  obtain ⟨R, hR⟩ : ∃ R, R = T.sdw many (.mk kk nn aa ls ks) b := ⟨_, rfl⟩
  rw [← hR]
  rw [T.sdw] at hR
  rw [encT_mk']
  refine Spec.movd globPure (wpD_spec tyOK Tryz.func139 rfl (enters _ _ Tryz.func139 rfl (by decide)) rfl rfl ?_)
  (refine wpD_seqk fun K hK => ?_; refine wpD_region tyOK ?_; ((repeat (rw [wpS_cons]; simp)); (try simp only [wpS_nil, thenD, blockD])); refine hK _ _ _ ?_; clear hK K)
  by_cases h1 : kk = 1 ∧ nn = b
  · obtain ⟨rfl, rfl⟩ := h1
    rw [if_pos ⟨rfl, rfl⟩] at hR
    subst hR
    refine wpD_seqk fun K1 hK1 => ?_
    (refine wpD_seqk fun K hK => ?_; refine wpD_region tyOK ?_; ((repeat (rw [wpS_cons]; simp)); (try simp only [wpS_nil, thenD, blockD])); refine hK _ _ _ ?_; clear hK K)
    refine wpD_part rfl (fun _ => ?_) (fun h => by simp at h)
    (refine wpD_seqk fun K hK => ?_; refine wpD_region tyOK ?_; ((repeat (rw [wpS_cons]; simp)); (try simp only [wpS_nil, thenD, blockD])); refine hK _ _ _ ?_; clear hK K)
    (refine wpD_ret ?_; (try simp only [thenD, blockD]); refine EndQ.ret rfl (.inl ?_); simp [tmOf, Out.fgt, D.fgt, D.fgts])
  rw [if_neg h1] at hR
  refine wpD_seqf [10, 11, 12, 13, 14, 15, 16, 17, 18] ([10, 11, 12, 13, 14, 15, 16, 17, 18].map fun _ => .junk) [.cells 27 [.int .i64 kk, .int .i64 nn, .int .i64 aa, .slice (ls.map encL) .any, .slice (ks.map encT) .any]] ?_ ?_
  rotate_left
  · intro K hK0
    by_cases h2 : kk = 1
    · subst h2
      have h3 : ¬ nn = b := fun h => h1 ⟨rfl, h⟩
      (refine wpD_seqk fun K hK => ?_; refine wpD_region tyOK ?_; ((repeat (rw [wpS_cons]; simp [h3])); (try simp only [wpS_nil, thenD, blockD])); refine hK _ _ _ ?_; clear hK K)
      refine wpD_part rfl (fun h => by simp at h) (fun _ => ?_)
      refine wpD_skip (hK0 _ ?_)
      simp [leT, putAll]
    · (refine wpD_seqk fun K hK => ?_; refine wpD_region tyOK ?_; ((repeat (rw [wpS_cons]; simp [h2])); (try simp only [wpS_nil, thenD, blockD])); refine hK _ _ _ ?_; clear hK K)
      refine wpD_part rfl (fun h => by simp at h) (fun _ => ?_)
      refine wpD_skip (hK0 _ ?_)
      simp [leT, putAll]
  simp only [putAll, List.set, List.map_cons, List.map_nil, List.cons_append, List.nil_append]
  (refine wpD_seqk fun K hK => ?_; refine wpD_region tyOK ?_; ((repeat (rw [wpS_cons]; simp)); (try simp only [wpS_nil, thenD, blockD])); refine hK _ _ _ ?_; clear hK K)
  refine wpD_seqk fun K1 hK1 => ?_
  (refine wpD_seqk fun K hK => ?_; refine wpD_region tyOK ?_; ((repeat (rw [wpS_cons]; simp)); (try simp only [wpS_nil, thenD, blockD])); refine hK _ _ _ ?_; clear hK K)
  refine wpD_rangeJ tyOK globPure (ti := 3) (tk := 23) (tn := 22) (td := 24) (ts := 45) [8, 9, 23, 24, 25, 26, 27, 28, 29, 30, 31, 32, 33, 34, 35, 36, 37, 38, 39, 40, 41, 42, 43, 44, 45] [7] (ks.length) (fun k ys hl => ∃ (s : Int), ys = [.int .i64 s] ∧ R = T.sdws many kk (ks.drop k) k b s ∧ hl = [.cells 27 [.int .i64 kk, .int .i64 nn, .int .i64 aa, .slice (ls.map encL) .any, .slice (ks.map encT) .any]]) rfl rfl rfl rfl rfl rfl rfl rfl rfl rfl rfl rfl (by simp) (by decide) rfl (by first | assumption | omega | (unfold LMax; omega)) rfl (by kernel_rfl) (by decide) ?_ ?_ ?_
  · exact ⟨1, rfl, hR, rfl⟩
  · rintro i ys hl A hi ⟨s, rfl, hF, rfl⟩ hA hA2
    simp only [putAll, List.set, List.map_cons, List.map_nil, List.cons_append, List.nil_append]
    have hi' : (i : Int) < ks.length := by omega
    rw [List.drop_eq_getElem_cons hi, T.sdws] at hF
    have hrec := ih ks[i] (List.getElem_mem hi) (belowD b kk i) (hks _ (List.getElem_mem hi))
    have hbi := binds_spec kk i
    have hbd : belowD b kk i = if bindsB kk i then IntKind.i64.wrap (b + 1) else b := rfl
    obtain ⟨x, hx⟩ : ∃ x, ks[i] = x := ⟨_, rfl⟩
    rw [hx] at hF hrec
    have hEx := encT_eq x
    rw [hEx] at hrec
    generalize T.sdw many x (belowD b kk i) = v at hF hrec
    generalize belowD b kk i = b' at hrec hbd
    generalize bindsB kk i = bb at hbi hbd
    (refine wpD_seqk fun K hK => ?_; refine wpD_region tyOK ?_; ((repeat (rw [wpS_cons]; simp [hi, hi', hx, hEx])); (try simp only [wpS_nil, thenD, blockD])); refine hK _ _ _ ?_; clear hK K)
    (refine wpD_seqk fun K hK => ?_; refine wpD_region tyOK ?_; ((repeat (rw [wpS_cons]; simp)); (try simp only [wpS_nil, thenD, blockD])))
    refine cXp (hbi) ?_
    ((try simp only [wpAft_ret, wpAft_pan, putS, updS, setS]); (repeat (rw [wpS_cons]; simp)); (try simp only [wpS_nil, thenD, blockD]))
    (refine hK _ _ _ ?_; clear hK K)
    cases bb with
    | true =>
      rw [if_pos rfl] at hbd
      subst hbd
      refine wpD_part rfl (fun _ => ?_) (fun h => by simp at h)
      (refine wpD_region tyOK ?_; ((repeat (rw [wpS_cons]; simp)); (try simp only [wpS_nil, thenD, blockD])))
      refine cXp (hrec) ?_
      ((try simp only [wpAft_ret, wpAft_pan, putS, updS, setS]); (repeat (rw [wpS_cons]; simp)); (try simp only [wpS_nil, thenD, blockD]))
      (refine hA2 ([0]) _ _ _ (LeT.refl _) (by decide) (by simp) (by simp [movT, movH, movD, D.mov, HO.mov, okM, renM, getW, D.ren, D.rens, D.okN, D.okNs, Cp.ren, Cp.okN, HO.ren, HO.okN, okA, renA, renO, hOf, handed, D.fgt, D.fgts, List.range_succ, List.idxOf_cons, putAll]) ?_ rfl; simp [movT, movH, movD, D.mov, HO.mov, okM, renM, getW, D.ren, D.rens, D.okN, D.okNs, Cp.ren, Cp.okN, HO.ren, HO.okN, okA, renA, renO, hOf, handed, D.fgt, D.fgts, List.range_succ, List.idxOf_cons])
      exact hF
    | false =>
      rw [if_neg Bool.false_ne_true] at hbd
      subst hbd
      refine wpD_part rfl (fun h => by simp at h) (fun _ => ?_)
      (refine wpD_region tyOK ?_; ((repeat (rw [wpS_cons]; simp)); (try simp only [wpS_nil, thenD, blockD])))
      refine cXp (hrec) ?_
      ((try simp only [wpAft_ret, wpAft_pan, putS, updS, setS]); (repeat (rw [wpS_cons]; simp)); (try simp only [wpS_nil, thenD, blockD]))
      (refine hA2 ([0]) _ _ _ (LeT.refl _) (by decide) (by simp) (by simp [movT, movH, movD, D.mov, HO.mov, okM, renM, getW, D.ren, D.rens, D.okN, D.okNs, Cp.ren, Cp.okN, HO.ren, HO.okN, okA, renA, renO, hOf, handed, D.fgt, D.fgts, List.range_succ, List.idxOf_cons, putAll]) ?_ rfl; simp [movT, movH, movD, D.mov, HO.mov, okM, renM, getW, D.ren, D.rens, D.okN, D.okNs, Cp.ren, Cp.okN, HO.ren, HO.okN, okA, renA, renO, hOf, handed, D.fgt, D.fgts, List.range_succ, List.idxOf_cons])
      exact hF
  · rintro ys hl tl' ⟨s, rfl, hF, rfl⟩ htl
    refine hK1 _ _ _ (wpD_weakL htl ?_)
    simp only [putAll, List.set, List.map_cons, List.map_nil, List.cons_append, List.nil_append]
    rw [List.drop_length, T.sdws] at hF
    subst hF
    (refine wpD_seqk fun K hK => ?_; refine wpD_region tyOK ?_; ((repeat (rw [wpS_cons]; simp)); (try simp only [wpS_nil, thenD, blockD])); refine hK _ _ _ ?_; clear hK K)
    (refine wpD_ret ?_; (try simp only [thenD, blockD]); refine EndQ.ret rfl (.inl ?_); simp [tmOf, Out.fgt, D.fgt, D.fgts])
theorem size2_spec (t a : T) (ht : okT t) (ha : okT a) (hb : ((t.sd a.nsz 0 : Nat) : Int) ≤ 9223372036854775807) : Spec Tryz.prog glob 119 [encT t, encT a] [] (fun o _ => o.fgt = .ret (.int .i64 ((t.sd a.nsz 0 : Nat) : Int))) := by
  have h1 := size_spec a ha
  have h2 := sized_spec a.sz t 0 ht
  rw [sz_true a] at h1 h2
  rw [sdw_true, i64w (n := ((t.sd a.nsz 0 : Nat) : Int)) (by omega) hb] at h2
  generalize ((t.sd a.nsz 0 : Nat) : Int) = v at h2 ⊢
  have hEt := encT_eq t
  have hEa := encT_eq a
  rw [hEt, hEa]
  rw [hEa] at h1
  rw [hEt] at h2
  refine Spec.movd globPure (wpD_spec tyOK Tryz.func119 rfl (enters _ _ Tryz.func119 rfl (by decide)) rfl rfl ?_)
  (refine wpD_seqk fun K hK => ?_; refine wpD_region tyOK ?_; ((repeat (rw [wpS_cons]; simp)); (try simp only [wpS_nil, thenD, blockD])); refine hK _ _ _ ?_; clear hK K)
  (refine wpD_seqk fun K hK => ?_; refine wpD_drawk tyOK (by kernel_rfl) (by kernel_rfl) fun KT hKT => ?_; ((repeat (rw [wpT_cons]; simp)); (try simp only [wpT_nil])))
  refine cYp (h1) ?_
  ((try simp only [wpAftT_ret, wpAftT_pan, putS, updS, setS]); (repeat (rw [wpT_cons]; simp)); (try simp only [wpT_nil]))
  refine cYp (h2) ?_
  ((try simp only [wpAftT_ret, wpAftT_pan, putS, updS, setS]); (repeat (rw [wpT_cons]; simp)); (try simp only [wpT_nil]))
  (refine hKT _ _ _ _ (by kernel_rfl) ?_; clear hKT KT; (try simp only [thenD, blockD]))
  (refine hK _ _ _ ?_; clear hK K)
  (refine wpD_ret ?_; (try simp only [thenD, blockD]); refine EndQ.ret rfl (.inl ?_); simp [tmOf, Out.fgt, D.fgt, D.fgts])
/-- its objects: itself, the map of its steps -/
def stepsM : HO := .mp [(.int .i64 6, .fn (.func 71) [.box 0 0] []), (.int .i64 14, .fn (.func 72) [.box 0 0] []), (.int .i64 15, .fn (.func 72) [.box 0 0] []), (.int .i64 7, .fn (.func 73) [.box 0 0] []),
  (.int .i64 3, .fn (.func 74) [.box 0 0] []), (.int .i64 18, .fn (.func 75) [.box 0 0] []), (.int .i64 21, .fn (.func 76) [.box 0 0] []), (.int .i64 24, .fn (.func 77) [.box 0 0] [])]
def wObjs (left : Int) (l : List C) (once done : Bool) : List HO := [headD left l once done, stepsM]
theorem burn_ok (left : Int) (l : List C) (once done : Bool) (n : Int) (h0 : 0 ≤ n) (h : n ≤ left) (hl : left ≤ 9223372036854775807) : Spec Tryz.prog glob 117 [.box 0 0, .int .i64 n] (wObjs left l once done) (fun o hc => o = .ret (.tuple []) ∧ hc = wObjs (left - n) l once done) := by
  have hw : IntKind.i64.wrap (left - n) = left - n := i64w (by omega) (by omega)
  have h' : ¬ left < n := by omega
  unfold wObjs headD Cs stepsM
  refine Spec.movd globPure (wpD_spec tyOK Tryz.func117 rfl (enters _ _ Tryz.func117 rfl (by decide)) rfl rfl ?_)
  refine wpD_seqk fun K1 hK1 => ?_
  (refine wpD_seqk fun K hK => ?_; refine wpD_region tyOK ?_; ((repeat (rw [wpS_cons]; simp [h'])); (try simp only [wpS_nil, thenD, blockD])); refine hK _ _ _ ?_; clear hK K)
  refine wpD_part rfl (fun h => by simp at h) (fun _ => ?_)
  refine wpD_skip (hK1 _ _ _ ?_)
  (refine wpD_region tyOK ?_; ((repeat (rw [wpS_cons]; simp [hw])); (try simp only [wpS_nil, thenD, blockD])))
  ((try simp only [thenD, blockD]); refine EndQ.nrm rfl (.inr ⟨[], by decide, by simp, ?_⟩); simp [Out.mov, movT, movH, movD, D.mov, HO.mov, okM, renM, getW, D.ren, D.rens, D.okN, D.okNs, Cp.ren, Cp.okN, HO.ren, HO.okN, okA, renA, renO, hOf, handed, D.fgt, D.fgts, List.range_succ, List.idxOf_cons, tmOf, Out.fgt, D.fgt, D.fgts])
theorem burn_no (left : Int) (l : List C) (once done : Bool) (n : Int) (h : left < n) : Spec Tryz.prog glob 117 [.box 0 0, .int .i64 n] (wObjs left l once done) (fun o hc => o = .pan goneD ∧ hc = wObjs left l once done) := by
  unfold wObjs headD Cs stepsM goneD
  refine Spec.movd globPure (wpD_spec tyOK Tryz.func117 rfl (enters _ _ Tryz.func117 rfl (by decide)) rfl rfl ?_)
  refine wpD_seqk fun K1 hK1 => ?_
  (refine wpD_seqk fun K hK => ?_; refine wpD_region tyOK ?_; ((repeat (rw [wpS_cons]; simp [h])); (try simp only [wpS_nil, thenD, blockD])); refine hK _ _ _ ?_; clear hK K)
  refine wpD_part rfl (fun _ => ?_) (fun h => by simp at h)
  (refine wpD_region tyOK ?_; ((repeat (rw [wpS_cons]; simp)); (try simp only [wpS_nil, thenD, blockD])))
  ((try simp only [thenD, blockD]); refine EndQ.pan (.inr ⟨[], by decide, by simp, ?_⟩); simp [Out.mov, movT, movH, movD, D.mov, HO.mov, okM, renM, getW, D.ren, D.rens, D.okN, D.okNs, Cp.ren, Cp.okN, HO.ren, HO.okN, okA, renA, renO, hOf, handed, D.fgt, D.fgts, List.range_succ, List.idxOf_cons, tmOf, Out.fgt, D.fgt, D.fgts])
end Go.Proofs.YtebmlojhdnldgaaGreatDoor

namespace Go.Proofs.YtebmlojhdnldgaaGreatDoor
set_option linter.unusedSimpArgs false
set_option linter.unusedVariables false
set_option maxHeartbeats 10000000
set_option maxRecDepth 20000
open Go.RowKit
attribute [local simp] wpAft_ret wpAft_pan wantD evOp opD tmOf putS updS setS hOf isFree isTok fillD TK.isAgg TK.known partD thenD blockD putAll D.ofV inB nilTest isNilS binX binD binE isCst bndD capB IntKind.min IntKind.max IntKind.signed IntKind.bits dstOf late
/-- an object of which nothing more is said -/
theorem Spec.dead {P : Program} {G : Nat → Option D} {f : FuncId} {args : List D} {objs : List HO} {Post Post' : Out → List HO → Prop} (h : Spec P G f args objs Post) (hP : ∀ o hc, Post o hc → ∃ hc', (∀ r, hOf hc' r = hOf hc r ∨ hOf hc' r = .dead) ∧ Post' o hc') : Spec P G f args objs Post' := fun ρ w vs hR hv => by
  obtain ⟨h1, h2⟩ := h ρ w vs hR hv
  refine ⟨h1, h2.mono ?_⟩
  rintro e w' ⟨ρ', out, hc, hp, hm, hr, hx⟩
  obtain ⟨hc', hk, hp'⟩ := hP out hc hp
  exact ⟨ρ', out, hc', hp', hm, hr.kill hk, hx.kill hk⟩
theorem burn_dead (left : Int) (l : List C) (once done : Bool) (n : Int) (h : left < n) : Spec Tryz.prog glob 117 [.box 0 0, .int .i64 n] (wObjs left l once done) (fun o hc => o = .pan goneD ∧ hc = [.dead, .dead]) :=
  (burn_no left l once done n h).dead fun o hc hp => ⟨[.dead, .dead], fun r => by
    rw [hp.2]
    match r with
    | 0 => exact .inr rfl
    | 1 => exact .inr rfl
    | r + 2 => exact .inl rfl, hp.1, rfl⟩
/-- what a step that costs so much tells, leaves -/
def Cost (left : Int) (l : List C) (once done : Bool) (c : Nat) (d : D) (o : Out) (hc : List HO) : Prop :=
  if (c : Int) ≤ left then o.fgt = .ret d ∧ hc = wObjs (left - c) l once done else o = .pan goneD ∧ hc = [.dead, .dead]
theorem Cost_ok {left : Int} {l : List C} {once done : Bool} {c : Nat} {d : D} (h : (c : Int) ≤ left) : Cost left l once done c d = (fun o hc => o.fgt = .ret d ∧ hc = wObjs (left - c) l once done) := by
  funext o hc; unfold Cost; rw [if_pos h]
theorem Cost_no {left : Int} {l : List C} {once done : Bool} {c : Nat} {d : D} (h : ¬ (c : Int) ≤ left) : Cost left l once done c d = (fun o hc => o = .pan goneD ∧ hc = [.dead, .dead]) := by
  funext o hc; unfold Cost; rw [if_neg h]
/-- what a step tells -/
def OwnP (left : Int) (l : List C) (once done : Bool) (t : T) (r : Option (T × Nat)) : Out → List HO → Prop := match r with
  | none => fun o hc => o.fgt = .ret (.tuple [encT t, .bool false]) ∧ hc = wObjs left l once done
  | some p => Cost left l once done p.2 (.tuple [encT p.1, .bool true])
def PM : Nat := 536870912
def okS (t : T) : Prop := okT t ∧ t.pot ≤ PM
theorem okS.deep {t : T} (h : okS t) : t.deep ≤ DM := by have := t.deep_nsz; have := nsz_pot t; have := h.2; unfold PM at this; unfold DM; omega
theorem okS.kid {t : T} (h : okS t) (i : Nat) : okS (t.kid i) := ⟨kid_ok h.1 i, Nat.le_trans (kid_pot t i) h.2⟩
theorem okS.sd {t a : T} (h : okS t) (ha : okS a) : ((t.sd a.nsz 0 : Nat) : Int) ≤ 288230376151711744 := by
  have := sd_bound h.2 ha.2
  unfold PM at this
  omega
theorem okS.nsz {t : T} (h : okS t) : t.nsz ≤ 536870912 := by have := nsz_pot t; have := h.2; unfold PM at this; omega
structure okCs (l : List C) : Prop where
  len : l.length ≤ LMax
  ok : ∀ c, c ∈ l → okC c
  bo : ∀ c, c ∈ l → c.bo.nsz ≤ 1048576
  ty : ∀ c, c ∈ l → c.ty.nsz ≤ 1048576
theorem hput_spec (left : Int) (l : List C) (once done : Bool) (hl : left ≤ 9223372036854775807) (t a : T) (ht : okS t) (ha : okS a) :
    Spec Tryz.prog glob 114 [.box 0 0, encT t, encT a] (wObjs left l once done) (Cost left l once done (t.sd a.nsz 0) (encT (t.put [a] 0))) := by
  have hz := size2_spec t a ht.1 ha.1 (Int.le_trans (ht.sd ha) (by omega))
  have hp := putT_spec t [a] (by unfold LMax; simp) (fun b hb => by rw [one_mem hb]; exact ⟨ha.1, ha.deep⟩) ht.deep ht.1
  have hEt := encT_eq t
  have hEa := encT_eq a
  generalize t.sd a.nsz 0 = c at hz ⊢
  generalize t.put [a] 0 = r at hp ⊢
  have hEr := encT_eq r
  unfold Ts at hp
  simp only [List.map_cons, List.map_nil] at hp
  rw [hEt, hEa] at hp hz ⊢
  by_cases hc : (c : Int) ≤ left
  · rw [Cost_ok hc]
    have hbu := burn_ok left l once done c (by omega) hc hl
    unfold wObjs headD Cs stepsM at hbu ⊢
    refine Spec.movd globPure (wpD_spec tyOK Tryz.func114 rfl (enters _ _ Tryz.func114 rfl (by decide)) rfl rfl ?_)
    (refine wpD_seqk fun K hK => ?_; refine wpD_region tyOK ?_; ((repeat (rw [wpS_cons]; simp)); (try simp only [wpS_nil, thenD, blockD])); refine hK _ _ _ ?_; clear hK K)
    (refine wpD_seqk fun K hK => ?_; refine wpD_drawk tyOK (by kernel_rfl) (by kernel_rfl) fun KT hKT => ?_; ((repeat (rw [wpT_cons]; simp)); (try simp only [wpT_nil])))
    refine cYp (hz) ?_
    ((try simp only [wpAftT_ret, wpAftT_pan, putS, updS, setS]); (repeat (rw [wpT_cons]; simp)); (try simp only [wpT_nil]))
    refine cYo [0, 1] true false (hbu) (fun o h e => e) ?_; simp [D.ren, D.rens, D.okN, D.okNs, Cp.ren, Cp.okN, HO.ren, HO.okN, okA, renA, renO, hOf, handed, D.fgt, D.fgts, List.range_succ, List.idxOf_cons, Out.ren, upO, renO, rdO]
    ((try simp only [wpAftT_ret, wpAftT_pan, putS, updS, setS]); (repeat (rw [wpT_cons]; simp)); (try simp only [wpT_nil]))
    (refine hKT _ _ _ _ (by kernel_rfl) ?_; clear hKT KT; (try simp only [thenD, blockD]))
    (refine hK _ _ _ ?_; clear hK K)
    (refine wpD_seqk fun K hK => ?_; refine wpD_region tyOK ?_; ((repeat (rw [wpS_cons]; simp)); (try simp only [wpS_nil, thenD, blockD])))
    refine cXp (hp) ?_
    ((try simp only [wpAft_ret, wpAft_pan, putS, updS, setS]); (repeat (rw [wpS_cons]; simp)); (try simp only [wpS_nil, thenD, blockD]))
    (refine hK _ _ _ ?_; clear hK K)
    (refine wpD_ret ?_; (try simp only [thenD, blockD]); refine EndQ.ret rfl (.inr ⟨[], by decide, by simp, ?_⟩); simp [Out.mov, movT, movH, movD, D.mov, HO.mov, okM, renM, getW, D.ren, D.rens, D.okN, D.okNs, Cp.ren, Cp.okN, HO.ren, HO.okN, okA, renA, renO, hOf, handed, D.fgt, D.fgts, List.range_succ, List.idxOf_cons, tmOf, Out.fgt, D.fgt, D.fgts])
    exact hEr.symm
  · rw [Cost_no hc]
    have hbu := burn_dead left l once done c (by omega)
    unfold wObjs headD Cs stepsM goneD at hbu ⊢
    refine Spec.movd globPure (wpD_spec tyOK Tryz.func114 rfl (enters _ _ Tryz.func114 rfl (by decide)) rfl rfl ?_)
    (refine wpD_seqk fun K hK => ?_; refine wpD_region tyOK ?_; ((repeat (rw [wpS_cons]; simp)); (try simp only [wpS_nil, thenD, blockD])); refine hK _ _ _ ?_; clear hK K)
    (refine wpD_seqk fun K hK => ?_; refine wpD_drawk tyOK (by kernel_rfl) (by kernel_rfl) fun KT hKT => ?_; ((repeat (rw [wpT_cons]; simp)); (try simp only [wpT_nil])))
    refine cYp (hz) ?_
    ((try simp only [wpAftT_ret, wpAftT_pan, putS, updS, setS]); (repeat (rw [wpT_cons]; simp)); (try simp only [wpT_nil]))
    refine cYo [0, 1] true false (hbu) (fun o h e => e) ?_; simp [D.ren, D.rens, D.okN, D.okNs, Cp.ren, Cp.okN, HO.ren, HO.okN, okA, renA, renO, hOf, handed, D.fgt, D.fgts, List.range_succ, List.idxOf_cons, Out.ren, upO, renO, rdO]
    ((try simp only [wpAftT_ret, wpAftT_pan, putS, updS, setS]); (repeat (refine wpT_late _ _ _ _ (by kernel_rfl) ?_; simp only [putS, List.set, List.nil_append, List.cons_append, Nat.reduceAdd])); (try simp only [wpT_nil]))
    (refine hKT _ _ _ _ (by kernel_rfl) ?_; clear hKT KT; (try simp only [thenD, blockD]))
    simp [killHl]
    ((try simp only [thenD, blockD]); refine EndQ.pan (.inr ⟨[], by decide, by simp, ?_⟩); simp [Out.mov, movT, movH, movD, D.mov, HO.mov, okM, renM, getW, D.ren, D.rens, D.okN, D.okNs, Cp.ren, Cp.okN, HO.ren, HO.okN, okA, renA, renO, hOf, handed, D.fgt, D.fgts, List.range_succ, List.idxOf_cons, tmOf, Out.fgt, D.fgt, D.fgts])
theorem htake_spec (left : Int) (l : List C) (once done : Bool) (hl : left ≤ 9223372036854775807) (t : T) (ht : okS t) :
    Spec Tryz.prog glob 115 [.box 0 0, encT t] (wObjs left l once done) (Cost left l once done t.nsz (encT t)) := by
  have hz := size_spec t ht.1
  rw [sz_true, i64w (by omega) (by have := ht.nsz; omega)] at hz
  have hEt := encT_eq t
  generalize t.nsz = c at hz ⊢
  rw [hEt] at hz ⊢
  by_cases hc : (c : Int) ≤ left
  · rw [Cost_ok hc]
    have hbu := burn_ok left l once done c (by omega) hc hl
    unfold wObjs headD Cs stepsM at hbu ⊢
    refine Spec.movd globPure (wpD_spec tyOK Tryz.func115 rfl (enters _ _ Tryz.func115 rfl (by decide)) rfl rfl ?_)
    (refine wpD_seqk fun K hK => ?_; refine wpD_region tyOK ?_; ((repeat (rw [wpS_cons]; simp)); (try simp only [wpS_nil, thenD, blockD])); refine hK _ _ _ ?_; clear hK K)
    (refine wpD_seqk fun K hK => ?_; refine wpD_drawk tyOK (by kernel_rfl) (by kernel_rfl) fun KT hKT => ?_; ((repeat (rw [wpT_cons]; simp)); (try simp only [wpT_nil])))
    refine cYp (hz) ?_
    ((try simp only [wpAftT_ret, wpAftT_pan, putS, updS, setS]); (repeat (rw [wpT_cons]; simp)); (try simp only [wpT_nil]))
    refine cYo [0, 1] true false (hbu) (fun o h e => e) ?_; simp [D.ren, D.rens, D.okN, D.okNs, Cp.ren, Cp.okN, HO.ren, HO.okN, okA, renA, renO, hOf, handed, D.fgt, D.fgts, List.range_succ, List.idxOf_cons, Out.ren, upO, renO, rdO]
    ((try simp only [wpAftT_ret, wpAftT_pan, putS, updS, setS]); (repeat (rw [wpT_cons]; simp)); (try simp only [wpT_nil]))
    (refine hKT _ _ _ _ (by kernel_rfl) ?_; clear hKT KT; (try simp only [thenD, blockD]))
    (refine hK _ _ _ ?_; clear hK K)
    (refine wpD_seqk fun K hK => ?_; refine wpD_region tyOK ?_; ((repeat (rw [wpS_cons]; simp)); (try simp only [wpS_nil, thenD, blockD])); refine hK _ _ _ ?_; clear hK K)
    (refine wpD_ret ?_; (try simp only [thenD, blockD]); refine EndQ.ret rfl (.inr ⟨[], by decide, by simp, ?_⟩); simp [Out.mov, movT, movH, movD, D.mov, HO.mov, okM, renM, getW, D.ren, D.rens, D.okN, D.okNs, Cp.ren, Cp.okN, HO.ren, HO.okN, okA, renA, renO, hOf, handed, D.fgt, D.fgts, List.range_succ, List.idxOf_cons, tmOf, Out.fgt, D.fgt, D.fgts])
  · rw [Cost_no hc]
    have hbu := burn_dead left l once done c (by omega)
    unfold wObjs headD Cs stepsM goneD at hbu ⊢
    refine Spec.movd globPure (wpD_spec tyOK Tryz.func115 rfl (enters _ _ Tryz.func115 rfl (by decide)) rfl rfl ?_)
    (refine wpD_seqk fun K hK => ?_; refine wpD_region tyOK ?_; ((repeat (rw [wpS_cons]; simp)); (try simp only [wpS_nil, thenD, blockD])); refine hK _ _ _ ?_; clear hK K)
    (refine wpD_seqk fun K hK => ?_; refine wpD_drawk tyOK (by kernel_rfl) (by kernel_rfl) fun KT hKT => ?_; ((repeat (rw [wpT_cons]; simp)); (try simp only [wpT_nil])))
    refine cYp (hz) ?_
    ((try simp only [wpAftT_ret, wpAftT_pan, putS, updS, setS]); (repeat (rw [wpT_cons]; simp)); (try simp only [wpT_nil]))
    refine cYo [0, 1] true false (hbu) (fun o h e => e) ?_; simp [D.ren, D.rens, D.okN, D.okNs, Cp.ren, Cp.okN, HO.ren, HO.okN, okA, renA, renO, hOf, handed, D.fgt, D.fgts, List.range_succ, List.idxOf_cons, Out.ren, upO, renO, rdO]
    ((try simp only [wpAftT_ret, wpAftT_pan, putS, updS, setS]); (repeat (refine wpT_late _ _ _ _ (by kernel_rfl) ?_; simp only [putS, List.set, List.nil_append, List.cons_append, Nat.reduceAdd])); (try simp only [wpT_nil]))
    (refine hKT _ _ _ _ (by kernel_rfl) ?_; clear hKT KT; (try simp only [thenD, blockD]))
    simp [killHl]
    ((try simp only [thenD, blockD]); refine EndQ.pan (.inr ⟨[], by decide, by simp, ?_⟩); simp [Out.mov, movT, movH, movD, D.mov, HO.mov, okM, renM, getW, D.ren, D.rens, D.okN, D.okNs, Cp.ren, Cp.okN, HO.ren, HO.okN, okA, renA, renO, hOf, handed, D.fgt, D.fgts, List.range_succ, List.idxOf_cons, tmOf, Out.fgt, D.fgt, D.fgts])
end Go.Proofs.YtebmlojhdnldgaaGreatDoor

namespace Go.Proofs.YtebmlojhdnldgaaGreatDoor
set_option linter.unusedSimpArgs false
set_option linter.unusedVariables false
set_option maxHeartbeats 10000000
set_option maxRecDepth 20000
open Go.RowKit
attribute [local simp] wpAft_ret wpAft_pan wantD evOp opD tmOf putS updS setS hOf isFree isTok fillD TK.isAgg TK.known partD thenD blockD putAll D.ofV inB nilTest isNilS binX binD binE isCst bndD capB IntKind.min IntKind.max IntKind.signed IntKind.bits dstOf late
theorem kidn_spec (t : T) (n : Int) (m : Nat) (h : n = m) : Spec Tryz.prog glob 80 [encT t, .int .i64 n] [] (fun o _ => o.fgt = .ret (encT (t.kid m))) := by
  subst h
  have := kid_spec t m
  rwa [kidI_nat] at this
/-- the constant that a node names -/
def atC (l : List C) (n : Int) (lv : List LV) : Option C := if h : 0 ≤ n ∧ n.toNat < l.length then if (l[n.toNat]'h.2).lv = lv.length then some (l[n.toNat]'h.2) else none else none
theorem atC_low {l : List C} {n : Int} {lv : List LV} (h : ¬ 0 ≤ n) : atC l n lv = none := by unfold atC; rw [dif_neg (fun h2 => h h2.1)]
theorem atC_in {l : List C} {j : Nat} {lv : List LV} (h : j < l.length) : atC l (j : Int) lv = if l[j].lv = lv.length then some l[j] else none := by unfold atC; rw [dif_pos ⟨by omega, by omega⟩]; rfl
theorem atC_out {l : List C} {j : Nat} {lv : List LV} (h : ¬ j < l.length) : atC l (j : Int) lv = none := by unfold atC; rw [dif_neg (fun h2 => h h2.2)]
theorem body_at (l : List C) (n : Int) (lv : List LV) : bodyC l n lv = match atC l n lv with
    | some c => if c.has = true then some (c.bo.levels lv 0) else none
    | none => none := by
  unfold bodyC atC
  split
  · rename_i h
    by_cases h1 : (l[n.toNat]'h.2).lv = lv.length
    · rw [if_pos h1]
      by_cases h2 : (l[n.toNat]'h.2).has = true
      · rw [if_pos ⟨h1, h2⟩]; simp only; rw [if_pos h2]
      · rw [if_neg (fun h3 => h2 h3.2)]; simp only; rw [if_neg h2]
    · rw [if_neg (fun h3 => h1 h3.1), if_neg h1]
  · rfl
theorem atC_mem {l : List C} {n : Int} {lv : List LV} {c : C} (h : atC l n lv = some c) : c ∈ l := by
  unfold atC at h
  split at h
  · split at h
    · cases h; exact List.getElem_mem _
    · cases h
  · cases h
theorem encC_eq (c : C) : encC c = .agg [.int .i64 c.lv, .int .i64 c.ty.k, .int .i64 c.ty.n, .int .i64 c.ty.a, .slice (c.ty.ls.map encL) .any, .slice (c.ty.ks.map encT) .any, .bool c.has, .int .i64 c.bo.k, .int .i64 c.bo.n, .int .i64 c.bo.a, .slice (c.bo.ls.map encL) .any, .slice (c.bo.ks.map encT) .any] := rfl
theorem at_spec (l : List C) (hl : l.length ≤ LMax) (n : Int) (lv : List LV) : Spec Tryz.prog glob 137 [Cs l, .int .i64 n, .slice (lv.map encL) .any] [] (fun o _ => o.fgt = .ret (.tuple [encC ((atC l n lv).getD zeroC), .bool (atC l n lv).isSome])) := by
  unfold LMax at hl
  by_cases h0 : 0 ≤ n
  · obtain ⟨j, rfl⟩ : ∃ j : Nat, n = j := ⟨n.toNat, by omega⟩
    by_cases hj : j < l.length
    · have hj' : (j : Int) < l.length := by omega
      rw [atC_in hj]
      obtain ⟨c, hc⟩ : ∃ c, l[j] = c := ⟨_, rfl⟩
      rw [hc]
      have hE := encC_eq c
      by_cases hlv : c.lv = lv.length
      · rw [if_pos hlv]
        unfold Cs
        refine Spec.movd globPure (wpD_spec tyOK Tryz.func137 rfl (enters _ _ Tryz.func137 rfl (by decide)) rfl rfl ?_)
        (refine wpD_seqk fun K hK => ?_; refine wpD_region tyOK ?_; ((repeat (rw [wpS_cons]; simp)); (try simp only [wpS_nil, thenD, blockD])); refine hK _ _ _ ?_; clear hK K)
        refine wpD_seqk fun K1 hK1 => ?_
        (refine wpD_seqk fun K hK => ?_; refine wpD_region tyOK ?_; ((repeat (rw [wpS_cons]; simp [h0, hj, hj', hc, hE, hlv])); (try simp only [wpS_nil, thenD, blockD])); refine hK _ _ _ ?_; clear hK K)
        refine wpD_part rfl (fun _ => ?_) (fun h => by simp at h)
        (refine wpD_seqk fun K hK => ?_; refine wpD_region tyOK ?_; ((repeat (rw [wpS_cons]; simp [h0, hj, hj', hc, hE, hlv])); (try simp only [wpS_nil, thenD, blockD])); refine hK _ _ _ ?_; clear hK K)
        (refine wpD_ret ?_; (try simp only [thenD, blockD]); refine EndQ.ret rfl (.inl ?_); simp [tmOf, Out.fgt, D.fgt, D.fgts])
        rw [hE, hlv]
      · rw [if_neg hlv]
        unfold Cs
        refine Spec.movd globPure (wpD_spec tyOK Tryz.func137 rfl (enters _ _ Tryz.func137 rfl (by decide)) rfl rfl ?_)
        (refine wpD_seqk fun K hK => ?_; refine wpD_region tyOK ?_; ((repeat (rw [wpS_cons]; simp)); (try simp only [wpS_nil, thenD, blockD])); refine hK _ _ _ ?_; clear hK K)
        refine wpD_seqk fun K1 hK1 => ?_
        (refine wpD_seqk fun K hK => ?_; refine wpD_region tyOK ?_; ((repeat (rw [wpS_cons]; simp [h0, hj, hj', hc, hE, hlv])); (try simp only [wpS_nil, thenD, blockD])); refine hK _ _ _ ?_; clear hK K)
        refine wpD_part rfl (fun h => by simp at h) (fun _ => ?_)
        refine wpD_skip (hK1 _ _ _ ?_)
        (refine wpD_seqk fun K hK => ?_; refine wpD_region tyOK ?_; ((repeat (rw [wpS_cons]; simp)); (try simp only [wpS_nil, thenD, blockD])); refine hK _ _ _ ?_; clear hK K)
        (refine wpD_ret ?_; (try simp only [thenD, blockD]); refine EndQ.ret rfl (.inl ?_); simp [tmOf, Out.fgt, D.fgt, D.fgts])
        rfl
    · have hj' : ¬ (j : Int) < l.length := by omega
      rw [atC_out hj]
      unfold Cs
      refine Spec.movd globPure (wpD_spec tyOK Tryz.func137 rfl (enters _ _ Tryz.func137 rfl (by decide)) rfl rfl ?_)
      (refine wpD_seqk fun K hK => ?_; refine wpD_region tyOK ?_; ((repeat (rw [wpS_cons]; simp)); (try simp only [wpS_nil, thenD, blockD])); refine hK _ _ _ ?_; clear hK K)
      refine wpD_seqk fun K1 hK1 => ?_
      (refine wpD_seqk fun K hK => ?_; refine wpD_region tyOK ?_; ((repeat (rw [wpS_cons]; simp [h0, hj, hj'])); (try simp only [wpS_nil, thenD, blockD])); refine hK _ _ _ ?_; clear hK K)
      refine wpD_part rfl (fun h => by simp at h) (fun _ => ?_)
      refine wpD_skip (hK1 _ _ _ ?_)
      (refine wpD_seqk fun K hK => ?_; refine wpD_region tyOK ?_; ((repeat (rw [wpS_cons]; simp)); (try simp only [wpS_nil, thenD, blockD])); refine hK _ _ _ ?_; clear hK K)
      (refine wpD_ret ?_; (try simp only [thenD, blockD]); refine EndQ.ret rfl (.inl ?_); simp [tmOf, Out.fgt, D.fgt, D.fgts])
      rfl
  · rw [atC_low h0]
    unfold Cs
    refine Spec.movd globPure (wpD_spec tyOK Tryz.func137 rfl (enters _ _ Tryz.func137 rfl (by decide)) rfl rfl ?_)
    (refine wpD_seqk fun K hK => ?_; refine wpD_region tyOK ?_; ((repeat (rw [wpS_cons]; simp)); (try simp only [wpS_nil, thenD, blockD])); refine hK _ _ _ ?_; clear hK K)
    refine wpD_seqk fun K1 hK1 => ?_
    (refine wpD_seqk fun K hK => ?_; refine wpD_region tyOK ?_; ((repeat (rw [wpS_cons]; simp [h0])); (try simp only [wpS_nil, thenD, blockD])); refine hK _ _ _ ?_; clear hK K)
    refine wpD_part rfl (fun h => by simp at h) (fun _ => ?_)
    refine wpD_skip (hK1 _ _ _ ?_)
    (refine wpD_seqk fun K hK => ?_; refine wpD_region tyOK ?_; ((repeat (rw [wpS_cons]; simp)); (try simp only [wpS_nil, thenD, blockD])); refine hK _ _ _ ?_; clear hK K)
    (refine wpD_ret ?_; (try simp only [thenD, blockD]); refine EndQ.ret rfl (.inl ?_); simp [tmOf, Out.fgt, D.fgt, D.fgts])
    rfl
theorem body_spec (l : List C) (hl : okCs l) (n : Int) (lv : List LV) (hv : lv.length ≤ LMax) (hvl : ∀ b, b ∈ lv → b.length ≤ LMax) : Spec Tryz.prog glob 116 [Cs l, .int .i64 n, .slice (lv.map encL) .any] [] (fun o _ => o.fgt = .ret (.tuple [encT ((bodyC l n lv).getD zeroT), .bool (bodyC l n lv).isSome])) := by
  have ha := at_spec l hl.len n lv
  rw [body_at]
  cases hc : atC l n lv with
  | none =>
    rw [hc] at ha
    simp only [Option.getD_none, Option.isSome_none] at ha ⊢
    rw [encZ]
    unfold Cs zeroC at ha
    unfold Cs
    refine Spec.movd globPure (wpD_spec tyOK Tryz.func116 rfl (enters _ _ Tryz.func116 rfl (by decide)) rfl rfl ?_)
    (refine wpD_seqk fun K hK => ?_; refine wpD_region tyOK ?_; ((repeat (rw [wpS_cons]; simp)); (try simp only [wpS_nil, thenD, blockD])); refine hK _ _ _ ?_; clear hK K)
    (refine wpD_seqk fun K hK => ?_; refine wpD_region tyOK ?_; ((repeat (rw [wpS_cons]; simp)); (try simp only [wpS_nil, thenD, blockD])))
    refine cXp (ha) ?_
    ((try simp only [wpAft_ret, wpAft_pan, putS, updS, setS]); (repeat (rw [wpS_cons]; simp)); (try simp only [wpS_nil, thenD, blockD]))
    (refine hK _ _ _ ?_; clear hK K)
    refine wpD_seqk fun K1 hK1 => ?_
    (refine wpD_seqk fun K hK => ?_; refine wpD_region tyOK ?_; ((repeat (rw [wpS_cons]; simp)); (try simp only [wpS_nil, thenD, blockD])); refine hK _ _ _ ?_; clear hK K)
    refine wpD_part rfl (fun _ => ?_) (fun h => by simp at h)
    (refine wpD_seqk fun K hK => ?_; refine wpD_region tyOK ?_; ((repeat (rw [wpS_cons]; simp)); (try simp only [wpS_nil, thenD, blockD])); refine hK _ _ _ ?_; clear hK K)
    (refine wpD_ret ?_; (try simp only [thenD, blockD]); refine EndQ.ret rfl (.inl ?_); simp [tmOf, Out.fgt, D.fgt, D.fgts])
  | some c =>
    rw [hc] at ha
    simp only [Option.getD_some, Option.isSome_some] at ha ⊢
    have hm := atC_mem hc
    have hbo := (hl.ok c hm).2.2
    have hd : c.bo.deep ≤ DM := by have := c.bo.deep_nsz; have := hl.bo c hm; unfold DM; omega
    cases hh : c.has with
    | false =>
      rw [if_neg Bool.false_ne_true]
      simp only [Option.getD_none, Option.isSome_none]
      rw [encZ]
      rw [encC_eq c, hh] at ha
      unfold Cs at ha ⊢
      refine Spec.movd globPure (wpD_spec tyOK Tryz.func116 rfl (enters _ _ Tryz.func116 rfl (by decide)) rfl rfl ?_)
      (refine wpD_seqk fun K hK => ?_; refine wpD_region tyOK ?_; ((repeat (rw [wpS_cons]; simp)); (try simp only [wpS_nil, thenD, blockD])); refine hK _ _ _ ?_; clear hK K)
      (refine wpD_seqk fun K hK => ?_; refine wpD_region tyOK ?_; ((repeat (rw [wpS_cons]; simp)); (try simp only [wpS_nil, thenD, blockD])))
      refine cXp (ha) ?_
      ((try simp only [wpAft_ret, wpAft_pan, putS, updS, setS]); (repeat (rw [wpS_cons]; simp)); (try simp only [wpS_nil, thenD, blockD]))
      (refine hK _ _ _ ?_; clear hK K)
      refine wpD_seqk fun K1 hK1 => ?_
      (refine wpD_seqk fun K hK => ?_; refine wpD_region tyOK ?_; ((repeat (rw [wpS_cons]; simp)); (try simp only [wpS_nil, thenD, blockD])); refine hK _ _ _ ?_; clear hK K)
      refine wpD_part rfl (fun _ => ?_) (fun h => by simp at h)
      (refine wpD_seqk fun K hK => ?_; refine wpD_region tyOK ?_; ((repeat (rw [wpS_cons]; simp)); (try simp only [wpS_nil, thenD, blockD])); refine hK _ _ _ ?_; clear hK K)
      (refine wpD_ret ?_; (try simp only [thenD, blockD]); refine EndQ.ret rfl (.inl ?_); simp [tmOf, Out.fgt, D.fgt, D.fgts])
    | true =>
      rw [if_pos rfl]
      simp only [Option.getD_some, Option.isSome_some]
      have hs := levels_spec c.bo lv hv hvl hd hbo
      rw [encC_eq c, hh] at ha
      rw [encT_eq c.bo] at hs
      generalize c.bo.levels lv 0 = r at hs ⊢
      have hEr := encT_eq r
      unfold Lvs at hs
      unfold Cs at ha ⊢
      refine Spec.movd globPure (wpD_spec tyOK Tryz.func116 rfl (enters _ _ Tryz.func116 rfl (by decide)) rfl rfl ?_)
      (refine wpD_seqk fun K hK => ?_; refine wpD_region tyOK ?_; ((repeat (rw [wpS_cons]; simp)); (try simp only [wpS_nil, thenD, blockD])); refine hK _ _ _ ?_; clear hK K)
      (refine wpD_seqk fun K hK => ?_; refine wpD_region tyOK ?_; ((repeat (rw [wpS_cons]; simp)); (try simp only [wpS_nil, thenD, blockD])))
      refine cXp (ha) ?_
      ((try simp only [wpAft_ret, wpAft_pan, putS, updS, setS]); (repeat (rw [wpS_cons]; simp)); (try simp only [wpS_nil, thenD, blockD]))
      (refine hK _ _ _ ?_; clear hK K)
      refine wpD_seqk fun K1 hK1 => ?_
      (refine wpD_seqk fun K hK => ?_; refine wpD_region tyOK ?_; ((repeat (rw [wpS_cons]; simp)); (try simp only [wpS_nil, thenD, blockD])); refine hK _ _ _ ?_; clear hK K)
      refine wpD_part rfl (fun h => by simp at h) (fun _ => ?_)
      refine wpD_skip (hK1 _ _ _ ?_)
      (refine wpD_seqk fun K hK => ?_; refine wpD_region tyOK ?_; ((repeat (rw [wpS_cons]; simp)); (try simp only [wpS_nil, thenD, blockD])))
      refine cXp (hs) ?_
      ((try simp only [wpAft_ret, wpAft_pan, putS, updS, setS]); (repeat (rw [wpS_cons]; simp)); (try simp only [wpS_nil, thenD, blockD]))
      (refine hK _ _ _ ?_; clear hK K)
      (refine wpD_ret ?_; (try simp only [thenD, blockD]); refine EndQ.ret rfl (.inl ?_); simp [tmOf, Out.fgt, D.fgt, D.fgts])
      exact hEr.symm
theorem happ_spec (left : Int) (l : List C) (once done : Bool) (hl : left ≤ 9223372036854775807) (t x : T) (ht : okS t) (hx : okS x) (h6 : t.k = 6) : Spec Tryz.prog glob 71 [.box 0 0, encT t, encT x] (wObjs left l once done) (OwnP left l once done t (ownS l t x)) := by
  have hEt := encT_eq t
  have hEx := encT_eq x
  unfold ownS
  rw [if_pos h6]
  by_cases hk : x.k = 5
  · rw [if_pos hk]
    have k1 := kidn_spec x 1 1 rfl
    have k2 := kidn_spec t 1 1 rfl
    have hp := hput_spec left l once done hl (x.kid 1) (t.kid 1) (hx.kid 1) (ht.kid 1)
    generalize (x.kid 1).sd (t.kid 1).nsz 0 = c at hp ⊢
    generalize (x.kid 1).put [t.kid 1] 0 = r at hp ⊢
    generalize x.kid 1 = a at k1 hp
    generalize t.kid 1 = b at k2 hp
    have hEr := encT_eq r
    have hEa := encT_eq a
    have hEb := encT_eq b
    rw [hEx, hEa, hk] at k1
    rw [hEt, hEb] at k2
    rw [hEa, hEb, hEr] at hp
    rw [hEt, hEx]
    by_cases hc : (c : Int) ≤ left
    · rw [Cost_ok hc] at hp
      show Spec _ _ _ _ _ (Cost left l once done c _)
      rw [Cost_ok hc]
      unfold wObjs headD Cs stepsM at hp ⊢
      refine Spec.movd globPure (wpD_spec tyOK Tryz.func71 rfl (enters _ _ Tryz.func71 rfl (by decide)) rfl rfl ?_)
      (refine wpD_seqk fun K hK => ?_; refine wpD_region tyOK ?_; ((repeat (rw [wpS_cons]; simp)); (try simp only [wpS_nil, thenD, blockD])); refine hK _ _ _ ?_; clear hK K)
      refine wpD_seqk fun K1 hK1 => ?_
      (refine wpD_seqk fun K hK => ?_; refine wpD_region tyOK ?_; ((repeat (rw [wpS_cons]; simp [hk])); (try simp only [wpS_nil, thenD, blockD])); refine hK _ _ _ ?_; clear hK K)
      refine wpD_part rfl (fun h => by simp at h) (fun _ => ?_)
      refine wpD_skip (hK1 _ _ _ ?_)
      (refine wpD_seqk fun K hK => ?_; refine wpD_drawk tyOK (by kernel_rfl) (by kernel_rfl) fun KT hKT => ?_; ((repeat (rw [wpT_cons]; simp)); (try simp only [wpT_nil])))
      refine cYp (k1) ?_
      ((try simp only [wpAftT_ret, wpAftT_pan, putS, updS, setS]); (repeat (rw [wpT_cons]; simp)); (try simp only [wpT_nil]))
      refine cYp (k2) ?_
      ((try simp only [wpAftT_ret, wpAftT_pan, putS, updS, setS]); (repeat (rw [wpT_cons]; simp)); (try simp only [wpT_nil]))
      refine cYo [0, 1] true true (hp) (fun o h e => e) ?_; simp [D.ren, D.rens, D.okN, D.okNs, Cp.ren, Cp.okN, HO.ren, HO.okN, okA, renA, renO, hOf, handed, D.fgt, D.fgts, List.range_succ, List.idxOf_cons, Out.ren, upO, renO, rdO]
      ((try simp only [wpAftT_ret, wpAftT_pan, putS, updS, setS]); (repeat (rw [wpT_cons]; simp)); (try simp only [wpT_nil]))
      (refine hKT _ _ _ _ (by kernel_rfl) ?_; clear hKT KT; (try simp only [thenD, blockD]))
      (refine hK _ _ _ ?_; clear hK K)
      (refine wpD_ret ?_; (try simp only [thenD, blockD]); refine EndQ.ret rfl (.inr ⟨[], by decide, by simp, ?_⟩); simp [Out.mov, movT, movH, movD, D.mov, HO.mov, okM, renM, getW, D.ren, D.rens, D.okN, D.okNs, Cp.ren, Cp.okN, HO.ren, HO.okN, okA, renA, renO, hOf, handed, D.fgt, D.fgts, List.range_succ, List.idxOf_cons, tmOf, Out.fgt, D.fgt, D.fgts])
      first | done | simp [hEr]
    · rw [Cost_no hc] at hp
      show Spec _ _ _ _ _ (Cost left l once done c _)
      rw [Cost_no hc]
      unfold wObjs headD Cs stepsM goneD at hp
      unfold wObjs headD Cs stepsM goneD
      refine Spec.movd globPure (wpD_spec tyOK Tryz.func71 rfl (enters _ _ Tryz.func71 rfl (by decide)) rfl rfl ?_)
      (refine wpD_seqk fun K hK => ?_; refine wpD_region tyOK ?_; ((repeat (rw [wpS_cons]; simp)); (try simp only [wpS_nil, thenD, blockD])); refine hK _ _ _ ?_; clear hK K)
      refine wpD_seqk fun K1 hK1 => ?_
      (refine wpD_seqk fun K hK => ?_; refine wpD_region tyOK ?_; ((repeat (rw [wpS_cons]; simp [hk])); (try simp only [wpS_nil, thenD, blockD])); refine hK _ _ _ ?_; clear hK K)
      refine wpD_part rfl (fun h => by simp at h) (fun _ => ?_)
      refine wpD_skip (hK1 _ _ _ ?_)
      (refine wpD_seqk fun K hK => ?_; refine wpD_drawk tyOK (by kernel_rfl) (by kernel_rfl) fun KT hKT => ?_; ((repeat (rw [wpT_cons]; simp)); (try simp only [wpT_nil])))
      refine cYp (k1) ?_
      ((try simp only [wpAftT_ret, wpAftT_pan, putS, updS, setS]); (repeat (rw [wpT_cons]; simp)); (try simp only [wpT_nil]))
      refine cYp (k2) ?_
      ((try simp only [wpAftT_ret, wpAftT_pan, putS, updS, setS]); (repeat (rw [wpT_cons]; simp)); (try simp only [wpT_nil]))
      refine cYo [0, 1] true false (hp) (fun o h e => e) ?_; simp [D.ren, D.rens, D.okN, D.okNs, Cp.ren, Cp.okN, HO.ren, HO.okN, okA, renA, renO, hOf, handed, D.fgt, D.fgts, List.range_succ, List.idxOf_cons, Out.ren, upO, renO, rdO]
      ((try simp only [wpAftT_ret, wpAftT_pan, putS, updS, setS]); (repeat (refine wpT_late _ _ _ _ (by kernel_rfl) ?_; simp only [putS, List.set, List.nil_append, List.cons_append, Nat.reduceAdd])); (try simp only [wpT_nil]))
      (refine hKT _ _ _ _ (by kernel_rfl) ?_; clear hKT KT; (try simp only [thenD, blockD]))
      simp [killHl]
      ((try simp only [thenD, blockD]); refine EndQ.pan (.inr ⟨[], by decide, by simp, ?_⟩); simp [Out.mov, movT, movH, movD, D.mov, HO.mov, okM, renM, getW, D.ren, D.rens, D.okN, D.okNs, Cp.ren, Cp.okN, HO.ren, HO.okN, okA, renA, renO, hOf, handed, D.fgt, D.fgts, List.range_succ, List.idxOf_cons, tmOf, Out.fgt, D.fgt, D.fgts])
  · rw [if_neg hk]
    rw [hEt, hEx]
    unfold OwnP wObjs headD Cs stepsM
    refine Spec.movd globPure (wpD_spec tyOK Tryz.func71 rfl (enters _ _ Tryz.func71 rfl (by decide)) rfl rfl ?_)
    (refine wpD_seqk fun K hK => ?_; refine wpD_region tyOK ?_; ((repeat (rw [wpS_cons]; simp)); (try simp only [wpS_nil, thenD, blockD])); refine hK _ _ _ ?_; clear hK K)
    refine wpD_seqk fun K1 hK1 => ?_
    (refine wpD_seqk fun K hK => ?_; refine wpD_region tyOK ?_; ((repeat (rw [wpS_cons]; simp [hk])); (try simp only [wpS_nil, thenD, blockD])); refine hK _ _ _ ?_; clear hK K)
    refine wpD_part rfl (fun _ => ?_) (fun h => by simp at h)
    (refine wpD_seqk fun K hK => ?_; refine wpD_region tyOK ?_; ((repeat (rw [wpS_cons]; simp)); (try simp only [wpS_nil, thenD, blockD])); refine hK _ _ _ ?_; clear hK K)
    (refine wpD_ret ?_; (try simp only [thenD, blockD]); refine EndQ.ret rfl (.inr ⟨[], by decide, by simp, ?_⟩); simp [Out.mov, movT, movH, movD, D.mov, HO.mov, okM, renM, getW, D.ren, D.rens, D.okN, D.okNs, Cp.ren, Cp.okN, HO.ren, HO.okN, okA, renA, renO, hOf, handed, D.fgt, D.fgts, List.range_succ, List.idxOf_cons, tmOf, Out.fgt, D.fgt, D.fgts])
    first | done | simp [hEt]
theorem hlet_spec (left : Int) (l : List C) (once done : Bool) (hl : left ≤ 9223372036854775807) (t x : T) (ht : okS t) (h7 : t.k = 7) : Spec Tryz.prog glob 73 [.box 0 0, encT t, encT x] (wObjs left l once done) (OwnP left l once done t (ownS l t x)) := by
  have hEt := encT_eq t
  have hEx := encT_eq x
  unfold ownS
  rw [if_neg (by omega), if_neg (by omega), if_pos h7]
  have k1 := kidn_spec t 2 2 rfl
  have k2 := kidn_spec t 1 1 rfl
  have hp := hput_spec left l once done hl (t.kid 2) (t.kid 1) (ht.kid 2) (ht.kid 1)
  generalize (t.kid 2).sd (t.kid 1).nsz 0 = c at hp ⊢
  generalize (t.kid 2).put [t.kid 1] 0 = r at hp ⊢
  generalize t.kid 2 = a at k1 hp
  generalize t.kid 1 = b at k2 hp
  have hEr := encT_eq r
  have hEa := encT_eq a
  have hEb := encT_eq b
  rw [hEt, hEa] at k1
  rw [hEt, hEb] at k2
  rw [hEa, hEb, hEr] at hp
  rw [hEt, hEx]
  by_cases hc : (c : Int) ≤ left
  · rw [Cost_ok hc] at hp
    show Spec _ _ _ _ _ (Cost left l once done c _)
    rw [Cost_ok hc]
    unfold wObjs headD Cs stepsM at hp ⊢
    refine Spec.movd globPure (wpD_spec tyOK Tryz.func73 rfl (enters _ _ Tryz.func73 rfl (by decide)) rfl rfl ?_)
    (refine wpD_seqk fun K hK => ?_; refine wpD_region tyOK ?_; ((repeat (rw [wpS_cons]; simp)); (try simp only [wpS_nil, thenD, blockD])); refine hK _ _ _ ?_; clear hK K)
    (refine wpD_seqk fun K hK => ?_; refine wpD_drawk tyOK (by kernel_rfl) (by kernel_rfl) fun KT hKT => ?_; ((repeat (rw [wpT_cons]; simp)); (try simp only [wpT_nil])))
    refine cYp (k1) ?_
    ((try simp only [wpAftT_ret, wpAftT_pan, putS, updS, setS]); (repeat (rw [wpT_cons]; simp)); (try simp only [wpT_nil]))
    refine cYp (k2) ?_
    ((try simp only [wpAftT_ret, wpAftT_pan, putS, updS, setS]); (repeat (rw [wpT_cons]; simp)); (try simp only [wpT_nil]))
    refine cYo [0, 1] true true (hp) (fun o h e => e) ?_; simp [D.ren, D.rens, D.okN, D.okNs, Cp.ren, Cp.okN, HO.ren, HO.okN, okA, renA, renO, hOf, handed, D.fgt, D.fgts, List.range_succ, List.idxOf_cons, Out.ren, upO, renO, rdO]
    ((try simp only [wpAftT_ret, wpAftT_pan, putS, updS, setS]); (repeat (rw [wpT_cons]; simp)); (try simp only [wpT_nil]))
    (refine hKT _ _ _ _ (by kernel_rfl) ?_; clear hKT KT; (try simp only [thenD, blockD]))
    (refine hK _ _ _ ?_; clear hK K)
    (refine wpD_ret ?_; (try simp only [thenD, blockD]); refine EndQ.ret rfl (.inr ⟨[], by decide, by simp, ?_⟩); simp [Out.mov, movT, movH, movD, D.mov, HO.mov, okM, renM, getW, D.ren, D.rens, D.okN, D.okNs, Cp.ren, Cp.okN, HO.ren, HO.okN, okA, renA, renO, hOf, handed, D.fgt, D.fgts, List.range_succ, List.idxOf_cons, tmOf, Out.fgt, D.fgt, D.fgts])
    first | done | simp [hEr]
  · rw [Cost_no hc] at hp
    show Spec _ _ _ _ _ (Cost left l once done c _)
    rw [Cost_no hc]
    unfold wObjs headD Cs stepsM goneD at hp
    unfold wObjs headD Cs stepsM goneD
    refine Spec.movd globPure (wpD_spec tyOK Tryz.func73 rfl (enters _ _ Tryz.func73 rfl (by decide)) rfl rfl ?_)
    (refine wpD_seqk fun K hK => ?_; refine wpD_region tyOK ?_; ((repeat (rw [wpS_cons]; simp)); (try simp only [wpS_nil, thenD, blockD])); refine hK _ _ _ ?_; clear hK K)
    (refine wpD_seqk fun K hK => ?_; refine wpD_drawk tyOK (by kernel_rfl) (by kernel_rfl) fun KT hKT => ?_; ((repeat (rw [wpT_cons]; simp)); (try simp only [wpT_nil])))
    refine cYp (k1) ?_
    ((try simp only [wpAftT_ret, wpAftT_pan, putS, updS, setS]); (repeat (rw [wpT_cons]; simp)); (try simp only [wpT_nil]))
    refine cYp (k2) ?_
    ((try simp only [wpAftT_ret, wpAftT_pan, putS, updS, setS]); (repeat (rw [wpT_cons]; simp)); (try simp only [wpT_nil]))
    refine cYo [0, 1] true false (hp) (fun o h e => e) ?_; simp [D.ren, D.rens, D.okN, D.okNs, Cp.ren, Cp.okN, HO.ren, HO.okN, okA, renA, renO, hOf, handed, D.fgt, D.fgts, List.range_succ, List.idxOf_cons, Out.ren, upO, renO, rdO]
    ((try simp only [wpAftT_ret, wpAftT_pan, putS, updS, setS]); (repeat (refine wpT_late _ _ _ _ (by kernel_rfl) ?_; simp only [putS, List.set, List.nil_append, List.cons_append, Nat.reduceAdd])); (try simp only [wpT_nil]))
    (refine hKT _ _ _ _ (by kernel_rfl) ?_; clear hKT KT; (try simp only [thenD, blockD]))
    simp [killHl]
    ((try simp only [thenD, blockD]); refine EndQ.pan (.inr ⟨[], by decide, by simp, ?_⟩); simp [Out.mov, movT, movH, movD, D.mov, HO.mov, okM, renM, getW, D.ren, D.rens, D.okN, D.okNs, Cp.ren, Cp.okN, HO.ren, HO.okN, okA, renA, renO, hOf, handed, D.fgt, D.fgts, List.range_succ, List.idxOf_cons, tmOf, Out.fgt, D.fgt, D.fgts])
theorem hhalf_spec (left : Int) (l : List C) (once done : Bool) (hl : left ≤ 9223372036854775807) (t x : T) (hx : okS x) (h14 : t.k = 14 ∨ t.k = 15) : Spec Tryz.prog glob 72 [.box 0 0, encT t, encT x] (wObjs left l once done) (OwnP left l once done t (ownS l t x)) := by
  have hEt := encT_eq t
  have hEx := encT_eq x
  unfold ownS
  rw [if_neg (by omega), if_pos h14]
  by_cases hk : x.k = 13
  · rw [if_pos hk]
    by_cases h15 : t.k = 15
    · rw [if_pos h15]
      have k1 := kidn_spec x 1 1 rfl
      have hp := htake_spec left l once done hl (x.kid 1) (hx.kid 1)
      generalize (x.kid 1).nsz = c at hp ⊢
      generalize x.kid 1 = r at k1 hp ⊢
      have hEr := encT_eq r
      rw [hEx, hEr, hk] at k1
      rw [hEr] at hp
      rw [hEt, hEx]
      by_cases hc : (c : Int) ≤ left
      · rw [Cost_ok hc] at hp
        show Spec _ _ _ _ _ (Cost left l once done c _)
        rw [Cost_ok hc]
        unfold wObjs headD Cs stepsM at hp ⊢
        refine Spec.movd globPure (wpD_spec tyOK Tryz.func72 rfl (enters _ _ Tryz.func72 rfl (by decide)) rfl rfl ?_)
        (refine wpD_seqk fun K hK => ?_; refine wpD_region tyOK ?_; ((repeat (rw [wpS_cons]; simp)); (try simp only [wpS_nil, thenD, blockD])); refine hK _ _ _ ?_; clear hK K)
        refine wpD_seqk fun K1 hK1 => ?_
        (refine wpD_seqk fun K hK => ?_; refine wpD_region tyOK ?_; ((repeat (rw [wpS_cons]; simp [hk])); (try simp only [wpS_nil, thenD, blockD])); refine hK _ _ _ ?_; clear hK K)
        refine wpD_part rfl (fun h => by simp at h) (fun _ => ?_)
        refine wpD_skip (hK1 _ _ _ ?_)
        (refine wpD_seqk fun K hK => ?_; refine wpD_region tyOK ?_; ((repeat (rw [wpS_cons]; simp)); (try simp only [wpS_nil, thenD, blockD])); refine hK _ _ _ ?_; clear hK K)
        refine wpD_seqk fun K2 hK2 => ?_
        (refine wpD_seqk fun K hK => ?_; refine wpD_region tyOK ?_; ((repeat (rw [wpS_cons]; simp [h15])); (try simp only [wpS_nil, thenD, blockD])); refine hK _ _ _ ?_; clear hK K)
        refine wpD_part rfl (fun _ => ?_) (fun h => by simp at h)
        (refine wpD_region tyOK ?_; ((repeat (rw [wpS_cons]; simp)); (try simp only [wpS_nil, thenD, blockD])))
        refine hK2 _ _ _ ?_
        (refine wpD_seqk fun K hK => ?_; refine wpD_region tyOK ?_; ((repeat (rw [wpS_cons]; simp)); (try simp only [wpS_nil, thenD, blockD])))
        refine cXp (k1) ?_
        ((try simp only [wpAft_ret, wpAft_pan, putS, updS, setS]); (repeat (rw [wpS_cons]; simp)); (try simp only [wpS_nil, thenD, blockD]))
        refine cXo [0, 1] true (hp) ?_
        (rintro o hc ⟨ho, rfl⟩; refine ⟨true, ?_⟩; rw [show told true o = _ from ho]; clear ho; simp [D.ren, D.rens, D.okN, D.okNs, Cp.ren, Cp.okN, HO.ren, HO.okN, okA, renA, renO, hOf, handed, D.fgt, D.fgts, List.range_succ, List.idxOf_cons, Out.ren, told, Out.fgt, upO, updS, setS])
        ((try simp only [wpAft_ret, wpAft_pan, putS, updS, setS]); (repeat (rw [wpS_cons]; simp)); (try simp only [wpS_nil, thenD, blockD]))
        (refine hK _ _ _ ?_; clear hK K)
        (refine wpD_ret ?_; (try simp only [thenD, blockD]); refine EndQ.ret rfl (.inr ⟨[], by decide, by simp, ?_⟩); simp [Out.mov, movT, movH, movD, D.mov, HO.mov, okM, renM, getW, D.ren, D.rens, D.okN, D.okNs, Cp.ren, Cp.okN, HO.ren, HO.okN, okA, renA, renO, hOf, handed, D.fgt, D.fgts, List.range_succ, List.idxOf_cons, tmOf, Out.fgt, D.fgt, D.fgts])
        first | done | simp [hEr]
      · rw [Cost_no hc] at hp
        show Spec _ _ _ _ _ (Cost left l once done c _)
        rw [Cost_no hc]
        unfold wObjs headD Cs stepsM goneD at hp
        unfold wObjs headD Cs stepsM goneD
        refine Spec.movd globPure (wpD_spec tyOK Tryz.func72 rfl (enters _ _ Tryz.func72 rfl (by decide)) rfl rfl ?_)
        (refine wpD_seqk fun K hK => ?_; refine wpD_region tyOK ?_; ((repeat (rw [wpS_cons]; simp)); (try simp only [wpS_nil, thenD, blockD])); refine hK _ _ _ ?_; clear hK K)
        refine wpD_seqk fun K1 hK1 => ?_
        (refine wpD_seqk fun K hK => ?_; refine wpD_region tyOK ?_; ((repeat (rw [wpS_cons]; simp [hk])); (try simp only [wpS_nil, thenD, blockD])); refine hK _ _ _ ?_; clear hK K)
        refine wpD_part rfl (fun h => by simp at h) (fun _ => ?_)
        refine wpD_skip (hK1 _ _ _ ?_)
        (refine wpD_seqk fun K hK => ?_; refine wpD_region tyOK ?_; ((repeat (rw [wpS_cons]; simp)); (try simp only [wpS_nil, thenD, blockD])); refine hK _ _ _ ?_; clear hK K)
        refine wpD_seqk fun K2 hK2 => ?_
        (refine wpD_seqk fun K hK => ?_; refine wpD_region tyOK ?_; ((repeat (rw [wpS_cons]; simp [h15])); (try simp only [wpS_nil, thenD, blockD])); refine hK _ _ _ ?_; clear hK K)
        refine wpD_part rfl (fun _ => ?_) (fun h => by simp at h)
        (refine wpD_region tyOK ?_; ((repeat (rw [wpS_cons]; simp)); (try simp only [wpS_nil, thenD, blockD])))
        refine hK2 _ _ _ ?_
        (refine wpD_seqk fun K hK => ?_; refine wpD_region tyOK ?_; ((repeat (rw [wpS_cons]; simp)); (try simp only [wpS_nil, thenD, blockD])))
        refine cXp (k1) ?_
        ((try simp only [wpAft_ret, wpAft_pan, putS, updS, setS]); (repeat (rw [wpS_cons]; simp)); (try simp only [wpS_nil, thenD, blockD]))
        refine cXo [0, 1] true (hp) ?_
        (rintro o hc ⟨rfl, rfl⟩; refine ⟨false, ?_⟩; simp [D.ren, D.rens, D.okN, D.okNs, Cp.ren, Cp.okN, HO.ren, HO.okN, okA, renA, renO, hOf, handed, D.fgt, D.fgts, List.range_succ, List.idxOf_cons, Out.ren, told, Out.fgt, upO, updS, setS])
        ((try simp only [thenD, blockD]); refine EndQ.pan (.inr ⟨[], by decide, by simp, ?_⟩); simp [Out.mov, movT, movH, movD, D.mov, HO.mov, okM, renM, getW, D.ren, D.rens, D.okN, D.okNs, Cp.ren, Cp.okN, HO.ren, HO.okN, okA, renA, renO, hOf, handed, D.fgt, D.fgts, List.range_succ, List.idxOf_cons, tmOf, Out.fgt, D.fgt, D.fgts])
    · rw [if_neg h15]
      have k1 := kidn_spec x 0 0 rfl
      have hp := htake_spec left l once done hl (x.kid 0) (hx.kid 0)
      generalize (x.kid 0).nsz = c at hp ⊢
      generalize x.kid 0 = r at k1 hp ⊢
      have hEr := encT_eq r
      rw [hEx, hEr, hk] at k1
      rw [hEr] at hp
      rw [hEt, hEx]
      by_cases hc : (c : Int) ≤ left
      · rw [Cost_ok hc] at hp
        show Spec _ _ _ _ _ (Cost left l once done c _)
        rw [Cost_ok hc]
        unfold wObjs headD Cs stepsM at hp ⊢
        refine Spec.movd globPure (wpD_spec tyOK Tryz.func72 rfl (enters _ _ Tryz.func72 rfl (by decide)) rfl rfl ?_)
        (refine wpD_seqk fun K hK => ?_; refine wpD_region tyOK ?_; ((repeat (rw [wpS_cons]; simp)); (try simp only [wpS_nil, thenD, blockD])); refine hK _ _ _ ?_; clear hK K)
        refine wpD_seqk fun K1 hK1 => ?_
        (refine wpD_seqk fun K hK => ?_; refine wpD_region tyOK ?_; ((repeat (rw [wpS_cons]; simp [hk])); (try simp only [wpS_nil, thenD, blockD])); refine hK _ _ _ ?_; clear hK K)
        refine wpD_part rfl (fun h => by simp at h) (fun _ => ?_)
        refine wpD_skip (hK1 _ _ _ ?_)
        (refine wpD_seqk fun K hK => ?_; refine wpD_region tyOK ?_; ((repeat (rw [wpS_cons]; simp)); (try simp only [wpS_nil, thenD, blockD])); refine hK _ _ _ ?_; clear hK K)
        refine wpD_seqk fun K2 hK2 => ?_
        (refine wpD_seqk fun K hK => ?_; refine wpD_region tyOK ?_; ((repeat (rw [wpS_cons]; simp [h15])); (try simp only [wpS_nil, thenD, blockD])); refine hK _ _ _ ?_; clear hK K)
        refine wpD_part rfl (fun h => by simp at h) (fun _ => ?_)
        refine wpD_skip (hK2 _ _ _ ?_)
        (refine wpD_seqk fun K hK => ?_; refine wpD_region tyOK ?_; ((repeat (rw [wpS_cons]; simp)); (try simp only [wpS_nil, thenD, blockD])))
        refine cXp (k1) ?_
        ((try simp only [wpAft_ret, wpAft_pan, putS, updS, setS]); (repeat (rw [wpS_cons]; simp)); (try simp only [wpS_nil, thenD, blockD]))
        refine cXo [0, 1] true (hp) ?_
        (rintro o hc ⟨ho, rfl⟩; refine ⟨true, ?_⟩; rw [show told true o = _ from ho]; clear ho; simp [D.ren, D.rens, D.okN, D.okNs, Cp.ren, Cp.okN, HO.ren, HO.okN, okA, renA, renO, hOf, handed, D.fgt, D.fgts, List.range_succ, List.idxOf_cons, Out.ren, told, Out.fgt, upO, updS, setS])
        ((try simp only [wpAft_ret, wpAft_pan, putS, updS, setS]); (repeat (rw [wpS_cons]; simp)); (try simp only [wpS_nil, thenD, blockD]))
        (refine hK _ _ _ ?_; clear hK K)
        (refine wpD_ret ?_; (try simp only [thenD, blockD]); refine EndQ.ret rfl (.inr ⟨[], by decide, by simp, ?_⟩); simp [Out.mov, movT, movH, movD, D.mov, HO.mov, okM, renM, getW, D.ren, D.rens, D.okN, D.okNs, Cp.ren, Cp.okN, HO.ren, HO.okN, okA, renA, renO, hOf, handed, D.fgt, D.fgts, List.range_succ, List.idxOf_cons, tmOf, Out.fgt, D.fgt, D.fgts])
        first | done | simp [hEr]
      · rw [Cost_no hc] at hp
        show Spec _ _ _ _ _ (Cost left l once done c _)
        rw [Cost_no hc]
        unfold wObjs headD Cs stepsM goneD at hp
        unfold wObjs headD Cs stepsM goneD
        refine Spec.movd globPure (wpD_spec tyOK Tryz.func72 rfl (enters _ _ Tryz.func72 rfl (by decide)) rfl rfl ?_)
        (refine wpD_seqk fun K hK => ?_; refine wpD_region tyOK ?_; ((repeat (rw [wpS_cons]; simp)); (try simp only [wpS_nil, thenD, blockD])); refine hK _ _ _ ?_; clear hK K)
        refine wpD_seqk fun K1 hK1 => ?_
        (refine wpD_seqk fun K hK => ?_; refine wpD_region tyOK ?_; ((repeat (rw [wpS_cons]; simp [hk])); (try simp only [wpS_nil, thenD, blockD])); refine hK _ _ _ ?_; clear hK K)
        refine wpD_part rfl (fun h => by simp at h) (fun _ => ?_)
        refine wpD_skip (hK1 _ _ _ ?_)
        (refine wpD_seqk fun K hK => ?_; refine wpD_region tyOK ?_; ((repeat (rw [wpS_cons]; simp)); (try simp only [wpS_nil, thenD, blockD])); refine hK _ _ _ ?_; clear hK K)
        refine wpD_seqk fun K2 hK2 => ?_
        (refine wpD_seqk fun K hK => ?_; refine wpD_region tyOK ?_; ((repeat (rw [wpS_cons]; simp [h15])); (try simp only [wpS_nil, thenD, blockD])); refine hK _ _ _ ?_; clear hK K)
        refine wpD_part rfl (fun h => by simp at h) (fun _ => ?_)
        refine wpD_skip (hK2 _ _ _ ?_)
        (refine wpD_seqk fun K hK => ?_; refine wpD_region tyOK ?_; ((repeat (rw [wpS_cons]; simp)); (try simp only [wpS_nil, thenD, blockD])))
        refine cXp (k1) ?_
        ((try simp only [wpAft_ret, wpAft_pan, putS, updS, setS]); (repeat (rw [wpS_cons]; simp)); (try simp only [wpS_nil, thenD, blockD]))
        refine cXo [0, 1] true (hp) ?_
        (rintro o hc ⟨rfl, rfl⟩; refine ⟨false, ?_⟩; simp [D.ren, D.rens, D.okN, D.okNs, Cp.ren, Cp.okN, HO.ren, HO.okN, okA, renA, renO, hOf, handed, D.fgt, D.fgts, List.range_succ, List.idxOf_cons, Out.ren, told, Out.fgt, upO, updS, setS])
        ((try simp only [thenD, blockD]); refine EndQ.pan (.inr ⟨[], by decide, by simp, ?_⟩); simp [Out.mov, movT, movH, movD, D.mov, HO.mov, okM, renM, getW, D.ren, D.rens, D.okN, D.okNs, Cp.ren, Cp.okN, HO.ren, HO.okN, okA, renA, renO, hOf, handed, D.fgt, D.fgts, List.range_succ, List.idxOf_cons, tmOf, Out.fgt, D.fgt, D.fgts])
  · rw [if_neg hk]
    rw [hEt, hEx]
    unfold OwnP wObjs headD Cs stepsM
    refine Spec.movd globPure (wpD_spec tyOK Tryz.func72 rfl (enters _ _ Tryz.func72 rfl (by decide)) rfl rfl ?_)
    (refine wpD_seqk fun K hK => ?_; refine wpD_region tyOK ?_; ((repeat (rw [wpS_cons]; simp)); (try simp only [wpS_nil, thenD, blockD])); refine hK _ _ _ ?_; clear hK K)
    refine wpD_seqk fun K1 hK1 => ?_
    (refine wpD_seqk fun K hK => ?_; refine wpD_region tyOK ?_; ((repeat (rw [wpS_cons]; simp [hk])); (try simp only [wpS_nil, thenD, blockD])); refine hK _ _ _ ?_; clear hK K)
    refine wpD_part rfl (fun _ => ?_) (fun h => by simp at h)
    (refine wpD_seqk fun K hK => ?_; refine wpD_region tyOK ?_; ((repeat (rw [wpS_cons]; simp)); (try simp only [wpS_nil, thenD, blockD])); refine hK _ _ _ ?_; clear hK K)
    (refine wpD_ret ?_; (try simp only [thenD, blockD]); refine EndQ.ret rfl (.inr ⟨[], by decide, by simp, ?_⟩); simp [Out.mov, movT, movH, movD, D.mov, HO.mov, okM, renM, getW, D.ren, D.rens, D.okN, D.okNs, Cp.ren, Cp.okN, HO.ren, HO.okN, okA, renA, renO, hOf, handed, D.fgt, D.fgts, List.range_succ, List.idxOf_cons, tmOf, Out.fgt, D.fgt, D.fgts])
    first | done | simp [hEt]
theorem hpath_spec (left : Int) (l : List C) (once done : Bool) (hl : left ≤ 9223372036854775807) (t x : T) (ht : okS t) (h21 : t.k = 21) : Spec Tryz.prog glob 76 [.box 0 0, encT t, encT x] (wObjs left l once done) (OwnP left l once done t (ownS l t x)) := by
  have hEt := encT_eq t
  have hEx := encT_eq x
  unfold ownS
  rw [if_neg (by omega), if_neg (by omega), if_neg (by omega), if_neg (by omega), if_neg (by omega), if_pos h21]
  by_cases hk : x.k = 20
  · rw [if_pos hk]
    have k1 := kidn_spec t 3 3 rfl
    have hp := htake_spec left l once done hl (t.kid 3) (ht.kid 3)
    generalize (t.kid 3).nsz = c at hp ⊢
    generalize t.kid 3 = r at k1 hp ⊢
    have hEr := encT_eq r
    rw [hEt, hEr] at k1
    rw [hEr] at hp
    rw [hEt, hEx]
    by_cases hc : (c : Int) ≤ left
    · rw [Cost_ok hc] at hp
      show Spec _ _ _ _ _ (Cost left l once done c _)
      rw [Cost_ok hc]
      unfold wObjs headD Cs stepsM at hp ⊢
      refine Spec.movd globPure (wpD_spec tyOK Tryz.func76 rfl (enters _ _ Tryz.func76 rfl (by decide)) rfl rfl ?_)
      (refine wpD_seqk fun K hK => ?_; refine wpD_region tyOK ?_; ((repeat (rw [wpS_cons]; simp)); (try simp only [wpS_nil, thenD, blockD])); refine hK _ _ _ ?_; clear hK K)
      refine wpD_seqk fun K1 hK1 => ?_
      (refine wpD_seqk fun K hK => ?_; refine wpD_region tyOK ?_; ((repeat (rw [wpS_cons]; simp [hk])); (try simp only [wpS_nil, thenD, blockD])); refine hK _ _ _ ?_; clear hK K)
      refine wpD_part rfl (fun h => by simp at h) (fun _ => ?_)
      refine wpD_skip (hK1 _ _ _ ?_)
      (refine wpD_seqk fun K hK => ?_; refine wpD_region tyOK ?_; ((repeat (rw [wpS_cons]; simp)); (try simp only [wpS_nil, thenD, blockD])))
      refine cXp (k1) ?_
      ((try simp only [wpAft_ret, wpAft_pan, putS, updS, setS]); (repeat (rw [wpS_cons]; simp)); (try simp only [wpS_nil, thenD, blockD]))
      refine cXo [0, 1] true (hp) ?_
      (rintro o hc ⟨ho, rfl⟩; refine ⟨true, ?_⟩; rw [show told true o = _ from ho]; clear ho; simp [D.ren, D.rens, D.okN, D.okNs, Cp.ren, Cp.okN, HO.ren, HO.okN, okA, renA, renO, hOf, handed, D.fgt, D.fgts, List.range_succ, List.idxOf_cons, Out.ren, told, Out.fgt, upO, updS, setS])
      ((try simp only [wpAft_ret, wpAft_pan, putS, updS, setS]); (repeat (rw [wpS_cons]; simp)); (try simp only [wpS_nil, thenD, blockD]))
      (refine hK _ _ _ ?_; clear hK K)
      (refine wpD_ret ?_; (try simp only [thenD, blockD]); refine EndQ.ret rfl (.inr ⟨[], by decide, by simp, ?_⟩); simp [Out.mov, movT, movH, movD, D.mov, HO.mov, okM, renM, getW, D.ren, D.rens, D.okN, D.okNs, Cp.ren, Cp.okN, HO.ren, HO.okN, okA, renA, renO, hOf, handed, D.fgt, D.fgts, List.range_succ, List.idxOf_cons, tmOf, Out.fgt, D.fgt, D.fgts])
      first | done | simp [hEr]
    · rw [Cost_no hc] at hp
      show Spec _ _ _ _ _ (Cost left l once done c _)
      rw [Cost_no hc]
      unfold wObjs headD Cs stepsM goneD at hp
      unfold wObjs headD Cs stepsM goneD
      refine Spec.movd globPure (wpD_spec tyOK Tryz.func76 rfl (enters _ _ Tryz.func76 rfl (by decide)) rfl rfl ?_)
      (refine wpD_seqk fun K hK => ?_; refine wpD_region tyOK ?_; ((repeat (rw [wpS_cons]; simp)); (try simp only [wpS_nil, thenD, blockD])); refine hK _ _ _ ?_; clear hK K)
      refine wpD_seqk fun K1 hK1 => ?_
      (refine wpD_seqk fun K hK => ?_; refine wpD_region tyOK ?_; ((repeat (rw [wpS_cons]; simp [hk])); (try simp only [wpS_nil, thenD, blockD])); refine hK _ _ _ ?_; clear hK K)
      refine wpD_part rfl (fun h => by simp at h) (fun _ => ?_)
      refine wpD_skip (hK1 _ _ _ ?_)
      (refine wpD_seqk fun K hK => ?_; refine wpD_region tyOK ?_; ((repeat (rw [wpS_cons]; simp)); (try simp only [wpS_nil, thenD, blockD])))
      refine cXp (k1) ?_
      ((try simp only [wpAft_ret, wpAft_pan, putS, updS, setS]); (repeat (rw [wpS_cons]; simp)); (try simp only [wpS_nil, thenD, blockD]))
      refine cXo [0, 1] true (hp) ?_
      (rintro o hc ⟨rfl, rfl⟩; refine ⟨false, ?_⟩; simp [D.ren, D.rens, D.okN, D.okNs, Cp.ren, Cp.okN, HO.ren, HO.okN, okA, renA, renO, hOf, handed, D.fgt, D.fgts, List.range_succ, List.idxOf_cons, Out.ren, told, Out.fgt, upO, updS, setS])
      ((try simp only [thenD, blockD]); refine EndQ.pan (.inr ⟨[], by decide, by simp, ?_⟩); simp [Out.mov, movT, movH, movD, D.mov, HO.mov, okM, renM, getW, D.ren, D.rens, D.okN, D.okNs, Cp.ren, Cp.okN, HO.ren, HO.okN, okA, renA, renO, hOf, handed, D.fgt, D.fgts, List.range_succ, List.idxOf_cons, tmOf, Out.fgt, D.fgt, D.fgts])
  · rw [if_neg hk]
    rw [hEt, hEx]
    unfold OwnP wObjs headD Cs stepsM
    refine Spec.movd globPure (wpD_spec tyOK Tryz.func76 rfl (enters _ _ Tryz.func76 rfl (by decide)) rfl rfl ?_)
    (refine wpD_seqk fun K hK => ?_; refine wpD_region tyOK ?_; ((repeat (rw [wpS_cons]; simp)); (try simp only [wpS_nil, thenD, blockD])); refine hK _ _ _ ?_; clear hK K)
    refine wpD_seqk fun K1 hK1 => ?_
    (refine wpD_seqk fun K hK => ?_; refine wpD_region tyOK ?_; ((repeat (rw [wpS_cons]; simp [hk])); (try simp only [wpS_nil, thenD, blockD])); refine hK _ _ _ ?_; clear hK K)
    refine wpD_part rfl (fun _ => ?_) (fun h => by simp at h)
    (refine wpD_seqk fun K hK => ?_; refine wpD_region tyOK ?_; ((repeat (rw [wpS_cons]; simp)); (try simp only [wpS_nil, thenD, blockD])); refine hK _ _ _ ?_; clear hK K)
    (refine wpD_ret ?_; (try simp only [thenD, blockD]); refine EndQ.ret rfl (.inr ⟨[], by decide, by simp, ?_⟩); simp [Out.mov, movT, movH, movD, D.mov, HO.mov, okM, renM, getW, D.ren, D.rens, D.okN, D.okNs, Cp.ren, Cp.okN, HO.ren, HO.okN, okA, renA, renO, hOf, handed, D.fgt, D.fgts, List.range_succ, List.idxOf_cons, tmOf, Out.fgt, D.fgt, D.fgts])
    first | done | simp [hEt]
theorem hbranch_spec (left : Int) (l : List C) (once done : Bool) (hl : left ≤ 9223372036854775807) (t x : T) (ht : okS t) (hxn : okS x) (h24 : t.k = 24) (hs : (spot t).isSome = true) : Spec Tryz.prog glob 77 [.box 0 0, encT t, encT x] (wObjs left l once done) (OwnP left l once done t (ownS l t x)) := by
  have hEt := encT_eq t
  have hEx := encT_eq x
  unfold ownS
  rw [if_neg (by omega), if_neg (by omega), if_neg (by omega), if_neg (by omega), if_neg (by omega), if_neg (by omega), if_pos ⟨h24, hs⟩]
  have hta := ht.1.a
  unfold I64 at hta
  by_cases hk : x.k = 23
  · by_cases h0 : 0 ≤ x.n
    · by_cases h1 : x.n < t.a
      · rw [if_pos ⟨hk, h0, h1⟩]
        have hw : IntKind.i64.wrap (x.n + 1) = x.n + 1 := i64w (by omega) (by omega)
        have k1 := kidn_spec t (x.n + 1) (x.n.toNat + 1) (by omega)
        have hp := htake_spec left l once done hl (t.kid (x.n.toNat + 1)) (ht.kid _)
        generalize (t.kid (x.n.toNat + 1)).nsz = c at hp ⊢
        generalize t.kid (x.n.toNat + 1) = r at k1 hp ⊢
        have hEr := encT_eq r
        rw [hEt, hEr] at k1
        rw [hEr] at hp
        rw [hEt, hEx]
        have h0' : ¬ x.n < 0 := by omega
        have h1' : ¬ t.a ≤ x.n := by omega
        by_cases hc : (c : Int) ≤ left
        · rw [Cost_ok hc] at hp
          show Spec _ _ _ _ _ (Cost left l once done c _)
          rw [Cost_ok hc]
          unfold wObjs headD Cs stepsM at hp ⊢
          refine Spec.movd globPure (wpD_spec tyOK Tryz.func77 rfl (enters _ _ Tryz.func77 rfl (by decide)) rfl rfl ?_)
          (refine wpD_seqk fun K hK => ?_; refine wpD_region tyOK ?_; ((repeat (rw [wpS_cons]; simp)); (try simp only [wpS_nil, thenD, blockD])); refine hK _ _ _ ?_; clear hK K)
          refine wpD_seqk fun K1 hK1 => ?_
          (refine wpD_seqk fun K hK => ?_; refine wpD_region tyOK ?_; ((repeat (rw [wpS_cons]; simp [hk, h0, h0', h1, h1'])); (try simp only [wpS_nil, thenD, blockD])); refine hK _ _ _ ?_; clear hK K)
          refine wpD_part rfl (fun h => by simp at h) (fun _ => ?_)
          refine wpD_skip (hK1 _ _ _ ?_)
          (refine wpD_seqk fun K hK => ?_; refine wpD_region tyOK ?_; ((repeat (rw [wpS_cons]; simp [hw])); (try simp only [wpS_nil, thenD, blockD])))
          refine cXp (k1) ?_
          ((try simp only [wpAft_ret, wpAft_pan, putS, updS, setS]); (repeat (rw [wpS_cons]; simp)); (try simp only [wpS_nil, thenD, blockD]))
          refine cXo [0, 1] true (hp) ?_
          (rintro o hc ⟨ho, rfl⟩; refine ⟨true, ?_⟩; rw [show told true o = _ from ho]; clear ho; simp [D.ren, D.rens, D.okN, D.okNs, Cp.ren, Cp.okN, HO.ren, HO.okN, okA, renA, renO, hOf, handed, D.fgt, D.fgts, List.range_succ, List.idxOf_cons, Out.ren, told, Out.fgt, upO, updS, setS])
          ((try simp only [wpAft_ret, wpAft_pan, putS, updS, setS]); (repeat (rw [wpS_cons]; simp)); (try simp only [wpS_nil, thenD, blockD]))
          (refine hK _ _ _ ?_; clear hK K)
          (refine wpD_ret ?_; (try simp only [thenD, blockD]); refine EndQ.ret rfl (.inr ⟨[], by decide, by simp, ?_⟩); simp [Out.mov, movT, movH, movD, D.mov, HO.mov, okM, renM, getW, D.ren, D.rens, D.okN, D.okNs, Cp.ren, Cp.okN, HO.ren, HO.okN, okA, renA, renO, hOf, handed, D.fgt, D.fgts, List.range_succ, List.idxOf_cons, tmOf, Out.fgt, D.fgt, D.fgts])
          first | done | simp [hEr]
        · rw [Cost_no hc] at hp
          show Spec _ _ _ _ _ (Cost left l once done c _)
          rw [Cost_no hc]
          unfold wObjs headD Cs stepsM goneD at hp
          unfold wObjs headD Cs stepsM goneD
          refine Spec.movd globPure (wpD_spec tyOK Tryz.func77 rfl (enters _ _ Tryz.func77 rfl (by decide)) rfl rfl ?_)
          (refine wpD_seqk fun K hK => ?_; refine wpD_region tyOK ?_; ((repeat (rw [wpS_cons]; simp)); (try simp only [wpS_nil, thenD, blockD])); refine hK _ _ _ ?_; clear hK K)
          refine wpD_seqk fun K1 hK1 => ?_
          (refine wpD_seqk fun K hK => ?_; refine wpD_region tyOK ?_; ((repeat (rw [wpS_cons]; simp [hk, h0, h0', h1, h1'])); (try simp only [wpS_nil, thenD, blockD])); refine hK _ _ _ ?_; clear hK K)
          refine wpD_part rfl (fun h => by simp at h) (fun _ => ?_)
          refine wpD_skip (hK1 _ _ _ ?_)
          (refine wpD_seqk fun K hK => ?_; refine wpD_region tyOK ?_; ((repeat (rw [wpS_cons]; simp [hw])); (try simp only [wpS_nil, thenD, blockD])))
          refine cXp (k1) ?_
          ((try simp only [wpAft_ret, wpAft_pan, putS, updS, setS]); (repeat (rw [wpS_cons]; simp)); (try simp only [wpS_nil, thenD, blockD]))
          refine cXo [0, 1] true (hp) ?_
          (rintro o hc ⟨rfl, rfl⟩; refine ⟨false, ?_⟩; simp [D.ren, D.rens, D.okN, D.okNs, Cp.ren, Cp.okN, HO.ren, HO.okN, okA, renA, renO, hOf, handed, D.fgt, D.fgts, List.range_succ, List.idxOf_cons, Out.ren, told, Out.fgt, upO, updS, setS])
          ((try simp only [thenD, blockD]); refine EndQ.pan (.inr ⟨[], by decide, by simp, ?_⟩); simp [Out.mov, movT, movH, movD, D.mov, HO.mov, okM, renM, getW, D.ren, D.rens, D.okN, D.okNs, Cp.ren, Cp.okN, HO.ren, HO.okN, okA, renA, renO, hOf, handed, D.fgt, D.fgts, List.range_succ, List.idxOf_cons, tmOf, Out.fgt, D.fgt, D.fgts])
      · rw [if_neg (fun h => h1 h.2.2)]
        have h0' : ¬ x.n < 0 := by omega
        have h1' : t.a ≤ x.n := by omega
        rw [hEt, hEx]
        unfold OwnP wObjs headD Cs stepsM
        refine Spec.movd globPure (wpD_spec tyOK Tryz.func77 rfl (enters _ _ Tryz.func77 rfl (by decide)) rfl rfl ?_)
        (refine wpD_seqk fun K hK => ?_; refine wpD_region tyOK ?_; ((repeat (rw [wpS_cons]; simp)); (try simp only [wpS_nil, thenD, blockD])); refine hK _ _ _ ?_; clear hK K)
        refine wpD_seqk fun K1 hK1 => ?_
        (refine wpD_seqk fun K hK => ?_; refine wpD_region tyOK ?_; ((repeat (rw [wpS_cons]; simp [hk, h0, h0', h1, h1'])); (try simp only [wpS_nil, thenD, blockD])); refine hK _ _ _ ?_; clear hK K)
        refine wpD_part rfl (fun _ => ?_) (fun h => by simp at h)
        (refine wpD_seqk fun K hK => ?_; refine wpD_region tyOK ?_; ((repeat (rw [wpS_cons]; simp)); (try simp only [wpS_nil, thenD, blockD])); refine hK _ _ _ ?_; clear hK K)
        (refine wpD_ret ?_; (try simp only [thenD, blockD]); refine EndQ.ret rfl (.inr ⟨[], by decide, by simp, ?_⟩); simp [Out.mov, movT, movH, movD, D.mov, HO.mov, okM, renM, getW, D.ren, D.rens, D.okN, D.okNs, Cp.ren, Cp.okN, HO.ren, HO.okN, okA, renA, renO, hOf, handed, D.fgt, D.fgts, List.range_succ, List.idxOf_cons, tmOf, Out.fgt, D.fgt, D.fgts])
        first | done | simp [hEt]
    · rw [if_neg (fun h => h0 h.2.1)]
      have h0' : x.n < 0 := by omega
      rw [hEt, hEx]
      unfold OwnP wObjs headD Cs stepsM
      refine Spec.movd globPure (wpD_spec tyOK Tryz.func77 rfl (enters _ _ Tryz.func77 rfl (by decide)) rfl rfl ?_)
      (refine wpD_seqk fun K hK => ?_; refine wpD_region tyOK ?_; ((repeat (rw [wpS_cons]; simp)); (try simp only [wpS_nil, thenD, blockD])); refine hK _ _ _ ?_; clear hK K)
      refine wpD_seqk fun K1 hK1 => ?_
      (refine wpD_seqk fun K hK => ?_; refine wpD_region tyOK ?_; ((repeat (rw [wpS_cons]; simp [hk, h0, h0'])); (try simp only [wpS_nil, thenD, blockD])); refine hK _ _ _ ?_; clear hK K)
      refine wpD_part rfl (fun _ => ?_) (fun h => by simp at h)
      (refine wpD_seqk fun K hK => ?_; refine wpD_region tyOK ?_; ((repeat (rw [wpS_cons]; simp)); (try simp only [wpS_nil, thenD, blockD])); refine hK _ _ _ ?_; clear hK K)
      (refine wpD_ret ?_; (try simp only [thenD, blockD]); refine EndQ.ret rfl (.inr ⟨[], by decide, by simp, ?_⟩); simp [Out.mov, movT, movH, movD, D.mov, HO.mov, okM, renM, getW, D.ren, D.rens, D.okN, D.okNs, Cp.ren, Cp.okN, HO.ren, HO.okN, okA, renA, renO, hOf, handed, D.fgt, D.fgts, List.range_succ, List.idxOf_cons, tmOf, Out.fgt, D.fgt, D.fgts])
      first | done | simp [hEt]
  · rw [if_neg (fun h => hk h.1)]
    rw [hEt, hEx]
    unfold OwnP wObjs headD Cs stepsM
    refine Spec.movd globPure (wpD_spec tyOK Tryz.func77 rfl (enters _ _ Tryz.func77 rfl (by decide)) rfl rfl ?_)
    (refine wpD_seqk fun K hK => ?_; refine wpD_region tyOK ?_; ((repeat (rw [wpS_cons]; simp)); (try simp only [wpS_nil, thenD, blockD])); refine hK _ _ _ ?_; clear hK K)
    refine wpD_seqk fun K1 hK1 => ?_
    (refine wpD_seqk fun K hK => ?_; refine wpD_region tyOK ?_; ((repeat (rw [wpS_cons]; simp [hk])); (try simp only [wpS_nil, thenD, blockD])); refine hK _ _ _ ?_; clear hK K)
    refine wpD_part rfl (fun _ => ?_) (fun h => by simp at h)
    (refine wpD_seqk fun K hK => ?_; refine wpD_region tyOK ?_; ((repeat (rw [wpS_cons]; simp)); (try simp only [wpS_nil, thenD, blockD])); refine hK _ _ _ ?_; clear hK K)
    (refine wpD_ret ?_; (try simp only [thenD, blockD]); refine EndQ.ret rfl (.inr ⟨[], by decide, by simp, ?_⟩); simp [Out.mov, movT, movH, movD, D.mov, HO.mov, okM, renM, getW, D.ren, D.rens, D.okN, D.okNs, Cp.ren, Cp.okN, HO.ren, HO.okN, okA, renA, renO, hOf, handed, D.fgt, D.fgts, List.range_succ, List.idxOf_cons, tmOf, Out.fgt, D.fgt, D.fgts])
    first | done | simp [hEt]
theorem hconst_spec (left : Int) (l : List C) (once done : Bool) (hl : left ≤ 9223372036854775807) (hcs : okCs l) (t x : T) (ht : okS t) (h3 : t.k = 3) : Spec Tryz.prog glob 74 [.box 0 0, encT t, encT x] (wObjs left l once done) (OwnP left l once done t (ownS l t x)) := by
  have hEt := encT_eq t
  have hEx := encT_eq x
  unfold ownS
  rw [if_neg (by omega), if_neg (by omega), if_neg (by omega), if_pos h3]
  have hb := body_spec l hcs t.n t.ls ht.1.ll (fun b hb => (ht.1.ls b hb).1)
  cases hbo : bodyC l t.n t.ls with
  | none =>
    rw [hbo] at hb
    simp only [Option.getD_none, Option.isSome_none] at hb
    rw [encZ] at hb
    rw [hEt, hEx]
    simp only [Option.map_none]
    unfold Cs at hb
    unfold OwnP wObjs headD Cs stepsM
    refine Spec.movd globPure (wpD_spec tyOK Tryz.func74 rfl (enters _ _ Tryz.func74 rfl (by decide)) rfl rfl ?_)
    (refine wpD_seqk fun K hK => ?_; refine wpD_region tyOK ?_; ((repeat (rw [wpS_cons]; simp)); (try simp only [wpS_nil, thenD, blockD])); refine hK _ _ _ ?_; clear hK K)
    (refine wpD_seqk fun K hK => ?_; refine wpD_drawk tyOK (by kernel_rfl) (by kernel_rfl) fun KT hKT => ?_; ((repeat (rw [wpT_cons]; simp)); (try simp only [wpT_nil])))
    refine cYp (hb) ?_
    ((try simp only [wpAftT_ret, wpAftT_pan, putS, updS, setS]); (repeat (rw [wpT_cons]; simp)); (try simp only [wpT_nil]))
    (refine hKT _ _ _ _ (by kernel_rfl) ?_; clear hKT KT; (try simp only [thenD, blockD]))
    (refine hK _ _ _ ?_; clear hK K)
    refine wpD_seqk fun K1 hK1 => ?_
    (refine wpD_seqk fun K hK => ?_; refine wpD_region tyOK ?_; ((repeat (rw [wpS_cons]; simp)); (try simp only [wpS_nil, thenD, blockD])); refine hK _ _ _ ?_; clear hK K)
    refine wpD_part rfl (fun _ => ?_) (fun h => by simp at h)
    (refine wpD_seqk fun K hK => ?_; refine wpD_region tyOK ?_; ((repeat (rw [wpS_cons]; simp)); (try simp only [wpS_nil, thenD, blockD])); refine hK _ _ _ ?_; clear hK K)
    (refine wpD_ret ?_; (try simp only [thenD, blockD]); refine EndQ.ret rfl (.inr ⟨[], by decide, by simp, ?_⟩); simp [Out.mov, movT, movH, movD, D.mov, HO.mov, okM, renM, getW, D.ren, D.rens, D.okN, D.okNs, Cp.ren, Cp.okN, HO.ren, HO.okN, okA, renA, renO, hOf, handed, D.fgt, D.fgts, List.range_succ, List.idxOf_cons, tmOf, Out.fgt, D.fgt, D.fgts])
    first | done | simp [hEt]
  | some r =>
    rw [hbo] at hb
    simp only [Option.getD_some, Option.isSome_some] at hb
    have hr : okS r := ⟨body_ok hcs.ok hbo, by have := body_nsz hcs.bo hbo; have := pot_le r; unfold PM; omega⟩
    have hp := htake_spec left l once done hl r hr
    simp only [Option.map_some]
    generalize r.nsz = c at hp ⊢
    have hEr := encT_eq r
    rw [hEr] at hp hb
    rw [hEt, hEx]
    unfold Cs at hb
    by_cases hc : (c : Int) ≤ left
    · rw [Cost_ok hc] at hp
      show Spec _ _ _ _ _ (Cost left l once done c _)
      rw [Cost_ok hc]
      unfold wObjs headD Cs stepsM at hp ⊢
      refine Spec.movd globPure (wpD_spec tyOK Tryz.func74 rfl (enters _ _ Tryz.func74 rfl (by decide)) rfl rfl ?_)
      (refine wpD_seqk fun K hK => ?_; refine wpD_region tyOK ?_; ((repeat (rw [wpS_cons]; simp)); (try simp only [wpS_nil, thenD, blockD])); refine hK _ _ _ ?_; clear hK K)
      (refine wpD_seqk fun K hK => ?_; refine wpD_drawk tyOK (by kernel_rfl) (by kernel_rfl) fun KT hKT => ?_; ((repeat (rw [wpT_cons]; simp)); (try simp only [wpT_nil])))
      refine cYp (hb) ?_
      ((try simp only [wpAftT_ret, wpAftT_pan, putS, updS, setS]); (repeat (rw [wpT_cons]; simp)); (try simp only [wpT_nil]))
      (refine hKT _ _ _ _ (by kernel_rfl) ?_; clear hKT KT; (try simp only [thenD, blockD]))
      (refine hK _ _ _ ?_; clear hK K)
      refine wpD_seqk fun K1 hK1 => ?_
      (refine wpD_seqk fun K hK => ?_; refine wpD_region tyOK ?_; ((repeat (rw [wpS_cons]; simp)); (try simp only [wpS_nil, thenD, blockD])); refine hK _ _ _ ?_; clear hK K)
      refine wpD_part rfl (fun h => by simp at h) (fun _ => ?_)
      refine wpD_skip (hK1 _ _ _ ?_)
      (refine wpD_seqk fun K hK => ?_; refine wpD_region tyOK ?_; ((repeat (rw [wpS_cons]; simp)); (try simp only [wpS_nil, thenD, blockD])))
      refine cXo [0, 1] true (hp) ?_
      (rintro o hc ⟨ho, rfl⟩; refine ⟨true, ?_⟩; rw [show told true o = _ from ho]; clear ho; simp [D.ren, D.rens, D.okN, D.okNs, Cp.ren, Cp.okN, HO.ren, HO.okN, okA, renA, renO, hOf, handed, D.fgt, D.fgts, List.range_succ, List.idxOf_cons, Out.ren, told, Out.fgt, upO, updS, setS])
      ((try simp only [wpAft_ret, wpAft_pan, putS, updS, setS]); (repeat (rw [wpS_cons]; simp)); (try simp only [wpS_nil, thenD, blockD]))
      (refine hK _ _ _ ?_; clear hK K)
      (refine wpD_ret ?_; (try simp only [thenD, blockD]); refine EndQ.ret rfl (.inr ⟨[], by decide, by simp, ?_⟩); simp [Out.mov, movT, movH, movD, D.mov, HO.mov, okM, renM, getW, D.ren, D.rens, D.okN, D.okNs, Cp.ren, Cp.okN, HO.ren, HO.okN, okA, renA, renO, hOf, handed, D.fgt, D.fgts, List.range_succ, List.idxOf_cons, tmOf, Out.fgt, D.fgt, D.fgts])
      first | done | simp [hEr]
    · rw [Cost_no hc] at hp
      show Spec _ _ _ _ _ (Cost left l once done c _)
      rw [Cost_no hc]
      unfold wObjs headD Cs stepsM goneD at hp
      unfold wObjs headD Cs stepsM goneD
      refine Spec.movd globPure (wpD_spec tyOK Tryz.func74 rfl (enters _ _ Tryz.func74 rfl (by decide)) rfl rfl ?_)
      (refine wpD_seqk fun K hK => ?_; refine wpD_region tyOK ?_; ((repeat (rw [wpS_cons]; simp)); (try simp only [wpS_nil, thenD, blockD])); refine hK _ _ _ ?_; clear hK K)
      (refine wpD_seqk fun K hK => ?_; refine wpD_drawk tyOK (by kernel_rfl) (by kernel_rfl) fun KT hKT => ?_; ((repeat (rw [wpT_cons]; simp)); (try simp only [wpT_nil])))
      refine cYp (hb) ?_
      ((try simp only [wpAftT_ret, wpAftT_pan, putS, updS, setS]); (repeat (rw [wpT_cons]; simp)); (try simp only [wpT_nil]))
      (refine hKT _ _ _ _ (by kernel_rfl) ?_; clear hKT KT; (try simp only [thenD, blockD]))
      (refine hK _ _ _ ?_; clear hK K)
      refine wpD_seqk fun K1 hK1 => ?_
      (refine wpD_seqk fun K hK => ?_; refine wpD_region tyOK ?_; ((repeat (rw [wpS_cons]; simp)); (try simp only [wpS_nil, thenD, blockD])); refine hK _ _ _ ?_; clear hK K)
      refine wpD_part rfl (fun h => by simp at h) (fun _ => ?_)
      refine wpD_skip (hK1 _ _ _ ?_)
      (refine wpD_seqk fun K hK => ?_; refine wpD_region tyOK ?_; ((repeat (rw [wpS_cons]; simp)); (try simp only [wpS_nil, thenD, blockD])))
      refine cXo [0, 1] true (hp) ?_
      (rintro o hc ⟨rfl, rfl⟩; refine ⟨false, ?_⟩; simp [D.ren, D.rens, D.okN, D.okNs, Cp.ren, Cp.okN, HO.ren, HO.okN, okA, renA, renO, hOf, handed, D.fgt, D.fgts, List.range_succ, List.idxOf_cons, Out.ren, told, Out.fgt, upO, updS, setS])
      ((try simp only [thenD, blockD]); refine EndQ.pan (.inr ⟨[], by decide, by simp, ?_⟩); simp [Out.mov, movT, movH, movD, D.mov, HO.mov, okM, renM, getW, D.ren, D.rens, D.okN, D.okNs, Cp.ren, Cp.okN, HO.ren, HO.okN, okA, renA, renO, hOf, handed, D.fgt, D.fgts, List.range_succ, List.idxOf_cons, tmOf, Out.fgt, D.fgt, D.fgts])
end Go.Proofs.YtebmlojhdnldgaaGreatDoor

namespace Go.Proofs.YtebmlojhdnldgaaGreatDoor
set_option linter.unusedSimpArgs false
set_option linter.unusedVariables false
set_option maxHeartbeats 10000000
set_option maxRecDepth 20000
open Go.RowKit
attribute [local simp] wpAft_ret wpAft_pan wantD evOp opD tmOf putS updS setS hOf isFree isTok fillD TK.isAgg TK.known partD thenD blockD putAll D.ofV inB nilTest isNilS binX binD binE isCst bndD capB IntKind.min IntKind.max IntKind.signed IntKind.bits dstOf late
theorem tree1_spec (t : T) (ht : okS t) (i : Int) (m : Nat) (c : Int) (hi : i = m) : Spec Tryz.prog glob 120 ([.int .i64 i, .int .i64 c] ++ [.ref (encT t)]) [] (fun o _ => o.fgt = .ret (encT ((t.kid m).lift 1 c 0))) := by
  have k1 := kidn_spec t i m hi
  have k2 := lift_spec (t.kid m) 1 c (ht.kid m).deep (ht.kid m).1
  generalize (t.kid m).lift 1 c 0 = r at k2 ⊢
  generalize t.kid m = a at k1 k2
  have hEr := encT_eq r
  rw [encT_eq t, encT_eq a] at k1
  rw [encT_eq a, hEr] at k2
  rw [encT_eq t]
  refine Spec.movd globPure (wpD_spec tyOK Tryz.func120 rfl (enters _ _ Tryz.func120 rfl (by decide)) rfl rfl ?_)
  simp only [List.cons_append, List.nil_append]
  (refine wpD_seqk fun K hK => ?_; refine wpD_region tyOK ?_; ((repeat (rw [wpS_cons]; simp)); (try simp only [wpS_nil, thenD, blockD])); refine hK _ _ _ ?_; clear hK K)
  (refine wpD_seqk fun K hK => ?_; refine wpD_region tyOK ?_; ((repeat (rw [wpS_cons]; simp)); (try simp only [wpS_nil, thenD, blockD])))
  refine cXp (k1) ?_
  ((try simp only [wpAft_ret, wpAft_pan, putS, updS, setS]); (repeat (rw [wpS_cons]; simp)); (try simp only [wpS_nil, thenD, blockD]))
  refine cXp (k2) ?_
  ((try simp only [wpAft_ret, wpAft_pan, putS, updS, setS]); (repeat (rw [wpS_cons]; simp)); (try simp only [wpS_nil, thenD, blockD]))
  (refine hK _ _ _ ?_; clear hK K)
  (refine wpD_ret ?_; (try simp only [thenD, blockD]); refine EndQ.ret rfl (.inl ?_); simp [tmOf, Out.fgt, D.fgt, D.fgts])
  exact hEr.symm
theorem enc_map0 : List.map encT ([] : List T) = [] := rfl
theorem htree_spec (left : Int) (l : List C) (once done : Bool) (hl : left ≤ 9223372036854775807) (t x : T) (ht : okS t) (hx : okS x) (h18 : t.k = 18) : Spec Tryz.prog glob 75 [.box 0 0, encT t, encT x] (wObjs left l once done) (OwnP left l once done t (ownS l t x)) := by
  have hEt := encT_eq t
  have hEx := encT_eq x
  unfold ownS
  rw [if_neg (by omega), if_neg (by omega), if_neg (by omega), if_neg (by omega), if_pos h18]
  by_cases hk : x.k = 17
  · rw [if_pos hk]
    have e8 : T.nszs [x.kid 0, x.kid 1, x.kid 1, t.kid 3, t.kid 3, t.kid 0, t.kid 1, t.kid 2] = (x.kid 0).nsz + (x.kid 1).nsz + (x.kid 1).nsz + (t.kid 3).nsz + (t.kid 3).nsz + (t.kid 0).nsz + (t.kid 1).nsz + (t.kid 2).nsz := by
      simp only [T.nszs]; omega
    have hz := sizes_spec [x.kid 0, x.kid 1, x.kid 1, t.kid 3, t.kid 3, t.kid 0, t.kid 1, t.kid 2] (by unfold LMax; simp) (fun y hy => by
      simp only [List.mem_cons, List.not_mem_nil, or_false] at hy
      rcases hy with rfl | rfl | rfl | rfl | rfl | rfl | rfl | rfl
      · exact (hx.kid _).1
      · exact (hx.kid _).1
      · exact (hx.kid _).1
      · exact (ht.kid _).1
      · exact (ht.kid _).1
      · exact (ht.kid _).1
      · exact (ht.kid _).1
      · exact (ht.kid _).1)
    rw [szs_true _ 0 0 rfl, Nat.zero_add, e8] at hz
    have z1 := (hx.kid 0).nsz
    have z2 := (hx.kid 1).nsz
    have z3 := (ht.kid 3).nsz
    have z4 := (ht.kid 0).nsz
    have z5 := (ht.kid 1).nsz
    have z6 := (ht.kid 2).nsz
    have hsd := (ht.kid 1).sd (hx.kid 0)
    have hs := size2_spec (t.kid 1) (x.kid 0) (ht.kid 1).1 (hx.kid 0).1 (by omega)
    have hcn : treeN t x = 7 + ((x.kid 0).nsz + (x.kid 1).nsz + (x.kid 1).nsz + (t.kid 3).nsz + (t.kid 3).nsz + (t.kid 0).nsz + (t.kid 1).nsz + (t.kid 2).nsz) + (t.kid 1).sd (x.kid 0).nsz 0 := rfl
    generalize hm : (x.kid 0).nsz + (x.kid 1).nsz + (x.kid 1).nsz + (t.kid 3).nsz + (t.kid 3).nsz + (t.kid 0).nsz + (t.kid 1).nsz + (t.kid 2).nsz = m at hz hcn
    generalize (t.kid 1).sd (x.kid 0).nsz 0 = s at hs hcn hsd
    rw [i64w (n := ((m : Nat) : Int)) (by omega) (by omega)] at hz
    have w1 : IntKind.i64.wrap (7 + (m : Int)) = 7 + (m : Int) := i64w (by omega) (by omega)
    have w2 : IntKind.i64.wrap (7 + (m : Int) + (s : Int)) = ((treeN t x : Nat) : Int) := by rw [hcn, i64w (by omega) (by omega)]; push_cast; rfl
    have hR : treeT t x = ofT 6 [ofT 6 [ofT 6 [t.kid 3, x.kid 0], x.kid 1], ofT 5 [(t.kid 1).put [x.kid 0] 0, ofT 18 [(t.kid 0).lift 1 0 0, (t.kid 1).lift 1 1 0, (t.kid 2).lift 1 0 0, (t.kid 3).lift 1 0 0, ofT 6 [(x.kid 1).lift 1 0 0, ofT 1 []]]]] := rfl
    have ka0 := kidn_spec x 0 0 rfl
    have ka1 := kidn_spec x 1 1 rfl
    have k0 := kidn_spec t 0 0 rfl
    have k1 := kidn_spec t 1 1 rfl
    have k2 := kidn_spec t 2 2 rfl
    have k3 := kidn_spec t 3 3 rfl
    have c0 := tree1_spec t ht 0 0 0 rfl
    have c1 := tree1_spec t ht 1 1 1 rfl
    have c2 := tree1_spec t ht 2 2 0 rfl
    have c3 := tree1_spec t ht 3 3 0 rfl
    have cf := lift_spec (x.kid 1) 1 0 (hx.kid 1).deep (hx.kid 1).1
    have op := putT_spec (t.kid 1) [x.kid 0] (by unfold LMax; simp) (fun b hb => by rw [one_mem hb]; exact ⟨(hx.kid 0).1, (hx.kid 0).deep⟩) (ht.kid 1).deep (ht.kid 1).1
    obtain ⟨a, ha⟩ : ∃ y, y = x.kid 0 := ⟨_, rfl⟩
    obtain ⟨g, hg⟩ : ∃ y, y = x.kid 1 := ⟨_, rfl⟩
    obtain ⟨t0, ht0⟩ : ∃ y, y = t.kid 0 := ⟨_, rfl⟩
    obtain ⟨t1, ht1⟩ : ∃ y, y = t.kid 1 := ⟨_, rfl⟩
    obtain ⟨t2, ht2⟩ : ∃ y, y = t.kid 2 := ⟨_, rfl⟩
    obtain ⟨t3, ht3⟩ : ∃ y, y = t.kid 3 := ⟨_, rfl⟩
    obtain ⟨l0, hl0⟩ : ∃ y, y = (t.kid 0).lift 1 0 0 := ⟨_, rfl⟩
    obtain ⟨l1, hl1⟩ : ∃ y, y = (t.kid 1).lift 1 1 0 := ⟨_, rfl⟩
    obtain ⟨l2, hl2⟩ : ∃ y, y = (t.kid 2).lift 1 0 0 := ⟨_, rfl⟩
    obtain ⟨l3, hl3⟩ : ∃ y, y = (t.kid 3).lift 1 0 0 := ⟨_, rfl⟩
    obtain ⟨lf, hlf⟩ : ∃ y, y = (x.kid 1).lift 1 0 0 := ⟨_, rfl⟩
    obtain ⟨v, hv⟩ : ∃ y, y = ofT 1 [] := ⟨_, rfl⟩
    obtain ⟨p1, hp1⟩ : ∃ y, y = ofT 6 [lf, v] := ⟨_, rfl⟩
    obtain ⟨rest, hrest⟩ : ∃ y, y = ofT 18 [l0, l1, l2, l3, p1] := ⟨_, rfl⟩
    obtain ⟨pu, hpu⟩ : ∃ y, y = (t.kid 1).put [x.kid 0] 0 := ⟨_, rfl⟩
    obtain ⟨lam, hlam⟩ : ∃ y, y = ofT 5 [pu, rest] := ⟨_, rfl⟩
    obtain ⟨b1, hb1⟩ : ∃ y, y = ofT 6 [t3, a] := ⟨_, rfl⟩
    obtain ⟨b2, hb2⟩ : ∃ y, y = ofT 6 [b1, g] := ⟨_, rfl⟩
    obtain ⟨r, hr⟩ : ∃ y, y = ofT 6 [b2, lam] := ⟨_, rfl⟩
    have ov := hof_spec 1 []
    have o1 := hof_spec 6 [lf, v]
    have o2 := hof_spec 18 [l0, l1, l2, l3, p1]
    have o3 := hof_spec 5 [pu, rest]
    have o4 := hof_spec 6 [t3, a]
    have o5 := hof_spec 6 [b1, g]
    have o6 := hof_spec 6 [b2, lam]
    rw [← ha] at ka0
    rw [← hg] at ka1
    rw [← ht0] at k0
    rw [← ht1] at k1
    rw [← ht2] at k2
    rw [← ht3] at k3
    rw [← hl0] at c0
    rw [← hl1] at c1
    rw [← hl2] at c2
    rw [← hl3] at c3
    rw [← hlf, ← hg] at cf
    rw [← hv] at ov
    rw [← hp1] at o1
    rw [← hrest] at o2
    rw [← hpu, ← ht1, ← ha] at op
    rw [← hlam] at o3
    rw [← hb1] at o4
    rw [← hb2] at o5
    rw [← hr] at o6
    rw [← ha, ← hg, ← ht0, ← ht1, ← ht2, ← ht3] at hz
    rw [← ht1, ← ha] at hs
    have hRr : treeT t x = r := by rw [hR, ← hv, ← hlf, ← hp1, ← hl0, ← hl1, ← hl2, ← hl3, ← hrest, ← hpu, ← hlam, ← ht3, ← ha, ← hb1, ← hg, ← hb2, ← hr]
    rw [hRr]
    generalize treeN t x = c at w2 ⊢
    unfold Ts at op
    have Ea := encT_eq a
    have Eg := encT_eq g
    have Et0 := encT_eq t0
    have Et1 := encT_eq t1
    have Et2 := encT_eq t2
    have Et3 := encT_eq t3
    have El0 := encT_eq l0
    have El1 := encT_eq l1
    have El2 := encT_eq l2
    have El3 := encT_eq l3
    have Elf := encT_eq lf
    have Ev := encT_eq v
    have Ep1 := encT_eq p1
    have Erest := encT_eq rest
    have Epu := encT_eq pu
    have Elam := encT_eq lam
    have Eb1 := encT_eq b1
    have Eb2 := encT_eq b2
    have Er := encT_eq r
    simp only [List.map_cons, enc_map0] at ov o1 o2 op o3 o4 o5 o6 hz
    simp only [Ea, Eg, Et0, Et1, Et2, Et3, El0, El1, El2, El3, Elf, Ev, Ep1, Erest, Epu, Elam, Eb1, Eb2, Er] at ka0 ka1 k0 k1 k2 k3 c0 c1 c2 c3 cf ov o1 o2 op o3 o4 o5 o6 hz hs
    rw [hEt] at k0 k1 k2 k3 c0 c1 c2 c3
    rw [hEx, hk] at ka0 ka1
    rw [hEt, hEx]
    simp only [List.cons_append, List.nil_append] at c0 c1 c2 c3
    by_cases hc : (c : Int) ≤ left
    · have hp := burn_ok left l once done c (by omega) hc hl
      show Spec _ _ _ _ _ (Cost left l once done c _)
      rw [Cost_ok hc]
      unfold wObjs headD Cs stepsM at hp ⊢
      refine Spec.movd globPure (wpD_spec tyOK Tryz.func75 rfl (enters _ _ Tryz.func75 rfl (by decide)) rfl rfl ?_)
      (refine wpD_seqk fun K hK => ?_; refine wpD_region tyOK ?_; ((repeat (rw [wpS_cons]; simp)); (try simp only [wpS_nil, thenD, blockD])); refine hK _ _ _ ?_; clear hK K)
      (refine wpD_stay (T := tyOf) 2 (ty := 27) (ds := [.int .i64 t.k, .int .i64 t.n, .int .i64 t.a, .slice (t.ls.map encL) .any, .slice (t.ks.map encT) .any]) rfl rfl (by first | exact ⟨rfl, .inr ⟨_, rfl, rfl⟩⟩ | exact ⟨rfl, .inl rfl⟩) ?_; simp [D.frzs, D.frz, HO.frz, dfFrz, refOf, TK.isAgg, FK.isB, FK.isM, FK.isO, D.isLen])
      refine wpD_seqk fun K1 hK1 => ?_
      (refine wpD_seqk fun K hK => ?_; refine wpD_region tyOK ?_; ((repeat (rw [wpS_cons]; simp [hk])); (try simp only [wpS_nil, thenD, blockD])); refine hK _ _ _ ?_; clear hK K)
      refine wpD_part rfl (fun h => by simp at h) (fun _ => ?_)
      refine wpD_skip (hK1 _ _ _ ?_)
      (refine wpD_seqk fun K hK => ?_; refine wpD_drawk tyOK (by kernel_rfl) (by kernel_rfl) fun KT hKT => ?_; ((repeat (rw [wpT_cons]; simp)); (try simp only [wpT_nil])))
      refine cYp (ka0) ?_
      ((try simp only [wpAftT_ret, wpAftT_pan, putS, updS, setS]); (repeat (rw [wpT_cons]; simp)); (try simp only [wpT_nil]))
      refine cYp (ka1) ?_
      ((try simp only [wpAftT_ret, wpAftT_pan, putS, updS, setS]); (repeat (rw [wpT_cons]; simp)); (try simp only [wpT_nil]))
      refine cYp (k3) ?_
      ((try simp only [wpAftT_ret, wpAftT_pan, putS, updS, setS]); (repeat (rw [wpT_cons]; simp)); (try simp only [wpT_nil]))
      (refine hKT _ _ _ _ (by kernel_rfl) ?_; clear hKT KT; (try simp only [thenD, blockD]))
      (refine hK _ _ _ ?_; clear hK K)
      (refine wpD_seqk fun K hK => ?_; refine wpD_drawk tyOK (by kernel_rfl) (by kernel_rfl) fun KT hKT => ?_; ((repeat (rw [wpT_cons]; simp)); (try simp only [wpT_nil])))
      refine cYp (k0) ?_
      ((try simp only [wpAftT_ret, wpAftT_pan, putS, updS, setS]); (repeat (rw [wpT_cons]; simp [w1, w2])); (try simp only [wpT_nil]))
      refine cYp (k1) ?_
      ((try simp only [wpAftT_ret, wpAftT_pan, putS, updS, setS]); (repeat (rw [wpT_cons]; simp [w1, w2])); (try simp only [wpT_nil]))
      refine cYp (k2) ?_
      ((try simp only [wpAftT_ret, wpAftT_pan, putS, updS, setS]); (repeat (rw [wpT_cons]; simp [w1, w2])); (try simp only [wpT_nil]))
      refine cYp (hz) ?_
      ((try simp only [wpAftT_ret, wpAftT_pan, putS, updS, setS]); (repeat (rw [wpT_cons]; simp [w1, w2])); (try simp only [wpT_nil]))
      refine cYp (k1) ?_
      ((try simp only [wpAftT_ret, wpAftT_pan, putS, updS, setS]); (repeat (rw [wpT_cons]; simp [w1, w2])); (try simp only [wpT_nil]))
      refine cYp (hs) ?_
      ((try simp only [wpAftT_ret, wpAftT_pan, putS, updS, setS]); (repeat (rw [wpT_cons]; simp [w1, w2])); (try simp only [wpT_nil]))
      refine cYo [0, 1] true false (hp) (fun o h e => e) ?_; simp [D.ren, D.rens, D.okN, D.okNs, Cp.ren, Cp.okN, HO.ren, HO.okN, okA, renA, renO, hOf, handed, D.fgt, D.fgts, List.range_succ, List.idxOf_cons, Out.ren, upO, renO, rdO]
      ((try simp only [wpAftT_ret, wpAftT_pan, putS, updS, setS]); (repeat (rw [wpT_cons]; simp)); (try simp only [wpT_nil]))
      (refine hKT _ _ _ _ (by kernel_rfl) ?_; clear hKT KT; (try simp only [thenD, blockD]))
      (refine hK _ _ _ ?_; clear hK K)
      (refine wpD_seqk fun K hK => ?_; refine wpD_region tyOK ?_; ((repeat (rw [wpS_cons]; simp)); (try simp only [wpS_nil, thenD, blockD])); refine hK _ _ _ ?_; clear hK K)
      (refine wpD_seqk fun K hK => ?_; refine wpD_drawk tyOK (by kernel_rfl) (by kernel_rfl) fun KT hKT => ?_; ((repeat (rw [wpT_cons]; simp)); (try simp only [wpT_nil])))
      refine cYp (c0) ?_
      ((try simp only [wpAftT_ret, wpAftT_pan, putS, updS, setS]); (repeat (rw [wpT_cons]; simp)); (try simp only [wpT_nil]))
      refine cYp (c1) ?_
      ((try simp only [wpAftT_ret, wpAftT_pan, putS, updS, setS]); (repeat (rw [wpT_cons]; simp)); (try simp only [wpT_nil]))
      refine cYp (c2) ?_
      ((try simp only [wpAftT_ret, wpAftT_pan, putS, updS, setS]); (repeat (rw [wpT_cons]; simp)); (try simp only [wpT_nil]))
      refine cYp (c3) ?_
      ((try simp only [wpAftT_ret, wpAftT_pan, putS, updS, setS]); (repeat (rw [wpT_cons]; simp)); (try simp only [wpT_nil]))
      refine cYp (cf) ?_
      ((try simp only [wpAftT_ret, wpAftT_pan, putS, updS, setS]); (repeat (rw [wpT_cons]; simp)); (try simp only [wpT_nil]))
      refine cYp (ov) ?_
      ((try simp only [wpAftT_ret, wpAftT_pan, putS, updS, setS]); (repeat (rw [wpT_cons]; simp)); (try simp only [wpT_nil]))
      refine cYp (o1) ?_
      ((try simp only [wpAftT_ret, wpAftT_pan, putS, updS, setS]); (repeat (rw [wpT_cons]; simp)); (try simp only [wpT_nil]))
      refine cYp (o2) ?_
      ((try simp only [wpAftT_ret, wpAftT_pan, putS, updS, setS]); (repeat (rw [wpT_cons]; simp)); (try simp only [wpT_nil]))
      (refine hKT _ _ _ _ (by kernel_rfl) ?_; clear hKT KT; (try simp only [thenD, blockD]))
      (refine hK _ _ _ ?_; clear hK K)
      (refine wpD_seqk fun K hK => ?_; refine wpD_drawk tyOK (by kernel_rfl) (by kernel_rfl) fun KT hKT => ?_; ((repeat (rw [wpT_cons]; simp)); (try simp only [wpT_nil])))
      refine cYp (k1) ?_
      ((try simp only [wpAftT_ret, wpAftT_pan, putS, updS, setS]); (repeat (rw [wpT_cons]; simp)); (try simp only [wpT_nil]))
      refine cYp (op) ?_
      ((try simp only [wpAftT_ret, wpAftT_pan, putS, updS, setS]); (repeat (rw [wpT_cons]; simp)); (try simp only [wpT_nil]))
      refine cYp (o3) ?_
      ((try simp only [wpAftT_ret, wpAftT_pan, putS, updS, setS]); (repeat (rw [wpT_cons]; simp)); (try simp only [wpT_nil]))
      (refine hKT _ _ _ _ (by kernel_rfl) ?_; clear hKT KT; (try simp only [thenD, blockD]))
      (refine hK _ _ _ ?_; clear hK K)
      (refine wpD_seqk fun K hK => ?_; refine wpD_drawk tyOK (by kernel_rfl) (by kernel_rfl) fun KT hKT => ?_; ((repeat (rw [wpT_cons]; simp)); (try simp only [wpT_nil])))
      refine cYp (o4) ?_
      ((try simp only [wpAftT_ret, wpAftT_pan, putS, updS, setS]); (repeat (rw [wpT_cons]; simp)); (try simp only [wpT_nil]))
      refine cYp (o5) ?_
      ((try simp only [wpAftT_ret, wpAftT_pan, putS, updS, setS]); (repeat (rw [wpT_cons]; simp)); (try simp only [wpT_nil]))
      refine cYp (o6) ?_
      ((try simp only [wpAftT_ret, wpAftT_pan, putS, updS, setS]); (repeat (rw [wpT_cons]; simp)); (try simp only [wpT_nil]))
      (refine hKT _ _ _ _ (by kernel_rfl) ?_; clear hKT KT; (try simp only [thenD, blockD]))
      (refine hK _ _ _ ?_; clear hK K)
      (refine wpD_ret ?_; (try simp only [thenD, blockD]); refine EndQ.ret rfl (.inr ⟨[], by decide, by simp, ?_⟩); simp [Out.mov, movT, movH, movD, D.mov, HO.mov, okM, renM, getW, D.ren, D.rens, D.okN, D.okNs, Cp.ren, Cp.okN, HO.ren, HO.okN, okA, renA, renO, hOf, handed, D.fgt, D.fgts, List.range_succ, List.idxOf_cons, tmOf, Out.fgt, D.fgt, D.fgts])
      exact Er.symm
    · have hp := burn_dead left l once done c (by omega)
      show Spec _ _ _ _ _ (Cost left l once done c _)
      rw [Cost_no hc]
      unfold wObjs headD Cs stepsM goneD at hp
      unfold wObjs headD Cs stepsM goneD
      refine Spec.movd globPure (wpD_spec tyOK Tryz.func75 rfl (enters _ _ Tryz.func75 rfl (by decide)) rfl rfl ?_)
      (refine wpD_seqk fun K hK => ?_; refine wpD_region tyOK ?_; ((repeat (rw [wpS_cons]; simp)); (try simp only [wpS_nil, thenD, blockD])); refine hK _ _ _ ?_; clear hK K)
      (refine wpD_stay (T := tyOf) 2 (ty := 27) (ds := [.int .i64 t.k, .int .i64 t.n, .int .i64 t.a, .slice (t.ls.map encL) .any, .slice (t.ks.map encT) .any]) rfl rfl (by first | exact ⟨rfl, .inr ⟨_, rfl, rfl⟩⟩ | exact ⟨rfl, .inl rfl⟩) ?_; simp [D.frzs, D.frz, HO.frz, dfFrz, refOf, TK.isAgg, FK.isB, FK.isM, FK.isO, D.isLen])
      refine wpD_seqk fun K1 hK1 => ?_
      (refine wpD_seqk fun K hK => ?_; refine wpD_region tyOK ?_; ((repeat (rw [wpS_cons]; simp [hk])); (try simp only [wpS_nil, thenD, blockD])); refine hK _ _ _ ?_; clear hK K)
      refine wpD_part rfl (fun h => by simp at h) (fun _ => ?_)
      refine wpD_skip (hK1 _ _ _ ?_)
      (refine wpD_seqk fun K hK => ?_; refine wpD_drawk tyOK (by kernel_rfl) (by kernel_rfl) fun KT hKT => ?_; ((repeat (rw [wpT_cons]; simp)); (try simp only [wpT_nil])))
      refine cYp (ka0) ?_
      ((try simp only [wpAftT_ret, wpAftT_pan, putS, updS, setS]); (repeat (rw [wpT_cons]; simp)); (try simp only [wpT_nil]))
      refine cYp (ka1) ?_
      ((try simp only [wpAftT_ret, wpAftT_pan, putS, updS, setS]); (repeat (rw [wpT_cons]; simp)); (try simp only [wpT_nil]))
      refine cYp (k3) ?_
      ((try simp only [wpAftT_ret, wpAftT_pan, putS, updS, setS]); (repeat (rw [wpT_cons]; simp)); (try simp only [wpT_nil]))
      (refine hKT _ _ _ _ (by kernel_rfl) ?_; clear hKT KT; (try simp only [thenD, blockD]))
      (refine hK _ _ _ ?_; clear hK K)
      (refine wpD_seqk fun K hK => ?_; refine wpD_drawk tyOK (by kernel_rfl) (by kernel_rfl) fun KT hKT => ?_; ((repeat (rw [wpT_cons]; simp)); (try simp only [wpT_nil])))
      refine cYp (k0) ?_
      ((try simp only [wpAftT_ret, wpAftT_pan, putS, updS, setS]); (repeat (rw [wpT_cons]; simp [w1, w2])); (try simp only [wpT_nil]))
      refine cYp (k1) ?_
      ((try simp only [wpAftT_ret, wpAftT_pan, putS, updS, setS]); (repeat (rw [wpT_cons]; simp [w1, w2])); (try simp only [wpT_nil]))
      refine cYp (k2) ?_
      ((try simp only [wpAftT_ret, wpAftT_pan, putS, updS, setS]); (repeat (rw [wpT_cons]; simp [w1, w2])); (try simp only [wpT_nil]))
      refine cYp (hz) ?_
      ((try simp only [wpAftT_ret, wpAftT_pan, putS, updS, setS]); (repeat (rw [wpT_cons]; simp [w1, w2])); (try simp only [wpT_nil]))
      refine cYp (k1) ?_
      ((try simp only [wpAftT_ret, wpAftT_pan, putS, updS, setS]); (repeat (rw [wpT_cons]; simp [w1, w2])); (try simp only [wpT_nil]))
      refine cYp (hs) ?_
      ((try simp only [wpAftT_ret, wpAftT_pan, putS, updS, setS]); (repeat (rw [wpT_cons]; simp [w1, w2])); (try simp only [wpT_nil]))
      refine cYo [0, 1] true false (hp) (fun o h e => e) ?_; simp [D.ren, D.rens, D.okN, D.okNs, Cp.ren, Cp.okN, HO.ren, HO.okN, okA, renA, renO, hOf, handed, D.fgt, D.fgts, List.range_succ, List.idxOf_cons, Out.ren, upO, renO, rdO]
      ((try simp only [wpAftT_ret, wpAftT_pan, putS, updS, setS]); (repeat (refine wpT_late _ _ _ _ (by kernel_rfl) ?_; simp only [putS, List.set, List.nil_append, List.cons_append, Nat.reduceAdd])); (try simp only [wpT_nil]))
      (refine hKT _ _ _ _ (by kernel_rfl) ?_; clear hKT KT; (try simp only [thenD, blockD]))
      simp [killHl]
      ((try simp only [thenD, blockD]); refine EndQ.pan (.inr ⟨[], by decide, by simp, ?_⟩); simp [Out.mov, movT, movH, movD, D.mov, HO.mov, okM, renM, getW, D.ren, D.rens, D.okN, D.okNs, Cp.ren, Cp.okN, HO.ren, HO.okN, okA, renA, renO, hOf, handed, D.fgt, D.fgts, List.range_succ, List.idxOf_cons, tmOf, Out.fgt, D.fgt, D.fgts])
  · rw [if_neg hk]
    rw [hEt, hEx]
    unfold OwnP wObjs headD Cs stepsM
    refine Spec.movd globPure (wpD_spec tyOK Tryz.func75 rfl (enters _ _ Tryz.func75 rfl (by decide)) rfl rfl ?_)
    (refine wpD_seqk fun K hK => ?_; refine wpD_region tyOK ?_; ((repeat (rw [wpS_cons]; simp)); (try simp only [wpS_nil, thenD, blockD])); refine hK _ _ _ ?_; clear hK K)
    refine wpD_seqk fun K1 hK1 => ?_
    (refine wpD_seqk fun K hK => ?_; refine wpD_region tyOK ?_; ((repeat (rw [wpS_cons]; simp [hk])); (try simp only [wpS_nil, thenD, blockD])); refine hK _ _ _ ?_; clear hK K)
    refine wpD_part rfl (fun _ => ?_) (fun h => by simp at h)
    (refine wpD_seqk fun K hK => ?_; refine wpD_region tyOK ?_; ((repeat (rw [wpS_cons]; simp)); (try simp only [wpS_nil, thenD, blockD])); refine hK _ _ _ ?_; clear hK K)
    (refine wpD_ret ?_; (try simp only [thenD, blockD]); refine EndQ.ret rfl (.inr ⟨[], by decide, by simp, ?_⟩); simp [Out.mov, movT, movH, movD, D.mov, HO.mov, okM, renM, getW, D.ren, D.rens, D.okN, D.okNs, Cp.ren, Cp.okN, HO.ren, HO.okN, okA, renA, renO, hOf, handed, D.fgt, D.fgts, List.range_succ, List.idxOf_cons, tmOf, Out.fgt, D.fgt, D.fgts])
    first | done | simp [hEt]
end Go.Proofs.YtebmlojhdnldgaaGreatDoor

