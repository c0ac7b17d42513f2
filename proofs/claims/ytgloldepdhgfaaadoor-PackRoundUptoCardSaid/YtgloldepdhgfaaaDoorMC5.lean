/-
  MC5: the texts Pkl Kct Pkn Pkx Pko Pkq Pky Dfq Pkz Pma, one behind the other.
-/
import Derived.Test.YtgloldepdhgfaaaDoorMC4
namespace Go.Proofs.YtgloldepdhgfaaaDoor
set_option linter.unusedSimpArgs false
set_option linter.unusedVariables false
set_option linter.unusedSimpArgs false
set_option linter.unusedVariables false
set_option maxHeartbeats 10000000
set_option maxRecDepth 20000
open Go.RowKit
attribute [local simp] wpAft_ret wpAft_pan wantD evOp opD tmOf putS updS setS hOf isFree isTok fillD TK.isAgg TK.known partD thenD blockD putAll D.ofV inB nilTest isNilS binX binD binE isCst bndD capB IntKind.min IntKind.max IntKind.signed IntKind.bits dstOf late
theorem kT_spec (t : T) (h : okT t) : Spec Tryd.prog glob 15 [encT t, encT t] [] (fun o _ => o.fgt = .ret (.bool true)) := by
  have := eqT_spec t t h h
  rwa [(T.eqB_iff t t).2 rfl] at this
theorem kTs_spec (l : List (T)) (hl : l.length ≤ LMax) (hg : ∀ x, x ∈ l → Spec Tryd.prog glob 15 [encT x, encT x] [] (fun o _ => o.fgt = .ret (.bool true))) :
    Spec Tryd.prog glob 37 [.slice (l.map encT) .any, .slice (l.map encT) .any] [] (fun o _ => o.fgt = .ret (.bool true)) := by
  have hl0 := hl
  unfold LMax at hl0
  refine Spec.movd globPure (wpD_spec tyOK Tryd.func37 rfl (enters _ _ Tryd.func37 rfl (by decide)) rfl rfl ?_)
  (refine wpD_seqk fun K hK => ?_; refine wpD_region tyOK ?_; ((repeat (rw [wpS_cons]; simp)); (try simp only [wpS_nil, thenD, blockD])); refine hK _ _ _ ?_; clear hK K)
  refine wpD_seqk fun K1 hK1 => ?_
  (refine wpD_seqk fun K hK => ?_; refine wpD_region tyOK ?_; ((repeat (rw [wpS_cons]; simp)); (try simp only [wpS_nil, thenD, blockD])); refine hK _ _ _ ?_; clear hK K)
  refine wpD_part rfl (fun h => by simp at h) (fun _ => ?_)
  refine wpD_skip (hK1 _ _ _ ?_)
  clear hK1 K1
  refine wpD_seqk fun K1 hK1 => ?_
  (refine wpD_seqk fun K hK => ?_; refine wpD_region tyOK ?_; ((repeat (rw [wpS_cons]; simp)); (try simp only [wpS_nil, thenD, blockD])); refine hK _ _ _ ?_; clear hK K)
  refine wpD_block ?_
  refine wpD_loopWJ [4, 11, 12, 13, 14, 15, 16, 17, 18, 19, 20, 21, 22, 23, 24, 25, 26] [5] (fun n ys hl => ∃ (k : Nat), ys = [.int .i64 k] ∧ n + k = l.length ∧ hl = []) (l.length) (by kernel_rfl) ?_ ?_
  · exact ⟨0, rfl, rfl, rfl⟩
  · rintro n ys hl A hA ⟨i, rfl, hn, rfl⟩
    simp only [putAll, List.set, List.map_cons, List.map_nil, List.cons_append, List.nil_append]
    refine wpD_seqk fun K2 hK2 => ?_
    by_cases hi : i < l.length
    · have hi' : (i : Int) < l.length := by omega
      (refine wpD_seqk fun K hK => ?_; refine wpD_region tyOK ?_; ((repeat (rw [wpS_cons]; simp [hi, hi'])); (try simp only [wpS_nil, thenD, blockD])); refine hK _ _ _ ?_; clear hK K)
      refine wpD_part rfl (fun _ => ?_) (fun h => by simp at h)
      refine wpD_skip (hK2 _ _ _ ?_)
      clear hK2 K2
      refine wpD_seqk fun K3 hK3 => ?_
      refine wpD_block ?_
      have hrec := hg l[i] (List.getElem_mem hi)
      obtain ⟨x, hx⟩ : ∃ x, l[i] = x := ⟨_, rfl⟩
      rw [hx] at hrec
      have hEx := encT_eq x
      rw [hEx] at hrec
      (refine wpD_seqk fun K hK => ?_; refine wpD_drawk tyOK (by kernel_rfl) (by kernel_rfl) fun KT hKT => ?_; ((repeat (rw [wpT_cons]; simp [hi, hi', hx, hEx])); (try simp only [wpT_nil])))
      refine cYp (hrec) ?_
      ((try simp only [wpAftT_ret, wpAftT_pan, putS, updS, setS]); (repeat (rw [wpT_cons]; simp)); (try simp only [wpT_nil]))
      (refine hKT _ _ _ _ (by kernel_rfl) ?_; clear hKT KT; (try simp only [thenD, blockD]))
      (refine hK _ _ _ ?_; clear hK K)
      refine wpD_part rfl (fun h => by simp at h) (fun _ => ?_)
      refine wpD_skip (hK3 _ _ _ ?_)
      clear hK3 K3
      have hw1 : IntKind.i64.wrap ((i : Int) + 1) = (i : Int) + 1 := i64w (by omega) (by omega)
      (refine wpD_region tyOK ?_; ((repeat (rw [wpS_cons]; simp [hw1])); (try simp only [wpS_nil, thenD, blockD])))
      refine hA (n - 1) _ _ _ (LeT.refl _) (by omega) (by kernel_rfl) ?_
      exact ⟨i + 1, rfl, by omega, rfl⟩
    · have hi' : ¬ (i : Int) < l.length := by omega
      (refine wpD_seqk fun K hK => ?_; refine wpD_region tyOK ?_; ((repeat (rw [wpS_cons]; simp [hi, hi'])); (try simp only [wpS_nil, thenD, blockD])); refine hK _ _ _ ?_; clear hK K)
      refine wpD_part rfl (fun h => by simp at h) (fun _ => ?_)
      refine wpD_exit ?_
      refine hK1 _ _ _ ?_
      (refine wpD_seqk fun K hK => ?_; refine wpD_region tyOK ?_; ((repeat (rw [wpS_cons]; simp)); (try simp only [wpS_nil, thenD, blockD])); refine hK _ _ _ ?_; clear hK K)
      (refine wpD_ret ?_; (try simp only [thenD, blockD]); refine EndQ.ret rfl (.inl ?_); simp [tmOf, Out.fgt, D.fgt, D.fgts])
theorem kMb_spec (r : List T) (hl : r.length ≤ LMax) (h : ∀ t, t ∈ r → okT t) : Spec Tryd.prog glob 68 [encMb r, encMb r] [] (fun o _ => o.fgt = .ret (.bool true)) := by
  have h1 := kTs_spec r hl fun x hx => kT_spec x (h x hx)
  unfold encMb
  refine Spec.movd globPure (wpD_spec tyOK Tryd.func68 rfl (enters _ _ Tryd.func68 rfl (by decide)) rfl rfl ?_)
  (refine wpD_seqk fun K hK => ?_; refine wpD_region tyOK ?_; ((repeat (rw [wpS_cons]; simp)); (try simp only [wpS_nil, thenD, blockD])); refine hK _ _ _ ?_; clear hK K)
  (refine wpD_seqk fun K hK => ?_; refine wpD_region tyOK ?_; ((repeat (rw [wpS_cons]; simp)); (try simp only [wpS_nil, thenD, blockD])))
  refine cXp (h1) ?_
  ((try simp only [wpAft_ret, wpAft_pan, putS, updS, setS]); (repeat (rw [wpS_cons]; simp)); (try simp only [wpS_nil, thenD, blockD]))
  (refine hK _ _ _ ?_; clear hK K)
  (refine wpD_ret ?_; (try simp only [thenD, blockD]); refine EndQ.ret rfl (.inl ?_); simp [tmOf, Out.fgt, D.fgt, D.fgts])
theorem kMbs_spec (l : List (List T)) (hl : l.length ≤ LMax) (hg : ∀ x, x ∈ l → Spec Tryd.prog glob 68 [encMb x, encMb x] [] (fun o _ => o.fgt = .ret (.bool true))) :
    Spec Tryd.prog glob 39 [.slice (l.map encMb) .any, .slice (l.map encMb) .any] [] (fun o _ => o.fgt = .ret (.bool true)) := by
  have hl0 := hl
  unfold LMax at hl0
  refine Spec.movd globPure (wpD_spec tyOK Tryd.func39 rfl (enters _ _ Tryd.func39 rfl (by decide)) rfl rfl ?_)
  (refine wpD_seqk fun K hK => ?_; refine wpD_region tyOK ?_; ((repeat (rw [wpS_cons]; simp)); (try simp only [wpS_nil, thenD, blockD])); refine hK _ _ _ ?_; clear hK K)
  refine wpD_seqk fun K1 hK1 => ?_
  (refine wpD_seqk fun K hK => ?_; refine wpD_region tyOK ?_; ((repeat (rw [wpS_cons]; simp)); (try simp only [wpS_nil, thenD, blockD])); refine hK _ _ _ ?_; clear hK K)
  refine wpD_part rfl (fun h => by simp at h) (fun _ => ?_)
  refine wpD_skip (hK1 _ _ _ ?_)
  clear hK1 K1
  refine wpD_seqk fun K1 hK1 => ?_
  (refine wpD_seqk fun K hK => ?_; refine wpD_region tyOK ?_; ((repeat (rw [wpS_cons]; simp)); (try simp only [wpS_nil, thenD, blockD])); refine hK _ _ _ ?_; clear hK K)
  refine wpD_block ?_
  refine wpD_loopWJ [4, 11, 12, 13, 14, 15, 16, 17, 18, 19, 20, 21, 22, 23, 24, 25, 26] [5] (fun n ys hl => ∃ (k : Nat), ys = [.int .i64 k] ∧ n + k = l.length ∧ hl = []) (l.length) (by kernel_rfl) ?_ ?_
  · exact ⟨0, rfl, rfl, rfl⟩
  · rintro n ys hl A hA ⟨i, rfl, hn, rfl⟩
    simp only [putAll, List.set, List.map_cons, List.map_nil, List.cons_append, List.nil_append]
    refine wpD_seqk fun K2 hK2 => ?_
    by_cases hi : i < l.length
    · have hi' : (i : Int) < l.length := by omega
      (refine wpD_seqk fun K hK => ?_; refine wpD_region tyOK ?_; ((repeat (rw [wpS_cons]; simp [hi, hi'])); (try simp only [wpS_nil, thenD, blockD])); refine hK _ _ _ ?_; clear hK K)
      refine wpD_part rfl (fun _ => ?_) (fun h => by simp at h)
      refine wpD_skip (hK2 _ _ _ ?_)
      clear hK2 K2
      refine wpD_seqk fun K3 hK3 => ?_
      refine wpD_block ?_
      have hrec := hg l[i] (List.getElem_mem hi)
      obtain ⟨x, hx⟩ : ∃ x, l[i] = x := ⟨_, rfl⟩
      rw [hx] at hrec
      have hEx : encMb x = .agg [.slice (x.map encT) .any] := rfl
      rw [hEx] at hrec
      (refine wpD_seqk fun K hK => ?_; refine wpD_drawk tyOK (by kernel_rfl) (by kernel_rfl) fun KT hKT => ?_; ((repeat (rw [wpT_cons]; simp [hi, hi', hx, hEx])); (try simp only [wpT_nil])))
      refine cYp (hrec) ?_
      ((try simp only [wpAftT_ret, wpAftT_pan, putS, updS, setS]); (repeat (rw [wpT_cons]; simp)); (try simp only [wpT_nil]))
      (refine hKT _ _ _ _ (by kernel_rfl) ?_; clear hKT KT; (try simp only [thenD, blockD]))
      (refine hK _ _ _ ?_; clear hK K)
      refine wpD_part rfl (fun h => by simp at h) (fun _ => ?_)
      refine wpD_skip (hK3 _ _ _ ?_)
      clear hK3 K3
      have hw1 : IntKind.i64.wrap ((i : Int) + 1) = (i : Int) + 1 := i64w (by omega) (by omega)
      (refine wpD_region tyOK ?_; ((repeat (rw [wpS_cons]; simp [hw1])); (try simp only [wpS_nil, thenD, blockD])))
      refine hA (n - 1) _ _ _ (LeT.refl _) (by omega) (by kernel_rfl) ?_
      exact ⟨i + 1, rfl, by omega, rfl⟩
    · have hi' : ¬ (i : Int) < l.length := by omega
      (refine wpD_seqk fun K hK => ?_; refine wpD_region tyOK ?_; ((repeat (rw [wpS_cons]; simp [hi, hi'])); (try simp only [wpS_nil, thenD, blockD])); refine hK _ _ _ ?_; clear hK K)
      refine wpD_part rfl (fun h => by simp at h) (fun _ => ?_)
      refine wpD_exit ?_
      refine hK1 _ _ _ ?_
      (refine wpD_seqk fun K hK => ?_; refine wpD_region tyOK ?_; ((repeat (rw [wpS_cons]; simp)); (try simp only [wpS_nil, thenD, blockD])); refine hK _ _ _ ?_; clear hK K)
      (refine wpD_ret ?_; (try simp only [thenD, blockD]); refine EndQ.ret rfl (.inl ?_); simp [tmOf, Out.fgt, D.fgt, D.fgts])
theorem kCt_spec (c : Int × T) (h : okT c.2) : Spec Tryd.prog glob 69 [encCt c, encCt c] [] (fun o _ => o.fgt = .ret (.bool true)) := by
  have h1 := kT_spec c.2 h
  rw [encT_eq c.2] at h1
  unfold encCt
  refine Spec.movd globPure (wpD_spec tyOK Tryd.func69 rfl (enters _ _ Tryd.func69 rfl (by decide)) rfl rfl ?_)
  (refine wpD_seqk fun K hK => ?_; refine wpD_region tyOK ?_; ((repeat (rw [wpS_cons]; simp)); (try simp only [wpS_nil, thenD, blockD])); refine hK _ _ _ ?_; clear hK K)
  (refine wpD_seqk fun K hK => ?_; refine wpD_region tyOK ?_; ((repeat (rw [wpS_cons]; simp)); (try simp only [wpS_nil, thenD, blockD])))
  refine cXp (h1) ?_
  ((try simp only [wpAft_ret, wpAft_pan, putS, updS, setS]); (repeat (rw [wpS_cons]; simp)); (try simp only [wpS_nil, thenD, blockD]))
  (refine hK _ _ _ ?_; clear hK K)
  (refine wpD_ret ?_; (try simp only [thenD, blockD]); refine EndQ.ret rfl (.inl ?_); simp [tmOf, Out.fgt, D.fgt, D.fgts])
theorem kCts_spec (l : List (Int × T)) (hl : l.length ≤ LMax) (hg : ∀ x, x ∈ l → Spec Tryd.prog glob 69 [encCt x, encCt x] [] (fun o _ => o.fgt = .ret (.bool true))) :
    Spec Tryd.prog glob 40 [.slice (l.map encCt) .any, .slice (l.map encCt) .any] [] (fun o _ => o.fgt = .ret (.bool true)) := by
  have hl0 := hl
  unfold LMax at hl0
  refine Spec.movd globPure (wpD_spec tyOK Tryd.func40 rfl (enters _ _ Tryd.func40 rfl (by decide)) rfl rfl ?_)
  (refine wpD_seqk fun K hK => ?_; refine wpD_region tyOK ?_; ((repeat (rw [wpS_cons]; simp)); (try simp only [wpS_nil, thenD, blockD])); refine hK _ _ _ ?_; clear hK K)
  refine wpD_seqk fun K1 hK1 => ?_
  (refine wpD_seqk fun K hK => ?_; refine wpD_region tyOK ?_; ((repeat (rw [wpS_cons]; simp)); (try simp only [wpS_nil, thenD, blockD])); refine hK _ _ _ ?_; clear hK K)
  refine wpD_part rfl (fun h => by simp at h) (fun _ => ?_)
  refine wpD_skip (hK1 _ _ _ ?_)
  clear hK1 K1
  refine wpD_seqk fun K1 hK1 => ?_
  (refine wpD_seqk fun K hK => ?_; refine wpD_region tyOK ?_; ((repeat (rw [wpS_cons]; simp)); (try simp only [wpS_nil, thenD, blockD])); refine hK _ _ _ ?_; clear hK K)
  refine wpD_block ?_
  refine wpD_loopWJ [4, 11, 12, 13, 14, 15, 16, 17, 18, 19, 20, 21, 22, 23, 24, 25, 26] [5] (fun n ys hl => ∃ (k : Nat), ys = [.int .i64 k] ∧ n + k = l.length ∧ hl = []) (l.length) (by kernel_rfl) ?_ ?_
  · exact ⟨0, rfl, rfl, rfl⟩
  · rintro n ys hl A hA ⟨i, rfl, hn, rfl⟩
    simp only [putAll, List.set, List.map_cons, List.map_nil, List.cons_append, List.nil_append]
    refine wpD_seqk fun K2 hK2 => ?_
    by_cases hi : i < l.length
    · have hi' : (i : Int) < l.length := by omega
      (refine wpD_seqk fun K hK => ?_; refine wpD_region tyOK ?_; ((repeat (rw [wpS_cons]; simp [hi, hi'])); (try simp only [wpS_nil, thenD, blockD])); refine hK _ _ _ ?_; clear hK K)
      refine wpD_part rfl (fun _ => ?_) (fun h => by simp at h)
      refine wpD_skip (hK2 _ _ _ ?_)
      clear hK2 K2
      refine wpD_seqk fun K3 hK3 => ?_
      refine wpD_block ?_
      have hrec := hg l[i] (List.getElem_mem hi)
      obtain ⟨x, hx⟩ : ∃ x, l[i] = x := ⟨_, rfl⟩
      rw [hx] at hrec
      have hEx : encCt x = .agg [.int .i64 x.1, .int .i64 x.2.k, .int .i64 x.2.n, .int .i64 x.2.a, .slice (x.2.ls.map encL) .any, .slice (x.2.ks.map encT) .any] := rfl
      rw [hEx] at hrec
      (refine wpD_seqk fun K hK => ?_; refine wpD_drawk tyOK (by kernel_rfl) (by kernel_rfl) fun KT hKT => ?_; ((repeat (rw [wpT_cons]; simp [hi, hi', hx, hEx])); (try simp only [wpT_nil])))
      refine cYp (hrec) ?_
      ((try simp only [wpAftT_ret, wpAftT_pan, putS, updS, setS]); (repeat (rw [wpT_cons]; simp)); (try simp only [wpT_nil]))
      (refine hKT _ _ _ _ (by kernel_rfl) ?_; clear hKT KT; (try simp only [thenD, blockD]))
      (refine hK _ _ _ ?_; clear hK K)
      refine wpD_part rfl (fun h => by simp at h) (fun _ => ?_)
      refine wpD_skip (hK3 _ _ _ ?_)
      clear hK3 K3
      have hw1 : IntKind.i64.wrap ((i : Int) + 1) = (i : Int) + 1 := i64w (by omega) (by omega)
      (refine wpD_region tyOK ?_; ((repeat (rw [wpS_cons]; simp [hw1])); (try simp only [wpS_nil, thenD, blockD])))
      refine hA (n - 1) _ _ _ (LeT.refl _) (by omega) (by kernel_rfl) ?_
      exact ⟨i + 1, rfl, by omega, rfl⟩
    · have hi' : ¬ (i : Int) < l.length := by omega
      (refine wpD_seqk fun K hK => ?_; refine wpD_region tyOK ?_; ((repeat (rw [wpS_cons]; simp [hi, hi'])); (try simp only [wpS_nil, thenD, blockD])); refine hK _ _ _ ?_; clear hK K)
      refine wpD_part rfl (fun h => by simp at h) (fun _ => ?_)
      refine wpD_exit ?_
      refine hK1 _ _ _ ?_
      (refine wpD_seqk fun K hK => ?_; refine wpD_region tyOK ?_; ((repeat (rw [wpS_cons]; simp)); (try simp only [wpS_nil, thenD, blockD])); refine hK _ _ _ ?_; clear hK K)
      (refine wpD_ret ?_; (try simp only [thenD, blockD]); refine EndQ.ret rfl (.inl ?_); simp [tmOf, Out.fgt, D.fgt, D.fgts])
theorem kDe_spec (d : De) (h : okDe d) : Spec Tryd.prog glob 13 [encDe d, encDe d] [] (fun o _ => o.fgt = .ret (.bool true)) := by
  have h1 := kT_spec d.ty h.ty
  have h2 := kT_spec d.bo h.bo
  have h3 := kTs_spec d.ps h.psl fun x hx => kT_spec x (h.ps x hx)
  have h4 := sameLevel_spec d.so d.so h.so h.so
  have h5 := kMbs_spec d.ms h.msl fun x hx => kMb_spec x (h.ms x hx).1 (h.ms x hx).2
  have h6 := kCts_spec d.cs h.csl fun x hx => kCt_spec x (h.cs x hx).2
  rw [encT_eq d.ty] at h1
  rw [encT_eq d.bo] at h2
  rw [decide_eq_true rfl, encL_eq] at h4
  unfold encDe decL
  refine Spec.movd globPure (wpD_spec tyOK Tryd.func13 rfl (enters _ _ Tryd.func13 rfl (by decide)) rfl rfl ?_)
  (refine wpD_seqk fun K hK => ?_; refine wpD_region tyOK ?_; ((repeat (rw [wpS_cons]; simp)); (try simp only [wpS_nil, thenD, blockD])); refine hK _ _ _ ?_; clear hK K)
  (refine wpD_seqk fun K hK => ?_; refine wpD_region tyOK ?_; ((repeat (rw [wpS_cons]; simp)); (try simp only [wpS_nil, thenD, blockD])))
  refine cXp (h1) ?_
  ((try simp only [wpAft_ret, wpAft_pan, putS, updS, setS]); (repeat (rw [wpS_cons]; simp)); (try simp only [wpS_nil, thenD, blockD]))
  refine cXp (h2) ?_
  ((try simp only [wpAft_ret, wpAft_pan, putS, updS, setS]); (repeat (rw [wpS_cons]; simp)); (try simp only [wpS_nil, thenD, blockD]))
  refine cXp (h3) ?_
  ((try simp only [wpAft_ret, wpAft_pan, putS, updS, setS]); (repeat (rw [wpS_cons]; simp)); (try simp only [wpS_nil, thenD, blockD]))
  refine cXp (h4) ?_
  ((try simp only [wpAft_ret, wpAft_pan, putS, updS, setS]); (repeat (rw [wpS_cons]; simp)); (try simp only [wpS_nil, thenD, blockD]))
  refine cXp (h5) ?_
  ((try simp only [wpAft_ret, wpAft_pan, putS, updS, setS]); (repeat (rw [wpS_cons]; simp)); (try simp only [wpS_nil, thenD, blockD]))
  refine cXp (h6) ?_
  ((try simp only [wpAft_ret, wpAft_pan, putS, updS, setS]); (repeat (rw [wpS_cons]; simp)); (try simp only [wpS_nil, thenD, blockD]))
  (refine hK _ _ _ ?_; clear hK K)
  (refine wpD_ret ?_; (try simp only [thenD, blockD]); refine EndQ.ret rfl (.inl ?_); simp [tmOf, Out.fgt, D.fgt, D.fgts])
theorem kDes_spec (l : List (De)) (hl : l.length ≤ LMax) (hg : ∀ x, x ∈ l → Spec Tryd.prog glob 13 [encDe x, encDe x] [] (fun o _ => o.fgt = .ret (.bool true))) :
    Spec Tryd.prog glob 20 [.slice (l.map encDe) .any, .slice (l.map encDe) .any] [] (fun o _ => o.fgt = .ret (.bool true)) := by
  have hl0 := hl
  unfold LMax at hl0
  refine Spec.movd globPure (wpD_spec tyOK Tryd.func20 rfl (enters _ _ Tryd.func20 rfl (by decide)) rfl rfl ?_)
  (refine wpD_seqk fun K hK => ?_; refine wpD_region tyOK ?_; ((repeat (rw [wpS_cons]; simp)); (try simp only [wpS_nil, thenD, blockD])); refine hK _ _ _ ?_; clear hK K)
  refine wpD_seqk fun K1 hK1 => ?_
  (refine wpD_seqk fun K hK => ?_; refine wpD_region tyOK ?_; ((repeat (rw [wpS_cons]; simp)); (try simp only [wpS_nil, thenD, blockD])); refine hK _ _ _ ?_; clear hK K)
  refine wpD_part rfl (fun h => by simp at h) (fun _ => ?_)
  refine wpD_skip (hK1 _ _ _ ?_)
  clear hK1 K1
  refine wpD_seqk fun K1 hK1 => ?_
  (refine wpD_seqk fun K hK => ?_; refine wpD_region tyOK ?_; ((repeat (rw [wpS_cons]; simp)); (try simp only [wpS_nil, thenD, blockD])); refine hK _ _ _ ?_; clear hK K)
  refine wpD_block ?_
  refine wpD_loopWJ [4, 11, 12, 13, 14, 15, 16, 17, 18, 19, 20, 21, 22, 23, 24, 25, 26] [5] (fun n ys hl => ∃ (k : Nat), ys = [.int .i64 k] ∧ n + k = l.length ∧ hl = []) (l.length) (by kernel_rfl) ?_ ?_
  · exact ⟨0, rfl, rfl, rfl⟩
  · rintro n ys hl A hA ⟨i, rfl, hn, rfl⟩
    simp only [putAll, List.set, List.map_cons, List.map_nil, List.cons_append, List.nil_append]
    refine wpD_seqk fun K2 hK2 => ?_
    by_cases hi : i < l.length
    · have hi' : (i : Int) < l.length := by omega
      (refine wpD_seqk fun K hK => ?_; refine wpD_region tyOK ?_; ((repeat (rw [wpS_cons]; simp [hi, hi'])); (try simp only [wpS_nil, thenD, blockD])); refine hK _ _ _ ?_; clear hK K)
      refine wpD_part rfl (fun _ => ?_) (fun h => by simp at h)
      refine wpD_skip (hK2 _ _ _ ?_)
      clear hK2 K2
      refine wpD_seqk fun K3 hK3 => ?_
      refine wpD_block ?_
      have hrec := hg l[i] (List.getElem_mem hi)
      obtain ⟨x, hx⟩ : ∃ x, l[i] = x := ⟨_, rfl⟩
      rw [hx] at hrec
      have hEx : encDe x = .agg (decL x) := rfl
      unfold decL at hEx
      rw [hEx] at hrec
      (refine wpD_seqk fun K hK => ?_; refine wpD_drawk tyOK (by kernel_rfl) (by kernel_rfl) fun KT hKT => ?_; ((repeat (rw [wpT_cons]; simp [hi, hi', hx, hEx])); (try simp only [wpT_nil])))
      refine cYp (hrec) ?_
      ((try simp only [wpAftT_ret, wpAftT_pan, putS, updS, setS]); (repeat (rw [wpT_cons]; simp)); (try simp only [wpT_nil]))
      (refine hKT _ _ _ _ (by kernel_rfl) ?_; clear hKT KT; (try simp only [thenD, blockD]))
      (refine hK _ _ _ ?_; clear hK K)
      refine wpD_part rfl (fun h => by simp at h) (fun _ => ?_)
      refine wpD_skip (hK3 _ _ _ ?_)
      clear hK3 K3
      have hw1 : IntKind.i64.wrap ((i : Int) + 1) = (i : Int) + 1 := i64w (by omega) (by omega)
      (refine wpD_region tyOK ?_; ((repeat (rw [wpS_cons]; simp [hw1])); (try simp only [wpS_nil, thenD, blockD])))
      refine hA (n - 1) _ _ _ (LeT.refl _) (by omega) (by kernel_rfl) ?_
      exact ⟨i + 1, rfl, by omega, rfl⟩
    · have hi' : ¬ (i : Int) < l.length := by omega
      (refine wpD_seqk fun K hK => ?_; refine wpD_region tyOK ?_; ((repeat (rw [wpS_cons]; simp [hi, hi'])); (try simp only [wpS_nil, thenD, blockD])); refine hK _ _ _ ?_; clear hK K)
      refine wpD_part rfl (fun h => by simp at h) (fun _ => ?_)
      refine wpD_exit ?_
      refine hK1 _ _ _ ?_
      (refine wpD_seqk fun K hK => ?_; refine wpD_region tyOK ?_; ((repeat (rw [wpS_cons]; simp)); (try simp only [wpS_nil, thenD, blockD])); refine hK _ _ _ ?_; clear hK K)
      (refine wpD_ret ?_; (try simp only [thenD, blockD]); refine EndQ.ret rfl (.inl ?_); simp [tmOf, Out.fgt, D.fgt, D.fgts])
theorem kBy_spec (l : List Int) (hl : l.length ≤ LMax) (ca cb : Cp) (hca : ca = .any ∨ ca = .full) (hcb : cb = .any ∨ cb = .full) : Spec Tryd.prog glob 16 [.slice (byD l) ca, .slice (byD l) cb] [] (fun o _ => o.fgt = .ret (.bool true)) := by
  have hl0 := hl
  unfold LMax at hl0
  unfold byD
  refine Spec.movd globPure (wpD_spec tyOK Tryd.func16 rfl (enters _ _ Tryd.func16 rfl (by decide)) rfl rfl ?_)
  (refine wpD_seqk fun K hK => ?_; refine wpD_region tyOK ?_; ((repeat (rw [wpS_cons]; simp)); (try simp only [wpS_nil, thenD, blockD])); refine hK _ _ _ ?_; clear hK K)
  refine wpD_seqk fun K1 hK1 => ?_
  (refine wpD_seqk fun K hK => ?_; refine wpD_region tyOK ?_; ((repeat (rw [wpS_cons]; simp)); (try simp only [wpS_nil, thenD, blockD])); refine hK _ _ _ ?_; clear hK K)
  refine wpD_part rfl (fun h => by simp at h) (fun _ => ?_)
  refine wpD_skip (hK1 _ _ _ ?_)
  clear hK1 K1
  refine wpD_seqk fun K1 hK1 => ?_
  (refine wpD_seqk fun K hK => ?_; refine wpD_region tyOK ?_; ((repeat (rw [wpS_cons]; simp)); (try simp only [wpS_nil, thenD, blockD])); refine hK _ _ _ ?_; clear hK K)
  refine wpD_block ?_
  refine wpD_loopWJ [4, 11, 12, 13, 14, 15, 16, 17, 18, 19, 20, 21, 22, 23, 24, 25] [5] (fun n ys hl => ∃ (k : Nat), ys = [.int .i64 k] ∧ n + k = l.length ∧ hl = []) (l.length) (by kernel_rfl) ?_ ?_
  · exact ⟨0, rfl, rfl, rfl⟩
  · rintro n ys hl A hA ⟨i, rfl, hn, rfl⟩
    simp only [putAll, List.set, List.map_cons, List.map_nil, List.cons_append, List.nil_append]
    refine wpD_seqk fun K2 hK2 => ?_
    by_cases hi : i < l.length
    · have hi' : (i : Int) < l.length := by omega
      (refine wpD_seqk fun K hK => ?_; refine wpD_region tyOK ?_; ((repeat (rw [wpS_cons]; simp [hi, hi'])); (try simp only [wpS_nil, thenD, blockD])); refine hK _ _ _ ?_; clear hK K)
      refine wpD_part rfl (fun _ => ?_) (fun h => by simp at h)
      refine wpD_skip (hK2 _ _ _ ?_)
      clear hK2 K2
      refine wpD_seqk fun K3 hK3 => ?_
      refine wpD_block ?_
      (refine wpD_seqk fun K hK => ?_; refine wpD_drawk tyOK (by kernel_rfl) (by kernel_rfl) fun KT hKT => ?_; ((repeat (rw [wpT_cons]; simp [hi, hi'])); (try simp only [wpT_nil])))
      (refine hKT _ _ _ _ (by kernel_rfl) ?_; clear hKT KT; (try simp only [thenD, blockD]))
      (refine hK _ _ _ ?_; clear hK K)
      refine wpD_part rfl (fun h => by simp at h) (fun _ => ?_)
      refine wpD_skip (hK3 _ _ _ ?_)
      clear hK3 K3
      have hw1 : IntKind.i64.wrap ((i : Int) + 1) = (i : Int) + 1 := i64w (by omega) (by omega)
      (refine wpD_region tyOK ?_; ((repeat (rw [wpS_cons]; simp [hw1])); (try simp only [wpS_nil, thenD, blockD])))
      refine hA (n - 1) _ _ _ (LeT.refl _) (by omega) (by kernel_rfl) ?_
      exact ⟨i + 1, rfl, by omega, rfl⟩
    · have hi' : ¬ (i : Int) < l.length := by omega
      (refine wpD_seqk fun K hK => ?_; refine wpD_region tyOK ?_; ((repeat (rw [wpS_cons]; simp [hi, hi'])); (try simp only [wpS_nil, thenD, blockD])); refine hK _ _ _ ?_; clear hK K)
      refine wpD_part rfl (fun h => by simp at h) (fun _ => ?_)
      refine wpD_exit ?_
      refine hK1 _ _ _ ?_
      (refine wpD_seqk fun K hK => ?_; refine wpD_region tyOK ?_; ((repeat (rw [wpS_cons]; simp)); (try simp only [wpS_nil, thenD, blockD])); refine hK _ _ _ ?_; clear hK K)
      (refine wpD_ret ?_; (try simp only [thenD, blockD]); refine EndQ.ret rfl (.inl ?_); simp [tmOf, Out.fgt, D.fgt, D.fgts])
end Go.Proofs.YtgloldepdhgfaaaDoor
namespace Go.Proofs.YtgloldepdhgfaaaDoor
set_option linter.unusedSimpArgs false
set_option linter.unusedVariables false
set_option maxHeartbeats 10000000
set_option maxRecDepth 20000
open Go.RowKit
attribute [local simp] wpAft_ret wpAft_pan wantD evOp opD tmOf putS updS setS hOf isFree isTok fillD TK.isAgg TK.known partD thenD blockD putAll D.ofV inB nilTest isNilS binX binD binE isCst bndD capB IntKind.min IntKind.max IntKind.signed IntKind.bits dstOf late
def cntF {α : Type} (step : α → Int → Int) (q : Int) : List α → Int → Int
  | [], n => n
  | x :: r, n => if n ≤ q then cntF step q r (step x n) else n
def lvOf (q : Int) (l : LV) : Int := min (IntKind.i64.wrap (1 + (l.length : Int))) (IntKind.i64.wrap (q + 1))
theorem lvOf_spec (l : LV) (q : Int) : Spec Tryd.prog glob 44 [encL l, .int .i64 q] [] (fun o _ => o.fgt = .ret (.int .i64 (lvOf q l))) := by
  refine Spec.movd globPure (wpD_spec tyOK Tryd.func44 rfl (enters _ _ Tryd.func44 rfl (by decide)) rfl rfl ?_)
  unfold encL
  (refine wpD_seqk fun K hK => ?_; refine wpD_region tyOK ?_; ((repeat (rw [wpS_cons]; simp)); (try simp only [wpS_nil, thenD, blockD])); refine hK _ _ _ ?_; clear hK K)
  (refine wpD_seqk fun K hK => ?_; refine wpD_region tyOK ?_; ((repeat (rw [wpS_cons]; simp)); (try simp only [wpS_nil, thenD, blockD])); refine hK _ _ _ ?_; clear hK K)
  (refine wpD_ret ?_; (try simp only [thenD, blockD]); refine EndQ.ret rfl (.inl ?_); simp [tmOf, Out.fgt, D.fgt, D.fgts])
  rfl
theorem lvsOf_gen (l : List (LV)) (q : Int) (step : LV → Int → Int) (hl : l.length ≤ LMax) (hst : ∀ x s, step x s = IntKind.i64.wrap (s + lvOf q x)) (hg : ∀ x, x ∈ l → ∀ s : Int, Spec Tryd.prog glob 44 [encL x, .int .i64 q] [] (fun o _ => o.fgt = .ret (.int .i64 (lvOf q x)))) :
    Spec Tryd.prog glob 24 [.slice (l.map encL) .any, .int .i64 q] [] (fun o _ => o.fgt = .ret (.int .i64 (cntF step q l 0))) := by
  obtain ⟨R, hR⟩ : ∃ R, R = cntF step q l 0 := ⟨_, rfl⟩
  rw [← hR]
  have hl0 := hl
  unfold LMax at hl0
  refine Spec.movd globPure (wpD_spec tyOK Tryd.func24 rfl (enters _ _ Tryd.func24 rfl (by decide)) rfl rfl ?_)
  (refine wpD_seqk fun K hK => ?_; refine wpD_region tyOK ?_; ((repeat (rw [wpS_cons]; simp)); (try simp only [wpS_nil, thenD, blockD])); refine hK _ _ _ ?_; clear hK K)
  (refine wpD_seqk fun K hK => ?_; refine wpD_region tyOK ?_; ((repeat (rw [wpS_cons]; simp)); (try simp only [wpS_nil, thenD, blockD])); refine hK _ _ _ ?_; clear hK K)
  refine wpD_seqk fun K1 hK1 => ?_
  (refine wpD_seqk fun K hK => ?_; refine wpD_region tyOK ?_; ((repeat (rw [wpS_cons]; simp)); (try simp only [wpS_nil, thenD, blockD])); refine hK _ _ _ ?_; clear hK K)
  refine wpD_block ?_
  refine wpD_loopWJ [7, 8, 9, 10, 11, 12, 13, 14, 15, 16, 17, 18, 19, 20, 21, 22, 23, 24, 25] [5, 6] (fun n ys hl => ∃ (k : Nat) (s : Int), ys = [.int .i64 s, .int .i64 k] ∧ n + k = l.length ∧ R = cntF step q (l.drop k) s ∧ hl = []) (l.length) (by kernel_rfl) ?_ ?_
  · exact ⟨0, 0, rfl, rfl, hR, rfl⟩
  · rintro n ys hl A hA ⟨i, s, rfl, hn, hF, rfl⟩
    simp only [putAll, List.set, List.map_cons, List.map_nil, List.cons_append, List.nil_append]
    refine wpD_seqk fun K2 hK2 => ?_
    by_cases hi : i < l.length
    · have hi' : (i : Int) < l.length := by omega
      by_cases hs : s ≤ q
      · (refine wpD_seqk fun K hK => ?_; refine wpD_region tyOK ?_; ((repeat (rw [wpS_cons]; simp [hi, hi', hs])); (try simp only [wpS_nil, thenD, blockD])); refine hK _ _ _ ?_; clear hK K)
        refine wpD_part rfl (fun _ => ?_) (fun h => by simp at h)
        refine wpD_skip (hK2 _ _ _ ?_)
        clear hK2 K2
        refine wpD_seqk fun K3 hK3 => ?_
        refine wpD_block ?_
        rw [List.drop_eq_getElem_cons hi, cntF, if_pos hs] at hF
        have hrec := hg l[i] (List.getElem_mem hi) s
        obtain ⟨x, hx⟩ : ∃ x, l[i] = x := ⟨_, rfl⟩
        rw [hx] at hrec hF
        unfold encL at hrec
        obtain ⟨v, hv⟩ : ∃ v, lvOf q x = v := ⟨_, rfl⟩
        rw [hv] at hrec
        rw [hst, hv] at hF
        (refine wpD_region tyOK ?_; ((repeat (rw [wpS_cons]; simp [hi, hi', hx, encL])); (try simp only [wpS_nil, thenD, blockD])))
        refine cXp (hrec) ?_
        ((try simp only [wpAft_ret, wpAft_pan, putS, updS, setS]); (repeat (rw [wpS_cons]; simp)); (try simp only [wpS_nil, thenD, blockD]))
        refine hK3 _ _ _ ?_
        clear hK3 K3
        have hw1 : IntKind.i64.wrap ((i : Int) + 1) = (i : Int) + 1 := i64w (by omega) (by omega)
        (refine wpD_region tyOK ?_; ((repeat (rw [wpS_cons]; simp [hw1])); (try simp only [wpS_nil, thenD, blockD])))
        refine hA (n - 1) _ _ _ (LeT.refl _) (by omega) (by kernel_rfl) ?_
        exact ⟨i + 1, _, rfl, by omega, hF, rfl⟩
      · (refine wpD_seqk fun K hK => ?_; refine wpD_region tyOK ?_; ((repeat (rw [wpS_cons]; simp [hi, hi', hs])); (try simp only [wpS_nil, thenD, blockD])); refine hK _ _ _ ?_; clear hK K)
        refine wpD_part rfl (fun h => by simp at h) (fun _ => ?_)
        refine wpD_exit ?_
        refine hK1 _ _ _ ?_
        rw [List.drop_eq_getElem_cons hi, cntF, if_neg hs] at hF
        subst hF
        (refine wpD_seqk fun K hK => ?_; refine wpD_region tyOK ?_; ((repeat (rw [wpS_cons]; simp)); (try simp only [wpS_nil, thenD, blockD])); refine hK _ _ _ ?_; clear hK K)
        (refine wpD_ret ?_; (try simp only [thenD, blockD]); refine EndQ.ret rfl (.inl ?_); simp [tmOf, Out.fgt, D.fgt, D.fgts])
    · have hi' : ¬ (i : Int) < l.length := by omega
      (refine wpD_seqk fun K hK => ?_; refine wpD_region tyOK ?_; ((repeat (rw [wpS_cons]; simp [hi, hi'])); (try simp only [wpS_nil, thenD, blockD])); refine hK _ _ _ ?_; clear hK K)
      refine wpD_part rfl (fun h => by simp at h) (fun _ => ?_)
      refine wpD_exit ?_
      refine hK1 _ _ _ ?_
      rw [List.drop_of_length_le (by omega), cntF] at hF
      subst hF
      (refine wpD_seqk fun K hK => ?_; refine wpD_region tyOK ?_; ((repeat (rw [wpS_cons]; simp)); (try simp only [wpS_nil, thenD, blockD])); refine hK _ _ _ ?_; clear hK K)
      (refine wpD_ret ?_; (try simp only [thenD, blockD]); refine EndQ.ret rfl (.inl ?_); simp [tmOf, Out.fgt, D.fgt, D.fgts])
def lvsN (q : Int) (ls : List LV) : Int := cntF (fun x s => IntKind.i64.wrap (s + lvOf q x)) q ls 0
theorem lvsN_spec (ls : List LV) (q : Int) (hl : ls.length ≤ LMax) : Spec Tryd.prog glob 24 [.slice (ls.map encL) .any, .int .i64 q] [] (fun o _ => o.fgt = .ret (.int .i64 (lvsN q ls))) :=
  lvsOf_gen ls q _ hl (fun _ _ => rfl) (fun x _ _ => lvOf_spec x q)
mutual
def T.tof : T → Int → Int
  | .mk _ _ _ ls ks, q => IntKind.i64.wrap (IntKind.i64.wrap (1 + lvsN q ls) + T.tofs ks 0 q)
def T.tofs : List T → Int → Int → Int
  | [], n, _ => n
  | t :: r, n, q => if n ≤ q then T.tofs r (IntKind.i64.wrap (n + T.tof t (IntKind.i64.wrap (q - n)))) q else n
end
theorem tofs_cnt (q : Int) : ∀ (l : List T) (n : Int), T.tofs l n q = cntF (fun x s => IntKind.i64.wrap (s + T.tof x (IntKind.i64.wrap (q - s)))) q l n
  | [], n => by rw [T.tofs, cntF]
  | t :: r, n => by rw [T.tofs, cntF, tofs_cnt q r]
theorem tofs_gen (l : List (T)) (q : Int) (step : T → Int → Int) (hl : l.length ≤ LMax) (hst : ∀ x s, step x s = IntKind.i64.wrap (s + T.tof x (IntKind.i64.wrap (q - s)))) (hg : ∀ x, x ∈ l → ∀ s : Int, Spec Tryd.prog glob 8 [encT x, .int .i64 (IntKind.i64.wrap (q - s))] [] (fun o _ => o.fgt = .ret (.int .i64 (T.tof x (IntKind.i64.wrap (q - s)))))) :
    Spec Tryd.prog glob 25 [.slice (l.map encT) .any, .int .i64 q] [] (fun o _ => o.fgt = .ret (.int .i64 (cntF step q l 0))) := by
  obtain ⟨R, hR⟩ : ∃ R, R = cntF step q l 0 := ⟨_, rfl⟩
  rw [← hR]
  have hl0 := hl
  unfold LMax at hl0
  refine Spec.movd globPure (wpD_spec tyOK Tryd.func25 rfl (enters _ _ Tryd.func25 rfl (by decide)) rfl rfl ?_)
  (refine wpD_seqk fun K hK => ?_; refine wpD_region tyOK ?_; ((repeat (rw [wpS_cons]; simp)); (try simp only [wpS_nil, thenD, blockD])); refine hK _ _ _ ?_; clear hK K)
  (refine wpD_seqk fun K hK => ?_; refine wpD_region tyOK ?_; ((repeat (rw [wpS_cons]; simp)); (try simp only [wpS_nil, thenD, blockD])); refine hK _ _ _ ?_; clear hK K)
  refine wpD_seqk fun K1 hK1 => ?_
  (refine wpD_seqk fun K hK => ?_; refine wpD_region tyOK ?_; ((repeat (rw [wpS_cons]; simp)); (try simp only [wpS_nil, thenD, blockD])); refine hK _ _ _ ?_; clear hK K)
  refine wpD_block ?_
  refine wpD_loopWJ [7, 8, 9, 10, 11, 12, 13, 14, 15, 16, 17, 18, 19, 20, 21, 22, 23, 24, 25, 26, 27] [5, 6] (fun n ys hl => ∃ (k : Nat) (s : Int), ys = [.int .i64 s, .int .i64 k] ∧ n + k = l.length ∧ R = cntF step q (l.drop k) s ∧ hl = []) (l.length) (by kernel_rfl) ?_ ?_
  · exact ⟨0, 0, rfl, rfl, hR, rfl⟩
  · rintro n ys hl A hA ⟨i, s, rfl, hn, hF, rfl⟩
    simp only [putAll, List.set, List.map_cons, List.map_nil, List.cons_append, List.nil_append]
    refine wpD_seqk fun K2 hK2 => ?_
    by_cases hi : i < l.length
    · have hi' : (i : Int) < l.length := by omega
      by_cases hs : s ≤ q
      · (refine wpD_seqk fun K hK => ?_; refine wpD_region tyOK ?_; ((repeat (rw [wpS_cons]; simp [hi, hi', hs])); (try simp only [wpS_nil, thenD, blockD])); refine hK _ _ _ ?_; clear hK K)
        refine wpD_part rfl (fun _ => ?_) (fun h => by simp at h)
        refine wpD_skip (hK2 _ _ _ ?_)
        clear hK2 K2
        refine wpD_seqk fun K3 hK3 => ?_
        refine wpD_block ?_
        rw [List.drop_eq_getElem_cons hi, cntF, if_pos hs] at hF
        have hrec := hg l[i] (List.getElem_mem hi) s
        obtain ⟨x, hx⟩ : ∃ x, l[i] = x := ⟨_, rfl⟩
        rw [hx] at hrec hF
        have hEx := encT_eq x
        rw [hEx] at hrec
        rw [hst] at hF
        generalize T.tof x (IntKind.i64.wrap (q - s)) = v at hrec hF
        (refine wpD_region tyOK ?_; ((repeat (rw [wpS_cons]; simp [hi, hi', hx, hEx])); (try simp only [wpS_nil, thenD, blockD])))
        refine cXp (hrec) ?_
        ((try simp only [wpAft_ret, wpAft_pan, putS, updS, setS]); (repeat (rw [wpS_cons]; simp)); (try simp only [wpS_nil, thenD, blockD]))
        refine hK3 _ _ _ ?_
        clear hK3 K3
        have hw1 : IntKind.i64.wrap ((i : Int) + 1) = (i : Int) + 1 := i64w (by omega) (by omega)
        (refine wpD_region tyOK ?_; ((repeat (rw [wpS_cons]; simp [hw1])); (try simp only [wpS_nil, thenD, blockD])))
        refine hA (n - 1) _ _ _ (LeT.refl _) (by omega) (by kernel_rfl) ?_
        exact ⟨i + 1, _, rfl, by omega, hF, rfl⟩
      · (refine wpD_seqk fun K hK => ?_; refine wpD_region tyOK ?_; ((repeat (rw [wpS_cons]; simp [hi, hi', hs])); (try simp only [wpS_nil, thenD, blockD])); refine hK _ _ _ ?_; clear hK K)
        refine wpD_part rfl (fun h => by simp at h) (fun _ => ?_)
        refine wpD_exit ?_
        refine hK1 _ _ _ ?_
        rw [List.drop_eq_getElem_cons hi, cntF, if_neg hs] at hF
        subst hF
        (refine wpD_seqk fun K hK => ?_; refine wpD_region tyOK ?_; ((repeat (rw [wpS_cons]; simp)); (try simp only [wpS_nil, thenD, blockD])); refine hK _ _ _ ?_; clear hK K)
        (refine wpD_ret ?_; (try simp only [thenD, blockD]); refine EndQ.ret rfl (.inl ?_); simp [tmOf, Out.fgt, D.fgt, D.fgts])
    · have hi' : ¬ (i : Int) < l.length := by omega
      (refine wpD_seqk fun K hK => ?_; refine wpD_region tyOK ?_; ((repeat (rw [wpS_cons]; simp [hi, hi'])); (try simp only [wpS_nil, thenD, blockD])); refine hK _ _ _ ?_; clear hK K)
      refine wpD_part rfl (fun h => by simp at h) (fun _ => ?_)
      refine wpD_exit ?_
      refine hK1 _ _ _ ?_
      rw [List.drop_of_length_le (by omega), cntF] at hF
      subst hF
      (refine wpD_seqk fun K hK => ?_; refine wpD_region tyOK ?_; ((repeat (rw [wpS_cons]; simp)); (try simp only [wpS_nil, thenD, blockD])); refine hK _ _ _ ?_; clear hK K)
      (refine wpD_ret ?_; (try simp only [thenD, blockD]); refine EndQ.ret rfl (.inl ?_); simp [tmOf, Out.fgt, D.fgt, D.fgts])
theorem tof_spec (t : T) : ∀ q, okT t → Spec Tryd.prog glob 8 [encT t, .int .i64 q] [] (fun o _ => o.fgt = .ret (.int .i64 (t.tof q))) := by
  induction t using T.ind with
  | h k n a ls ks ih =>
    intro q ht
    have hks := ht.ks
    simp only [T.ks_mk] at hks
    have hL := lvsN_spec ls q ht.ll
    have hT := tofs_gen ks q _ ht.kl (fun _ _ => rfl) (fun x hx s => ih x hx _ (hks x hx))
    rw [← tofs_cnt] at hT
    have e : (T.mk k n a ls ks).tof q = IntKind.i64.wrap (IntKind.i64.wrap (1 + lvsN q ls) + T.tofs ks 0 q) := by rw [T.tof]
    rw [e]
    generalize lvsN q ls = v at hL ⊢
    generalize T.tofs ks 0 q = v2 at hT ⊢
    rw [encT_eq]
    simp only [T.k_mk, T.n_mk, T.a_mk, T.ls_mk, T.ks_mk]
    refine Spec.movd globPure (wpD_spec tyOK Tryd.func8 rfl (enters _ _ Tryd.func8 rfl (by decide)) rfl rfl ?_)
    (refine wpD_seqk fun K hK => ?_; refine wpD_region tyOK ?_; ((repeat (rw [wpS_cons]; simp)); (try simp only [wpS_nil, thenD, blockD])); refine hK _ _ _ ?_; clear hK K)
    (refine wpD_seqk fun K hK => ?_; refine wpD_drawk tyOK (by kernel_rfl) (by kernel_rfl) fun KT hKT => ?_; ((repeat (rw [wpT_cons]; simp)); (try simp only [wpT_nil])))
    refine cYp (hL) ?_
    ((try simp only [wpAftT_ret, wpAftT_pan, putS, updS, setS]); (repeat (rw [wpT_cons]; simp)); (try simp only [wpT_nil]))
    refine cYp (hT) ?_
    ((try simp only [wpAftT_ret, wpAftT_pan, putS, updS, setS]); (repeat (rw [wpT_cons]; simp)); (try simp only [wpT_nil]))
    (refine hKT _ _ _ _ (by kernel_rfl) ?_; clear hKT KT; (try simp only [thenD, blockD]))
    (refine hK _ _ _ ?_; clear hK K)
    (refine wpD_ret ?_; (try simp only [thenD, blockD]); refine EndQ.ret rfl (.inl ?_); simp [tmOf, Out.fgt, D.fgt, D.fgts])
theorem tofs_spec (l : List T) (q : Int) (hl : l.length ≤ LMax) (hls : ∀ x, x ∈ l → okT x) : Spec Tryd.prog glob 25 [.slice (l.map encT) .any, .int .i64 q] [] (fun o _ => o.fgt = .ret (.int .i64 (T.tofs l 0 q))) := by
  rw [tofs_cnt]
  exact tofs_gen l q _ hl (fun _ _ => rfl) (fun x hx s => tof_spec x _ (hls x hx))
end Go.Proofs.YtgloldepdhgfaaaDoor
namespace Go.Proofs.YtgloldepdhgfaaaDoor
set_option linter.unusedSimpArgs false
set_option linter.unusedVariables false
set_option linter.unusedSimpArgs false
set_option linter.unusedVariables false
set_option maxHeartbeats 10000000
set_option maxRecDepth 20000
open Go.RowKit
attribute [local simp] wpAft_ret wpAft_pan wantD evOp opD tmOf putS updS setS hOf isFree isTok fillD TK.isAgg TK.known partD thenD blockD putAll D.ofV inB nilTest isNilS binX binD binE isCst bndD capB IntKind.min IntKind.max IntKind.signed IntKind.bits dstOf late
theorem pack_ok {t : T} (h : PackT t) : okT t := by
  induction h with
  | @mk t hp hk ih =>
    obtain ⟨k, n, a, ls, ks⟩ := t
    obtain ⟨h1, h2, hn, ha, -, -, hls, -, hlv, hks⟩ := hp
    simp only [T.k_mk, T.n_mk, T.a_mk, T.ls_mk, T.ks_mk] at *
    have hkl := hKids_le (k := k) ha
    refine .mk (by unfold I64; omega) (by unfold I64; have := hn.1; have := hn.2; omega) (by unfold I64; have := ha.1; have := ha.2; omega) (by unfold LMax; omega) (fun l hl => ?_) (by unfold LMax; omega) ih
    obtain ⟨q1, q2⟩ := hlv l hl
    refine ⟨by unfold LMax; omega, fun p hp => ?_⟩
    have := q2 p hp
    unfold smallI at this
    unfold I64
    omega
theorem right_ok {t : T} (h : t.right = true) : okT t := pack_ok (right_pack h).1
theorem zeroTm_ok : okT zeroTm := .mk (by unfold I64; omega) (by unfold I64; omega) (by unfold I64; omega) (by simp) (fun _ h => nomatch h) (by simp) (fun _ h => nomatch h)
theorem termsOk_ok {most : Int} {l : List T} (hm : most ≤ 16) (h : termsOk most l = true) : l.length ≤ LMax ∧ ∀ t, t ∈ l → okT t := by
  unfold termsOk at h
  rw [Bool.and_eq_true, decide_eq_true_eq, List.all_eq_true] at h
  exact ⟨by unfold LMax; omega, fun t ht => right_ok (h.2 t ht)⟩
theorem zeroDe_ok : okDe zeroDe := ⟨by simp [I64, zeroDe], by simp [I64, zeroDe], zeroTm_ok, zeroTm_ok, by simp [zeroDe], (fun _ h => nomatch h), by simp [zeroDe], by simp [zeroDe], (fun _ h => nomatch h), by simp [zeroDe], fun _ h => nomatch h⟩
theorem right_okDe {d : De} (h : rightDe d = true) : okDe d := by
  obtain ⟨kd, lv, ty, bo, ps, so, ms, cs⟩ := d
  unfold rightDe at h
  rw [Bool.and_eq_true, Bool.and_eq_true, decide_eq_true_eq, decide_eq_true_eq] at h
  obtain ⟨⟨h0, h1⟩, h⟩ := h
  dsimp only at h0 h1 h
  by_cases k3 : kd = 3
  · rw [if_pos k3] at h
    unfold blockOk at h
    simp only [Bool.and_eq_true, decide_eq_true_eq, List.all_eq_true] at h
    obtain ⟨⟨⟨⟨⟨ht, hb⟩, hps⟩, ⟨⟨⟨hso, _⟩, hm⟩, hc⟩⟩, hms⟩, hcs⟩ := h
    have e1 := bareT_eq ht
    have e2 := bareT_eq hb
    subst e1
    subst e2
    obtain ⟨p1, p2⟩ := termsOk_ok (by omega) hps
    refine ⟨by unfold I64; dsimp only; omega, by unfold I64; dsimp only; omega, zeroTm_ok, zeroTm_ok, p1, p2, ?_, by unfold LMax; dsimp only; omega, fun r hr => termsOk_ok (by omega) (hms r hr), by unfold LMax; dsimp only; omega, fun c hc' => ?_⟩
    · have := (levelRight_ok hso).1
      unfold LMax
      dsimp only
      omega
    · have q := hcs c hc'
      exact ⟨by unfold I64; omega, right_ok q.2⟩
  · rw [if_neg k3] at h
    simp only [Bool.and_eq_true, Bool.or_eq_true, decide_eq_true_eq] at h
    obtain ⟨⟨⟨hz, hk⟩, ht⟩, hb⟩ := h
    have e1 : ps = [] := List.length_eq_zero_iff.1 (by omega)
    have e2 : so = [] := List.length_eq_zero_iff.1 (by omega)
    have e3 : ms = [] := List.length_eq_zero_iff.1 (by omega)
    have e4 : cs = [] := List.length_eq_zero_iff.1 (by omega)
    subst e1 e2 e3 e4
    have hbo : okT bo := by
      by_cases k1 : kd = 1
      · rw [if_pos k1] at hb; rw [bareT_eq hb]; exact zeroTm_ok
      · rw [if_neg k1] at hb; exact right_ok hb
    exact ⟨by unfold I64; dsimp only; omega, by unfold I64; dsimp only; omega, right_ok ht, hbo, by simp, (fun _ h => nomatch h), by simp, by simp, (fun _ h => nomatch h), by simp, fun _ h => nomatch h⟩
theorem membersOf_gen (l : List (List T)) (q : Int) (step : List T → Int → Int) (hl : l.length ≤ LMax) (hst : ∀ x s, step x s = IntKind.i64.wrap (IntKind.i64.wrap (s + 1) + T.tofs x 0 q)) (hg : ∀ x, x ∈ l → (x.length ≤ LMax ∧ ∀ t, t ∈ x → okT t)) :
    Spec Tryd.prog glob 45 [.slice (l.map encMb) .any, .int .i64 q] [] (fun o _ => o.fgt = .ret (.int .i64 (cntF step q l 0))) := by
  obtain ⟨R, hR⟩ : ∃ R, R = cntF step q l 0 := ⟨_, rfl⟩
  rw [← hR]
  have hl0 := hl
  unfold LMax at hl0
  refine Spec.movd globPure (wpD_spec tyOK Tryd.func45 rfl (enters _ _ Tryd.func45 rfl (by decide)) rfl rfl ?_)
  (refine wpD_seqk fun K hK => ?_; refine wpD_region tyOK ?_; ((repeat (rw [wpS_cons]; simp)); (try simp only [wpS_nil, thenD, blockD])); refine hK _ _ _ ?_; clear hK K)
  (refine wpD_seqk fun K hK => ?_; refine wpD_region tyOK ?_; ((repeat (rw [wpS_cons]; simp)); (try simp only [wpS_nil, thenD, blockD])); refine hK _ _ _ ?_; clear hK K)
  refine wpD_seqk fun K1 hK1 => ?_
  (refine wpD_seqk fun K hK => ?_; refine wpD_region tyOK ?_; ((repeat (rw [wpS_cons]; simp)); (try simp only [wpS_nil, thenD, blockD])); refine hK _ _ _ ?_; clear hK K)
  refine wpD_block ?_
  refine wpD_loopWJ [7, 8, 9, 10, 11, 12, 13, 14, 15, 16, 17, 18, 19, 20, 21, 22, 23, 24, 25, 26, 27] [5, 6] (fun n ys hl => ∃ (k : Nat) (s : Int), ys = [.int .i64 s, .int .i64 k] ∧ n + k = l.length ∧ R = cntF step q (l.drop k) s ∧ hl = []) (l.length) (by kernel_rfl) ?_ ?_
  · exact ⟨0, 0, rfl, rfl, hR, rfl⟩
  · rintro n ys hl A hA ⟨i, s, rfl, hn, hF, rfl⟩
    simp only [putAll, List.set, List.map_cons, List.map_nil, List.cons_append, List.nil_append]
    refine wpD_seqk fun K2 hK2 => ?_
    by_cases hi : i < l.length
    · have hi' : (i : Int) < l.length := by omega
      by_cases hs : s ≤ q
      · (refine wpD_seqk fun K hK => ?_; refine wpD_region tyOK ?_; ((repeat (rw [wpS_cons]; simp [hi, hi', hs])); (try simp only [wpS_nil, thenD, blockD])); refine hK _ _ _ ?_; clear hK K)
        refine wpD_part rfl (fun _ => ?_) (fun h => by simp at h)
        refine wpD_skip (hK2 _ _ _ ?_)
        clear hK2 K2
        refine wpD_seqk fun K3 hK3 => ?_
        refine wpD_block ?_
        rw [List.drop_eq_getElem_cons hi, cntF, if_pos hs] at hF
        have hrec := hg l[i] (List.getElem_mem hi)
        obtain ⟨x, hx⟩ : ∃ x, l[i] = x := ⟨_, rfl⟩
        rw [hx] at hrec hF
        rw [hst] at hF
        have h1 := tofs_spec x q hrec.1 hrec.2
        have hEx : encMb x = .agg [.slice (x.map encT) .any] := rfl
        generalize T.tofs x 0 q = v1 at h1 hF
        (refine wpD_region tyOK ?_; ((repeat (rw [wpS_cons]; simp [hi, hi', hx, hEx])); (try simp only [wpS_nil, thenD, blockD])))
        refine cXp (h1) ?_
        ((try simp only [wpAft_ret, wpAft_pan, putS, updS, setS]); (repeat (rw [wpS_cons]; simp)); (try simp only [wpS_nil, thenD, blockD]))
        refine hK3 _ _ _ ?_
        clear hK3 K3
        have hw1 : IntKind.i64.wrap ((i : Int) + 1) = (i : Int) + 1 := i64w (by omega) (by omega)
        (refine wpD_region tyOK ?_; ((repeat (rw [wpS_cons]; simp [hw1])); (try simp only [wpS_nil, thenD, blockD])))
        refine hA (n - 1) _ _ _ (LeT.refl _) (by omega) (by kernel_rfl) ?_
        exact ⟨i + 1, _, rfl, by omega, hF, rfl⟩
      · (refine wpD_seqk fun K hK => ?_; refine wpD_region tyOK ?_; ((repeat (rw [wpS_cons]; simp [hi, hi', hs])); (try simp only [wpS_nil, thenD, blockD])); refine hK _ _ _ ?_; clear hK K)
        refine wpD_part rfl (fun h => by simp at h) (fun _ => ?_)
        refine wpD_exit ?_
        refine hK1 _ _ _ ?_
        rw [List.drop_eq_getElem_cons hi, cntF, if_neg hs] at hF
        subst hF
        (refine wpD_seqk fun K hK => ?_; refine wpD_region tyOK ?_; ((repeat (rw [wpS_cons]; simp)); (try simp only [wpS_nil, thenD, blockD])); refine hK _ _ _ ?_; clear hK K)
        (refine wpD_ret ?_; (try simp only [thenD, blockD]); refine EndQ.ret rfl (.inl ?_); simp [tmOf, Out.fgt, D.fgt, D.fgts])
    · have hi' : ¬ (i : Int) < l.length := by omega
      (refine wpD_seqk fun K hK => ?_; refine wpD_region tyOK ?_; ((repeat (rw [wpS_cons]; simp [hi, hi'])); (try simp only [wpS_nil, thenD, blockD])); refine hK _ _ _ ?_; clear hK K)
      refine wpD_part rfl (fun h => by simp at h) (fun _ => ?_)
      refine wpD_exit ?_
      refine hK1 _ _ _ ?_
      rw [List.drop_of_length_le (by omega), cntF] at hF
      subst hF
      (refine wpD_seqk fun K hK => ?_; refine wpD_region tyOK ?_; ((repeat (rw [wpS_cons]; simp)); (try simp only [wpS_nil, thenD, blockD])); refine hK _ _ _ ?_; clear hK K)
      (refine wpD_ret ?_; (try simp only [thenD, blockD]); refine EndQ.ret rfl (.inl ?_); simp [tmOf, Out.fgt, D.fgt, D.fgts])
theorem ctorsOf_gen (l : List (Int × T)) (q : Int) (step : Int × T → Int → Int) (hl : l.length ≤ LMax) (hst : ∀ x s, step x s = IntKind.i64.wrap (IntKind.i64.wrap (s + 1) + x.2.tof q)) (hg : ∀ x, x ∈ l → okT x.2) :
    Spec Tryd.prog glob 46 [.slice (l.map encCt) .any, .int .i64 q] [] (fun o _ => o.fgt = .ret (.int .i64 (cntF step q l 0))) := by
  obtain ⟨R, hR⟩ : ∃ R, R = cntF step q l 0 := ⟨_, rfl⟩
  rw [← hR]
  have hl0 := hl
  unfold LMax at hl0
  refine Spec.movd globPure (wpD_spec tyOK Tryd.func46 rfl (enters _ _ Tryd.func46 rfl (by decide)) rfl rfl ?_)
  (refine wpD_seqk fun K hK => ?_; refine wpD_region tyOK ?_; ((repeat (rw [wpS_cons]; simp)); (try simp only [wpS_nil, thenD, blockD])); refine hK _ _ _ ?_; clear hK K)
  (refine wpD_seqk fun K hK => ?_; refine wpD_region tyOK ?_; ((repeat (rw [wpS_cons]; simp)); (try simp only [wpS_nil, thenD, blockD])); refine hK _ _ _ ?_; clear hK K)
  refine wpD_seqk fun K1 hK1 => ?_
  (refine wpD_seqk fun K hK => ?_; refine wpD_region tyOK ?_; ((repeat (rw [wpS_cons]; simp)); (try simp only [wpS_nil, thenD, blockD])); refine hK _ _ _ ?_; clear hK K)
  refine wpD_block ?_
  refine wpD_loopWJ [7, 8, 9, 10, 11, 12, 13, 14, 15, 16, 17, 18, 19, 20, 21, 22, 23, 24, 25, 26, 27] [5, 6] (fun n ys hl => ∃ (k : Nat) (s : Int), ys = [.int .i64 s, .int .i64 k] ∧ n + k = l.length ∧ R = cntF step q (l.drop k) s ∧ hl = []) (l.length) (by kernel_rfl) ?_ ?_
  · exact ⟨0, 0, rfl, rfl, hR, rfl⟩
  · rintro n ys hl A hA ⟨i, s, rfl, hn, hF, rfl⟩
    simp only [putAll, List.set, List.map_cons, List.map_nil, List.cons_append, List.nil_append]
    refine wpD_seqk fun K2 hK2 => ?_
    by_cases hi : i < l.length
    · have hi' : (i : Int) < l.length := by omega
      by_cases hs : s ≤ q
      · (refine wpD_seqk fun K hK => ?_; refine wpD_region tyOK ?_; ((repeat (rw [wpS_cons]; simp [hi, hi', hs])); (try simp only [wpS_nil, thenD, blockD])); refine hK _ _ _ ?_; clear hK K)
        refine wpD_part rfl (fun _ => ?_) (fun h => by simp at h)
        refine wpD_skip (hK2 _ _ _ ?_)
        clear hK2 K2
        refine wpD_seqk fun K3 hK3 => ?_
        refine wpD_block ?_
        rw [List.drop_eq_getElem_cons hi, cntF, if_pos hs] at hF
        have hrec := hg l[i] (List.getElem_mem hi)
        obtain ⟨x, hx⟩ : ∃ x, l[i] = x := ⟨_, rfl⟩
        rw [hx] at hrec hF
        rw [hst] at hF
        have h1 := tof_spec x.2 q hrec
        rw [encT_eq x.2] at h1
        have hEx : encCt x = .agg [.int .i64 x.1, .int .i64 x.2.k, .int .i64 x.2.n, .int .i64 x.2.a, .slice (x.2.ls.map encL) .any, .slice (x.2.ks.map encT) .any] := rfl
        generalize x.2.tof q = v1 at h1 hF
        (refine wpD_region tyOK ?_; ((repeat (rw [wpS_cons]; simp [hi, hi', hx, hEx])); (try simp only [wpS_nil, thenD, blockD])))
        refine cXp (h1) ?_
        ((try simp only [wpAft_ret, wpAft_pan, putS, updS, setS]); (repeat (rw [wpS_cons]; simp)); (try simp only [wpS_nil, thenD, blockD]))
        refine hK3 _ _ _ ?_
        clear hK3 K3
        have hw1 : IntKind.i64.wrap ((i : Int) + 1) = (i : Int) + 1 := i64w (by omega) (by omega)
        (refine wpD_region tyOK ?_; ((repeat (rw [wpS_cons]; simp [hw1])); (try simp only [wpS_nil, thenD, blockD])))
        refine hA (n - 1) _ _ _ (LeT.refl _) (by omega) (by kernel_rfl) ?_
        exact ⟨i + 1, _, rfl, by omega, hF, rfl⟩
      · (refine wpD_seqk fun K hK => ?_; refine wpD_region tyOK ?_; ((repeat (rw [wpS_cons]; simp [hi, hi', hs])); (try simp only [wpS_nil, thenD, blockD])); refine hK _ _ _ ?_; clear hK K)
        refine wpD_part rfl (fun h => by simp at h) (fun _ => ?_)
        refine wpD_exit ?_
        refine hK1 _ _ _ ?_
        rw [List.drop_eq_getElem_cons hi, cntF, if_neg hs] at hF
        subst hF
        (refine wpD_seqk fun K hK => ?_; refine wpD_region tyOK ?_; ((repeat (rw [wpS_cons]; simp)); (try simp only [wpS_nil, thenD, blockD])); refine hK _ _ _ ?_; clear hK K)
        (refine wpD_ret ?_; (try simp only [thenD, blockD]); refine EndQ.ret rfl (.inl ?_); simp [tmOf, Out.fgt, D.fgt, D.fgts])
    · have hi' : ¬ (i : Int) < l.length := by omega
      (refine wpD_seqk fun K hK => ?_; refine wpD_region tyOK ?_; ((repeat (rw [wpS_cons]; simp [hi, hi'])); (try simp only [wpS_nil, thenD, blockD])); refine hK _ _ _ ?_; clear hK K)
      refine wpD_part rfl (fun h => by simp at h) (fun _ => ?_)
      refine wpD_exit ?_
      refine hK1 _ _ _ ?_
      rw [List.drop_of_length_le (by omega), cntF] at hF
      subst hF
      (refine wpD_seqk fun K hK => ?_; refine wpD_region tyOK ?_; ((repeat (rw [wpS_cons]; simp)); (try simp only [wpS_nil, thenD, blockD])); refine hK _ _ _ ?_; clear hK K)
      (refine wpD_ret ?_; (try simp only [thenD, blockD]); refine EndQ.ret rfl (.inl ?_); simp [tmOf, Out.fgt, D.fgt, D.fgts])
def mbSt (q : Int) (x : List T) (s : Int) : Int := IntKind.i64.wrap (IntKind.i64.wrap (s + 1) + T.tofs x 0 q)
def ctSt (q : Int) (x : Int × T) (s : Int) : Int := IntKind.i64.wrap (IntKind.i64.wrap (s + 1) + x.2.tof q)
def deN (q : Int) (d : De) : Int := IntKind.i64.wrap (IntKind.i64.wrap (IntKind.i64.wrap (IntKind.i64.wrap (IntKind.i64.wrap (IntKind.i64.wrap (1 + d.ty.tof q) + d.bo.tof q) + T.tofs d.ps 0 q) + lvOf q d.so) + cntF (mbSt q) q d.ms 0) + cntF (ctSt q) q d.cs 0)
theorem declOf_spec (d : De) (q : Int) (h : okDe d) : Spec Tryd.prog glob 17 [encDe d, .int .i64 q] [] (fun o _ => o.fgt = .ret (.int .i64 (deN q d))) := by
  have h1 := tof_spec d.ty q h.ty
  have h2 := tof_spec d.bo q h.bo
  have h3 := tofs_spec d.ps q h.psl h.ps
  have h4 := lvOf_spec d.so q
  have h5 := membersOf_gen d.ms q (mbSt q) h.msl (fun _ _ => rfl) h.ms
  have h6 := ctorsOf_gen d.cs q (ctSt q) h.csl (fun _ _ => rfl) fun x hx => (h.cs x hx).2
  rw [encT_eq d.ty] at h1
  rw [encT_eq d.bo] at h2
  rw [encL_eq] at h4
  unfold deN
  generalize d.ty.tof q = v1 at h1 ⊢
  generalize d.bo.tof q = v2 at h2 ⊢
  generalize T.tofs d.ps 0 q = v3 at h3 ⊢
  generalize lvOf q d.so = v4 at h4 ⊢
  generalize cntF (mbSt q) q d.ms 0 = v5 at h5 ⊢
  generalize cntF (ctSt q) q d.cs 0 = v6 at h6 ⊢
  unfold encDe decL
  refine Spec.movd globPure (wpD_spec tyOK Tryd.func17 rfl (enters _ _ Tryd.func17 rfl (by decide)) rfl rfl ?_)
  (refine wpD_seqk fun K hK => ?_; refine wpD_region tyOK ?_; ((repeat (rw [wpS_cons]; simp)); (try simp only [wpS_nil, thenD, blockD])); refine hK _ _ _ ?_; clear hK K)
  (refine wpD_seqk fun K hK => ?_; refine wpD_drawk tyOK (by kernel_rfl) (by kernel_rfl) fun KT hKT => ?_; ((repeat (rw [wpT_cons]; simp)); (try simp only [wpT_nil])))
  refine cYp (h1) ?_
  ((try simp only [wpAftT_ret, wpAftT_pan, putS, updS, setS]); (repeat (rw [wpT_cons]; simp)); (try simp only [wpT_nil]))
  refine cYp (h2) ?_
  ((try simp only [wpAftT_ret, wpAftT_pan, putS, updS, setS]); (repeat (rw [wpT_cons]; simp)); (try simp only [wpT_nil]))
  refine cYp (h3) ?_
  ((try simp only [wpAftT_ret, wpAftT_pan, putS, updS, setS]); (repeat (rw [wpT_cons]; simp)); (try simp only [wpT_nil]))
  refine cYp (h4) ?_
  ((try simp only [wpAftT_ret, wpAftT_pan, putS, updS, setS]); (repeat (rw [wpT_cons]; simp)); (try simp only [wpT_nil]))
  refine cYp (h5) ?_
  ((try simp only [wpAftT_ret, wpAftT_pan, putS, updS, setS]); (repeat (rw [wpT_cons]; simp)); (try simp only [wpT_nil]))
  refine cYp (h6) ?_
  ((try simp only [wpAftT_ret, wpAftT_pan, putS, updS, setS]); (repeat (rw [wpT_cons]; simp)); (try simp only [wpT_nil]))
  (refine hKT _ _ _ _ (by kernel_rfl) ?_; clear hKT KT; (try simp only [thenD, blockD]))
  (refine hK _ _ _ ?_; clear hK K)
  (refine wpD_ret ?_; (try simp only [thenD, blockD]); refine EndQ.ret rfl (.inl ?_); simp [tmOf, Out.fgt, D.fgt, D.fgts])
end Go.Proofs.YtgloldepdhgfaaaDoor
namespace Go.Proofs.YtgloldepdhgfaaaDoor
set_option linter.unusedSimpArgs false
set_option linter.unusedVariables false
open Go.RowKit
theorem timesR_all {α σ : Type} {f : σ → Option (α × σ)} (Q : σ → Prop) (P : α → Prop) (hf : ∀ st x st', Q st → f st = some (x, st') → P x ∧ Q st') : ∀ (n : Nat) (st : σ) (l : List α) (st' : σ), Q st → timesR f n st = some (l, st') → l.length = n ∧ (∀ x, x ∈ l → P x) ∧ Q st'
  | 0, st, l, st', h0, h => by cases h; exact ⟨rfl, (fun _ h => nomatch h), h0⟩
  | n + 1, st, l, st', h0, h => by
    rw [timesR] at h
    split at h
    · cases h
    · rename_i x s1 hx
      obtain ⟨h1, h2⟩ := hf _ _ _ h0 hx
      split at h
      · cases h
      · rename_i l2 s2 hl
        obtain ⟨a, b, c⟩ := timesR_all Q P hf n s1 l2 s2 h2 hl
        cases h
        refine ⟨by simp [a], fun y hy => ?_, c⟩
        rcases List.mem_cons.1 hy with rfl | hy
        · exact h1
        · exact b y hy
theorem levelR_okL {s r : List Int} {l : LV} (hs : bytesOk s) (h : levelR s = some (l, r)) : okL l ∧ bytesOk r := by
  obtain ⟨⟨h1, h2⟩, h3⟩ := levelR_got s l r hs h
  refine ⟨⟨by unfold LMax; omega, fun p hp => ?_⟩, bytes_left hs h3⟩
  have := h2 p hp
  unfold smallI at this
  unfold I64
  omega
theorem mayR_i64 {c : Bool} {most d v : Int} {s r : List Int} (hm : most ≤ 1048576) (hs : bytesOk s) (hd : 0 ≤ d ∧ d ≤ most) (h : mayR c most d s = some (v, r)) : (0 ≤ v ∧ v ≤ most) ∧ bytesOk r := by
  unfold mayR at h
  cases c with
  | true => obtain ⟨a, b, e⟩ := numR_got hs h; exact ⟨⟨a, b⟩, bytes_left hs e⟩
  | false => cases h; exact ⟨hd, hs⟩
theorem nodeR_okT : ∀ (d : Nat) (st : NS) (t : T) (st' : NS), bytesOk st.2 → nodeR d st = some (t, st') → okT t ∧ bytesOk st'.2
  | 0, st, t, st', h0, h => by cases h
  | d + 1, (nd, s), t, st', h0, h => by
    rw [nodeR] at h
    split at h
    · cases h
    split at h
    · cases h
    rename_i k s1 hk
    obtain ⟨k0, k1, e1⟩ := numR_got h0 hk
    have b1 := bytes_left h0 e1
    split at h
    · cases h
    split at h
    · cases h
    rename_i n s2 hn
    obtain ⟨n0, b2⟩ := mayR_i64 (by omega) b1 (by omega) hn
    split at h
    · cases h
    rename_i a s3 ha
    obtain ⟨a0, b3⟩ := mayR_i64 (by omega) b2 (by omega) ha
    split at h
    · cases h
    rename_i q s4 hq
    obtain ⟨q0, b4⟩ := mayR_i64 (by omega) b3 (by split <;> omega) hq
    split at h
    · cases h
    rename_i ls s5 hls
    obtain ⟨l1, l2, b5⟩ := timesR_all (fun s => bytesOk s) okL (fun st x st' a b => levelR_okL a b) _ _ _ _ b4 hls
    split at h
    · cases h
    rename_i ks st2 hks
    obtain ⟨t1, t2, b6⟩ := timesR_all (fun (st : NS) => bytesOk st.2) okT (fun st x st' a b => nodeR_okT d st x st' a b) _ _ _ _ b5 hks
    have hkl := hKids_le (k := k) (a := a) a0
    cases h
    refine ⟨.mk (by unfold I64; omega) (by unfold I64; omega) (by unfold I64; omega) (by rw [l1]; unfold LMax; omega) l2 (by rw [t1]; unfold LMax; omega) t2, b6⟩
theorem ctorN_ok {st st' : NS} {c : Int × T} (hs : bytesOk st.2) (h : ctorN st = some (c, st')) : (I64 c.1 ∧ okT c.2) ∧ bytesOk st'.2 := by
  unfold ctorN at h
  split at h
  · cases h
  rename_i m s1 hm
  obtain ⟨m0, m1, e1⟩ := numR_got hs hm
  split at h
  · cases h
  rename_i t st2 ht
  obtain ⟨nd2, s2⟩ := st2
  obtain ⟨a, b⟩ := termN_got (bytes_left hs e1) ht
  cases h
  exact ⟨⟨by unfold I64; dsimp only; omega, right_ok a⟩, b⟩
theorem blockN_ok {kd lv : Int} {st st' : NS} {d : De} (hk : I64 kd) (hlv : I64 lv) (hs : bytesOk st.2) (h : blockN kd lv st = some (d, st')) : okDe d ∧ bytesOk st'.2 := by
  unfold blockN at h
  split at h
  · cases h
  rename_i ps st1 h1
  obtain ⟨nd1, s1⟩ := st1
  obtain ⟨nd, s⟩ := st
  obtain ⟨a1, b1⟩ := rowN_got hs h1
  obtain ⟨p1, p2⟩ := termsOk_ok (by omega) a1
  split at h
  · cases h
  rename_i so s2 h2
  obtain ⟨⟨a2, -⟩, b2⟩ := levelR_okL b1 h2
  split at h
  · cases h
  rename_i m s3 h3
  obtain ⟨m0, m1, e3⟩ := numR_got b2 h3
  have b3 := bytes_left b2 e3
  split at h
  · cases h
  rename_i ms st4 h4
  obtain ⟨c1, c2, b4⟩ := timesR_all (fun (st : NS) => bytesOk st.2) (fun r => r.length ≤ LMax ∧ ∀ t, t ∈ r → okT t) (fun st x st' a b => by
    obtain ⟨x1, x2⟩ := st
    obtain ⟨y1, y2⟩ := st'
    obtain ⟨u, v⟩ := rowN_got a b
    exact ⟨termsOk_ok (by omega) u, v⟩) _ _ _ _ b3 h4
  split at h
  · cases h
  rename_i q s5 h5
  obtain ⟨q0, q1, e5⟩ := numR_got b4 h5
  have b5 := bytes_left b4 e5
  split at h
  · cases h
  rename_i cs st6 h6
  obtain ⟨d1, d2, b6⟩ := timesR_all (fun (st : NS) => bytesOk st.2) (fun c => I64 c.1 ∧ okT c.2) (fun st x st' a b => ctorN_ok a b) _ _ _ _ b5 h6
  cases h
  exact ⟨⟨hk, hlv, zeroTm_ok, zeroTm_ok, p1, p2, a2, by dsimp only; rw [c1]; unfold LMax; omega, c2, by dsimp only; rw [d1]; unfold LMax; omega, d2⟩, b6⟩
end Go.Proofs.YtgloldepdhgfaaaDoor
namespace Go.Proofs.YtgloldepdhgfaaaDoor
set_option linter.unusedSimpArgs false
set_option linter.unusedVariables false
set_option linter.unusedSimpArgs false
set_option linter.unusedVariables false
set_option maxHeartbeats 10000000
set_option maxRecDepth 20000
open Go.RowKit
attribute [local simp] wpAft_ret wpAft_pan wantD evOp opD tmOf putS updS setS hOf isFree isTok fillD TK.isAgg TK.known partD thenD blockD putAll D.ofV inB nilTest isNilS binX binD binE isCst bndD capB IntKind.min IntKind.max IntKind.signed IntKind.bits dstOf late
theorem termsOk_pack {most : Int} {l : List T} (hm : most ≤ 16) (h : termsOk most l = true) : l.length ≤ 16 ∧ ∀ t, t ∈ l → PackT t := by
  unfold termsOk at h
  rw [Bool.and_eq_true, decide_eq_true_eq, List.all_eq_true] at h
  exact ⟨by omega, fun t ht => (right_pack (h.2 t ht)).1⟩
theorem rightDe_cases {d : De} (hr : rightDe d = true) : (0 ≤ d.lv ∧ d.lv ≤ 8) ∧ ((d.kd = 1 ∧ PackT d.ty) ∨ (d.kd = 2 ∧ PackT d.ty ∧ PackT d.bo) ∨ (d.kd = 3 ∧ (d.ps.length ≤ 16 ∧ ∀ t, t ∈ d.ps → PackT t) ∧ levOk d.so ∧ d.ms.length ≤ 8 ∧ (∀ r, r ∈ d.ms → r.length ≤ 16 ∧ ∀ t, t ∈ r → PackT t) ∧ d.cs.length ≤ 16 ∧ ∀ c, c ∈ d.cs → smallI c.1 ∧ PackT c.2)) := by
  unfold rightDe at hr
  rw [Bool.and_eq_true, Bool.and_eq_true, decide_eq_true_eq, decide_eq_true_eq] at hr
  obtain ⟨h0, h⟩ := hr
  refine ⟨h0, ?_⟩
  by_cases k3 : d.kd = 3
  · rw [if_pos k3] at h
    unfold blockOk at h
    simp only [Bool.and_eq_true, decide_eq_true_eq, List.all_eq_true] at h
    obtain ⟨⟨⟨⟨_, hps⟩, ⟨⟨⟨hso, _⟩, hm⟩, hc⟩⟩, hms⟩, hcs⟩ := h
    exact .inr (.inr ⟨k3, termsOk_pack (by omega) hps, levelRight_ok hso, hm, fun r hr => termsOk_pack (by omega) (hms r hr), hc, fun c hc' => ⟨⟨(hcs c hc').1.1, by have := (hcs c hc').1.2; omega⟩, (right_pack (hcs c hc').2).1⟩⟩)
  · rw [if_neg k3] at h
    simp only [Bool.and_eq_true, Bool.or_eq_true, decide_eq_true_eq] at h
    obtain ⟨⟨⟨_, hk⟩, ht⟩, hb⟩ := h
    by_cases k1 : d.kd = 1
    · exact .inl ⟨k1, (right_pack ht).1⟩
    · rw [if_neg k1] at hb
      exact .inr (.inl ⟨by omega, (right_pack ht).1, (right_pack hb).1⟩)
theorem num2 (a b : Int) : ([a, b].flatMap numI) = numB a.toNat ++ numB b.toNat := by unfold numI; simp
theorem num1 (n : Nat) : ([(n : Int)].flatMap numI) = numB n := by unfold numI; simp
theorem num1' (n : Int) : ([n].flatMap numI) = numB n.toNat := by unfold numI; simp
theorem wdecl_1 (d : De) (h : okDe d) (hr : rightDe d = true) (hlv : 0 ≤ d.lv ∧ d.lv ≤ 8) (hk : d.kd = 1) (ht : PackT d.ty) (B : List Int) (hB : (B ++ declB d).length ≤ LMax) :
    Spec Tryd.prog glob 28 [.box 0 0, encDe d] (WO B) (fun o hc => o = .ret (.tuple []) ∧ hc = WP (B ++ declB d)) := by
  have c0 := pright_spec d h
  rw [hr, pkOut_t] at c0
  have hD : declB d = numB d.kd.toNat ++ numB d.lv.toNat ++ (termB d.ty) := by unfold declB; rw [if_pos hk]; simp only [List.append_assoc]
  rw [hD, ← List.append_assoc] at hB ⊢
  have c1 := wput_spec [d.kd, d.lv] (by simp) (by intro n hn; simp at hn; rcases hn with rfl | rfl; exact ⟨by omega, by omega⟩; exact ⟨by omega, by omega⟩) B (by rw [num2]; refine Nat.le_trans ?_ hB; simp only [List.length_append]; omega)
  rw [num2] at c1
  obtain ⟨B1, hB1⟩ : ∃ B1, B1 = B ++ (numB d.kd.toNat ++ numB d.lv.toNat) := ⟨_, rfl⟩
  rw [← hB1] at c1 hB ⊢
  have hE1 := encT_eq d.ty
  have hE2 := encT_eq d.bo
  unfold encDe decL at c0
  unfold Ints WO WP at c1
  unfold encDe decL WO WP
  simp only [List.map_cons, List.map_nil] at c1
  have c2 := wterm_spec ht B1 hB
  rw [hE1] at c2
  unfold WO WP at c2
  refine Spec.movd globPure (wpD_spec tyOK Tryd.func28 rfl (enters _ _ Tryd.func28 rfl (by decide)) rfl rfl ?_)
  (refine wpD_seqk fun K hK => ?_; refine wpD_region tyOK ?_; ((repeat (rw [wpS_cons]; simp)); (try simp only [wpS_nil, thenD, blockD])); refine hK _ _ _ ?_; clear hK K)
  (refine wpD_seqk fun K hK => ?_; refine wpD_region tyOK ?_; ((repeat (rw [wpS_cons]; simp)); (try simp only [wpS_nil, thenD, blockD])))
  refine cXp (c0) ?_
  ((try simp only [wpAft_ret, wpAft_pan, putS, updS, setS]); (repeat (rw [wpS_cons]; simp)); (try simp only [wpS_nil, thenD, blockD]))
  (refine hK _ _ _ ?_; clear hK K)
  (refine wpD_seqk fun K hK => ?_; refine wpD_region tyOK ?_; ((repeat (rw [wpS_cons]; simp)); (try simp only [wpS_nil, thenD, blockD])))
  refine cXo [0, 1] true (c1) ?_
  (rintro o hc ⟨rfl, rfl⟩; refine ⟨false, ?_⟩; simp [D.ren, D.rens, D.okN, D.okNs, Cp.ren, Cp.okN, HO.ren, HO.okN, okA, renA, renO, hOf, handed, D.fgt, D.fgts, List.range_succ, List.idxOf_cons, Out.ren, told, Out.fgt, upO, updS, setS])
  (refine hK _ _ _ ?_; clear hK K)
  (refine wpD_seqk fun K hK => ?_; refine wpD_region tyOK ?_; ((repeat (rw [wpS_cons]; simp)); (try simp only [wpS_nil, thenD, blockD])); refine hK _ _ _ ?_; clear hK K)
  refine wpD_block ?_
  (refine wpD_seqk fun K hK => ?_; refine wpD_region tyOK ?_; ((repeat (rw [wpS_cons]; simp [hk])); (try simp only [wpS_nil, thenD, blockD])); refine hK _ _ _ ?_; clear hK K)
  refine wpD_part rfl (fun _ => ?_) (fun h => by simp at h)
  (refine wpD_region tyOK ?_; ((repeat (rw [wpS_cons]; simp)); (try simp only [wpS_nil, thenD, blockD])))
  refine cXo [0, 3] true (c2) ?_
  (rintro o hc ⟨rfl, rfl⟩; refine ⟨false, ?_⟩; simp [D.ren, D.rens, D.okN, D.okNs, Cp.ren, Cp.okN, HO.ren, HO.okN, okA, renA, renO, hOf, handed, D.fgt, D.fgts, List.range_succ, List.idxOf_cons, Out.ren, told, Out.fgt, upO, updS, setS])
  ((try simp only [wpAft_ret, wpAft_pan, putS, updS, setS]); (repeat (rw [wpS_cons]; simp)); (try simp only [wpS_nil, thenD, blockD]))
  ((try simp only [thenD, blockD]); refine EndQ.nrm rfl (.inr ⟨[4], by decide, by simp, ?_⟩); simp [Out.mov, movT, movH, movD, D.mov, HO.mov, okM, renM, getW, D.ren, D.rens, D.okN, D.okNs, Cp.ren, Cp.okN, HO.ren, HO.okN, okA, renA, renO, hOf, handed, D.fgt, D.fgts, List.range_succ, List.idxOf_cons, tmOf, Out.fgt, D.fgt, D.fgts])
theorem wdecl_2 (d : De) (h : okDe d) (hr : rightDe d = true) (hlv : 0 ≤ d.lv ∧ d.lv ≤ 8) (hk : d.kd = 2) (ht : PackT d.ty) (hb : PackT d.bo) (B : List Int) (hB : (B ++ declB d).length ≤ LMax) :
    Spec Tryd.prog glob 28 [.box 0 0, encDe d] (WO B) (fun o hc => o = .ret (.tuple []) ∧ hc = WP (B ++ declB d)) := by
  have c0 := pright_spec d h
  rw [hr, pkOut_t] at c0
  have hD : declB d = numB d.kd.toNat ++ numB d.lv.toNat ++ (termB d.ty ++ termB d.bo) := by unfold declB; rw [if_neg (by omega), if_pos hk]; simp only [List.append_assoc]
  rw [hD, ← List.append_assoc] at hB ⊢
  have c1 := wput_spec [d.kd, d.lv] (by simp) (by intro n hn; simp at hn; rcases hn with rfl | rfl; exact ⟨by omega, by omega⟩; exact ⟨by omega, by omega⟩) B (by rw [num2]; refine Nat.le_trans ?_ hB; simp only [List.length_append]; omega)
  rw [num2] at c1
  obtain ⟨B1, hB1⟩ : ∃ B1, B1 = B ++ (numB d.kd.toNat ++ numB d.lv.toNat) := ⟨_, rfl⟩
  rw [← hB1] at c1 hB ⊢
  have hE1 := encT_eq d.ty
  have hE2 := encT_eq d.bo
  unfold encDe decL at c0
  unfold Ints WO WP at c1
  unfold encDe decL WO WP
  simp only [List.map_cons, List.map_nil] at c1
  rw [← List.append_assoc] at hB ⊢
  have c2 := wterm_spec ht B1 (by rw [List.length_append] at hB; omega)
  rw [hE1] at c2
  unfold WO WP at c2
  obtain ⟨B2, hB2⟩ : ∃ B2, B2 = B1 ++ termB d.ty := ⟨_, rfl⟩
  rw [← hB2] at c2 hB ⊢
  have c3 := wterm_spec hb B2 hB
  rw [hE2] at c3
  unfold WO WP at c3
  refine Spec.movd globPure (wpD_spec tyOK Tryd.func28 rfl (enters _ _ Tryd.func28 rfl (by decide)) rfl rfl ?_)
  (refine wpD_seqk fun K hK => ?_; refine wpD_region tyOK ?_; ((repeat (rw [wpS_cons]; simp)); (try simp only [wpS_nil, thenD, blockD])); refine hK _ _ _ ?_; clear hK K)
  (refine wpD_seqk fun K hK => ?_; refine wpD_region tyOK ?_; ((repeat (rw [wpS_cons]; simp)); (try simp only [wpS_nil, thenD, blockD])))
  refine cXp (c0) ?_
  ((try simp only [wpAft_ret, wpAft_pan, putS, updS, setS]); (repeat (rw [wpS_cons]; simp)); (try simp only [wpS_nil, thenD, blockD]))
  (refine hK _ _ _ ?_; clear hK K)
  (refine wpD_seqk fun K hK => ?_; refine wpD_region tyOK ?_; ((repeat (rw [wpS_cons]; simp)); (try simp only [wpS_nil, thenD, blockD])))
  refine cXo [0, 1] true (c1) ?_
  (rintro o hc ⟨rfl, rfl⟩; refine ⟨false, ?_⟩; simp [D.ren, D.rens, D.okN, D.okNs, Cp.ren, Cp.okN, HO.ren, HO.okN, okA, renA, renO, hOf, handed, D.fgt, D.fgts, List.range_succ, List.idxOf_cons, Out.ren, told, Out.fgt, upO, updS, setS])
  (refine hK _ _ _ ?_; clear hK K)
  (refine wpD_seqk fun K hK => ?_; refine wpD_region tyOK ?_; ((repeat (rw [wpS_cons]; simp)); (try simp only [wpS_nil, thenD, blockD])); refine hK _ _ _ ?_; clear hK K)
  refine wpD_block ?_
  (refine wpD_seqk fun K hK => ?_; refine wpD_region tyOK ?_; ((repeat (rw [wpS_cons]; simp [hk])); (try simp only [wpS_nil, thenD, blockD])); refine hK _ _ _ ?_; clear hK K)
  refine wpD_part rfl (fun h => by simp at h) (fun _ => ?_)
  (refine wpD_seqk fun K hK => ?_; refine wpD_region tyOK ?_; ((repeat (rw [wpS_cons]; simp [hk])); (try simp only [wpS_nil, thenD, blockD])); refine hK _ _ _ ?_; clear hK K)
  refine wpD_part rfl (fun _ => ?_) (fun h => by simp at h)
  (refine wpD_seqk fun K hK => ?_; refine wpD_region tyOK ?_; ((repeat (rw [wpS_cons]; simp)); (try simp only [wpS_nil, thenD, blockD])))
  refine cXo [0, 3] true (c2) ?_
  (rintro o hc ⟨rfl, rfl⟩; refine ⟨false, ?_⟩; simp [D.ren, D.rens, D.okN, D.okNs, Cp.ren, Cp.okN, HO.ren, HO.okN, okA, renA, renO, hOf, handed, D.fgt, D.fgts, List.range_succ, List.idxOf_cons, Out.ren, told, Out.fgt, upO, updS, setS])
  (refine hK _ _ _ ?_; clear hK K)
  (refine wpD_region tyOK ?_; ((repeat (rw [wpS_cons]; simp)); (try simp only [wpS_nil, thenD, blockD])))
  refine cXo [0, 4] true (c3) ?_
  (rintro o hc ⟨rfl, rfl⟩; refine ⟨false, ?_⟩; simp [D.ren, D.rens, D.okN, D.okNs, Cp.ren, Cp.okN, HO.ren, HO.okN, okA, renA, renO, hOf, handed, D.fgt, D.fgts, List.range_succ, List.idxOf_cons, Out.ren, told, Out.fgt, upO, updS, setS])
  ((try simp only [wpAft_ret, wpAft_pan, putS, updS, setS]); (repeat (rw [wpS_cons]; simp)); (try simp only [wpS_nil, thenD, blockD]))
  ((try simp only [thenD, blockD]); refine EndQ.nrm rfl (.inr ⟨[5], by decide, by simp, ?_⟩); simp [Out.mov, movT, movH, movD, D.mov, HO.mov, okM, renM, getW, D.ren, D.rens, D.okN, D.okNs, Cp.ren, Cp.okN, HO.ren, HO.okN, okA, renA, renO, hOf, handed, D.fgt, D.fgts, List.range_succ, List.idxOf_cons, tmOf, Out.fgt, D.fgt, D.fgts])
theorem wdecl_3 (d : De) (h : okDe d) (hr : rightDe d = true) (hlv : 0 ≤ d.lv ∧ d.lv ≤ 8) (hk : d.kd = 3) (hps : d.ps.length ≤ 16 ∧ ∀ t, t ∈ d.ps → PackT t) (hso : levOk d.so) (hml : d.ms.length ≤ 8) (hms : ∀ r, r ∈ d.ms → r.length ≤ 16 ∧ ∀ t, t ∈ r → PackT t) (hcl : d.cs.length ≤ 16) (hcs : ∀ c, c ∈ d.cs → smallI c.1 ∧ PackT c.2) (B : List Int) (hB : (B ++ declB d).length ≤ LMax) :
    Spec Tryd.prog glob 28 [.box 0 0, encDe d] (WO B) (fun o hc => o = .ret (.tuple []) ∧ hc = WP (B ++ declB d)) := by
  have c0 := pright_spec d h
  rw [hr, pkOut_t] at c0
  have hD : declB d = numB d.kd.toNat ++ numB d.lv.toNat ++ (rowB d.ps ++ (levB d.so ++ (numB d.ms.length ++ (d.ms.flatMap rowB ++ (numB d.cs.length ++ d.cs.flatMap ctorB))))) := by unfold declB; rw [if_neg (by omega), if_neg (by omega)]; simp only [List.append_assoc]
  rw [hD, ← List.append_assoc] at hB ⊢
  have c1 := wput_spec [d.kd, d.lv] (by simp) (by intro n hn; simp at hn; rcases hn with rfl | rfl; exact ⟨by omega, by omega⟩; exact ⟨by omega, by omega⟩) B (by rw [num2]; refine Nat.le_trans ?_ hB; simp only [List.length_append]; omega)
  rw [num2] at c1
  obtain ⟨B1, hB1⟩ : ∃ B1, B1 = B ++ (numB d.kd.toNat ++ numB d.lv.toNat) := ⟨_, rfl⟩
  rw [← hB1] at c1 hB ⊢
  have hE1 := encT_eq d.ty
  have hE2 := encT_eq d.bo
  unfold encDe decL at c0
  unfold Ints WO WP at c1
  unfold encDe decL WO WP
  simp only [List.map_cons, List.map_nil] at c1
  simp only [← List.append_assoc] at hB ⊢
  have hB' := hB
  simp only [List.length_append] at hB'
  have c2 := wrow_spec d.ps (by unfold LMax; omega) (by omega) hps.2 B1 (by rw [List.length_append]; omega)
  unfold Ts WO WP at c2
  obtain ⟨B2, hB2⟩ : ∃ B2, B2 = B1 ++ rowB d.ps := ⟨_, rfl⟩
  rw [← hB2] at c2 hB ⊢
  have l2 : B2.length = B1.length + (rowB d.ps).length := by rw [hB2, List.length_append]
  have c3 := wlevel_spec d.so hso B2 (by rw [List.length_append]; omega)
  unfold encL WO WP at c3
  obtain ⟨B3, hB3⟩ : ∃ B3, B3 = B2 ++ levB d.so := ⟨_, rfl⟩
  rw [← hB3] at c3 hB ⊢
  have l3 : B3.length = B2.length + (levB d.so).length := by rw [hB3, List.length_append]
  have c4 := wput_spec [(d.ms.length : Int)] (by simp) (by intro n hn; rw [List.mem_singleton.1 hn]; exact ⟨by omega, by omega⟩) B3 (by rw [num1, List.length_append]; omega)
  rw [num1] at c4
  unfold Ints WO WP at c4
  simp only [List.map_cons, List.map_nil] at c4
  obtain ⟨B4, hB4⟩ : ∃ B4, B4 = B3 ++ numB d.ms.length := ⟨_, rfl⟩
  rw [← hB4] at c4 hB ⊢
  have l4 : B4.length = B3.length + (numB d.ms.length).length := by rw [hB4, List.length_append]
  obtain ⟨B5, hB5⟩ : ∃ B5, B5 = B4 ++ d.ms.flatMap rowB := ⟨_, rfl⟩
  have l5 : B5.length = B4.length + (d.ms.flatMap rowB).length := by rw [hB5, List.length_append]
  rw [← hB5] at hB ⊢
  have c5 := wput_spec [(d.cs.length : Int)] (by simp) (by intro n hn; rw [List.mem_singleton.1 hn]; exact ⟨by omega, by omega⟩) B5 (by rw [num1, List.length_append]; omega)
  rw [num1] at c5
  unfold Ints WO WP at c5
  simp only [List.map_cons, List.map_nil] at c5
  obtain ⟨B6, hB6⟩ : ∃ B6, B6 = B5 ++ numB d.cs.length := ⟨_, rfl⟩
  rw [← hB6] at c5 hB ⊢
  have l6 : B6.length = B5.length + (numB d.cs.length).length := by rw [hB6, List.length_append]
  refine Spec.movd globPure (wpD_spec tyOK Tryd.func28 rfl (enters _ _ Tryd.func28 rfl (by decide)) rfl rfl ?_)
  (refine wpD_seqk fun K hK => ?_; refine wpD_region tyOK ?_; ((repeat (rw [wpS_cons]; simp)); (try simp only [wpS_nil, thenD, blockD])); refine hK _ _ _ ?_; clear hK K)
  (refine wpD_seqk fun K hK => ?_; refine wpD_region tyOK ?_; ((repeat (rw [wpS_cons]; simp)); (try simp only [wpS_nil, thenD, blockD])))
  refine cXp (c0) ?_
  ((try simp only [wpAft_ret, wpAft_pan, putS, updS, setS]); (repeat (rw [wpS_cons]; simp)); (try simp only [wpS_nil, thenD, blockD]))
  (refine hK _ _ _ ?_; clear hK K)
  (refine wpD_seqk fun K hK => ?_; refine wpD_region tyOK ?_; ((repeat (rw [wpS_cons]; simp)); (try simp only [wpS_nil, thenD, blockD])))
  refine cXo [0, 1] true (c1) ?_
  (rintro o hc ⟨rfl, rfl⟩; refine ⟨false, ?_⟩; simp [D.ren, D.rens, D.okN, D.okNs, Cp.ren, Cp.okN, HO.ren, HO.okN, okA, renA, renO, hOf, handed, D.fgt, D.fgts, List.range_succ, List.idxOf_cons, Out.ren, told, Out.fgt, upO, updS, setS])
  (refine hK _ _ _ ?_; clear hK K)
  (refine wpD_seqk fun K hK => ?_; refine wpD_region tyOK ?_; ((repeat (rw [wpS_cons]; simp)); (try simp only [wpS_nil, thenD, blockD])); refine hK _ _ _ ?_; clear hK K)
  refine wpD_block ?_
  (refine wpD_seqk fun K hK => ?_; refine wpD_region tyOK ?_; ((repeat (rw [wpS_cons]; simp [hk])); (try simp only [wpS_nil, thenD, blockD])); refine hK _ _ _ ?_; clear hK K)
  refine wpD_part rfl (fun h => by simp at h) (fun _ => ?_)
  (refine wpD_seqk fun K hK => ?_; refine wpD_region tyOK ?_; ((repeat (rw [wpS_cons]; simp [hk])); (try simp only [wpS_nil, thenD, blockD])); refine hK _ _ _ ?_; clear hK K)
  refine wpD_part rfl (fun h => by simp at h) (fun _ => ?_)
  (refine wpD_seqk fun K hK => ?_; refine wpD_region tyOK ?_; ((repeat (rw [wpS_cons]; simp)); (try simp only [wpS_nil, thenD, blockD])))
  refine cXo [0, 3] true (c2) ?_
  (rintro o hc ⟨rfl, rfl⟩; refine ⟨false, ?_⟩; simp [D.ren, D.rens, D.okN, D.okNs, Cp.ren, Cp.okN, HO.ren, HO.okN, okA, renA, renO, hOf, handed, D.fgt, D.fgts, List.range_succ, List.idxOf_cons, Out.ren, told, Out.fgt, upO, updS, setS])
  (refine hK _ _ _ ?_; clear hK K)
  (refine wpD_seqk fun K hK => ?_; refine wpD_region tyOK ?_; ((repeat (rw [wpS_cons]; simp)); (try simp only [wpS_nil, thenD, blockD])))
  refine cXo [0, 4] true (c3) ?_
  (rintro o hc ⟨rfl, rfl⟩; refine ⟨false, ?_⟩; simp [D.ren, D.rens, D.okN, D.okNs, Cp.ren, Cp.okN, HO.ren, HO.okN, okA, renA, renO, hOf, handed, D.fgt, D.fgts, List.range_succ, List.idxOf_cons, Out.ren, told, Out.fgt, upO, updS, setS])
  (refine hK _ _ _ ?_; clear hK K)
  (refine wpD_seqk fun K hK => ?_; refine wpD_region tyOK ?_; ((repeat (rw [wpS_cons]; simp)); (try simp only [wpS_nil, thenD, blockD])))
  refine cXo [0, 5] true (c4) ?_
  (rintro o hc ⟨rfl, rfl⟩; refine ⟨false, ?_⟩; simp [D.ren, D.rens, D.okN, D.okNs, Cp.ren, Cp.okN, HO.ren, HO.okN, okA, renA, renO, hOf, handed, D.fgt, D.fgts, List.range_succ, List.idxOf_cons, Out.ren, told, Out.fgt, upO, updS, setS])
  (refine hK _ _ _ ?_; clear hK K)
  refine wpD_seqk fun K1 hK1 => ?_
  (refine wpD_seqk fun K hK => ?_; refine wpD_region tyOK ?_; ((repeat (rw [wpS_cons]; simp)); (try simp only [wpS_nil, thenD, blockD])); refine hK _ _ _ ?_; clear hK K)
  refine wpD_rangeJ tyOK globPure (ti := 3) (tk := 36) (tn := 35) (td := 37) (ts := 44) [5, 36, 37, 38, 39, 40, 41, 42, 43, 44] [] (d.ms.length) (fun k ys hl => ys = [] ∧ hl = [.cells 103 [.own 6 (B4 ++ (d.ms.take k).flatMap rowB).length, kmD], .dead, .cells 34 [.int .i64 3, .int .i64 d.lv, .int .i64 d.ty.k, .int .i64 d.ty.n, .int .i64 d.ty.a, .slice (d.ty.ls.map encL) .any, .slice (d.ty.ks.map encT) .any, .int .i64 d.bo.k, .int .i64 d.bo.n, .int .i64 d.bo.a, .slice (d.bo.ls.map encL) .any, .slice (d.bo.ks.map encT) .any, .slice (d.ps.map encT) .any, .slice (d.so.map encP) .any, .slice (d.ms.map encMb) .any, .slice (d.cs.map encCt) .any], .dead, .dead, .dead, .row 1 (byD (B4 ++ (d.ms.take k).flatMap rowB))]) rfl rfl rfl rfl rfl rfl rfl rfl rfl rfl rfl rfl (by simp) (by decide) rfl (by first | assumption | omega | (unfold LMax; omega)) rfl (by kernel_rfl) (by decide) ?_ ?_ ?_
  · exact ⟨rfl, by simp⟩
  · rintro i ys hl' A hi ⟨rfl, rfl⟩ hA hA2
    simp only [putAll, List.set, List.map_cons, List.map_nil, List.cons_append, List.nil_append]
    have hi' : (i : Int) < d.ms.length := by omega
    obtain ⟨v, hv⟩ : ∃ v, d.ms[i] = v := ⟨_, rfl⟩
    obtain ⟨hv1, hv2⟩ := hms v (by rw [← hv]; exact List.getElem_mem hi)
    obtain ⟨B0, hB0⟩ : ∃ B0, B0 = B4 ++ (d.ms.take i).flatMap rowB := ⟨_, rfl⟩
    rw [← hB0]
    have hBl : (B0 ++ rowB v).length ≤ LMax := by
      have e : d.ms.flatMap rowB = (d.ms.take i).flatMap rowB ++ (rowB v ++ (d.ms.drop (i + 1)).flatMap rowB) := by
        conv => lhs; rw [← List.take_append_drop i d.ms, List.flatMap_append, List.drop_eq_getElem_cons hi, List.flatMap_cons, hv]
      have e2 := congrArg List.length e
      simp only [List.length_append] at e2
      rw [hB0]
      simp only [List.length_append]
      omega
    have q1 := wrow_spec v (by unfold LMax; omega) (by omega) hv2 B0 hBl
    unfold Ts WO WP at q1
    have hEv : encMb v = .agg [.slice (v.map encT) .any] := rfl
    (refine wpD_seqk fun K hK => ?_; refine wpD_region tyOK ?_; ((repeat (rw [wpS_cons]; simp [hi, hi', hv, hEv])); (try simp only [wpS_nil, thenD, blockD])); refine hK _ _ _ ?_; clear hK K)
    (refine wpD_region tyOK ?_; ((repeat (rw [wpS_cons]; simp)); (try simp only [wpS_nil, thenD, blockD])))
    refine cXo [0, 6] true (q1) ?_
    (rintro o hc ⟨rfl, rfl⟩; refine ⟨false, ?_⟩; simp [D.ren, D.rens, D.okN, D.okNs, Cp.ren, Cp.okN, HO.ren, HO.okN, okA, renA, renO, hOf, handed, D.fgt, D.fgts, List.range_succ, List.idxOf_cons, Out.ren, told, Out.fgt, upO, updS, setS])
    (refine hA2 ([2, 3, 4, 5, 8]) _ _ _ (LeT.refl _) (by decide) (by simp) (by simp [movT, movH, movD, D.mov, HO.mov, okM, renM, getW, D.ren, D.rens, D.okN, D.okNs, Cp.ren, Cp.okN, HO.ren, HO.okN, okA, renA, renO, hOf, handed, D.fgt, D.fgts, List.range_succ, List.idxOf_cons, putAll]) ?_ rfl; simp [movT, movH, movD, D.mov, HO.mov, okM, renM, getW, D.ren, D.rens, D.okN, D.okNs, Cp.ren, Cp.okN, HO.ren, HO.okN, okA, renA, renO, hOf, handed, D.fgt, D.fgts, List.range_succ, List.idxOf_cons])
    have e : B4 ++ (d.ms.take (i + 1)).flatMap rowB = B0 ++ rowB v := by
      rw [List.take_succ_eq_append_getElem hi, List.flatMap_append, ← List.append_assoc, ← hB0, hv, List.flatMap_singleton]
    rw [← List.map_take]
    refine ⟨?_, by rw [e]⟩
    have e2 := congrArg List.length e
    rw [List.length_append, List.length_append, List.length_flatMap] at e2
    exact e2.symm
  · rintro ys hl' tl' ⟨rfl, rfl⟩ htl
    refine hK1 _ _ _ (wpD_weakL htl ?_)
    clear hK1 K1
    rw [List.take_length, ← hB5]
    simp only [putAll, List.set, List.map_cons, List.map_nil, List.cons_append, List.nil_append]
    (refine wpD_seqk fun K hK => ?_; refine wpD_region tyOK ?_; ((repeat (rw [wpS_cons]; simp)); (try simp only [wpS_nil, thenD, blockD])))
    refine cXo [0, 6] true (c5) ?_
    (rintro o hc ⟨rfl, rfl⟩; refine ⟨false, ?_⟩; simp [D.ren, D.rens, D.okN, D.okNs, Cp.ren, Cp.okN, HO.ren, HO.okN, okA, renA, renO, hOf, handed, D.fgt, D.fgts, List.range_succ, List.idxOf_cons, Out.ren, told, Out.fgt, upO, updS, setS])
    (refine hK _ _ _ ?_; clear hK K)
    (refine wpD_seqk fun K hK => ?_; refine wpD_region tyOK ?_; ((repeat (rw [wpS_cons]; simp)); (try simp only [wpS_nil, thenD, blockD])); refine hK _ _ _ ?_; clear hK K)
    refine wpD_rangeJ tyOK globPure (ti := 3) (tk := 54) (tn := 53) (td := 55) (ts := 67) [7, 54, 55, 56, 57, 58, 59, 60, 61, 62, 63, 64, 65, 66, 67] [] (d.cs.length) (fun k ys hl => ys = [] ∧ hl = [.cells 103 [.own 7 (B6 ++ (d.cs.take k).flatMap ctorB).length, kmD], .dead, .cells 34 [.int .i64 3, .int .i64 d.lv, .int .i64 d.ty.k, .int .i64 d.ty.n, .int .i64 d.ty.a, .slice (d.ty.ls.map encL) .any, .slice (d.ty.ks.map encT) .any, .int .i64 d.bo.k, .int .i64 d.bo.n, .int .i64 d.bo.a, .slice (d.bo.ls.map encL) .any, .slice (d.bo.ks.map encT) .any, .slice (d.ps.map encT) .any, .slice (d.so.map encP) .any, .slice (d.ms.map encMb) .any, .slice (d.cs.map encCt) .any], .dead, .dead, .dead, .dead, .row 1 (byD (B6 ++ (d.cs.take k).flatMap ctorB))]) rfl rfl rfl rfl rfl rfl rfl rfl rfl rfl rfl rfl (by simp) (by decide) rfl (by first | assumption | omega | (unfold LMax; omega)) rfl (by kernel_rfl) (by decide) ?_ ?_ ?_
    · exact ⟨rfl, by simp⟩
    · rintro i ys hl' A hi ⟨rfl, rfl⟩ hA hA2
      simp only [putAll, List.set, List.map_cons, List.map_nil, List.cons_append, List.nil_append]
      have hi' : (i : Int) < d.cs.length := by omega
      obtain ⟨v, hv⟩ : ∃ v, d.cs[i] = v := ⟨_, rfl⟩
      obtain ⟨hv1, hv2⟩ := hcs v (by rw [← hv]; exact List.getElem_mem hi)
      obtain ⟨B0, hB0⟩ : ∃ B0, B0 = B6 ++ (d.cs.take i).flatMap ctorB := ⟨_, rfl⟩
      rw [← hB0]
      have hBl : (B0 ++ ctorB v).length ≤ LMax := by
        have e : d.cs.flatMap ctorB = (d.cs.take i).flatMap ctorB ++ (ctorB v ++ (d.cs.drop (i + 1)).flatMap ctorB) := by
          conv => lhs; rw [← List.take_append_drop i d.cs, List.flatMap_append, List.drop_eq_getElem_cons hi, List.flatMap_cons, hv]
        have e2 := congrArg List.length e
        simp only [List.length_append] at e2
        rw [hB0]
        simp only [List.length_append]
        omega
      unfold ctorB at hBl
      rw [← List.append_assoc] at hBl
      have q1 := wput_spec [v.1] (by simp) (by intro n hn; rw [List.mem_singleton.1 hn]; exact hv1) B0 (by rw [num1']; rw [List.length_append] at hBl; omega)
      rw [num1'] at q1
      have q2 := wterm_spec hv2 (B0 ++ numB v.1.toNat) hBl
      have hE3 := encT_eq v.2
      rw [hE3] at q2
      unfold Ints WO WP at q1
      unfold WO WP at q2
      simp only [List.map_cons, List.map_nil] at q1
      have e : B6 ++ (d.cs.take (i + 1)).flatMap ctorB = B0 ++ numB v.1.toNat ++ termB v.2 := by
        rw [List.take_succ_eq_append_getElem hi, List.flatMap_append, ← List.append_assoc, ← hB0, hv, List.flatMap_singleton, List.append_assoc]
        rfl
      obtain ⟨B7, hB7⟩ : ∃ B7, B7 = B0 ++ numB v.1.toNat := ⟨_, rfl⟩
      rw [← hB7] at q1 q2 e
      have hEv : encCt v = .agg [.int .i64 v.1, .int .i64 v.2.k, .int .i64 v.2.n, .int .i64 v.2.a, .slice (v.2.ls.map encL) .any, .slice (v.2.ks.map encT) .any] := rfl
      (refine wpD_seqk fun K hK => ?_; refine wpD_region tyOK ?_; ((repeat (rw [wpS_cons]; simp [hi, hi', hv, hEv])); (try simp only [wpS_nil, thenD, blockD])); refine hK _ _ _ ?_; clear hK K)
      (refine wpD_seqk fun K hK => ?_; refine wpD_region tyOK ?_; ((repeat (rw [wpS_cons]; simp)); (try simp only [wpS_nil, thenD, blockD])))
      refine cXo [0, 7] true (q1) ?_
      (rintro o hc ⟨rfl, rfl⟩; refine ⟨false, ?_⟩; simp [D.ren, D.rens, D.okN, D.okNs, Cp.ren, Cp.okN, HO.ren, HO.okN, okA, renA, renO, hOf, handed, D.fgt, D.fgts, List.range_succ, List.idxOf_cons, Out.ren, told, Out.fgt, upO, updS, setS])
      (refine hK _ _ _ ?_; clear hK K)
      (refine wpD_region tyOK ?_; ((repeat (rw [wpS_cons]; simp)); (try simp only [wpS_nil, thenD, blockD])))
      refine cXo [0, 9] true (q2) ?_
      (rintro o hc ⟨rfl, rfl⟩; refine ⟨false, ?_⟩; simp [D.ren, D.rens, D.okN, D.okNs, Cp.ren, Cp.okN, HO.ren, HO.okN, okA, renA, renO, hOf, handed, D.fgt, D.fgts, List.range_succ, List.idxOf_cons, Out.ren, told, Out.fgt, upO, updS, setS])
      (refine hA2 ([2, 3, 4, 5, 6, 10]) _ _ _ (LeT.refl _) (by decide) (by simp) (by simp [movT, movH, movD, D.mov, HO.mov, okM, renM, getW, D.ren, D.rens, D.okN, D.okNs, Cp.ren, Cp.okN, HO.ren, HO.okN, okA, renA, renO, hOf, handed, D.fgt, D.fgts, List.range_succ, List.idxOf_cons, putAll]) ?_ rfl; simp [movT, movH, movD, D.mov, HO.mov, okM, renM, getW, D.ren, D.rens, D.okN, D.okNs, Cp.ren, Cp.okN, HO.ren, HO.okN, okA, renA, renO, hOf, handed, D.fgt, D.fgts, List.range_succ, List.idxOf_cons])
      rw [← List.map_take]
      refine ⟨?_, by rw [e]⟩
      have e2 := congrArg List.length e
      rw [List.length_append, List.length_append, List.length_flatMap] at e2
      exact e2.symm
    · rintro ys hl' tl' ⟨rfl, rfl⟩ htl
      rw [List.take_length]
      ((try simp only [thenD, blockD]); refine EndQ.nrm rfl (.inr ⟨[7], by decide, by simp, ?_⟩); simp [Out.mov, movT, movH, movD, D.mov, HO.mov, okM, renM, getW, D.ren, D.rens, D.okN, D.okNs, Cp.ren, Cp.okN, HO.ren, HO.okN, okA, renA, renO, hOf, handed, D.fgt, D.fgts, List.range_succ, List.idxOf_cons, tmOf, Out.fgt, D.fgt, D.fgts])
theorem wdecl_ok (d : De) (h : okDe d) (hr : rightDe d = true) (B : List Int) (hB : (B ++ declB d).length ≤ LMax) : Spec Tryd.prog glob 28 [.box 0 0, encDe d] (WO B) (fun o hc => o = .ret (.tuple []) ∧ hc = WP (B ++ declB d)) := by
  obtain ⟨hlv, ⟨hk, ht⟩ | ⟨hk, ht, hb⟩ | ⟨hk, a, b, c, e, f, g⟩⟩ := rightDe_cases hr
  · exact wdecl_1 d h hr hlv hk ht B hB
  · exact wdecl_2 d h hr hlv hk ht hb B hB
  · exact wdecl_3 d h hr hlv hk a b c e f g B hB
theorem wdecl_no (d : De) (h : okDe d) (hr : rightDe d = false) (B : List Int) : Spec Tryd.prog glob 28 [.box 0 0, encDe d] (WO B) (fun o hc => o = .pan pnoneD ∧ hc = WO B) := by
  have c0 := pright_spec d h
  rw [hr, pkOut_f] at c0
  unfold encDe decL at c0
  unfold encDe decL WO
  refine Spec.movd globPure (wpD_spec tyOK Tryd.func28 rfl (enters _ _ Tryd.func28 rfl (by decide)) rfl rfl ?_)
  (refine wpD_seqk fun K hK => ?_; refine wpD_region tyOK ?_; ((repeat (rw [wpS_cons]; simp)); (try simp only [wpS_nil, thenD, blockD])); refine hK _ _ _ ?_; clear hK K)
  (refine wpD_seqk fun K hK => ?_; refine wpD_region tyOK ?_; ((repeat (rw [wpS_cons]; simp)); (try simp only [wpS_nil, thenD, blockD])))
  refine CallX.pure globPure (c0) ?_ (by simp [D.fgts, D.fgt, pnoneD]) (by simp [D.pures, D.pure, Cp.free, D.pures_map, pnoneD]) (by simp [Out.pure, D.pure, D.pures, Cp.free, D.pures_map, pnoneD])
  ((try simp only [wpAft_ret, wpAft_pan, putS, updS, setS]); (repeat (rw [wpS_cons]; simp)); (try simp only [wpS_nil, thenD, blockD]))
  ((try simp only [thenD, blockD]); refine EndQ.pan (.inr ⟨[], by decide, by simp, ?_⟩); simp [Out.mov, movT, movH, movD, D.mov, HO.mov, okM, renM, getW, D.ren, D.rens, D.okN, D.okNs, Cp.ren, Cp.okN, HO.ren, HO.okN, okA, renA, renO, hOf, handed, D.fgt, D.fgts, List.range_succ, List.idxOf_cons, tmOf, Out.fgt, D.fgt, D.fgts])
end Go.Proofs.YtgloldepdhgfaaaDoor
namespace Go.Proofs.YtgloldepdhgfaaaDoor
set_option linter.unusedSimpArgs false
set_option linter.unusedVariables false
set_option linter.unusedSimpArgs false
set_option linter.unusedVariables false
set_option maxHeartbeats 10000000
set_option maxRecDepth 20000
open Go.RowKit
attribute [local simp] wpAft_ret wpAft_pan wantD evOp opD tmOf putS updS setS hOf isFree isTok fillD TK.isAgg TK.known partD thenD blockD putAll D.ofV inB nilTest isNilS binX binD binE isCst bndD capB IntKind.min IntKind.max IntKind.signed IntKind.bits dstOf late
@[simp high] theorem encDe_pure (d : De) : (encDe d).pure = true := by unfold encDe decL; simp [D.pure, D.pures, D.pures_map, Cp.free]
@[simp high] theorem encDe_size' (d : De) : (encDe d).size = 16 := rfl
theorem encDe_pures (l : List De) : D.pures (l.map encDe) = true := by rw [D.pures_map]; simp
@[simp high] theorem encDe_okNs (p : Nat → Bool) (l : List De) : D.okNs p (l.map encDe) = true := D.okNs_pure p _ (encDe_pures l)
@[simp high] theorem encDe_rens (σ : Nat → Nat) (l : List De) : D.rens σ (l.map encDe) = l.map encDe := D.rens_pure σ _ (encDe_pures l)
@[simp high] theorem encDe_lows (m : Nat) (l : List De) : D.lows m (l.map encDe) = true := D.lows_pure m _ (encDe_pures l)
theorem encDe_eq (d : De) : encDe d = .agg [.int .i64 d.kd, .int .i64 d.lv, .int .i64 d.ty.k, .int .i64 d.ty.n, .int .i64 d.ty.a, .slice (d.ty.ls.map encL) .any, .slice (d.ty.ks.map encT) .any, .int .i64 d.bo.k, .int .i64 d.bo.n, .int .i64 d.bo.a, .slice (d.bo.ls.map encL) .any, .slice (d.bo.ks.map encT) .any, .slice (d.ps.map encT) .any, .slice (d.so.map encP) .any, .slice (d.ms.map encMb) .any, .slice (d.cs.map encCt) .any] := rfl
theorem cI_by (els : List D) (cl : Cp) (b : Bool) : SpecD Tryd.prog glob 75 [.box 0 0, .box 1 0] [.cells 35 [.slice els cl], .cells 4 [.bool b]] none (fun hc => hc = [.cells 35 [.slice els cl], .cells 4 [.bool b]]) := by
  refine wpD_specd tyOK Tryd.func75 rfl rfl (fun a w => rfl) rfl (enters _ _ Tryd.func75 rfl (by decide)) rfl rfl ?_
  ((try simp only [wpAft_ret, wpAft_pan, putS, updS, setS]); (repeat (rw [wpS_cons]; simp)); (try simp only [wpS_nil, thenD, blockD]))
  (refine wpD_seqk fun K hK => ?_; refine wpD_region tyOK ?_; ((repeat (rw [wpS_cons]; simp)); (try simp only [wpS_nil, thenD, blockD])); refine hK _ _ _ ?_; clear hK K)
  refine wpD_part rfl (fun h => by simp at h) (fun _ => ?_)
  refine wpD_skip ?_
  refine EndQ.nrm rfl ?_
  simp [updS]
theorem cN_by (els : List D) (cl : Cp) (b : Bool) : SpecD Tryd.prog glob 75 [.box 0 0, .box 1 0] [.cells 35 [.slice els cl], .cells 4 [.bool b]] (some pnoneD) (fun hc => hc = [.cells 35 [.slice [] .full], .cells 4 [.bool false], .cells 113 []]) := by
  refine wpD_specd tyOK Tryd.func75 rfl rfl (fun a w => rfl) rfl (enters _ _ Tryd.func75 rfl (by decide)) rfl rfl ?_
  unfold pnoneD
  ((try simp only [wpAft_ret, wpAft_pan, putS, updS, setS]); (repeat (rw [wpS_cons]; simp)); (try simp only [wpS_nil, thenD, blockD]))
  (refine wpD_seqk fun K hK => ?_; refine wpD_region tyOK ?_; ((repeat (rw [wpS_cons]; simp)); (try simp only [wpS_nil, thenD, blockD])); refine hK _ _ _ ?_; clear hK K)
  refine wpD_part rfl (fun _ => ?_) (fun h => by simp at h)
  refine wpD_seqk fun K1 hK1 => ?_
  (refine wpD_seqk fun K hK => ?_; refine wpD_region tyOK ?_; ((repeat (rw [wpS_cons]; simp)); (try simp only [wpS_nil, thenD, blockD])); refine hK _ _ _ ?_; clear hK K)
  (refine wpD_seqk fun K hK => ?_; refine wpD_region tyOK ?_; ((repeat (rw [wpS_cons]; simp)); (try simp only [wpS_nil, thenD, blockD])); refine hK _ _ _ ?_; clear hK K)
  refine wpD_part rfl (fun h => by simp at h) (fun _ => ?_)
  refine wpD_skip (hK1 _ _ _ ?_)
  (refine wpD_seqk fun K hK => ?_; refine wpD_region tyOK ?_; ((repeat (rw [wpS_cons]; simp)); (try simp only [wpS_nil, thenD, blockD])); refine hK _ _ _ ?_; clear hK K)
  (refine wpD_region tyOK ?_; ((repeat (rw [wpS_cons]; simp)); (try simp only [wpS_nil, thenD, blockD])))
  refine EndQ.nrm rfl ?_
  simp [updS]
theorem w1T_ok (t : T) (h : Spec Tryd.prog glob 29 [.box 0 0, .ref (.agg [.int .i64 t.k, .int .i64 t.n, .int .i64 t.a, .slice (t.ls.map encL) .any, .slice (t.ks.map encT) .any])] (WO []) (fun o hc => o = .ret (.tuple []) ∧ hc = WP (termB t))) : Spec Tryd.prog glob 53 [.ref (.fn (.func 29) [] [.ref (.agg [.int .i64 t.k, .int .i64 t.n, .int .i64 t.a, .slice (t.ls.map encL) .any, .slice (t.ks.map encT) .any])])] [] (fun o _ => o.fgt = .ret (.slice (byD (termB t)) .any)) := by
  have kd := kpk_spec
  rw [show D.mapc (kindsE.map (·.1)) (kindsE.map (·.2)) = kmD from rfl] at kd
  unfold WO WP at h
  rw [show byD [] = [] from rfl] at h
  refine Spec.movd globPure (wpD_spec tyOK Tryd.func53 rfl (enters _ _ Tryd.func53 rfl (by decide)) rfl rfl ?_)
  (refine wpD_seqk fun K hK => ?_; refine wpD_region tyOK ?_; ((repeat (rw [wpS_cons]; simp)); (try simp only [wpS_nil, thenD, blockD])); refine hK _ _ _ ?_; clear hK K)
  (refine wpD_seqk fun K hK => ?_; refine wpD_region tyOK ?_; ((repeat (rw [wpS_cons]; simp)); (try simp only [wpS_nil, thenD, blockD])))
  refine cXp (kd) ?_
  ((try simp only [wpAft_ret, wpAft_pan, putS, updS, setS]); (repeat (rw [wpS_cons]; simp)); (try simp only [wpS_nil, thenD, blockD]))
  (refine hK _ _ _ ?_; clear hK K)
  refine wpD_ownO 0 0 1 (ty := 103) (ds := [.slice [] .full, kmD]) rfl ?_
  simp [D.ownd]
  (refine wpD_seqk fun K hK => ?_; refine wpD_region tyOK ?_; ((repeat (rw [wpS_cons]; simp)); (try simp only [wpS_nil, thenD, blockD])))
  refine cXo [0, 1] true (h) ?_
  (rintro o hc ⟨rfl, rfl⟩; refine ⟨false, ?_⟩; simp [D.ren, D.rens, D.okN, D.okNs, Cp.ren, Cp.okN, HO.ren, HO.okN, okA, renA, renO, hOf, handed, D.fgt, D.fgts, List.range_succ, List.idxOf_cons, Out.ren, told, Out.fgt, upO, updS, setS])
  (refine hK _ _ _ ?_; clear hK K)
  (refine wpD_stayO 2 rfl ?_; simp [D.frzs, D.frz, HO.frz, dfFrz, FK.isB, FK.isM, FK.isO, D.isLen, byD_one])
  (refine wpD_seqk fun K hK => ?_; refine wpD_region tyOK ?_; ((repeat (rw [wpS_cons]; simp)); (try simp only [wpS_nil, thenD, blockD])); refine hK _ _ _ ?_; clear hK K)
  (refine wpD_ret ?_; (try simp only [thenD, blockD]); refine EndQ.ret rfl (.inl ?_); simp [tmOf, Out.fgt, D.fgt, D.fgts])
theorem trT_ok (t : T) (h : Spec Tryd.prog glob 29 [.box 0 0, .ref (.agg [.int .i64 t.k, .int .i64 t.n, .int .i64 t.a, .slice (t.ls.map encL) .any, .slice (t.ks.map encT) .any])] (WO []) (fun o hc => o = .ret (.tuple []) ∧ hc = WP (termB t))) : Spec Tryd.prog glob 52 [.fn (.func 53) [] [.ref (.fn (.func 29) [] [.ref (.agg [.int .i64 t.k, .int .i64 t.n, .int .i64 t.a, .slice (t.ls.map encL) .any, .slice (t.ks.map encT) .any])])]] [] (fun o _ => o.fgt = .ret (.tuple [.slice (byD (termB t)) .any, .bool true])) := by
  have h1 := w1T_ok t h
  refine Spec.movd globPure (wpD_specD tyOK Tryd.func52 rfl (enters _ _ Tryd.func52 rfl (by decide)) rfl rfl ?_)
  (refine wpD_seqk fun K hK => ?_; refine wpD_region tyOK ?_; ((repeat (rw [wpS_cons]; simp)); (try simp only [wpS_nil, thenD, blockD])); refine hK _ _ _ ?_; clear hK K)
  (refine wpD_seqk fun K hK => ?_; refine wpD_region tyOK ?_; ((repeat (rw [wpS_cons]; simp)); (try simp only [wpS_nil, thenD, blockD])); refine hK _ _ _ ?_; clear hK K)
  (refine wpD_seqk fun K hK => ?_; refine wpD_region tyOK ?_; ((repeat (rw [wpS_cons]; simp)); (try simp only [wpS_nil, thenD, blockD])))
  refine cXp (h1) ?_
  ((try simp only [wpAft_ret, wpAft_pan, putS, updS, setS]); (repeat (rw [wpS_cons]; simp)); (try simp only [wpS_nil, thenD, blockD]))
  (refine hK _ _ _ ?_; clear hK K)
  refine wpD_ret ?_
  refine DefX.objs globPure [0, 1] (cI_by (byD (termB t)) .any true) ?_ ?_ (fun d h => by cases h) (by decide) (by simp) (by simp [D.ren, D.rens, D.okN, D.okNs, Cp.ren, Cp.okN, HO.ren, HO.okN, okA, renA, renO, hOf, handed, D.fgt, D.fgts, List.range_succ, List.idxOf_cons]) (by simp [D.ren, D.rens, D.okN, D.okNs, Cp.ren, Cp.okN, HO.ren, HO.okN, okA, renA, renO, hOf, handed, D.fgt, D.fgts, List.range_succ, List.idxOf_cons]) (by simp [D.ren, D.rens, D.okN, D.okNs, Cp.ren, Cp.okN, HO.ren, HO.okN, okA, renA, renO, hOf, handed, D.fgt, D.fgts, List.range_succ, List.idxOf_cons]) (by simp [D.ren, D.rens, D.okN, D.okNs, Cp.ren, Cp.okN, HO.ren, HO.okN, okA, renA, renO, hOf, handed, D.fgt, D.fgts, List.range_succ, List.idxOf_cons])
  · rintro hc rfl
    simp [D.ren, D.rens, D.okN, D.okNs, Cp.ren, Cp.okN, HO.ren, HO.okN, okA, renA, renO, hOf, handed, D.fgt, D.fgts, List.range_succ, List.idxOf_cons, upO, updS, setS]
    refine endD.intro rfl (.inr ⟨[], by decide, by simp, ?_⟩)
    simp [Out.mov, movT, movH, movD, D.mov, HO.mov, okM, renM, getW, D.ren, D.rens, D.okN, D.okNs, Cp.ren, Cp.okN, HO.ren, HO.okN, okA, renA, renO, hOf, handed, D.fgt, D.fgts, List.range_succ, List.idxOf_cons]
    try simp [Out.fgt, D.fgt, D.fgts]
  · rintro hc rfl
    simp
theorem wrT_ok (t : T) (h : Spec Tryd.prog glob 29 [.box 0 0, .ref (.agg [.int .i64 t.k, .int .i64 t.n, .int .i64 t.a, .slice (t.ls.map encL) .any, .slice (t.ks.map encT) .any])] (WO []) (fun o hc => o = .ret (.tuple []) ∧ hc = WP (termB t))) : Spec Tryd.prog glob 26 [.fn (.func 29) [] [.ref (.agg [.int .i64 t.k, .int .i64 t.n, .int .i64 t.a, .slice (t.ls.map encL) .any, .slice (t.ks.map encT) .any])]] [] (fun o _ => o.fgt = .ret (.tuple [.slice (byD (termB t)) .any, .bool true])) := by
  have h1 := trT_ok t h
  refine Spec.movd globPure (wpD_spec tyOK Tryd.func26 rfl (enters _ _ Tryd.func26 rfl (by decide)) rfl rfl ?_)
  (refine wpD_seqk fun K hK => ?_; refine wpD_region tyOK ?_; ((repeat (rw [wpS_cons]; simp)); (try simp only [wpS_nil, thenD, blockD])); refine hK _ _ _ ?_; clear hK K)
  refine wpD_stay (T := tyOf) 0 (ty := 71) (ds := [.fn (.func 29) [] [.ref (.agg [.int .i64 t.k, .int .i64 t.n, .int .i64 t.a, .slice (t.ls.map encL) .any, .slice (t.ks.map encT) .any])]]) rfl rfl (by first | exact ⟨rfl, .inr ⟨_, rfl, rfl⟩⟩ | exact ⟨rfl, .inl rfl⟩) ?_
  simp [D.frzs, D.frz, HO.frz, dfFrz, refOf, TK.isAgg, FK.isB, FK.isM, FK.isO, D.isLen]
  (refine wpD_seqk fun K hK => ?_; refine wpD_region tyOK ?_; ((repeat (rw [wpS_cons]; simp)); (try simp only [wpS_nil, thenD, blockD])))
  refine cXp (h1) ?_
  ((try simp only [wpAft_ret, wpAft_pan, putS, updS, setS]); (repeat (rw [wpS_cons]; simp)); (try simp only [wpS_nil, thenD, blockD]))
  (refine hK _ _ _ ?_; clear hK K)
  (refine wpD_ret ?_; (try simp only [thenD, blockD]); refine EndQ.ret rfl (.inl ?_); simp [tmOf, Out.fgt, D.fgt, D.fgts])
theorem puT_ok (t : T) (h : Spec Tryd.prog glob 29 [.box 0 0, .ref (.agg [.int .i64 t.k, .int .i64 t.n, .int .i64 t.a, .slice (t.ls.map encL) .any, .slice (t.ks.map encT) .any])] (WO []) (fun o hc => o = .ret (.tuple []) ∧ hc = WP (termB t))) : Spec Tryd.prog glob 10 [.agg [.int .i64 t.k, .int .i64 t.n, .int .i64 t.a, .slice (t.ls.map encL) .any, .slice (t.ks.map encT) .any]] [] (fun o _ => o.fgt = .ret (.tuple [.slice (byD (termB t)) .any, .bool true])) := by
  have h1 := wrT_ok t h
  refine Spec.movd globPure (wpD_spec tyOK Tryd.func10 rfl (enters _ _ Tryd.func10 rfl (by decide)) rfl rfl ?_)
  (refine wpD_seqk fun K hK => ?_; refine wpD_region tyOK ?_; ((repeat (rw [wpS_cons]; simp)); (try simp only [wpS_nil, thenD, blockD])); refine hK _ _ _ ?_; clear hK K)
  refine wpD_stay (T := tyOf) 0 (ty := 27) (ds := [.int .i64 t.k, .int .i64 t.n, .int .i64 t.a, .slice (t.ls.map encL) .any, .slice (t.ks.map encT) .any]) rfl rfl (by first | exact ⟨rfl, .inr ⟨_, rfl, rfl⟩⟩ | exact ⟨rfl, .inl rfl⟩) ?_
  simp [D.frzs, D.frz, HO.frz, dfFrz, refOf, TK.isAgg, FK.isB, FK.isM, FK.isO, D.isLen]
  (refine wpD_seqk fun K hK => ?_; refine wpD_region tyOK ?_; ((repeat (rw [wpS_cons]; simp)); (try simp only [wpS_nil, thenD, blockD])))
  refine cXp (h1) ?_
  ((try simp only [wpAft_ret, wpAft_pan, putS, updS, setS]); (repeat (rw [wpS_cons]; simp)); (try simp only [wpS_nil, thenD, blockD]))
  (refine hK _ _ _ ?_; clear hK K)
  (refine wpD_ret ?_; (try simp only [thenD, blockD]); refine EndQ.ret rfl (.inl ?_); simp [tmOf, Out.fgt, D.fgt, D.fgts])
theorem w1T_no (t : T) (h : Spec Tryd.prog glob 29 [.box 0 0, .ref (.agg [.int .i64 t.k, .int .i64 t.n, .int .i64 t.a, .slice (t.ls.map encL) .any, .slice (t.ks.map encT) .any])] (WO []) (fun o hc => o = .pan pnoneD ∧ hc = [.dead, .dead])) : Spec Tryd.prog glob 53 [.ref (.fn (.func 29) [] [.ref (.agg [.int .i64 t.k, .int .i64 t.n, .int .i64 t.a, .slice (t.ls.map encL) .any, .slice (t.ks.map encT) .any])])] [] (fun o _ => o.fgt = .pan pnoneD) := by
  have kd := kpk_spec
  rw [show D.mapc (kindsE.map (·.1)) (kindsE.map (·.2)) = kmD from rfl] at kd
  unfold WO at h
  rw [show byD [] = [] from rfl] at h
  refine Spec.movd globPure (wpD_spec tyOK Tryd.func53 rfl (enters _ _ Tryd.func53 rfl (by decide)) rfl rfl ?_)
  (refine wpD_seqk fun K hK => ?_; refine wpD_region tyOK ?_; ((repeat (rw [wpS_cons]; simp)); (try simp only [wpS_nil, thenD, blockD])); refine hK _ _ _ ?_; clear hK K)
  (refine wpD_seqk fun K hK => ?_; refine wpD_region tyOK ?_; ((repeat (rw [wpS_cons]; simp)); (try simp only [wpS_nil, thenD, blockD])))
  refine cXp (kd) ?_
  ((try simp only [wpAft_ret, wpAft_pan, putS, updS, setS]); (repeat (rw [wpS_cons]; simp)); (try simp only [wpS_nil, thenD, blockD]))
  (refine hK _ _ _ ?_; clear hK K)
  refine wpD_ownO 0 0 1 (ty := 103) (ds := [.slice [] .full, kmD]) rfl ?_
  simp [D.ownd]
  (refine wpD_seqk fun K hK => ?_; refine wpD_region tyOK ?_; ((repeat (rw [wpS_cons]; simp)); (try simp only [wpS_nil, thenD, blockD])))
  refine cXo [0, 1] true (h) ?_
  (rintro o hc ⟨rfl, rfl⟩; refine ⟨false, ?_⟩; simp [D.ren, D.rens, D.okN, D.okNs, Cp.ren, Cp.okN, HO.ren, HO.okN, okA, renA, renO, hOf, handed, D.fgt, D.fgts, List.range_succ, List.idxOf_cons, Out.ren, told, Out.fgt, upO, updS, setS])
  ((try simp only [thenD, blockD]); refine EndQ.pan (.inl ?_); simp [Out.fgt, D.fgt, D.fgts])
theorem trT_no (t : T) (h : Spec Tryd.prog glob 29 [.box 0 0, .ref (.agg [.int .i64 t.k, .int .i64 t.n, .int .i64 t.a, .slice (t.ls.map encL) .any, .slice (t.ks.map encT) .any])] (WO []) (fun o hc => o = .pan pnoneD ∧ hc = [.dead, .dead])) : Spec Tryd.prog glob 52 [.fn (.func 53) [] [.ref (.fn (.func 29) [] [.ref (.agg [.int .i64 t.k, .int .i64 t.n, .int .i64 t.a, .slice (t.ls.map encL) .any, .slice (t.ks.map encT) .any])])]] [] (fun o _ => o.fgt = .ret (.tuple [.slice [] .any, .bool false])) := by
  have h1 := w1T_no t h
  refine Spec.movd globPure (wpD_specD tyOK Tryd.func52 rfl (enters _ _ Tryd.func52 rfl (by decide)) rfl rfl ?_)
  (refine wpD_seqk fun K hK => ?_; refine wpD_region tyOK ?_; ((repeat (rw [wpS_cons]; simp)); (try simp only [wpS_nil, thenD, blockD])); refine hK _ _ _ ?_; clear hK K)
  (refine wpD_seqk fun K hK => ?_; refine wpD_region tyOK ?_; ((repeat (rw [wpS_cons]; simp)); (try simp only [wpS_nil, thenD, blockD])); refine hK _ _ _ ?_; clear hK K)
  (refine wpD_seqk fun K hK => ?_; refine wpD_region tyOK ?_; ((repeat (rw [wpS_cons]; simp)); (try simp only [wpS_nil, thenD, blockD])))
  refine CallX.pure globPure (h1) ?_ (by simp [D.fgts, D.fgt, pnoneD]) (by simp [D.pures, D.pure, Cp.free, D.pures_map, pnoneD]) (by simp [Out.pure, D.pure, D.pures, Cp.free, D.pures_map, pnoneD])
  ((try simp only [wpAft_ret, wpAft_pan, putS, updS, setS]); (repeat (rw [wpS_cons]; simp)); (try simp only [wpS_nil, thenD, blockD]))
  (try simp only [thenD, blockD])
  refine DefX.objs globPure [0, 1] (cN_by [] .full false) ?_ ?_ (fun d h => by cases h <;> rfl) (by decide) (by simp) (by simp [D.ren, D.rens, D.okN, D.okNs, Cp.ren, Cp.okN, HO.ren, HO.okN, okA, renA, renO, hOf, handed, D.fgt, D.fgts, List.range_succ, List.idxOf_cons]) (by simp [D.ren, D.rens, D.okN, D.okNs, Cp.ren, Cp.okN, HO.ren, HO.okN, okA, renA, renO, hOf, handed, D.fgt, D.fgts, List.range_succ, List.idxOf_cons]) (by simp [D.ren, D.rens, D.okN, D.okNs, Cp.ren, Cp.okN, HO.ren, HO.okN, okA, renA, renO, hOf, handed, D.fgt, D.fgts, List.range_succ, List.idxOf_cons]) (by simp [D.ren, D.rens, D.okN, D.okNs, Cp.ren, Cp.okN, HO.ren, HO.okN, okA, renA, renO, hOf, handed, D.fgt, D.fgts, List.range_succ, List.idxOf_cons])
  · rintro hc rfl
    simp [D.ren, D.rens, D.okN, D.okNs, Cp.ren, Cp.okN, HO.ren, HO.okN, okA, renA, renO, hOf, handed, D.fgt, D.fgts, List.range_succ, List.idxOf_cons, upO, updS, setS]
    refine endD.intro rfl (.inr ⟨[], by decide, by simp, ?_⟩)
    simp [Out.mov, movT, movH, movD, D.mov, HO.mov, okM, renM, getW, D.ren, D.rens, D.okN, D.okNs, Cp.ren, Cp.okN, HO.ren, HO.okN, okA, renA, renO, hOf, handed, D.fgt, D.fgts, List.range_succ, List.idxOf_cons]
    try simp [Out.fgt, D.fgt, D.fgts]
  · rintro hc rfl
    simp
theorem wrT_no (t : T) (h : Spec Tryd.prog glob 29 [.box 0 0, .ref (.agg [.int .i64 t.k, .int .i64 t.n, .int .i64 t.a, .slice (t.ls.map encL) .any, .slice (t.ks.map encT) .any])] (WO []) (fun o hc => o = .pan pnoneD ∧ hc = [.dead, .dead])) : Spec Tryd.prog glob 26 [.fn (.func 29) [] [.ref (.agg [.int .i64 t.k, .int .i64 t.n, .int .i64 t.a, .slice (t.ls.map encL) .any, .slice (t.ks.map encT) .any])]] [] (fun o _ => o.fgt = .ret (.tuple [.slice [] .any, .bool false])) := by
  have h1 := trT_no t h
  refine Spec.movd globPure (wpD_spec tyOK Tryd.func26 rfl (enters _ _ Tryd.func26 rfl (by decide)) rfl rfl ?_)
  (refine wpD_seqk fun K hK => ?_; refine wpD_region tyOK ?_; ((repeat (rw [wpS_cons]; simp)); (try simp only [wpS_nil, thenD, blockD])); refine hK _ _ _ ?_; clear hK K)
  refine wpD_stay (T := tyOf) 0 (ty := 71) (ds := [.fn (.func 29) [] [.ref (.agg [.int .i64 t.k, .int .i64 t.n, .int .i64 t.a, .slice (t.ls.map encL) .any, .slice (t.ks.map encT) .any])]]) rfl rfl (by first | exact ⟨rfl, .inr ⟨_, rfl, rfl⟩⟩ | exact ⟨rfl, .inl rfl⟩) ?_
  simp [D.frzs, D.frz, HO.frz, dfFrz, refOf, TK.isAgg, FK.isB, FK.isM, FK.isO, D.isLen]
  (refine wpD_seqk fun K hK => ?_; refine wpD_region tyOK ?_; ((repeat (rw [wpS_cons]; simp)); (try simp only [wpS_nil, thenD, blockD])))
  refine cXp (h1) ?_
  ((try simp only [wpAft_ret, wpAft_pan, putS, updS, setS]); (repeat (rw [wpS_cons]; simp)); (try simp only [wpS_nil, thenD, blockD]))
  (refine hK _ _ _ ?_; clear hK K)
  (refine wpD_ret ?_; (try simp only [thenD, blockD]); refine EndQ.ret rfl (.inl ?_); simp [tmOf, Out.fgt, D.fgt, D.fgts])
theorem puT_no (t : T) (h : Spec Tryd.prog glob 29 [.box 0 0, .ref (.agg [.int .i64 t.k, .int .i64 t.n, .int .i64 t.a, .slice (t.ls.map encL) .any, .slice (t.ks.map encT) .any])] (WO []) (fun o hc => o = .pan pnoneD ∧ hc = [.dead, .dead])) : Spec Tryd.prog glob 10 [.agg [.int .i64 t.k, .int .i64 t.n, .int .i64 t.a, .slice (t.ls.map encL) .any, .slice (t.ks.map encT) .any]] [] (fun o _ => o.fgt = .ret (.tuple [.slice [] .any, .bool false])) := by
  have h1 := wrT_no t h
  refine Spec.movd globPure (wpD_spec tyOK Tryd.func10 rfl (enters _ _ Tryd.func10 rfl (by decide)) rfl rfl ?_)
  (refine wpD_seqk fun K hK => ?_; refine wpD_region tyOK ?_; ((repeat (rw [wpS_cons]; simp)); (try simp only [wpS_nil, thenD, blockD])); refine hK _ _ _ ?_; clear hK K)
  refine wpD_stay (T := tyOf) 0 (ty := 27) (ds := [.int .i64 t.k, .int .i64 t.n, .int .i64 t.a, .slice (t.ls.map encL) .any, .slice (t.ks.map encT) .any]) rfl rfl (by first | exact ⟨rfl, .inr ⟨_, rfl, rfl⟩⟩ | exact ⟨rfl, .inl rfl⟩) ?_
  simp [D.frzs, D.frz, HO.frz, dfFrz, refOf, TK.isAgg, FK.isB, FK.isM, FK.isO, D.isLen]
  (refine wpD_seqk fun K hK => ?_; refine wpD_region tyOK ?_; ((repeat (rw [wpS_cons]; simp)); (try simp only [wpS_nil, thenD, blockD])))
  refine cXp (h1) ?_
  ((try simp only [wpAft_ret, wpAft_pan, putS, updS, setS]); (repeat (rw [wpS_cons]; simp)); (try simp only [wpS_nil, thenD, blockD]))
  (refine hK _ _ _ ?_; clear hK K)
  (refine wpD_ret ?_; (try simp only [thenD, blockD]); refine EndQ.ret rfl (.inl ?_); simp [tmOf, Out.fgt, D.fgt, D.fgts])
theorem w1D_ok (d : De) (h : Spec Tryd.prog glob 27 [.box 0 0, .ref (.agg [.int .i64 d.kd, .int .i64 d.lv, .int .i64 d.ty.k, .int .i64 d.ty.n, .int .i64 d.ty.a, .slice (d.ty.ls.map encL) .any, .slice (d.ty.ks.map encT) .any, .int .i64 d.bo.k, .int .i64 d.bo.n, .int .i64 d.bo.a, .slice (d.bo.ls.map encL) .any, .slice (d.bo.ks.map encT) .any, .slice (d.ps.map encT) .any, .slice (d.so.map encP) .any, .slice (d.ms.map encMb) .any, .slice (d.cs.map encCt) .any])] (WO []) (fun o hc => o = .ret (.tuple []) ∧ hc = WP (declB d))) : Spec Tryd.prog glob 53 [.ref (.fn (.func 27) [] [.ref (.agg [.int .i64 d.kd, .int .i64 d.lv, .int .i64 d.ty.k, .int .i64 d.ty.n, .int .i64 d.ty.a, .slice (d.ty.ls.map encL) .any, .slice (d.ty.ks.map encT) .any, .int .i64 d.bo.k, .int .i64 d.bo.n, .int .i64 d.bo.a, .slice (d.bo.ls.map encL) .any, .slice (d.bo.ks.map encT) .any, .slice (d.ps.map encT) .any, .slice (d.so.map encP) .any, .slice (d.ms.map encMb) .any, .slice (d.cs.map encCt) .any])])] [] (fun o _ => o.fgt = .ret (.slice (byD (declB d)) .any)) := by
  have kd := kpk_spec
  rw [show D.mapc (kindsE.map (·.1)) (kindsE.map (·.2)) = kmD from rfl] at kd
  unfold WO WP at h
  rw [show byD [] = [] from rfl] at h
  refine Spec.movd globPure (wpD_spec tyOK Tryd.func53 rfl (enters _ _ Tryd.func53 rfl (by decide)) rfl rfl ?_)
  (refine wpD_seqk fun K hK => ?_; refine wpD_region tyOK ?_; ((repeat (rw [wpS_cons]; simp)); (try simp only [wpS_nil, thenD, blockD])); refine hK _ _ _ ?_; clear hK K)
  (refine wpD_seqk fun K hK => ?_; refine wpD_region tyOK ?_; ((repeat (rw [wpS_cons]; simp)); (try simp only [wpS_nil, thenD, blockD])))
  refine cXp (kd) ?_
  ((try simp only [wpAft_ret, wpAft_pan, putS, updS, setS]); (repeat (rw [wpS_cons]; simp)); (try simp only [wpS_nil, thenD, blockD]))
  (refine hK _ _ _ ?_; clear hK K)
  refine wpD_ownO 0 0 1 (ty := 103) (ds := [.slice [] .full, kmD]) rfl ?_
  simp [D.ownd]
  (refine wpD_seqk fun K hK => ?_; refine wpD_region tyOK ?_; ((repeat (rw [wpS_cons]; simp)); (try simp only [wpS_nil, thenD, blockD])))
  refine cXo [0, 1] true (h) ?_
  (rintro o hc ⟨rfl, rfl⟩; refine ⟨false, ?_⟩; simp [D.ren, D.rens, D.okN, D.okNs, Cp.ren, Cp.okN, HO.ren, HO.okN, okA, renA, renO, hOf, handed, D.fgt, D.fgts, List.range_succ, List.idxOf_cons, Out.ren, told, Out.fgt, upO, updS, setS])
  (refine hK _ _ _ ?_; clear hK K)
  (refine wpD_stayO 2 rfl ?_; simp [D.frzs, D.frz, HO.frz, dfFrz, FK.isB, FK.isM, FK.isO, D.isLen, byD_one])
  (refine wpD_seqk fun K hK => ?_; refine wpD_region tyOK ?_; ((repeat (rw [wpS_cons]; simp)); (try simp only [wpS_nil, thenD, blockD])); refine hK _ _ _ ?_; clear hK K)
  (refine wpD_ret ?_; (try simp only [thenD, blockD]); refine EndQ.ret rfl (.inl ?_); simp [tmOf, Out.fgt, D.fgt, D.fgts])
theorem trD_ok (d : De) (h : Spec Tryd.prog glob 27 [.box 0 0, .ref (.agg [.int .i64 d.kd, .int .i64 d.lv, .int .i64 d.ty.k, .int .i64 d.ty.n, .int .i64 d.ty.a, .slice (d.ty.ls.map encL) .any, .slice (d.ty.ks.map encT) .any, .int .i64 d.bo.k, .int .i64 d.bo.n, .int .i64 d.bo.a, .slice (d.bo.ls.map encL) .any, .slice (d.bo.ks.map encT) .any, .slice (d.ps.map encT) .any, .slice (d.so.map encP) .any, .slice (d.ms.map encMb) .any, .slice (d.cs.map encCt) .any])] (WO []) (fun o hc => o = .ret (.tuple []) ∧ hc = WP (declB d))) : Spec Tryd.prog glob 52 [.fn (.func 53) [] [.ref (.fn (.func 27) [] [.ref (.agg [.int .i64 d.kd, .int .i64 d.lv, .int .i64 d.ty.k, .int .i64 d.ty.n, .int .i64 d.ty.a, .slice (d.ty.ls.map encL) .any, .slice (d.ty.ks.map encT) .any, .int .i64 d.bo.k, .int .i64 d.bo.n, .int .i64 d.bo.a, .slice (d.bo.ls.map encL) .any, .slice (d.bo.ks.map encT) .any, .slice (d.ps.map encT) .any, .slice (d.so.map encP) .any, .slice (d.ms.map encMb) .any, .slice (d.cs.map encCt) .any])])]] [] (fun o _ => o.fgt = .ret (.tuple [.slice (byD (declB d)) .any, .bool true])) := by
  have h1 := w1D_ok d h
  refine Spec.movd globPure (wpD_specD tyOK Tryd.func52 rfl (enters _ _ Tryd.func52 rfl (by decide)) rfl rfl ?_)
  (refine wpD_seqk fun K hK => ?_; refine wpD_region tyOK ?_; ((repeat (rw [wpS_cons]; simp)); (try simp only [wpS_nil, thenD, blockD])); refine hK _ _ _ ?_; clear hK K)
  (refine wpD_seqk fun K hK => ?_; refine wpD_region tyOK ?_; ((repeat (rw [wpS_cons]; simp)); (try simp only [wpS_nil, thenD, blockD])); refine hK _ _ _ ?_; clear hK K)
  (refine wpD_seqk fun K hK => ?_; refine wpD_region tyOK ?_; ((repeat (rw [wpS_cons]; simp)); (try simp only [wpS_nil, thenD, blockD])))
  refine cXp (h1) ?_
  ((try simp only [wpAft_ret, wpAft_pan, putS, updS, setS]); (repeat (rw [wpS_cons]; simp)); (try simp only [wpS_nil, thenD, blockD]))
  (refine hK _ _ _ ?_; clear hK K)
  refine wpD_ret ?_
  refine DefX.objs globPure [0, 1] (cI_by (byD (declB d)) .any true) ?_ ?_ (fun d h => by cases h) (by decide) (by simp) (by simp [D.ren, D.rens, D.okN, D.okNs, Cp.ren, Cp.okN, HO.ren, HO.okN, okA, renA, renO, hOf, handed, D.fgt, D.fgts, List.range_succ, List.idxOf_cons]) (by simp [D.ren, D.rens, D.okN, D.okNs, Cp.ren, Cp.okN, HO.ren, HO.okN, okA, renA, renO, hOf, handed, D.fgt, D.fgts, List.range_succ, List.idxOf_cons]) (by simp [D.ren, D.rens, D.okN, D.okNs, Cp.ren, Cp.okN, HO.ren, HO.okN, okA, renA, renO, hOf, handed, D.fgt, D.fgts, List.range_succ, List.idxOf_cons]) (by simp [D.ren, D.rens, D.okN, D.okNs, Cp.ren, Cp.okN, HO.ren, HO.okN, okA, renA, renO, hOf, handed, D.fgt, D.fgts, List.range_succ, List.idxOf_cons])
  · rintro hc rfl
    simp [D.ren, D.rens, D.okN, D.okNs, Cp.ren, Cp.okN, HO.ren, HO.okN, okA, renA, renO, hOf, handed, D.fgt, D.fgts, List.range_succ, List.idxOf_cons, upO, updS, setS]
    refine endD.intro rfl (.inr ⟨[], by decide, by simp, ?_⟩)
    simp [Out.mov, movT, movH, movD, D.mov, HO.mov, okM, renM, getW, D.ren, D.rens, D.okN, D.okNs, Cp.ren, Cp.okN, HO.ren, HO.okN, okA, renA, renO, hOf, handed, D.fgt, D.fgts, List.range_succ, List.idxOf_cons]
    try simp [Out.fgt, D.fgt, D.fgts]
  · rintro hc rfl
    simp
theorem wrD_ok (d : De) (h : Spec Tryd.prog glob 27 [.box 0 0, .ref (.agg [.int .i64 d.kd, .int .i64 d.lv, .int .i64 d.ty.k, .int .i64 d.ty.n, .int .i64 d.ty.a, .slice (d.ty.ls.map encL) .any, .slice (d.ty.ks.map encT) .any, .int .i64 d.bo.k, .int .i64 d.bo.n, .int .i64 d.bo.a, .slice (d.bo.ls.map encL) .any, .slice (d.bo.ks.map encT) .any, .slice (d.ps.map encT) .any, .slice (d.so.map encP) .any, .slice (d.ms.map encMb) .any, .slice (d.cs.map encCt) .any])] (WO []) (fun o hc => o = .ret (.tuple []) ∧ hc = WP (declB d))) : Spec Tryd.prog glob 26 [.fn (.func 27) [] [.ref (.agg [.int .i64 d.kd, .int .i64 d.lv, .int .i64 d.ty.k, .int .i64 d.ty.n, .int .i64 d.ty.a, .slice (d.ty.ls.map encL) .any, .slice (d.ty.ks.map encT) .any, .int .i64 d.bo.k, .int .i64 d.bo.n, .int .i64 d.bo.a, .slice (d.bo.ls.map encL) .any, .slice (d.bo.ks.map encT) .any, .slice (d.ps.map encT) .any, .slice (d.so.map encP) .any, .slice (d.ms.map encMb) .any, .slice (d.cs.map encCt) .any])]] [] (fun o _ => o.fgt = .ret (.tuple [.slice (byD (declB d)) .any, .bool true])) := by
  have h1 := trD_ok d h
  refine Spec.movd globPure (wpD_spec tyOK Tryd.func26 rfl (enters _ _ Tryd.func26 rfl (by decide)) rfl rfl ?_)
  (refine wpD_seqk fun K hK => ?_; refine wpD_region tyOK ?_; ((repeat (rw [wpS_cons]; simp)); (try simp only [wpS_nil, thenD, blockD])); refine hK _ _ _ ?_; clear hK K)
  refine wpD_stay (T := tyOf) 0 (ty := 71) (ds := [.fn (.func 27) [] [.ref (.agg [.int .i64 d.kd, .int .i64 d.lv, .int .i64 d.ty.k, .int .i64 d.ty.n, .int .i64 d.ty.a, .slice (d.ty.ls.map encL) .any, .slice (d.ty.ks.map encT) .any, .int .i64 d.bo.k, .int .i64 d.bo.n, .int .i64 d.bo.a, .slice (d.bo.ls.map encL) .any, .slice (d.bo.ks.map encT) .any, .slice (d.ps.map encT) .any, .slice (d.so.map encP) .any, .slice (d.ms.map encMb) .any, .slice (d.cs.map encCt) .any])]]) rfl rfl (by first | exact ⟨rfl, .inr ⟨_, rfl, rfl⟩⟩ | exact ⟨rfl, .inl rfl⟩) ?_
  simp [D.frzs, D.frz, HO.frz, dfFrz, refOf, TK.isAgg, FK.isB, FK.isM, FK.isO, D.isLen]
  (refine wpD_seqk fun K hK => ?_; refine wpD_region tyOK ?_; ((repeat (rw [wpS_cons]; simp)); (try simp only [wpS_nil, thenD, blockD])))
  refine cXp (h1) ?_
  ((try simp only [wpAft_ret, wpAft_pan, putS, updS, setS]); (repeat (rw [wpS_cons]; simp)); (try simp only [wpS_nil, thenD, blockD]))
  (refine hK _ _ _ ?_; clear hK K)
  (refine wpD_ret ?_; (try simp only [thenD, blockD]); refine EndQ.ret rfl (.inl ?_); simp [tmOf, Out.fgt, D.fgt, D.fgts])
theorem puD_ok (d : De) (h : Spec Tryd.prog glob 27 [.box 0 0, .ref (.agg [.int .i64 d.kd, .int .i64 d.lv, .int .i64 d.ty.k, .int .i64 d.ty.n, .int .i64 d.ty.a, .slice (d.ty.ls.map encL) .any, .slice (d.ty.ks.map encT) .any, .int .i64 d.bo.k, .int .i64 d.bo.n, .int .i64 d.bo.a, .slice (d.bo.ls.map encL) .any, .slice (d.bo.ks.map encT) .any, .slice (d.ps.map encT) .any, .slice (d.so.map encP) .any, .slice (d.ms.map encMb) .any, .slice (d.cs.map encCt) .any])] (WO []) (fun o hc => o = .ret (.tuple []) ∧ hc = WP (declB d))) : Spec Tryd.prog glob 9 [.agg [.int .i64 d.kd, .int .i64 d.lv, .int .i64 d.ty.k, .int .i64 d.ty.n, .int .i64 d.ty.a, .slice (d.ty.ls.map encL) .any, .slice (d.ty.ks.map encT) .any, .int .i64 d.bo.k, .int .i64 d.bo.n, .int .i64 d.bo.a, .slice (d.bo.ls.map encL) .any, .slice (d.bo.ks.map encT) .any, .slice (d.ps.map encT) .any, .slice (d.so.map encP) .any, .slice (d.ms.map encMb) .any, .slice (d.cs.map encCt) .any]] [] (fun o _ => o.fgt = .ret (.tuple [.slice (byD (declB d)) .any, .bool true])) := by
  have h1 := wrD_ok d h
  refine Spec.movd globPure (wpD_spec tyOK Tryd.func9 rfl (enters _ _ Tryd.func9 rfl (by decide)) rfl rfl ?_)
  (refine wpD_seqk fun K hK => ?_; refine wpD_region tyOK ?_; ((repeat (rw [wpS_cons]; simp)); (try simp only [wpS_nil, thenD, blockD])); refine hK _ _ _ ?_; clear hK K)
  refine wpD_stay (T := tyOf) 0 (ty := 34) (ds := [.int .i64 d.kd, .int .i64 d.lv, .int .i64 d.ty.k, .int .i64 d.ty.n, .int .i64 d.ty.a, .slice (d.ty.ls.map encL) .any, .slice (d.ty.ks.map encT) .any, .int .i64 d.bo.k, .int .i64 d.bo.n, .int .i64 d.bo.a, .slice (d.bo.ls.map encL) .any, .slice (d.bo.ks.map encT) .any, .slice (d.ps.map encT) .any, .slice (d.so.map encP) .any, .slice (d.ms.map encMb) .any, .slice (d.cs.map encCt) .any]) rfl rfl (by first | exact ⟨rfl, .inr ⟨_, rfl, rfl⟩⟩ | exact ⟨rfl, .inl rfl⟩) ?_
  simp [D.frzs, D.frz, HO.frz, dfFrz, refOf, TK.isAgg, FK.isB, FK.isM, FK.isO, D.isLen]
  (refine wpD_seqk fun K hK => ?_; refine wpD_region tyOK ?_; ((repeat (rw [wpS_cons]; simp)); (try simp only [wpS_nil, thenD, blockD])))
  refine cXp (h1) ?_
  ((try simp only [wpAft_ret, wpAft_pan, putS, updS, setS]); (repeat (rw [wpS_cons]; simp)); (try simp only [wpS_nil, thenD, blockD]))
  (refine hK _ _ _ ?_; clear hK K)
  (refine wpD_ret ?_; (try simp only [thenD, blockD]); refine EndQ.ret rfl (.inl ?_); simp [tmOf, Out.fgt, D.fgt, D.fgts])
theorem w1D_no (d : De) (h : Spec Tryd.prog glob 27 [.box 0 0, .ref (.agg [.int .i64 d.kd, .int .i64 d.lv, .int .i64 d.ty.k, .int .i64 d.ty.n, .int .i64 d.ty.a, .slice (d.ty.ls.map encL) .any, .slice (d.ty.ks.map encT) .any, .int .i64 d.bo.k, .int .i64 d.bo.n, .int .i64 d.bo.a, .slice (d.bo.ls.map encL) .any, .slice (d.bo.ks.map encT) .any, .slice (d.ps.map encT) .any, .slice (d.so.map encP) .any, .slice (d.ms.map encMb) .any, .slice (d.cs.map encCt) .any])] (WO []) (fun o hc => o = .pan pnoneD ∧ hc = [.dead, .dead])) : Spec Tryd.prog glob 53 [.ref (.fn (.func 27) [] [.ref (.agg [.int .i64 d.kd, .int .i64 d.lv, .int .i64 d.ty.k, .int .i64 d.ty.n, .int .i64 d.ty.a, .slice (d.ty.ls.map encL) .any, .slice (d.ty.ks.map encT) .any, .int .i64 d.bo.k, .int .i64 d.bo.n, .int .i64 d.bo.a, .slice (d.bo.ls.map encL) .any, .slice (d.bo.ks.map encT) .any, .slice (d.ps.map encT) .any, .slice (d.so.map encP) .any, .slice (d.ms.map encMb) .any, .slice (d.cs.map encCt) .any])])] [] (fun o _ => o.fgt = .pan pnoneD) := by
  have kd := kpk_spec
  rw [show D.mapc (kindsE.map (·.1)) (kindsE.map (·.2)) = kmD from rfl] at kd
  unfold WO at h
  rw [show byD [] = [] from rfl] at h
  refine Spec.movd globPure (wpD_spec tyOK Tryd.func53 rfl (enters _ _ Tryd.func53 rfl (by decide)) rfl rfl ?_)
  (refine wpD_seqk fun K hK => ?_; refine wpD_region tyOK ?_; ((repeat (rw [wpS_cons]; simp)); (try simp only [wpS_nil, thenD, blockD])); refine hK _ _ _ ?_; clear hK K)
  (refine wpD_seqk fun K hK => ?_; refine wpD_region tyOK ?_; ((repeat (rw [wpS_cons]; simp)); (try simp only [wpS_nil, thenD, blockD])))
  refine cXp (kd) ?_
  ((try simp only [wpAft_ret, wpAft_pan, putS, updS, setS]); (repeat (rw [wpS_cons]; simp)); (try simp only [wpS_nil, thenD, blockD]))
  (refine hK _ _ _ ?_; clear hK K)
  refine wpD_ownO 0 0 1 (ty := 103) (ds := [.slice [] .full, kmD]) rfl ?_
  simp [D.ownd]
  (refine wpD_seqk fun K hK => ?_; refine wpD_region tyOK ?_; ((repeat (rw [wpS_cons]; simp)); (try simp only [wpS_nil, thenD, blockD])))
  refine cXo [0, 1] true (h) ?_
  (rintro o hc ⟨rfl, rfl⟩; refine ⟨false, ?_⟩; simp [D.ren, D.rens, D.okN, D.okNs, Cp.ren, Cp.okN, HO.ren, HO.okN, okA, renA, renO, hOf, handed, D.fgt, D.fgts, List.range_succ, List.idxOf_cons, Out.ren, told, Out.fgt, upO, updS, setS])
  ((try simp only [thenD, blockD]); refine EndQ.pan (.inl ?_); simp [Out.fgt, D.fgt, D.fgts])
theorem trD_no (d : De) (h : Spec Tryd.prog glob 27 [.box 0 0, .ref (.agg [.int .i64 d.kd, .int .i64 d.lv, .int .i64 d.ty.k, .int .i64 d.ty.n, .int .i64 d.ty.a, .slice (d.ty.ls.map encL) .any, .slice (d.ty.ks.map encT) .any, .int .i64 d.bo.k, .int .i64 d.bo.n, .int .i64 d.bo.a, .slice (d.bo.ls.map encL) .any, .slice (d.bo.ks.map encT) .any, .slice (d.ps.map encT) .any, .slice (d.so.map encP) .any, .slice (d.ms.map encMb) .any, .slice (d.cs.map encCt) .any])] (WO []) (fun o hc => o = .pan pnoneD ∧ hc = [.dead, .dead])) : Spec Tryd.prog glob 52 [.fn (.func 53) [] [.ref (.fn (.func 27) [] [.ref (.agg [.int .i64 d.kd, .int .i64 d.lv, .int .i64 d.ty.k, .int .i64 d.ty.n, .int .i64 d.ty.a, .slice (d.ty.ls.map encL) .any, .slice (d.ty.ks.map encT) .any, .int .i64 d.bo.k, .int .i64 d.bo.n, .int .i64 d.bo.a, .slice (d.bo.ls.map encL) .any, .slice (d.bo.ks.map encT) .any, .slice (d.ps.map encT) .any, .slice (d.so.map encP) .any, .slice (d.ms.map encMb) .any, .slice (d.cs.map encCt) .any])])]] [] (fun o _ => o.fgt = .ret (.tuple [.slice [] .any, .bool false])) := by
  have h1 := w1D_no d h
  refine Spec.movd globPure (wpD_specD tyOK Tryd.func52 rfl (enters _ _ Tryd.func52 rfl (by decide)) rfl rfl ?_)
  (refine wpD_seqk fun K hK => ?_; refine wpD_region tyOK ?_; ((repeat (rw [wpS_cons]; simp)); (try simp only [wpS_nil, thenD, blockD])); refine hK _ _ _ ?_; clear hK K)
  (refine wpD_seqk fun K hK => ?_; refine wpD_region tyOK ?_; ((repeat (rw [wpS_cons]; simp)); (try simp only [wpS_nil, thenD, blockD])); refine hK _ _ _ ?_; clear hK K)
  (refine wpD_seqk fun K hK => ?_; refine wpD_region tyOK ?_; ((repeat (rw [wpS_cons]; simp)); (try simp only [wpS_nil, thenD, blockD])))
  refine CallX.pure globPure (h1) ?_ (by simp [D.fgts, D.fgt, pnoneD]) (by simp [D.pures, D.pure, Cp.free, D.pures_map, pnoneD]) (by simp [Out.pure, D.pure, D.pures, Cp.free, D.pures_map, pnoneD])
  ((try simp only [wpAft_ret, wpAft_pan, putS, updS, setS]); (repeat (rw [wpS_cons]; simp)); (try simp only [wpS_nil, thenD, blockD]))
  (try simp only [thenD, blockD])
  refine DefX.objs globPure [0, 1] (cN_by [] .full false) ?_ ?_ (fun d h => by cases h <;> rfl) (by decide) (by simp) (by simp [D.ren, D.rens, D.okN, D.okNs, Cp.ren, Cp.okN, HO.ren, HO.okN, okA, renA, renO, hOf, handed, D.fgt, D.fgts, List.range_succ, List.idxOf_cons]) (by simp [D.ren, D.rens, D.okN, D.okNs, Cp.ren, Cp.okN, HO.ren, HO.okN, okA, renA, renO, hOf, handed, D.fgt, D.fgts, List.range_succ, List.idxOf_cons]) (by simp [D.ren, D.rens, D.okN, D.okNs, Cp.ren, Cp.okN, HO.ren, HO.okN, okA, renA, renO, hOf, handed, D.fgt, D.fgts, List.range_succ, List.idxOf_cons]) (by simp [D.ren, D.rens, D.okN, D.okNs, Cp.ren, Cp.okN, HO.ren, HO.okN, okA, renA, renO, hOf, handed, D.fgt, D.fgts, List.range_succ, List.idxOf_cons])
  · rintro hc rfl
    simp [D.ren, D.rens, D.okN, D.okNs, Cp.ren, Cp.okN, HO.ren, HO.okN, okA, renA, renO, hOf, handed, D.fgt, D.fgts, List.range_succ, List.idxOf_cons, upO, updS, setS]
    refine endD.intro rfl (.inr ⟨[], by decide, by simp, ?_⟩)
    simp [Out.mov, movT, movH, movD, D.mov, HO.mov, okM, renM, getW, D.ren, D.rens, D.okN, D.okNs, Cp.ren, Cp.okN, HO.ren, HO.okN, okA, renA, renO, hOf, handed, D.fgt, D.fgts, List.range_succ, List.idxOf_cons]
    try simp [Out.fgt, D.fgt, D.fgts]
  · rintro hc rfl
    simp
theorem wrD_no (d : De) (h : Spec Tryd.prog glob 27 [.box 0 0, .ref (.agg [.int .i64 d.kd, .int .i64 d.lv, .int .i64 d.ty.k, .int .i64 d.ty.n, .int .i64 d.ty.a, .slice (d.ty.ls.map encL) .any, .slice (d.ty.ks.map encT) .any, .int .i64 d.bo.k, .int .i64 d.bo.n, .int .i64 d.bo.a, .slice (d.bo.ls.map encL) .any, .slice (d.bo.ks.map encT) .any, .slice (d.ps.map encT) .any, .slice (d.so.map encP) .any, .slice (d.ms.map encMb) .any, .slice (d.cs.map encCt) .any])] (WO []) (fun o hc => o = .pan pnoneD ∧ hc = [.dead, .dead])) : Spec Tryd.prog glob 26 [.fn (.func 27) [] [.ref (.agg [.int .i64 d.kd, .int .i64 d.lv, .int .i64 d.ty.k, .int .i64 d.ty.n, .int .i64 d.ty.a, .slice (d.ty.ls.map encL) .any, .slice (d.ty.ks.map encT) .any, .int .i64 d.bo.k, .int .i64 d.bo.n, .int .i64 d.bo.a, .slice (d.bo.ls.map encL) .any, .slice (d.bo.ks.map encT) .any, .slice (d.ps.map encT) .any, .slice (d.so.map encP) .any, .slice (d.ms.map encMb) .any, .slice (d.cs.map encCt) .any])]] [] (fun o _ => o.fgt = .ret (.tuple [.slice [] .any, .bool false])) := by
  have h1 := trD_no d h
  refine Spec.movd globPure (wpD_spec tyOK Tryd.func26 rfl (enters _ _ Tryd.func26 rfl (by decide)) rfl rfl ?_)
  (refine wpD_seqk fun K hK => ?_; refine wpD_region tyOK ?_; ((repeat (rw [wpS_cons]; simp)); (try simp only [wpS_nil, thenD, blockD])); refine hK _ _ _ ?_; clear hK K)
  refine wpD_stay (T := tyOf) 0 (ty := 71) (ds := [.fn (.func 27) [] [.ref (.agg [.int .i64 d.kd, .int .i64 d.lv, .int .i64 d.ty.k, .int .i64 d.ty.n, .int .i64 d.ty.a, .slice (d.ty.ls.map encL) .any, .slice (d.ty.ks.map encT) .any, .int .i64 d.bo.k, .int .i64 d.bo.n, .int .i64 d.bo.a, .slice (d.bo.ls.map encL) .any, .slice (d.bo.ks.map encT) .any, .slice (d.ps.map encT) .any, .slice (d.so.map encP) .any, .slice (d.ms.map encMb) .any, .slice (d.cs.map encCt) .any])]]) rfl rfl (by first | exact ⟨rfl, .inr ⟨_, rfl, rfl⟩⟩ | exact ⟨rfl, .inl rfl⟩) ?_
  simp [D.frzs, D.frz, HO.frz, dfFrz, refOf, TK.isAgg, FK.isB, FK.isM, FK.isO, D.isLen]
  (refine wpD_seqk fun K hK => ?_; refine wpD_region tyOK ?_; ((repeat (rw [wpS_cons]; simp)); (try simp only [wpS_nil, thenD, blockD])))
  refine cXp (h1) ?_
  ((try simp only [wpAft_ret, wpAft_pan, putS, updS, setS]); (repeat (rw [wpS_cons]; simp)); (try simp only [wpS_nil, thenD, blockD]))
  (refine hK _ _ _ ?_; clear hK K)
  (refine wpD_ret ?_; (try simp only [thenD, blockD]); refine EndQ.ret rfl (.inl ?_); simp [tmOf, Out.fgt, D.fgt, D.fgts])
theorem puD_no (d : De) (h : Spec Tryd.prog glob 27 [.box 0 0, .ref (.agg [.int .i64 d.kd, .int .i64 d.lv, .int .i64 d.ty.k, .int .i64 d.ty.n, .int .i64 d.ty.a, .slice (d.ty.ls.map encL) .any, .slice (d.ty.ks.map encT) .any, .int .i64 d.bo.k, .int .i64 d.bo.n, .int .i64 d.bo.a, .slice (d.bo.ls.map encL) .any, .slice (d.bo.ks.map encT) .any, .slice (d.ps.map encT) .any, .slice (d.so.map encP) .any, .slice (d.ms.map encMb) .any, .slice (d.cs.map encCt) .any])] (WO []) (fun o hc => o = .pan pnoneD ∧ hc = [.dead, .dead])) : Spec Tryd.prog glob 9 [.agg [.int .i64 d.kd, .int .i64 d.lv, .int .i64 d.ty.k, .int .i64 d.ty.n, .int .i64 d.ty.a, .slice (d.ty.ls.map encL) .any, .slice (d.ty.ks.map encT) .any, .int .i64 d.bo.k, .int .i64 d.bo.n, .int .i64 d.bo.a, .slice (d.bo.ls.map encL) .any, .slice (d.bo.ks.map encT) .any, .slice (d.ps.map encT) .any, .slice (d.so.map encP) .any, .slice (d.ms.map encMb) .any, .slice (d.cs.map encCt) .any]] [] (fun o _ => o.fgt = .ret (.tuple [.slice [] .any, .bool false])) := by
  have h1 := wrD_no d h
  refine Spec.movd globPure (wpD_spec tyOK Tryd.func9 rfl (enters _ _ Tryd.func9 rfl (by decide)) rfl rfl ?_)
  (refine wpD_seqk fun K hK => ?_; refine wpD_region tyOK ?_; ((repeat (rw [wpS_cons]; simp)); (try simp only [wpS_nil, thenD, blockD])); refine hK _ _ _ ?_; clear hK K)
  refine wpD_stay (T := tyOf) 0 (ty := 34) (ds := [.int .i64 d.kd, .int .i64 d.lv, .int .i64 d.ty.k, .int .i64 d.ty.n, .int .i64 d.ty.a, .slice (d.ty.ls.map encL) .any, .slice (d.ty.ks.map encT) .any, .int .i64 d.bo.k, .int .i64 d.bo.n, .int .i64 d.bo.a, .slice (d.bo.ls.map encL) .any, .slice (d.bo.ks.map encT) .any, .slice (d.ps.map encT) .any, .slice (d.so.map encP) .any, .slice (d.ms.map encMb) .any, .slice (d.cs.map encCt) .any]) rfl rfl (by first | exact ⟨rfl, .inr ⟨_, rfl, rfl⟩⟩ | exact ⟨rfl, .inl rfl⟩) ?_
  simp [D.frzs, D.frz, HO.frz, dfFrz, refOf, TK.isAgg, FK.isB, FK.isM, FK.isO, D.isLen]
  (refine wpD_seqk fun K hK => ?_; refine wpD_region tyOK ?_; ((repeat (rw [wpS_cons]; simp)); (try simp only [wpS_nil, thenD, blockD])))
  refine cXp (h1) ?_
  ((try simp only [wpAft_ret, wpAft_pan, putS, updS, setS]); (repeat (rw [wpS_cons]; simp)); (try simp only [wpS_nil, thenD, blockD]))
  (refine hK _ _ _ ?_; clear hK K)
  (refine wpD_ret ?_; (try simp only [thenD, blockD]); refine EndQ.ret rfl (.inl ?_); simp [tmOf, Out.fgt, D.fgt, D.fgts])
theorem w1A_ok (l : List De) (h : Spec Tryd.prog glob 47 [.box 0 0, .ref (.slice (l.map encDe) .any)] (WO []) (fun o hc => o = .ret (.tuple []) ∧ hc = WP (l.flatMap declB))) : Spec Tryd.prog glob 53 [.ref (.fn (.func 47) [] [.ref (.slice (l.map encDe) .any)])] [] (fun o _ => o.fgt = .ret (.slice (byD (l.flatMap declB)) .any)) := by
  have kd := kpk_spec
  rw [show D.mapc (kindsE.map (·.1)) (kindsE.map (·.2)) = kmD from rfl] at kd
  unfold WO WP at h
  rw [show byD [] = [] from rfl] at h
  refine Spec.movd globPure (wpD_spec tyOK Tryd.func53 rfl (enters _ _ Tryd.func53 rfl (by decide)) rfl rfl ?_)
  (refine wpD_seqk fun K hK => ?_; refine wpD_region tyOK ?_; ((repeat (rw [wpS_cons]; simp)); (try simp only [wpS_nil, thenD, blockD])); refine hK _ _ _ ?_; clear hK K)
  (refine wpD_seqk fun K hK => ?_; refine wpD_region tyOK ?_; ((repeat (rw [wpS_cons]; simp)); (try simp only [wpS_nil, thenD, blockD])))
  refine cXp (kd) ?_
  ((try simp only [wpAft_ret, wpAft_pan, putS, updS, setS]); (repeat (rw [wpS_cons]; simp)); (try simp only [wpS_nil, thenD, blockD]))
  (refine hK _ _ _ ?_; clear hK K)
  refine wpD_ownO 0 0 1 (ty := 103) (ds := [.slice [] .full, kmD]) rfl ?_
  simp [D.ownd]
  (refine wpD_seqk fun K hK => ?_; refine wpD_region tyOK ?_; ((repeat (rw [wpS_cons]; simp)); (try simp only [wpS_nil, thenD, blockD])))
  refine cXo [0, 1] true (h) ?_
  (rintro o hc ⟨rfl, rfl⟩; refine ⟨false, ?_⟩; simp [D.ren, D.rens, D.okN, D.okNs, Cp.ren, Cp.okN, HO.ren, HO.okN, okA, renA, renO, hOf, handed, D.fgt, D.fgts, List.range_succ, List.idxOf_cons, Out.ren, told, Out.fgt, upO, updS, setS])
  (refine hK _ _ _ ?_; clear hK K)
  (refine wpD_stayO 2 rfl ?_; simp [D.frzs, D.frz, HO.frz, dfFrz, FK.isB, FK.isM, FK.isO, D.isLen, byD_one])
  (refine wpD_seqk fun K hK => ?_; refine wpD_region tyOK ?_; ((repeat (rw [wpS_cons]; simp)); (try simp only [wpS_nil, thenD, blockD])); refine hK _ _ _ ?_; clear hK K)
  (refine wpD_ret ?_; (try simp only [thenD, blockD]); refine EndQ.ret rfl (.inl ?_); simp [tmOf, Out.fgt, D.fgt, D.fgts])
theorem trA_ok (l : List De) (h : Spec Tryd.prog glob 47 [.box 0 0, .ref (.slice (l.map encDe) .any)] (WO []) (fun o hc => o = .ret (.tuple []) ∧ hc = WP (l.flatMap declB))) : Spec Tryd.prog glob 52 [.fn (.func 53) [] [.ref (.fn (.func 47) [] [.ref (.slice (l.map encDe) .any)])]] [] (fun o _ => o.fgt = .ret (.tuple [.slice (byD (l.flatMap declB)) .any, .bool true])) := by
  have h1 := w1A_ok l h
  refine Spec.movd globPure (wpD_specD tyOK Tryd.func52 rfl (enters _ _ Tryd.func52 rfl (by decide)) rfl rfl ?_)
  (refine wpD_seqk fun K hK => ?_; refine wpD_region tyOK ?_; ((repeat (rw [wpS_cons]; simp)); (try simp only [wpS_nil, thenD, blockD])); refine hK _ _ _ ?_; clear hK K)
  (refine wpD_seqk fun K hK => ?_; refine wpD_region tyOK ?_; ((repeat (rw [wpS_cons]; simp)); (try simp only [wpS_nil, thenD, blockD])); refine hK _ _ _ ?_; clear hK K)
  (refine wpD_seqk fun K hK => ?_; refine wpD_region tyOK ?_; ((repeat (rw [wpS_cons]; simp)); (try simp only [wpS_nil, thenD, blockD])))
  refine cXp (h1) ?_
  ((try simp only [wpAft_ret, wpAft_pan, putS, updS, setS]); (repeat (rw [wpS_cons]; simp)); (try simp only [wpS_nil, thenD, blockD]))
  (refine hK _ _ _ ?_; clear hK K)
  refine wpD_ret ?_
  refine DefX.objs globPure [0, 1] (cI_by (byD (l.flatMap declB)) .any true) ?_ ?_ (fun d h => by cases h) (by decide) (by simp) (by simp [D.ren, D.rens, D.okN, D.okNs, Cp.ren, Cp.okN, HO.ren, HO.okN, okA, renA, renO, hOf, handed, D.fgt, D.fgts, List.range_succ, List.idxOf_cons]) (by simp [D.ren, D.rens, D.okN, D.okNs, Cp.ren, Cp.okN, HO.ren, HO.okN, okA, renA, renO, hOf, handed, D.fgt, D.fgts, List.range_succ, List.idxOf_cons]) (by simp [D.ren, D.rens, D.okN, D.okNs, Cp.ren, Cp.okN, HO.ren, HO.okN, okA, renA, renO, hOf, handed, D.fgt, D.fgts, List.range_succ, List.idxOf_cons]) (by simp [D.ren, D.rens, D.okN, D.okNs, Cp.ren, Cp.okN, HO.ren, HO.okN, okA, renA, renO, hOf, handed, D.fgt, D.fgts, List.range_succ, List.idxOf_cons])
  · rintro hc rfl
    simp [D.ren, D.rens, D.okN, D.okNs, Cp.ren, Cp.okN, HO.ren, HO.okN, okA, renA, renO, hOf, handed, D.fgt, D.fgts, List.range_succ, List.idxOf_cons, upO, updS, setS]
    refine endD.intro rfl (.inr ⟨[], by decide, by simp, ?_⟩)
    simp [Out.mov, movT, movH, movD, D.mov, HO.mov, okM, renM, getW, D.ren, D.rens, D.okN, D.okNs, Cp.ren, Cp.okN, HO.ren, HO.okN, okA, renA, renO, hOf, handed, D.fgt, D.fgts, List.range_succ, List.idxOf_cons]
    try simp [Out.fgt, D.fgt, D.fgts]
  · rintro hc rfl
    simp
theorem wrA_ok (l : List De) (h : Spec Tryd.prog glob 47 [.box 0 0, .ref (.slice (l.map encDe) .any)] (WO []) (fun o hc => o = .ret (.tuple []) ∧ hc = WP (l.flatMap declB))) : Spec Tryd.prog glob 26 [.fn (.func 47) [] [.ref (.slice (l.map encDe) .any)]] [] (fun o _ => o.fgt = .ret (.tuple [.slice (byD (l.flatMap declB)) .any, .bool true])) := by
  have h1 := trA_ok l h
  refine Spec.movd globPure (wpD_spec tyOK Tryd.func26 rfl (enters _ _ Tryd.func26 rfl (by decide)) rfl rfl ?_)
  (refine wpD_seqk fun K hK => ?_; refine wpD_region tyOK ?_; ((repeat (rw [wpS_cons]; simp)); (try simp only [wpS_nil, thenD, blockD])); refine hK _ _ _ ?_; clear hK K)
  refine wpD_stay (T := tyOf) 0 (ty := 71) (ds := [.fn (.func 47) [] [.ref (.slice (l.map encDe) .any)]]) rfl rfl (by first | exact ⟨rfl, .inr ⟨_, rfl, rfl⟩⟩ | exact ⟨rfl, .inl rfl⟩) ?_
  simp [D.frzs, D.frz, HO.frz, dfFrz, refOf, TK.isAgg, FK.isB, FK.isM, FK.isO, D.isLen]
  (refine wpD_seqk fun K hK => ?_; refine wpD_region tyOK ?_; ((repeat (rw [wpS_cons]; simp)); (try simp only [wpS_nil, thenD, blockD])))
  refine cXp (h1) ?_
  ((try simp only [wpAft_ret, wpAft_pan, putS, updS, setS]); (repeat (rw [wpS_cons]; simp)); (try simp only [wpS_nil, thenD, blockD]))
  (refine hK _ _ _ ?_; clear hK K)
  (refine wpD_ret ?_; (try simp only [thenD, blockD]); refine EndQ.ret rfl (.inl ?_); simp [tmOf, Out.fgt, D.fgt, D.fgts])
theorem puA_ok (l : List De) (h : Spec Tryd.prog glob 47 [.box 0 0, .ref (.slice (l.map encDe) .any)] (WO []) (fun o hc => o = .ret (.tuple []) ∧ hc = WP (l.flatMap declB))) : Spec Tryd.prog glob 18 [.slice (l.map encDe) .any] [] (fun o _ => o.fgt = .ret (.tuple [.slice (byD (l.flatMap declB)) .any, .bool true])) := by
  have h1 := wrA_ok l h
  refine Spec.movd globPure (wpD_spec tyOK Tryd.func18 rfl (enters _ _ Tryd.func18 rfl (by decide)) rfl rfl ?_)
  (refine wpD_seqk fun K hK => ?_; refine wpD_region tyOK ?_; ((repeat (rw [wpS_cons]; simp)); (try simp only [wpS_nil, thenD, blockD])); refine hK _ _ _ ?_; clear hK K)
  refine wpD_stay (T := tyOf) 0 (ty := 51) (ds := [.slice (l.map encDe) .any]) rfl rfl (by first | exact ⟨rfl, .inr ⟨_, rfl, rfl⟩⟩ | exact ⟨rfl, .inl rfl⟩) ?_
  simp [D.frzs, D.frz, HO.frz, dfFrz, refOf, TK.isAgg, FK.isB, FK.isM, FK.isO, D.isLen]
  (refine wpD_seqk fun K hK => ?_; refine wpD_region tyOK ?_; ((repeat (rw [wpS_cons]; simp)); (try simp only [wpS_nil, thenD, blockD])))
  refine cXp (h1) ?_
  ((try simp only [wpAft_ret, wpAft_pan, putS, updS, setS]); (repeat (rw [wpS_cons]; simp)); (try simp only [wpS_nil, thenD, blockD]))
  (refine hK _ _ _ ?_; clear hK K)
  (refine wpD_ret ?_; (try simp only [thenD, blockD]); refine EndQ.ret rfl (.inl ?_); simp [tmOf, Out.fgt, D.fgt, D.fgts])
theorem w1A_no (l : List De) (h : Spec Tryd.prog glob 47 [.box 0 0, .ref (.slice (l.map encDe) .any)] (WO []) (fun o hc => o = .pan pnoneD ∧ hc = [.dead, .dead])) : Spec Tryd.prog glob 53 [.ref (.fn (.func 47) [] [.ref (.slice (l.map encDe) .any)])] [] (fun o _ => o.fgt = .pan pnoneD) := by
  have kd := kpk_spec
  rw [show D.mapc (kindsE.map (·.1)) (kindsE.map (·.2)) = kmD from rfl] at kd
  unfold WO at h
  rw [show byD [] = [] from rfl] at h
  refine Spec.movd globPure (wpD_spec tyOK Tryd.func53 rfl (enters _ _ Tryd.func53 rfl (by decide)) rfl rfl ?_)
  (refine wpD_seqk fun K hK => ?_; refine wpD_region tyOK ?_; ((repeat (rw [wpS_cons]; simp)); (try simp only [wpS_nil, thenD, blockD])); refine hK _ _ _ ?_; clear hK K)
  (refine wpD_seqk fun K hK => ?_; refine wpD_region tyOK ?_; ((repeat (rw [wpS_cons]; simp)); (try simp only [wpS_nil, thenD, blockD])))
  refine cXp (kd) ?_
  ((try simp only [wpAft_ret, wpAft_pan, putS, updS, setS]); (repeat (rw [wpS_cons]; simp)); (try simp only [wpS_nil, thenD, blockD]))
  (refine hK _ _ _ ?_; clear hK K)
  refine wpD_ownO 0 0 1 (ty := 103) (ds := [.slice [] .full, kmD]) rfl ?_
  simp [D.ownd]
  (refine wpD_seqk fun K hK => ?_; refine wpD_region tyOK ?_; ((repeat (rw [wpS_cons]; simp)); (try simp only [wpS_nil, thenD, blockD])))
  refine cXo [0, 1] true (h) ?_
  (rintro o hc ⟨rfl, rfl⟩; refine ⟨false, ?_⟩; simp [D.ren, D.rens, D.okN, D.okNs, Cp.ren, Cp.okN, HO.ren, HO.okN, okA, renA, renO, hOf, handed, D.fgt, D.fgts, List.range_succ, List.idxOf_cons, Out.ren, told, Out.fgt, upO, updS, setS])
  ((try simp only [thenD, blockD]); refine EndQ.pan (.inl ?_); simp [Out.fgt, D.fgt, D.fgts])
theorem trA_no (l : List De) (h : Spec Tryd.prog glob 47 [.box 0 0, .ref (.slice (l.map encDe) .any)] (WO []) (fun o hc => o = .pan pnoneD ∧ hc = [.dead, .dead])) : Spec Tryd.prog glob 52 [.fn (.func 53) [] [.ref (.fn (.func 47) [] [.ref (.slice (l.map encDe) .any)])]] [] (fun o _ => o.fgt = .ret (.tuple [.slice [] .any, .bool false])) := by
  have h1 := w1A_no l h
  refine Spec.movd globPure (wpD_specD tyOK Tryd.func52 rfl (enters _ _ Tryd.func52 rfl (by decide)) rfl rfl ?_)
  (refine wpD_seqk fun K hK => ?_; refine wpD_region tyOK ?_; ((repeat (rw [wpS_cons]; simp)); (try simp only [wpS_nil, thenD, blockD])); refine hK _ _ _ ?_; clear hK K)
  (refine wpD_seqk fun K hK => ?_; refine wpD_region tyOK ?_; ((repeat (rw [wpS_cons]; simp)); (try simp only [wpS_nil, thenD, blockD])); refine hK _ _ _ ?_; clear hK K)
  (refine wpD_seqk fun K hK => ?_; refine wpD_region tyOK ?_; ((repeat (rw [wpS_cons]; simp)); (try simp only [wpS_nil, thenD, blockD])))
  refine CallX.pure globPure (h1) ?_ (by simp [D.fgts, D.fgt, pnoneD]) (by simp [D.pures, D.pure, Cp.free, D.pures_map, pnoneD]) (by simp [Out.pure, D.pure, D.pures, Cp.free, D.pures_map, pnoneD])
  ((try simp only [wpAft_ret, wpAft_pan, putS, updS, setS]); (repeat (rw [wpS_cons]; simp)); (try simp only [wpS_nil, thenD, blockD]))
  (try simp only [thenD, blockD])
  refine DefX.objs globPure [0, 1] (cN_by [] .full false) ?_ ?_ (fun d h => by cases h <;> rfl) (by decide) (by simp) (by simp [D.ren, D.rens, D.okN, D.okNs, Cp.ren, Cp.okN, HO.ren, HO.okN, okA, renA, renO, hOf, handed, D.fgt, D.fgts, List.range_succ, List.idxOf_cons]) (by simp [D.ren, D.rens, D.okN, D.okNs, Cp.ren, Cp.okN, HO.ren, HO.okN, okA, renA, renO, hOf, handed, D.fgt, D.fgts, List.range_succ, List.idxOf_cons]) (by simp [D.ren, D.rens, D.okN, D.okNs, Cp.ren, Cp.okN, HO.ren, HO.okN, okA, renA, renO, hOf, handed, D.fgt, D.fgts, List.range_succ, List.idxOf_cons]) (by simp [D.ren, D.rens, D.okN, D.okNs, Cp.ren, Cp.okN, HO.ren, HO.okN, okA, renA, renO, hOf, handed, D.fgt, D.fgts, List.range_succ, List.idxOf_cons])
  · rintro hc rfl
    simp [D.ren, D.rens, D.okN, D.okNs, Cp.ren, Cp.okN, HO.ren, HO.okN, okA, renA, renO, hOf, handed, D.fgt, D.fgts, List.range_succ, List.idxOf_cons, upO, updS, setS]
    refine endD.intro rfl (.inr ⟨[], by decide, by simp, ?_⟩)
    simp [Out.mov, movT, movH, movD, D.mov, HO.mov, okM, renM, getW, D.ren, D.rens, D.okN, D.okNs, Cp.ren, Cp.okN, HO.ren, HO.okN, okA, renA, renO, hOf, handed, D.fgt, D.fgts, List.range_succ, List.idxOf_cons]
    try simp [Out.fgt, D.fgt, D.fgts]
  · rintro hc rfl
    simp
theorem wrA_no (l : List De) (h : Spec Tryd.prog glob 47 [.box 0 0, .ref (.slice (l.map encDe) .any)] (WO []) (fun o hc => o = .pan pnoneD ∧ hc = [.dead, .dead])) : Spec Tryd.prog glob 26 [.fn (.func 47) [] [.ref (.slice (l.map encDe) .any)]] [] (fun o _ => o.fgt = .ret (.tuple [.slice [] .any, .bool false])) := by
  have h1 := trA_no l h
  refine Spec.movd globPure (wpD_spec tyOK Tryd.func26 rfl (enters _ _ Tryd.func26 rfl (by decide)) rfl rfl ?_)
  (refine wpD_seqk fun K hK => ?_; refine wpD_region tyOK ?_; ((repeat (rw [wpS_cons]; simp)); (try simp only [wpS_nil, thenD, blockD])); refine hK _ _ _ ?_; clear hK K)
  refine wpD_stay (T := tyOf) 0 (ty := 71) (ds := [.fn (.func 47) [] [.ref (.slice (l.map encDe) .any)]]) rfl rfl (by first | exact ⟨rfl, .inr ⟨_, rfl, rfl⟩⟩ | exact ⟨rfl, .inl rfl⟩) ?_
  simp [D.frzs, D.frz, HO.frz, dfFrz, refOf, TK.isAgg, FK.isB, FK.isM, FK.isO, D.isLen]
  (refine wpD_seqk fun K hK => ?_; refine wpD_region tyOK ?_; ((repeat (rw [wpS_cons]; simp)); (try simp only [wpS_nil, thenD, blockD])))
  refine cXp (h1) ?_
  ((try simp only [wpAft_ret, wpAft_pan, putS, updS, setS]); (repeat (rw [wpS_cons]; simp)); (try simp only [wpS_nil, thenD, blockD]))
  (refine hK _ _ _ ?_; clear hK K)
  (refine wpD_ret ?_; (try simp only [thenD, blockD]); refine EndQ.ret rfl (.inl ?_); simp [tmOf, Out.fgt, D.fgt, D.fgts])
theorem puA_no (l : List De) (h : Spec Tryd.prog glob 47 [.box 0 0, .ref (.slice (l.map encDe) .any)] (WO []) (fun o hc => o = .pan pnoneD ∧ hc = [.dead, .dead])) : Spec Tryd.prog glob 18 [.slice (l.map encDe) .any] [] (fun o _ => o.fgt = .ret (.tuple [.slice [] .any, .bool false])) := by
  have h1 := wrA_no l h
  refine Spec.movd globPure (wpD_spec tyOK Tryd.func18 rfl (enters _ _ Tryd.func18 rfl (by decide)) rfl rfl ?_)
  (refine wpD_seqk fun K hK => ?_; refine wpD_region tyOK ?_; ((repeat (rw [wpS_cons]; simp)); (try simp only [wpS_nil, thenD, blockD])); refine hK _ _ _ ?_; clear hK K)
  refine wpD_stay (T := tyOf) 0 (ty := 51) (ds := [.slice (l.map encDe) .any]) rfl rfl (by first | exact ⟨rfl, .inr ⟨_, rfl, rfl⟩⟩ | exact ⟨rfl, .inl rfl⟩) ?_
  simp [D.frzs, D.frz, HO.frz, dfFrz, refOf, TK.isAgg, FK.isB, FK.isM, FK.isO, D.isLen]
  (refine wpD_seqk fun K hK => ?_; refine wpD_region tyOK ?_; ((repeat (rw [wpS_cons]; simp)); (try simp only [wpS_nil, thenD, blockD])))
  refine cXp (h1) ?_
  ((try simp only [wpAft_ret, wpAft_pan, putS, updS, setS]); (repeat (rw [wpS_cons]; simp)); (try simp only [wpS_nil, thenD, blockD]))
  (refine hK _ _ _ ?_; clear hK K)
  (refine wpD_ret ?_; (try simp only [thenD, blockD]); refine EndQ.ret rfl (.inl ?_); simp [tmOf, Out.fgt, D.fgt, D.fgts])
theorem Spec.kill2 {g : FuncId} {args : List D} {objs : List HO} (h : Spec Tryd.prog glob g args objs (fun o hc => o = .pan pnoneD ∧ hc.length = 2)) : Spec Tryd.prog glob g args objs (fun o hc => o = .pan pnoneD ∧ hc = [.dead, .dead]) :=
  Spec.deadP (Post := fun o hc => o = .pan pnoneD ∧ hc.length = 2) h fun o hc hp => ⟨[.dead, .dead], fun r => by
    match r with
    | 0 => exact .inr rfl
    | 1 => exact .inr rfl
    | r + 2 => exact .inl (by unfold hOf; rw [List.getD_eq_getElem?_getD, List.getD_eq_getElem?_getD, List.getElem?_eq_none (by simp), List.getElem?_eq_none (by have := hp.2; omega)]), hp.1, rfl⟩
theorem putTerm_ok (t : T) (ht : okT t) (hr : t.right = true) : Spec Tryd.prog glob 10 [encT t] [] (fun o _ => o.fgt = .ret (.tuple [.slice (byD (termB t)) .any, .bool true])) := by
  rw [encT_eq]
  refine puT_ok t ?_
  have c1 := pterms_spec 1 [t] (by simp [LMax]) (by intro x hx; rw [List.mem_singleton.1 hx]; exact ht)
  rw [show termsOk 1 [t] = true by simp [termsOk, hr], pkOut_t] at c1
  have c2 := wterm_spec (right_pack hr).1 [] (by have := termB_right hr; unfold LMax; simp; omega)
  have hE := encT_eq t
  unfold Ts at c1
  simp only [List.map_cons, List.map_nil, hE] at c1
  rw [hE] at c2
  rw [List.nil_append] at c2
  unfold WO WP at c2 ⊢
  refine Spec.movd globPure (wpD_spec tyOK Tryd.func29 rfl (enters _ _ Tryd.func29 rfl (by decide)) rfl rfl ?_)
  (refine wpD_seqk fun K hK => ?_; refine wpD_region tyOK ?_; ((repeat (rw [wpS_cons]; simp)); (try simp only [wpS_nil, thenD, blockD])))
  refine cXp (c1) ?_
  ((try simp only [wpAft_ret, wpAft_pan, putS, updS, setS]); (repeat (rw [wpS_cons]; simp)); (try simp only [wpS_nil, thenD, blockD]))
  (refine hK _ _ _ ?_; clear hK K)
  (refine wpD_region tyOK ?_; ((repeat (rw [wpS_cons]; simp)); (try simp only [wpS_nil, thenD, blockD])))
  refine cXo [0, 1] true (c2) ?_
  (rintro o hc ⟨rfl, rfl⟩; refine ⟨false, ?_⟩; simp [D.ren, D.rens, D.okN, D.okNs, Cp.ren, Cp.okN, HO.ren, HO.okN, okA, renA, renO, hOf, handed, D.fgt, D.fgts, List.range_succ, List.idxOf_cons, Out.ren, told, Out.fgt, upO, updS, setS])
  ((try simp only [wpAft_ret, wpAft_pan, putS, updS, setS]); (repeat (rw [wpS_cons]; simp)); (try simp only [wpS_nil, thenD, blockD]))
  ((try simp only [thenD, blockD]); refine EndQ.nrm rfl (.inr ⟨[2], by decide, by simp, ?_⟩); simp [Out.mov, movT, movH, movD, D.mov, HO.mov, okM, renM, getW, D.ren, D.rens, D.okN, D.okNs, Cp.ren, Cp.okN, HO.ren, HO.okN, okA, renA, renO, hOf, handed, D.fgt, D.fgts, List.range_succ, List.idxOf_cons, tmOf, Out.fgt, D.fgt, D.fgts])
theorem putTerm_no (t : T) (ht : okT t) (hr : t.right = false) : Spec Tryd.prog glob 10 [encT t] [] (fun o _ => o.fgt = .ret (.tuple [.slice [] .any, .bool false])) := by
  rw [encT_eq]
  refine puT_no t (Spec.kill2 ?_)
  have c1 := pterms_spec 1 [t] (by simp [LMax]) (by intro x hx; rw [List.mem_singleton.1 hx]; exact ht)
  rw [show termsOk 1 [t] = false by simp [termsOk, hr], pkOut_f] at c1
  have hE := encT_eq t
  unfold Ts at c1
  simp only [List.map_cons, List.map_nil, hE] at c1
  unfold WO
  refine Spec.movd globPure (wpD_spec tyOK Tryd.func29 rfl (enters _ _ Tryd.func29 rfl (by decide)) rfl rfl ?_)
  (refine wpD_seqk fun K hK => ?_; refine wpD_region tyOK ?_; ((repeat (rw [wpS_cons]; simp)); (try simp only [wpS_nil, thenD, blockD])))
  refine CallX.pure globPure (c1) ?_ (by simp [D.fgts, D.fgt, pnoneD]) (by simp [D.pures, D.pure, Cp.free, D.pures_map, pnoneD]) (by simp [Out.pure, D.pure, D.pures, Cp.free, D.pures_map, pnoneD])
  ((try simp only [wpAft_ret, wpAft_pan, putS, updS, setS]); (repeat (rw [wpS_cons]; simp)); (try simp only [wpS_nil, thenD, blockD]))
  ((try simp only [thenD, blockD]); refine EndQ.pan (.inr ⟨[], by decide, by simp, ?_⟩); simp [Out.mov, movT, movH, movD, D.mov, HO.mov, okM, renM, getW, D.ren, D.rens, D.okN, D.okNs, Cp.ren, Cp.okN, HO.ren, HO.okN, okA, renA, renO, hOf, handed, D.fgt, D.fgts, List.range_succ, List.idxOf_cons, tmOf, Out.fgt, D.fgt, D.fgts])
theorem putDecl_ok (d : De) (h : okDe d) (hr : rightDe d = true) : Spec Tryd.prog glob 9 [encDe d] [] (fun o _ => o.fgt = .ret (.tuple [.slice (byD (declB d)) .any, .bool true])) := by
  rw [encDe_eq]
  refine puD_ok d ?_
  have c2 := wdecl_ok d h hr [] (by have := declB_right hr; unfold LMax; simp; omega)
  rw [List.nil_append, encDe_eq] at c2
  unfold WO WP at c2 ⊢
  refine Spec.movd globPure (wpD_spec tyOK Tryd.func27 rfl (enters _ _ Tryd.func27 rfl (by decide)) rfl rfl ?_)
  (refine wpD_region tyOK ?_; ((repeat (rw [wpS_cons]; simp)); (try simp only [wpS_nil, thenD, blockD])))
  refine cXo [0, 1] true (c2) ?_
  (rintro o hc ⟨rfl, rfl⟩; refine ⟨false, ?_⟩; simp [D.ren, D.rens, D.okN, D.okNs, Cp.ren, Cp.okN, HO.ren, HO.okN, okA, renA, renO, hOf, handed, D.fgt, D.fgts, List.range_succ, List.idxOf_cons, Out.ren, told, Out.fgt, upO, updS, setS])
  ((try simp only [wpAft_ret, wpAft_pan, putS, updS, setS]); (repeat (rw [wpS_cons]; simp)); (try simp only [wpS_nil, thenD, blockD]))
  ((try simp only [thenD, blockD]); refine EndQ.nrm rfl (.inr ⟨[2], by decide, by simp, ?_⟩); simp [Out.mov, movT, movH, movD, D.mov, HO.mov, okM, renM, getW, D.ren, D.rens, D.okN, D.okNs, Cp.ren, Cp.okN, HO.ren, HO.okN, okA, renA, renO, hOf, handed, D.fgt, D.fgts, List.range_succ, List.idxOf_cons, tmOf, Out.fgt, D.fgt, D.fgts])
theorem putDecl_no (d : De) (h : okDe d) (hr : rightDe d = false) : Spec Tryd.prog glob 9 [encDe d] [] (fun o _ => o.fgt = .ret (.tuple [.slice [] .any, .bool false])) := by
  rw [encDe_eq]
  refine puD_no d (Spec.kill2 ?_)
  have c2 := wdecl_no d h hr []
  rw [encDe_eq] at c2
  unfold WO at c2 ⊢
  refine Spec.movd globPure (wpD_spec tyOK Tryd.func27 rfl (enters _ _ Tryd.func27 rfl (by decide)) rfl rfl ?_)
  (refine wpD_region tyOK ?_; ((repeat (rw [wpS_cons]; simp)); (try simp only [wpS_nil, thenD, blockD])))
  refine cXo [0, 1] true (c2) ?_
  (rintro o hc ⟨rfl, rfl⟩; refine ⟨false, ?_⟩; simp [D.ren, D.rens, D.okN, D.okNs, Cp.ren, Cp.okN, HO.ren, HO.okN, okA, renA, renO, hOf, handed, D.fgt, D.fgts, List.range_succ, List.idxOf_cons, Out.ren, told, Out.fgt, upO, updS, setS])
  ((try simp only [wpAft_ret, wpAft_pan, putS, updS, setS]); (repeat (rw [wpS_cons]; simp)); (try simp only [wpS_nil, thenD, blockD]))
  ((try simp only [thenD, blockD]); refine EndQ.pan (.inr ⟨[], by decide, by simp, ?_⟩); simp [Out.mov, movT, movH, movD, D.mov, HO.mov, okM, renM, getW, D.ren, D.rens, D.okN, D.okNs, Cp.ren, Cp.okN, HO.ren, HO.okN, okA, renA, renO, hOf, handed, D.fgt, D.fgts, List.range_succ, List.idxOf_cons, tmOf, Out.fgt, D.fgt, D.fgts])
def allPut (l : List De) : D := if l.all rightDe then .tuple [.slice (byD (l.flatMap declB)) .any, .bool true] else .tuple [.slice [] .any, .bool false]
theorem allB_take {l : List De} {i : Nat} (h : ∀ d, d ∈ l.take i → rightDe d = true) (hl : l.length ≤ 200) (x : De) (hx : rightDe x = true) : ((l.take i).flatMap declB ++ declB x).length ≤ LMax := by
  have h1 := allB_right h
  have h2 := declB_right hx
  have h3 : (l.take i).length ≤ 200 := by rw [List.length_take]; omega
  rw [List.length_append]
  unfold LMax
  omega
theorem putAll_spec (l : List De) (hl : l.length ≤ 200) (h : ∀ d, d ∈ l → okDe d) : Spec Tryd.prog glob 18 [.slice (l.map encDe) .any] [] (fun o _ => o.fgt = .ret (allPut l)) := by
  have hm := pmust_ok [true] rfl
  have hl' : (l.length : Int) ≤ 200 := by omega
  unfold allPut
  cases hr : l.all rightDe with
  | true =>
    rw [List.all_eq_true] at hr
    refine puA_ok l ?_
    unfold WO WP
    rw [show byD [] = [] from rfl]
    refine Spec.movd globPure (wpD_spec tyOK Tryd.func47 rfl (enters _ _ Tryd.func47 rfl (by decide)) rfl rfl ?_)
    refine wpD_renO 1 rfl ?_
    simp [D.rens, D.ren, swp, HO.ren]
    (refine wpD_seqk fun K hK => ?_; refine wpD_region tyOK ?_; ((repeat (rw [wpS_cons]; simp [hl'])); (try simp only [wpS_nil, thenD, blockD])))
    refine CallX.pure globPure (hm) ?_ (by simp [D.fgts, D.fgt, Bools]) (by simp [D.pures, D.pure, Cp.free, D.pures_map, Bools]) (by simp [Out.pure, D.pure, D.pures, Cp.free, D.pures_map, Bools])
    ((try simp only [wpAft_ret, wpAft_pan, putS, updS, setS]); (repeat (rw [wpS_cons]; simp)); (try simp only [wpS_nil, thenD, blockD]))
    (refine hK _ _ _ ?_; clear hK K)
    (refine wpD_seqk fun K hK => ?_; refine wpD_region tyOK ?_; ((repeat (rw [wpS_cons]; simp)); (try simp only [wpS_nil, thenD, blockD])); refine hK _ _ _ ?_; clear hK K)
    refine wpD_rangeJ tyOK globPure (ti := 3) (tk := 12) (tn := 11) (td := 13) (ts := 19) [4, 12, 13, 14, 15, 16, 17, 18, 19] [] (l.length) (fun k ys hl => ys = [] ∧ hl = [.cells 103 [.own 2 ((l.take k).flatMap declB).length, kmD], .dead, .row 1 (byD ((l.take k).flatMap declB))]) rfl rfl rfl rfl rfl rfl rfl rfl rfl rfl rfl rfl (by simp) (by decide) rfl (by first | assumption | omega | (unfold LMax; omega)) rfl (by kernel_rfl) (by decide) ?_ ?_ ?_
    · exact ⟨rfl, by simp [byD]⟩
    · rintro i ys hl2 A hi ⟨rfl, rfl⟩ hA hA2
      simp only [putAll, List.set, List.map_cons, List.map_nil, List.cons_append, List.nil_append]
      have hi' : (i : Int) < l.length := by omega
      obtain ⟨v, hv⟩ : ∃ v, l[i] = v := ⟨_, rfl⟩
      have hvm : v ∈ l := by rw [← hv]; exact List.getElem_mem hi
      obtain ⟨B0, hB0⟩ : ∃ B0, B0 = (l.take i).flatMap declB := ⟨_, rfl⟩
      have hBl := allB_take (i := i) (fun d hd => hr d (List.mem_of_mem_take hd)) hl v (hr v hvm)
      rw [← hB0] at hBl ⊢
      have c1 := wdecl_ok v (h v hvm) (hr v hvm) B0 hBl
      have hEv := encDe_eq v
      rw [hEv] at c1
      unfold WO WP at c1
      (refine wpD_seqk fun K hK => ?_; refine wpD_region tyOK ?_; ((repeat (rw [wpS_cons]; simp [hi, hi', hv, hEv])); (try simp only [wpS_nil, thenD, blockD])); refine hK _ _ _ ?_; clear hK K)
      (refine wpD_region tyOK ?_; ((repeat (rw [wpS_cons]; simp)); (try simp only [wpS_nil, thenD, blockD])))
      refine cXo [0, 2] true (c1) ?_
      (rintro o hc ⟨rfl, rfl⟩; refine ⟨false, ?_⟩; simp [D.ren, D.rens, D.okN, D.okNs, Cp.ren, Cp.okN, HO.ren, HO.okN, okA, renA, renO, hOf, handed, D.fgt, D.fgts, List.range_succ, List.idxOf_cons, Out.ren, told, Out.fgt, upO, updS, setS])
      (refine hA2 ([4]) _ _ _ (LeT.refl _) (by decide) (by simp) (by simp [movT, movH, movD, D.mov, HO.mov, okM, renM, getW, D.ren, D.rens, D.okN, D.okNs, Cp.ren, Cp.okN, HO.ren, HO.okN, okA, renA, renO, hOf, handed, D.fgt, D.fgts, List.range_succ, List.idxOf_cons, putAll]) ?_ rfl; simp [movT, movH, movD, D.mov, HO.mov, okM, renM, getW, D.ren, D.rens, D.okN, D.okNs, Cp.ren, Cp.okN, HO.ren, HO.okN, okA, renA, renO, hOf, handed, D.fgt, D.fgts, List.range_succ, List.idxOf_cons])
      have e : (l.take (i + 1)).flatMap declB = B0 ++ declB v := by
        rw [List.take_succ_eq_append_getElem hi, List.flatMap_append, ← hB0, hv, List.flatMap_singleton]
      have e2 := congrArg List.length e
      rw [List.length_append, List.length_flatMap] at e2
      (try rw [← List.map_take])
      exact ⟨e2.symm, by rw [e]⟩
    · rintro ys hl2 tl' ⟨rfl, rfl⟩ htl
      rw [List.take_length]
      ((try simp only [thenD, blockD]); refine EndQ.nrm rfl (.inr ⟨[2], by decide, by simp, ?_⟩); simp [Out.mov, movT, movH, movD, D.mov, HO.mov, okM, renM, getW, D.ren, D.rens, D.okN, D.okNs, Cp.ren, Cp.okN, HO.ren, HO.okN, okA, renA, renO, hOf, handed, D.fgt, D.fgts, List.range_succ, List.idxOf_cons, tmOf, Out.fgt, D.fgt, D.fgts])
  | false =>
    refine puA_no l (Spec.kill2 ?_)
    unfold WO
    rw [show byD [] = [] from rfl]
    refine Spec.movd globPure (wpD_spec tyOK Tryd.func47 rfl (enters _ _ Tryd.func47 rfl (by decide)) rfl rfl ?_)
    refine wpD_renO 1 rfl ?_
    simp [D.rens, D.ren, swp, HO.ren]
    (refine wpD_seqk fun K hK => ?_; refine wpD_region tyOK ?_; ((repeat (rw [wpS_cons]; simp [hl'])); (try simp only [wpS_nil, thenD, blockD])))
    refine CallX.pure globPure (hm) ?_ (by simp [D.fgts, D.fgt, Bools]) (by simp [D.pures, D.pure, Cp.free, D.pures_map, Bools]) (by simp [Out.pure, D.pure, D.pures, Cp.free, D.pures_map, Bools])
    ((try simp only [wpAft_ret, wpAft_pan, putS, updS, setS]); (repeat (rw [wpS_cons]; simp)); (try simp only [wpS_nil, thenD, blockD]))
    (refine hK _ _ _ ?_; clear hK K)
    (refine wpD_seqk fun K hK => ?_; refine wpD_region tyOK ?_; ((repeat (rw [wpS_cons]; simp)); (try simp only [wpS_nil, thenD, blockD])); refine hK _ _ _ ?_; clear hK K)
    refine wpD_rangeJ tyOK globPure (ti := 3) (tk := 12) (tn := 11) (td := 13) (ts := 19) [4, 12, 13, 14, 15, 16, 17, 18, 19] [] (l.length) (fun k ys hl => ys = [] ∧ (∀ d, d ∈ l.take k → rightDe d = true) ∧ hl = [.cells 103 [.own 2 ((l.take k).flatMap declB).length, kmD], .dead, .row 1 (byD ((l.take k).flatMap declB))]) rfl rfl rfl rfl rfl rfl rfl rfl rfl rfl rfl rfl (by simp) (by decide) rfl (by first | assumption | omega | (unfold LMax; omega)) rfl (by kernel_rfl) (by decide) ?_ ?_ ?_
    · exact ⟨rfl, (fun d hd => by simp at hd), by simp [byD]⟩
    · rintro i ys hl2 A hi ⟨rfl, hall, rfl⟩ hA hA2
      simp only [putAll, List.set, List.map_cons, List.map_nil, List.cons_append, List.nil_append]
      have hi' : (i : Int) < l.length := by omega
      obtain ⟨v, hv⟩ : ∃ v, l[i] = v := ⟨_, rfl⟩
      have hvm : v ∈ l := by rw [← hv]; exact List.getElem_mem hi
      obtain ⟨B0, hB0⟩ : ∃ B0, B0 = (l.take i).flatMap declB := ⟨_, rfl⟩
      have hEv := encDe_eq v
      cases hvr : rightDe v with
      | true =>
        have hBl := allB_take hall hl v hvr
        rw [← hB0] at hBl ⊢
        have c1 := wdecl_ok v (h v hvm) hvr B0 hBl
        rw [hEv] at c1
        unfold WO WP at c1
        (refine wpD_seqk fun K hK => ?_; refine wpD_region tyOK ?_; ((repeat (rw [wpS_cons]; simp [hi, hi', hv, hEv])); (try simp only [wpS_nil, thenD, blockD])); refine hK _ _ _ ?_; clear hK K)
        (refine wpD_region tyOK ?_; ((repeat (rw [wpS_cons]; simp)); (try simp only [wpS_nil, thenD, blockD])))
        refine cXo [0, 2] true (c1) ?_
        (rintro o hc ⟨rfl, rfl⟩; refine ⟨false, ?_⟩; simp [D.ren, D.rens, D.okN, D.okNs, Cp.ren, Cp.okN, HO.ren, HO.okN, okA, renA, renO, hOf, handed, D.fgt, D.fgts, List.range_succ, List.idxOf_cons, Out.ren, told, Out.fgt, upO, updS, setS])
        (refine hA2 ([4]) _ _ _ (LeT.refl _) (by decide) (by simp) (by simp [movT, movH, movD, D.mov, HO.mov, okM, renM, getW, D.ren, D.rens, D.okN, D.okNs, Cp.ren, Cp.okN, HO.ren, HO.okN, okA, renA, renO, hOf, handed, D.fgt, D.fgts, List.range_succ, List.idxOf_cons, putAll]) ?_ rfl; simp [movT, movH, movD, D.mov, HO.mov, okM, renM, getW, D.ren, D.rens, D.okN, D.okNs, Cp.ren, Cp.okN, HO.ren, HO.okN, okA, renA, renO, hOf, handed, D.fgt, D.fgts, List.range_succ, List.idxOf_cons])
        have e : (l.take (i + 1)).flatMap declB = B0 ++ declB v := by
          rw [List.take_succ_eq_append_getElem hi, List.flatMap_append, ← hB0, hv, List.flatMap_singleton]
        have hall2 : ∀ d, d ∈ l.take (i + 1) → rightDe d = true := fun d hd => by
          rw [List.take_succ_eq_append_getElem hi, List.mem_append, hv] at hd
          rcases hd with hd | hd
          · exact hall d hd
          · rw [List.mem_singleton.1 hd]; exact hvr
        have e2 := congrArg List.length e
        rw [List.length_append, List.length_flatMap] at e2
        (try rw [← List.map_take])
        exact ⟨hall2, e2.symm, by rw [e]⟩
      | false =>
        rw [← hB0]
        have c1 := wdecl_no v (h v hvm) hvr B0
        rw [hEv] at c1
        unfold WO at c1
        (refine wpD_seqk fun K hK => ?_; refine wpD_region tyOK ?_; ((repeat (rw [wpS_cons]; simp [hi, hi', hv, hEv])); (try simp only [wpS_nil, thenD, blockD])); refine hK _ _ _ ?_; clear hK K)
        (refine wpD_region tyOK ?_; ((repeat (rw [wpS_cons]; simp)); (try simp only [wpS_nil, thenD, blockD])))
        refine cXo [0, 2] true (c1) ?_
        (rintro o hc ⟨rfl, rfl⟩; refine ⟨false, ?_⟩; simp [D.ren, D.rens, D.okN, D.okNs, Cp.ren, Cp.okN, HO.ren, HO.okN, okA, renA, renO, hOf, handed, D.fgt, D.fgts, List.range_succ, List.idxOf_cons, Out.ren, told, Out.fgt, upO, updS, setS])
        ((try simp only [thenD, blockD]); refine EndQ.pan (.inr ⟨[], by decide, by simp, ?_⟩); simp [Out.mov, movT, movH, movD, D.mov, HO.mov, okM, renM, getW, D.ren, D.rens, D.okN, D.okNs, Cp.ren, Cp.okN, HO.ren, HO.okN, okA, renA, renO, hOf, handed, D.fgt, D.fgts, List.range_succ, List.idxOf_cons, tmOf, Out.fgt, D.fgt, D.fgts])
    · rintro ys hl2 tl' ⟨rfl, hall, rfl⟩ htl
      rw [List.take_length] at hall
      rw [List.all_eq_true.2 hall] at hr
      cases hr
end Go.Proofs.YtgloldepdhgfaaaDoor
namespace Go.Proofs.YtgloldepdhgfaaaDoor
set_option linter.unusedSimpArgs false
set_option linter.unusedVariables false
set_option linter.unusedSimpArgs false
set_option linter.unusedVariables false
set_option maxHeartbeats 10000000
set_option maxRecDepth 20000
open Go.RowKit
attribute [local simp] wpAft_ret wpAft_pan wantD evOp opD tmOf putS updS setS hOf isFree isTok fillD TK.isAgg TK.known partD thenD blockD putAll D.ofV inB nilTest isNilS binX binD binE isCst bndD capB IntKind.min IntKind.max IntKind.signed IntKind.bits dstOf late
theorem rterm_spec (s : List Int) (hs : bytesOk s) (all nd : Int) : Spec Tryd.prog glob 42 [.box 0 0] (RO s all nd) (RdP encT all (termN s)) := by
  refine RdP.of ?_
  obtain ⟨R, hR⟩ : ∃ R, R = termN s := ⟨_, rfl⟩
  rw [← hR]
  unfold termN at hR
  have c1 := rnode_spec all 400 (by omega) 20000 (by omega) (by omega) s hs
  unfold RO
  unfold RO at c1
  refine Spec.movd globPure (wpD_spec tyOK Tryd.func42 rfl (enters _ _ Tryd.func42 rfl (by decide)) rfl rfl ?_)
  (refine wpD_seqk fun K hK => ?_; refine wpD_region tyOK ?_; ((repeat (rw [wpS_cons]; simp)); (try simp only [wpS_nil, thenD, blockD])); refine hK _ _ _ ?_; clear hK K)
  (refine wpD_seqk fun K hK => ?_; refine wpD_region tyOK ?_; ((repeat (rw [wpS_cons]; simp)); (try simp only [wpS_nil, thenD, blockD])); refine hK _ _ _ ?_; clear hK K)
  cases hn1 : nodeR 400 (20000, s) with
  | none =>
    rw [hn1] at hR c1
    replace hR : R = none := hR
    subst hR
    unfold RdP at c1
    (refine wpD_seqk fun K hK => ?_; refine wpD_region tyOK ?_; ((repeat (rw [wpS_cons]; simp)); (try simp only [wpS_nil, thenD, blockD])))
    refine cXo [0] true (c1) ?_
    (rintro o hc ⟨rfl, rfl⟩; refine ⟨false, ?_⟩; simp [D.ren, D.rens, D.okN, D.okNs, Cp.ren, Cp.okN, HO.ren, HO.okN, okA, renA, renO, hOf, handed, D.fgt, D.fgts, List.range_succ, List.idxOf_cons, Out.ren, told, Out.fgt, upO, updS, setS])
    ((try simp only [thenD, blockD]); refine EndQ.pan (.inr ⟨[], by decide, by simp, ?_⟩); simp [Out.mov, movT, movH, movD, D.mov, HO.mov, okM, renM, getW, D.ren, D.rens, D.okN, D.okNs, Cp.ren, Cp.okN, HO.ren, HO.okN, okA, renA, renO, hOf, handed, D.fgt, D.fgts, List.range_succ, List.idxOf_cons, tmOf, Out.fgt, D.fgt, D.fgts])
    exact ⟨rfl, rfl⟩
  | some p =>
    obtain ⟨t, nd', r⟩ := p
    obtain ⟨hok, hr⟩ := nodeR_okT _ _ _ _ hs hn1
    rw [hn1] at hR c1
    dsimp only at hR
    unfold RdP at c1
    dsimp only at c1
    have hE := encT_eq t
    rw [RO, hE] at c1
    have hr1 := right_spec t hok
    rw [hE] at hr1
    (refine wpD_seqk fun K hK => ?_; refine wpD_region tyOK ?_; ((repeat (rw [wpS_cons]; simp)); (try simp only [wpS_nil, thenD, blockD])))
    refine cXo [0] true (c1) ?_
    (rintro o hc ⟨ho, rfl⟩; refine ⟨true, ?_⟩; rw [show told true o = _ from ho]; clear ho; simp [D.ren, D.rens, D.okN, D.okNs, Cp.ren, Cp.okN, HO.ren, HO.okN, okA, renA, renO, hOf, handed, D.fgt, D.fgts, List.range_succ, List.idxOf_cons, Out.ren, told, Out.fgt, upO, updS, setS])
    ((try simp only [wpAft_ret, wpAft_pan, putS, updS, setS]); (repeat (rw [wpS_cons]; simp)); (try simp only [wpS_nil, thenD, blockD]))
    (refine hK _ _ _ ?_; clear hK K)
    cases hB : t.right with
    | true =>
      rw [hB] at hr1
      rw [if_pos hB] at hR
      subst hR
      (refine wpD_seqk fun K hK => ?_; refine wpD_region tyOK ?_; ((repeat (rw [wpS_cons]; simp)); (try simp only [wpS_nil, thenD, blockD])))
      refine cXp (hr1) ?_
      ((try simp only [wpAft_ret, wpAft_pan, putS, updS, setS]); (repeat (rw [wpS_cons]; simp)); (try simp only [wpS_nil, thenD, blockD]))
      refine CallX.pure globPure (pmust_ok [true] rfl) ?_ (by simp [D.fgts, D.fgt, Bools]) (by simp [D.pures, D.pure, Cp.free, D.pures_map, Bools]) (by simp [Out.pure, D.pure, D.pures, Cp.free, D.pures_map, Bools])
      ((try simp only [wpAft_ret, wpAft_pan, putS, updS, setS]); (repeat (rw [wpS_cons]; simp)); (try simp only [wpS_nil, thenD, blockD]))
      (refine hK _ _ _ ?_; clear hK K)
      (refine wpD_seqk fun K hK => ?_; refine wpD_region tyOK ?_; ((repeat (rw [wpS_cons]; simp)); (try simp only [wpS_nil, thenD, blockD])); refine hK _ _ _ ?_; clear hK K)
      (refine wpD_ret ?_; (try simp only [thenD, blockD]); refine EndQ.ret rfl (.inr ⟨[], by decide, by simp, ?_⟩); simp [Out.mov, movT, movH, movD, D.mov, HO.mov, okM, renM, getW, D.ren, D.rens, D.okN, D.okNs, Cp.ren, Cp.okN, HO.ren, HO.okN, okA, renA, renO, hOf, handed, D.fgt, D.fgts, List.range_succ, List.idxOf_cons, tmOf, Out.fgt, D.fgt, D.fgts])
      exact ⟨by rw [hE]; rfl, rfl⟩
    | false =>
      rw [hB] at hr1
      rw [if_neg (by rw [hB]; simp)] at hR
      subst hR
      (refine wpD_seqk fun K hK => ?_; refine wpD_region tyOK ?_; ((repeat (rw [wpS_cons]; simp)); (try simp only [wpS_nil, thenD, blockD])))
      refine cXp (hr1) ?_
      ((try simp only [wpAft_ret, wpAft_pan, putS, updS, setS]); (repeat (rw [wpS_cons]; simp)); (try simp only [wpS_nil, thenD, blockD]))
      refine CallX.pure globPure (pmust_no [false] rfl) ?_ (by simp [D.fgts, D.fgt, Bools, pnoneD]) (by simp [D.pures, D.pure, Cp.free, D.pures_map, Bools, pnoneD]) (by simp [Out.pure, D.pure, D.pures, Cp.free, D.pures_map, Bools, pnoneD])
      ((try simp only [wpAft_ret, wpAft_pan, putS, updS, setS]); (repeat (rw [wpS_cons]; simp)); (try simp only [wpS_nil, thenD, blockD]))
      ((try simp only [thenD, blockD]); refine EndQ.pan (.inr ⟨[], by decide, by simp, ?_⟩); simp [Out.mov, movT, movH, movD, D.mov, HO.mov, okM, renM, getW, D.ren, D.rens, D.okN, D.okNs, Cp.ren, Cp.okN, HO.ren, HO.okN, okA, renA, renO, hOf, handed, D.fgt, D.fgts, List.range_succ, List.idxOf_cons, tmOf, Out.fgt, D.fgt, D.fgts])
      exact ⟨rfl, rfl⟩
theorem rrow_spec (most : Int) (hm : most ≤ 16) (s : List Int) (hs : bytesOk s) (all nd : Int) : Spec Tryd.prog glob 82 [.box 0 0, .int .i64 most] (RO s all nd) (RdP Ts all (rowN most (nd, s))) := by
  refine RdP.of ?_
  obtain ⟨R, hR⟩ : ∃ R, R = rowN most (nd, s) := ⟨_, rfl⟩
  rw [← hR]
  unfold rowN at hR
  dsimp only at hR
  have c0 := rnumber_spec most s hs all nd
  unfold RO
  unfold RO at c0
  refine Spec.movd globPure (wpD_spec tyOK Tryd.func82 rfl (enters _ _ Tryd.func82 rfl (by decide)) rfl rfl ?_)
  (refine wpD_seqk fun K hK => ?_; refine wpD_region tyOK ?_; ((repeat (rw [wpS_cons]; simp)); (try simp only [wpS_nil, thenD, blockD])); refine hK _ _ _ ?_; clear hK K)
  refine wpD_tokT 4 ?_
  simp [D.tokd]
  refine wpD_seqk fun K1 hK1 => ?_
  cases hn0 : numR most s with
  | none =>
    rw [hn0] at c0 hR
    replace hR : R = none := hR
    subst hR
    unfold withN RdP at c0
    (refine wpD_seqk fun K hK => ?_; refine wpD_region tyOK ?_; ((repeat (rw [wpS_cons]; simp)); (try simp only [wpS_nil, thenD, blockD])))
    refine cXo [0] true (c0) ?_
    (rintro o hc ⟨rfl, rfl⟩; refine ⟨false, ?_⟩; simp [D.ren, D.rens, D.okN, D.okNs, Cp.ren, Cp.okN, HO.ren, HO.okN, okA, renA, renO, hOf, handed, D.fgt, D.fgts, List.range_succ, List.idxOf_cons, Out.ren, told, Out.fgt, upO, updS, setS])
    ((try simp only [thenD, blockD]); refine EndQ.pan (.inr ⟨[], by decide, by simp, ?_⟩); simp [Out.mov, movT, movH, movD, D.mov, HO.mov, okM, renM, getW, D.ren, D.rens, D.okN, D.okNs, Cp.ren, Cp.okN, HO.ren, HO.okN, okA, renA, renO, hOf, handed, D.fgt, D.fgts, List.range_succ, List.idxOf_cons, tmOf, Out.fgt, D.fgt, D.fgts])
    exact ⟨rfl, rfl⟩
  | some p =>
    obtain ⟨v, s1⟩ := p
    obtain ⟨hv0, hv1, hs1⟩ := numR_lo hs hn0
    rw [hn0] at c0 hR
    obtain ⟨m, rfl⟩ : ∃ m : Nat, v = m := ⟨v.toNat, by omega⟩
    replace hR : R = timesR (fun st => termN st.2) m (nd, s1) := hR
    unfold withN RdP intD at c0
    dsimp only at c0
    rw [RO] at c0
    (refine wpD_seqk fun K hK => ?_; refine wpD_region tyOK ?_; ((repeat (rw [wpS_cons]; simp)); (try simp only [wpS_nil, thenD, blockD])))
    refine cXo [0] true (c0) ?_
    (rintro o hc ⟨ho, rfl⟩; refine ⟨true, ?_⟩; rw [show told true o = _ from ho]; clear ho; simp [D.ren, D.rens, D.okN, D.okNs, Cp.ren, Cp.okN, HO.ren, HO.okN, okA, renA, renO, hOf, handed, D.fgt, D.fgts, List.range_succ, List.idxOf_cons, Out.ren, told, Out.fgt, upO, updS, setS])
    ((try simp only [wpAft_ret, wpAft_pan, putS, updS, setS]); (repeat (rw [wpS_cons]; simp)); (try simp only [wpS_nil, thenD, blockD]))
    (refine hK _ _ _ ?_; clear hK K)
    have hb0 : IntKind.i64.wrap (m : Int) = m := i64w (by omega) (by omega)
    clear c0
    refine wpD_rangeJ tyOK globPure (ti := 3) (tk := 8) (tn := 7) (td := 9) (ts := 15) [8, 9, 10, 11, 12, 13, 14, 15] [4] (m) (fun k ys hl => ∃ (acc : List T) (nd' : Int) (s' : List Int), ys = [.slice (acc.map encT) (.tok 1)] ∧ acc.length = k ∧ bytesOk s' ∧ R = appR acc (timesR (fun st => termN st.2) (m - k) (nd', s')) ∧ hl = [.cells 98 [.slice (byD s') .any, .int .i64 all, kmD, .int .i64 nd'], .tok]) rfl rfl rfl rfl rfl rfl rfl rfl rfl rfl rfl rfl (by simp) (by decide) rfl (by first | assumption | omega | (unfold LMax; omega)) rfl (by kernel_rfl) (by decide) ?_ ?_ ?_
    · exact ⟨[], nd, s1, rfl, rfl, hs1, by rw [appR_nil]; exact hR, rfl⟩
    · rintro i ys hl A hi ⟨acc, nd', s', rfl, hal, hs', hF, rfl⟩ hA hA2
      simp only [putAll, List.set, List.map_cons, List.map_nil, List.cons_append, List.nil_append]
      rw [show m - i = (m - (i + 1)) + 1 by omega] at hF
      have hi' : (i : Int) < m := by omega
      have hel : acc.length + 1 ≤ LMax := by unfold LMax; omega
      have c1 := rterm_spec s' hs' all nd'
      unfold RO at c1
      cases hn1 : termN s' with
      | none =>
        rw [appR_none (by exact hn1)] at hF
        subst hF
        rw [hn1] at c1
        unfold RdP at c1
        (refine wpD_region tyOK ?_; ((repeat (rw [wpS_cons]; simp)); (try simp only [wpS_nil, thenD, blockD])))
        refine cXo [0] true (c1) ?_
        (rintro o hc ⟨rfl, rfl⟩; refine ⟨false, ?_⟩; simp [D.ren, D.rens, D.okN, D.okNs, Cp.ren, Cp.okN, HO.ren, HO.okN, okA, renA, renO, hOf, handed, D.fgt, D.fgts, List.range_succ, List.idxOf_cons, Out.ren, told, Out.fgt, upO, updS, setS])
        ((try simp only [thenD, blockD]); refine EndQ.pan (.inr ⟨[], by decide, by simp, ?_⟩); simp [Out.mov, movT, movH, movD, D.mov, HO.mov, okM, renM, getW, D.ren, D.rens, D.okN, D.okNs, Cp.ren, Cp.okN, HO.ren, HO.okN, okA, renA, renO, hOf, handed, D.fgt, D.fgts, List.range_succ, List.idxOf_cons, tmOf, Out.fgt, D.fgt, D.fgts])
        exact ⟨rfl, rfl⟩
      | some p =>
        obtain ⟨x, nd2, s2⟩ := p
        have hs2 := (termN_got hs' hn1).2
        rw [appR_some (x := x) (s1 := (nd2, s2)) (by exact hn1)] at hF
        rw [hn1] at c1
        unfold RdP at c1
        dsimp only at c1
        rw [RO, encT_eq] at c1
        (refine wpD_region tyOK ?_; ((repeat (rw [wpS_cons]; simp)); (try simp only [wpS_nil, thenD, blockD])))
        refine cXo [0] true (c1) ?_
        (rintro o hc ⟨ho, rfl⟩; refine ⟨true, ?_⟩; rw [show told true o = _ from ho]; clear ho; simp [D.ren, D.rens, D.okN, D.okNs, Cp.ren, Cp.okN, HO.ren, HO.okN, okA, renA, renO, hOf, handed, D.fgt, D.fgts, List.range_succ, List.idxOf_cons, Out.ren, told, Out.fgt, upO, updS, setS, hel])
        ((try simp only [wpAft_ret, wpAft_pan, putS, updS, setS]); (repeat (rw [wpS_cons]; simp [hel])); (try simp only [wpS_nil, thenD, blockD]))
        (refine hA2 ([2]) _ _ _ (LeT.refl _) (by decide) (by simp) (by simp [movT, movH, movD, D.mov, HO.mov, okM, renM, getW, D.ren, D.rens, D.okN, D.okNs, Cp.ren, Cp.okN, HO.ren, HO.okN, okA, renA, renO, hOf, handed, D.fgt, D.fgts, List.range_succ, List.idxOf_cons, putAll]) ?_ rfl; simp [movT, movH, movD, D.mov, HO.mov, okM, renM, getW, D.ren, D.rens, D.okN, D.okNs, Cp.ren, Cp.okN, HO.ren, HO.okN, okA, renA, renO, hOf, handed, D.fgt, D.fgts, List.range_succ, List.idxOf_cons])
        have e := encT_eq x
        refine ⟨acc ++ [x], ?_, by simp [hal], nd2, s2, hs2, hF, rfl, rfl⟩
        rw [show List.map encT acc ++ [D.agg [.int .i64 x.k, .int .i64 x.n, .int .i64 x.a, .slice (x.ls.map encL) .any, .slice (x.ks.map encT) .any]] = (acc ++ [x]).map encT by rw [← e]; simp]
        exact mapT_ren _ _
    · rintro ys hl' tl' ⟨acc, nd', s', rfl, hal, hs', hF, rfl⟩ htl
      rw [Nat.sub_self, appR_end] at hF
      subst hF
      refine hK1 _ _ _ (wpD_weakL htl ?_)
      simp only [putAll, List.set, List.map_cons, List.map_nil, List.cons_append, List.nil_append]
      refine wpD_fgtT 4 ?_
      simp [D.fgt]
      (refine wpD_seqk fun K hK => ?_; refine wpD_region tyOK ?_; ((repeat (rw [wpS_cons]; simp)); (try simp only [wpS_nil, thenD, blockD])); refine hK _ _ _ ?_; clear hK K)
      (refine wpD_ret ?_; (try simp only [thenD, blockD]); refine EndQ.ret rfl (.inr ⟨[], by decide, by simp, ?_⟩); simp [Out.mov, movT, movH, movD, D.mov, HO.mov, okM, renM, getW, D.ren, D.rens, D.okN, D.okNs, Cp.ren, Cp.okN, HO.ren, HO.okN, okA, renA, renO, hOf, handed, D.fgt, D.fgts, List.range_succ, List.idxOf_cons, tmOf, Out.fgt, D.fgt, D.fgts])
      exact ⟨rfl, rfl⟩
end Go.Proofs.YtgloldepdhgfaaaDoor
namespace Go.Proofs.YtgloldepdhgfaaaDoor
set_option linter.unusedSimpArgs false
set_option linter.unusedVariables false
open Go.RowKit
theorem InSt.fgtO {G : Nat → Option D} {ρ0 : Rho} {w0 : World} {H0 : Nat → HO} {nt : Nat} {ρ : Rho} {w : World} {a : Act} {tl : List D} {hl : List HO} {df : Df} (i : Nat) {ty : TypeId} {ds : List D} (hi : hOf hl i = .cells ty ds) (hst : InSt G ρ0 w0 H0 nt ρ w a (tmOf tl) (hOf hl) df) : InSt G ρ0 w0 H0 nt ρ w a (tmOf tl) (hOf (hl.set i (.cells ty (D.fgts ds)))) df := by
  have hlt : i < hl.length := by
    rcases Nat.lt_or_ge i hl.length with h | h
    · exact h
    · unfold hOf at hi; rw [List.getD_eq_getElem?_getD, List.getElem?_eq_none h] at hi; cases hi
  have hH : ∀ k, hOf (hl.set i (.cells ty (D.fgts ds))) k = if k = i then .cells ty (D.fgts ds) else hOf hl k := fun k => by
    unfold hOf
    rw [List.getD_eq_getElem?_getD, List.getD_eq_getElem?_getD]
    by_cases hk : k = i
    · subst hk
      rw [if_pos rfl, List.getElem?_set_self hlt]; rfl
    · rw [if_neg hk, List.getElem?_set_ne (fun e => hk e.symm)]
  have hlv : ∀ k, (hOf (hl.set i (.cells ty (D.fgts ds))) k).live = (hOf hl k).live := fun k => by
    rw [hH k]
    split
    · rename_i hk; subst hk; rw [hi]; rfl
    · rfl
  have hL : ∀ b, Live ρ (hOf (hl.set i (.cells ty (D.fgts ds)))) b → Live ρ (hOf hl) b := fun b ⟨k, f, q1, q2⟩ => ⟨k, f, q1, by rw [← hlv k]; exact q2⟩
  have hR := hst.rel
  refine ⟨⟨fun k hk => hR.free k ?_, hR.fresh, fun k b f hk => ?_, fun k l b f g e1 e2 e3 e4 => hR.inj k l b f g e1 e2 (by rw [← hlv k]; exact e3) (by rw [← hlv l]; exact e4), hR.glob⟩, ⟨hst.ex.grow, hst.ex.frame, fun b hb hlt => hst.ex.live b (hL b hb) hlt⟩, hst.tmp, hst.size, hst.df⟩
  · rw [hH k] at hk
    split at hk
    · cases hk
    · exact hk
  · rw [hH k]
    have h2 := hR.obj k b f hk
    split
    · rename_i hki
      subst hki
      rw [hi] at h2
      obtain ⟨c0, vs, q1, q2⟩ := h2
      exact ⟨c0, vs, q1, RpL_fgt _ _ q2⟩
    · exact h2
/-- forgotten or not -/
def fgtQ (i : Nat) (Q : DQ) : DQ := fun x tl hl df => Q x tl hl df ∨ ∃ ty ds, hOf hl i = .cells ty ds ∧ Q x tl (hl.set i (.cells ty (D.fgts ds))) df
theorem wpD_fgtQ {P : Program} {G : Nat → Option D} {M : Nat} {Q : DQ} {tl : List D} {hl : List HO} {df : Df} {c : Code} (i : Nat) (h : wpD P G M c (fgtQ i Q) tl hl df) : wpD P G M c Q tl hl df := fun ρ0 w0 H0 ρ w a hbs hst =>
  wp_mono (h ρ0 w0 H0 ρ w a hbs hst) fun e a w ⟨x, tl, hl, df, ρ, h1, h2, h3, h4⟩ => by
    rcases h1 with h1 | ⟨ty, ds, hi, h1⟩
    · exact ⟨x, tl, hl, df, ρ, h1, h2, h3, h4⟩
    · exact ⟨x, tl, _, df, ρ, h1, h2, h3, h4.fgtO i hi⟩
end Go.Proofs.YtgloldepdhgfaaaDoor
namespace Go.Proofs.YtgloldepdhgfaaaDoor
set_option linter.unusedSimpArgs false
set_option linter.unusedVariables false
set_option linter.unusedSimpArgs false
set_option linter.unusedVariables false
set_option maxHeartbeats 10000000
set_option maxRecDepth 20000
open Go.RowKit
attribute [local simp] wpAft_ret wpAft_pan wantD evOp opD tmOf putS updS setS hOf isFree isTok fillD TK.isAgg TK.known partD thenD blockD putAll D.ofV inB nilTest isNilS binX binD binE isCst bndD capB IntKind.min IntKind.max IntKind.signed IntKind.bits dstOf late
def blk3 (kd lv : Int) (ps : List T) (so : LV) (ms : List (List T)) : Option (List (Int × T) × NS) → Option (De × NS)
  | none => none
  | some (cs, st) => some (⟨kd, lv, zeroTm, zeroTm, ps, so, ms, cs⟩, st)
def blk2 (kd lv : Int) (ps : List T) (so : LV) : Option (List (List T) × NS) → Option (De × NS)
  | none => none
  | some (ms, st) => match numR 16 st.2 with
    | none => none
    | some (q, s) => blk3 kd lv ps so ms (timesR ctorN q.toNat (st.1, s))
theorem blockN_u (kd lv : Int) (st : NS) : blockN kd lv st = match rowN 6 st with
  | none => none
  | some (ps, st) => match levelR st.2 with
    | none => none
    | some (so, s) => match numR 8 s with
      | none => none
      | some (m, s) => blk2 kd lv ps so (timesR (rowN 6) m.toNat (st.1, s)) := by
  unfold blockN blk2 blk3
  rfl
def BlQ (all : Int) : Option (De × NS) → Out → List HO → Prop
  | some (d, (nd, s)) => fun o hc => o = .ret (.tuple []) ∧ hc = [.cells 98 [.slice (byD s) .any, .int .i64 all, kmD, .int .i64 nd], .cells 34 (decL d)]
  | none => fun o hc => o = .pan pnoneD ∧ hc.length = 2
def BlP (all : Int) : Option (De × NS) → Out → List HO → Prop
  | some (d, (nd, s)) => fun o hc => o = .ret (.tuple []) ∧ hc = [.cells 98 [.slice (byD s) .any, .int .i64 all, kmD, .int .i64 nd], .cells 34 (decL d)]
  | none => fun o hc => o = .pan pnoneD ∧ hc = [.dead, .dead]
theorem BlP.of {all : Int} {g : FuncId} {args : List D} {objs : List HO} : ∀ {R : Option (De × NS)}, Spec Tryd.prog glob g args objs (BlQ all R) → Spec Tryd.prog glob g args objs (BlP all R)
  | some _, h => h
  | none, h => Spec.kill2 h
theorem rblock_spec (kd lv : Int) (s : List Int) (hs : bytesOk s) (all nd : Int) : Spec Tryd.prog glob 66 [.box 0 0, .box 1 0] [.cells 98 [.slice (byD s) .any, .int .i64 all, kmD, .int .i64 nd], .cells 34 [.int .i64 kd, .int .i64 lv, .int .i64 0, .int .i64 0, .int .i64 0, .slice [] .full, .slice [] .full, .int .i64 0, .int .i64 0, .int .i64 0, .slice [] .full, .slice [] .full, .slice [] .full, .slice [] .full, .slice [] .full, .slice [] .full]] (BlP all (blockN kd lv (nd, s))) := by
  refine BlP.of ?_
  obtain ⟨R, hR⟩ : ∃ R, R = blockN kd lv (nd, s) := ⟨_, rfl⟩
  rw [← hR]
  rw [blockN_u] at hR
  have c0 := rrow_spec 6 (by omega) s hs all nd
  unfold RO at c0
  refine Spec.movd globPure (wpD_spec tyOK Tryd.func66 rfl (enters _ _ Tryd.func66 rfl (by decide)) rfl rfl ?_)
  cases q0 : rowN 6 (nd, s) with
  | none =>
    rw [q0] at c0 hR
    replace hR : R = none := hR
    subst hR
    unfold RdP at c0
    (refine wpD_seqk fun K hK => ?_; refine wpD_region tyOK ?_; ((repeat (rw [wpS_cons]; simp)); (try simp only [wpS_nil, thenD, blockD])))
    refine cXo [0] true (c0) ?_
    (rintro o hc ⟨rfl, rfl⟩; refine ⟨false, ?_⟩; simp [D.ren, D.rens, D.okN, D.okNs, Cp.ren, Cp.okN, HO.ren, HO.okN, okA, renA, renO, hOf, handed, D.fgt, D.fgts, List.range_succ, List.idxOf_cons, Out.ren, told, Out.fgt, upO, updS, setS])
    ((try simp only [thenD, blockD]); refine EndQ.pan (.inr ⟨[], by decide, by simp, ?_⟩); simp [Out.mov, movT, movH, movD, D.mov, HO.mov, okM, renM, getW, D.ren, D.rens, D.okN, D.okNs, Cp.ren, Cp.okN, HO.ren, HO.okN, okA, renA, renO, hOf, handed, D.fgt, D.fgts, List.range_succ, List.idxOf_cons, tmOf, Out.fgt, D.fgt, D.fgts])
    exact ⟨rfl, rfl⟩
  | some p =>
  obtain ⟨ps, nd1, s1⟩ := p
  obtain ⟨hps, hs1⟩ := rowN_got hs q0
  rw [q0] at c0 hR
  dsimp only at hR
  unfold RdP Ts at c0
  dsimp only at c0
  rw [RO] at c0
  have c1 := rlevel_spec s1 hs1 all nd1
  unfold RO at c1
  cases q1 : levelR s1 with
  | none =>
    rw [q1] at c1 hR
    replace hR : R = none := hR
    subst hR
    unfold withN RdP at c1
    (refine wpD_seqk fun K hK => ?_; refine wpD_region tyOK ?_; ((repeat (rw [wpS_cons]; simp)); (try simp only [wpS_nil, thenD, blockD])))
    refine cXo [0] true (c0) ?_
    (rintro o hc ⟨ho, rfl⟩; refine ⟨true, ?_⟩; rw [show told true o = _ from ho]; clear ho; simp [D.ren, D.rens, D.okN, D.okNs, Cp.ren, Cp.okN, HO.ren, HO.okN, okA, renA, renO, hOf, handed, D.fgt, D.fgts, List.range_succ, List.idxOf_cons, Out.ren, told, Out.fgt, upO, updS, setS])
    ((try simp only [wpAft_ret, wpAft_pan, putS, updS, setS]); (repeat (rw [wpS_cons]; simp)); (try simp only [wpS_nil, thenD, blockD]))
    refine cXo [0] true (c1) ?_
    (rintro o hc ⟨rfl, rfl⟩; refine ⟨false, ?_⟩; simp [D.ren, D.rens, D.okN, D.okNs, Cp.ren, Cp.okN, HO.ren, HO.okN, okA, renA, renO, hOf, handed, D.fgt, D.fgts, List.range_succ, List.idxOf_cons, Out.ren, told, Out.fgt, upO, updS, setS])
    ((try simp only [thenD, blockD]); refine EndQ.pan (.inr ⟨[], by decide, by simp, ?_⟩); simp [Out.mov, movT, movH, movD, D.mov, HO.mov, okM, renM, getW, D.ren, D.rens, D.okN, D.okNs, Cp.ren, Cp.okN, HO.ren, HO.okN, okA, renA, renO, hOf, handed, D.fgt, D.fgts, List.range_succ, List.idxOf_cons, tmOf, Out.fgt, D.fgt, D.fgts])
    exact ⟨rfl, rfl⟩
  | some p =>
  obtain ⟨so, s2⟩ := p
  have hs2 := levelR_ok hs1 q1
  rw [q1] at c1 hR
  dsimp only at hR
  unfold withN RdP at c1
  dsimp only at c1
  rw [RO, encL_eq] at c1
  (refine wpD_seqk fun K hK => ?_; refine wpD_region tyOK ?_; ((repeat (rw [wpS_cons]; simp)); (try simp only [wpS_nil, thenD, blockD])))
  refine cXo [0] true (c0) ?_
  (rintro o hc ⟨ho, rfl⟩; refine ⟨true, ?_⟩; rw [show told true o = _ from ho]; clear ho; simp [D.ren, D.rens, D.okN, D.okNs, Cp.ren, Cp.okN, HO.ren, HO.okN, okA, renA, renO, hOf, handed, D.fgt, D.fgts, List.range_succ, List.idxOf_cons, Out.ren, told, Out.fgt, upO, updS, setS])
  ((try simp only [wpAft_ret, wpAft_pan, putS, updS, setS]); (repeat (rw [wpS_cons]; simp)); (try simp only [wpS_nil, thenD, blockD]))
  refine cXo [0] true (c1) ?_
  (rintro o hc ⟨ho, rfl⟩; refine ⟨true, ?_⟩; rw [show told true o = _ from ho]; clear ho; simp [D.ren, D.rens, D.okN, D.okNs, Cp.ren, Cp.okN, HO.ren, HO.okN, okA, renA, renO, hOf, handed, D.fgt, D.fgts, List.range_succ, List.idxOf_cons, Out.ren, told, Out.fgt, upO, updS, setS])
  ((try simp only [wpAft_ret, wpAft_pan, putS, updS, setS]); (repeat (rw [wpS_cons]; simp)); (try simp only [wpS_nil, thenD, blockD]))
  (refine hK _ _ _ ?_; clear hK K)
  clear c0 c1 hs
  refine wpD_tokO 1 14 (ty := 34) (ds := [.int .i64 kd, .int .i64 lv, .int .i64 0, .int .i64 0, .int .i64 0, .slice [] .full, .slice [] .full, .int .i64 0, .int .i64 0, .int .i64 0, .slice [] .full, .slice [] .full, .slice (ps.map encT) .any, .slice (so.map encP) .any, .slice [] .full, .slice [] .full]) rfl ?_
  simp [D.tokd]
  refine wpD_tokO 1 15 (ty := 34) (ds := [.int .i64 kd, .int .i64 lv, .int .i64 0, .int .i64 0, .int .i64 0, .slice [] .full, .slice [] .full, .int .i64 0, .int .i64 0, .int .i64 0, .slice [] .full, .slice [] .full, .slice (ps.map encT) .any, .slice (so.map encP) .any, .slice [] (.tok 2), .slice [] .full]) rfl ?_
  simp [D.tokd]
  refine wpD_seqk fun K1 hK1 => ?_
  have c0 := rnumber_spec 8 s2 hs2 all nd1
  unfold RO at c0
  cases q2 : numR 8 s2 with
  | none =>
    rw [q2] at c0 hR
    replace hR : R = none := hR
    subst hR
    unfold withN RdP at c0
    (refine wpD_seqk fun K hK => ?_; refine wpD_region tyOK ?_; ((repeat (rw [wpS_cons]; simp)); (try simp only [wpS_nil, thenD, blockD])))
    refine cXo [0] true (c0) ?_
    (rintro o hc ⟨rfl, rfl⟩; refine ⟨false, ?_⟩; simp [D.ren, D.rens, D.okN, D.okNs, Cp.ren, Cp.okN, HO.ren, HO.okN, okA, renA, renO, hOf, handed, D.fgt, D.fgts, List.range_succ, List.idxOf_cons, Out.ren, told, Out.fgt, upO, updS, setS])
    ((try simp only [thenD, blockD]); refine EndQ.pan (.inr ⟨[], by decide, by simp, ?_⟩); simp [Out.mov, movT, movH, movD, D.mov, HO.mov, okM, renM, getW, D.ren, D.rens, D.okN, D.okNs, Cp.ren, Cp.okN, HO.ren, HO.okN, okA, renA, renO, hOf, handed, D.fgt, D.fgts, List.range_succ, List.idxOf_cons, tmOf, Out.fgt, D.fgt, D.fgts])
    exact ⟨rfl, rfl⟩
  | some p =>
  obtain ⟨v, s3⟩ := p
  obtain ⟨hv0, hv1, hs3⟩ := numR_lo hs2 q2
  rw [q2] at c0 hR
  obtain ⟨m, rfl⟩ : ∃ m : Nat, v = m := ⟨v.toNat, by omega⟩
  replace hR : R = blk2 kd lv ps so (timesR (rowN 6) m (nd1, s3)) := hR
  unfold withN RdP intD at c0
  dsimp only at c0
  rw [RO] at c0
  (refine wpD_seqk fun K hK => ?_; refine wpD_region tyOK ?_; ((repeat (rw [wpS_cons]; simp)); (try simp only [wpS_nil, thenD, blockD])))
  refine cXo [0] true (c0) ?_
  (rintro o hc ⟨ho, rfl⟩; refine ⟨true, ?_⟩; rw [show told true o = _ from ho]; clear ho; simp [D.ren, D.rens, D.okN, D.okNs, Cp.ren, Cp.okN, HO.ren, HO.okN, okA, renA, renO, hOf, handed, D.fgt, D.fgts, List.range_succ, List.idxOf_cons, Out.ren, told, Out.fgt, upO, updS, setS])
  ((try simp only [wpAft_ret, wpAft_pan, putS, updS, setS]); (repeat (rw [wpS_cons]; simp)); (try simp only [wpS_nil, thenD, blockD]))
  (refine hK _ _ _ ?_; clear hK K)
  have hb0 : IntKind.i64.wrap (m : Int) = m := i64w (by omega) (by omega)
  clear c0
  refine wpD_rangeJ tyOK globPure (ti := 3) (tk := 17) (tn := 16) (td := 18) (ts := 31) [17, 18, 19, 20, 21, 22, 23, 24, 25, 26, 27, 28, 29, 30, 31] [] (m) (fun k ys hl => ∃ (acc : List (List T)) (nd' : Int) (s' : List Int), ys = [] ∧ acc.length = k ∧ bytesOk s' ∧ R = blk2 kd lv ps so (appR acc (timesR (rowN 6) (m - k) (nd', s'))) ∧ hl = [.cells 98 [.slice (byD s') .any, .int .i64 all, kmD, .int .i64 nd'], .cells 34 [.int .i64 kd, .int .i64 lv, .int .i64 0, .int .i64 0, .int .i64 0, .slice [] .full, .slice [] .full, .int .i64 0, .int .i64 0, .int .i64 0, .slice [] .full, .slice [] .full, .slice (ps.map encT) .any, .slice (so.map encP) .any, .slice (acc.map encMb) (.tok 2), .slice [] (.tok 3)], .tok, .tok]) rfl rfl rfl rfl rfl rfl rfl rfl rfl rfl rfl rfl (by simp) (by decide) rfl (by first | assumption | omega | (unfold LMax; omega)) rfl (by kernel_rfl) (by decide) ?_ ?_ ?_
  · exact ⟨[], nd1, s3, rfl, rfl, hs3, by rw [appR_nil]; exact hR, rfl⟩
  · rintro i ys hl A hi ⟨acc, nd', s', rfl, hal, hs', hF, rfl⟩ hA hA2
    simp only [putAll, List.set, List.map_cons, List.map_nil, List.cons_append, List.nil_append]
    rw [show m - i = (m - (i + 1)) + 1 by omega] at hF
    have hi' : (i : Int) < m := by omega
    have hel : acc.length + 1 ≤ LMax := by unfold LMax; omega
    have c1 := rrow_spec 6 (by omega) s' hs' all nd'
    unfold RO at c1
    cases hn1 : rowN 6 (nd', s') with
    | none =>
      rw [appR_none hn1] at hF
      replace hF : R = none := hF
      subst hF
      rw [hn1] at c1
      unfold RdP at c1
      (refine wpD_drawk tyOK (by kernel_rfl) (by kernel_rfl) fun KT hKT => ?_; ((repeat (rw [wpT_cons]; simp)); (try simp only [wpT_nil])))
      refine cYo [0] true false (c1) (fun o h e => e) ?_; simp [D.ren, D.rens, D.okN, D.okNs, Cp.ren, Cp.okN, HO.ren, HO.okN, okA, renA, renO, hOf, handed, D.fgt, D.fgts, List.range_succ, List.idxOf_cons, Out.ren, upO, renO, rdO]
      (try simp only [wpAftT_ret, wpAftT_pan, putS, updS, setS])
      ((try simp only [wpAftT_ret, wpAftT_pan, putS, updS, setS]); (repeat (refine wpT_late _ _ _ _ (by kernel_rfl) ?_; simp only [putS, List.set, List.nil_append, List.cons_append, Nat.reduceAdd])); (try simp only [wpT_nil]))
      (refine hKT _ _ _ _ (by kernel_rfl) ?_; clear hKT KT; (try simp only [thenD, blockD]))
      simp [killHl]
      ((try simp only [thenD, blockD]); refine EndQ.pan (.inr ⟨[], by decide, by simp, ?_⟩); simp [Out.mov, movT, movH, movD, D.mov, HO.mov, okM, renM, getW, D.ren, D.rens, D.okN, D.okNs, Cp.ren, Cp.okN, HO.ren, HO.okN, okA, renA, renO, hOf, handed, D.fgt, D.fgts, List.range_succ, List.idxOf_cons, tmOf, Out.fgt, D.fgt, D.fgts])
      exact ⟨rfl, rfl⟩
    | some p =>
      obtain ⟨x, nd2, s2'⟩ := p
      have hs2' := (rowN_got hs' hn1).2
      rw [appR_some hn1] at hF
      rw [hn1] at c1
      unfold RdP Ts at c1
      dsimp only at c1
      rw [RO] at c1
      (refine wpD_drawk tyOK (by kernel_rfl) (by kernel_rfl) fun KT hKT => ?_; ((repeat (rw [wpT_cons]; simp)); (try simp only [wpT_nil])))
      refine cYo [0] true true (c1) (fun o h e => e) ?_; simp [D.ren, D.rens, D.okN, D.okNs, Cp.ren, Cp.okN, HO.ren, HO.okN, okA, renA, renO, hOf, handed, D.fgt, D.fgts, List.range_succ, List.idxOf_cons, Out.ren, upO, renO, rdO]
      ((try simp only [wpAftT_ret, wpAftT_pan, putS, updS, setS]); (repeat (rw [wpT_cons]; simp [hel])); (try simp only [wpT_nil]))
      (refine hKT _ _ _ _ (by kernel_rfl) ?_; clear hKT KT; (try simp only [thenD, blockD]))
      (refine hA2 ([4, 3]) _ _ _ (LeT.refl _) (by decide) (by simp) (by simp [movT, movH, movD, D.mov, HO.mov, okM, renM, getW, D.ren, D.rens, D.okN, D.okNs, Cp.ren, Cp.okN, HO.ren, HO.okN, okA, renA, renO, hOf, handed, D.fgt, D.fgts, List.range_succ, List.idxOf_cons, putAll]) ?_ rfl; simp [movT, movH, movD, D.mov, HO.mov, okM, renM, getW, D.ren, D.rens, D.okN, D.okNs, Cp.ren, Cp.okN, HO.ren, HO.okN, okA, renA, renO, hOf, handed, D.fgt, D.fgts, List.range_succ, List.idxOf_cons])
      refine ⟨acc ++ [x], by simp [hal], nd2, s2', hs2', hF, ⟨rfl, rfl⟩, ?_⟩
      rw [show List.map encMb acc ++ [D.agg [.slice (x.map encT) .any]] = (acc ++ [x]).map encMb by simp [encMb]]
      exact encMb_rens _ _
  rintro ys hl' tl' ⟨ms, nd4, s4, rfl, hal, hs4, hF, rfl⟩ htl
  rw [Nat.sub_self, appR_end] at hF
  refine hK1 _ _ _ (wpD_weakL htl ?_)
  simp only [putAll, List.set, List.map_cons, List.map_nil, List.cons_append, List.nil_append]
  clear hK1 K1 hR
  have c0 := rnumber_spec 16 s4 hs4 all nd4
  unfold RO at c0
  unfold blk2 at hF
  dsimp only at hF
  cases q3 : numR 16 s4 with
  | none =>
    rw [q3] at c0 hF
    replace hF : R = none := hF
    subst hF
    unfold withN RdP at c0
    (refine wpD_seqk fun K hK => ?_; refine wpD_region tyOK ?_; ((repeat (rw [wpS_cons]; simp)); (try simp only [wpS_nil, thenD, blockD])))
    refine cXo [0] true (c0) ?_
    (rintro o hc ⟨rfl, rfl⟩; refine ⟨false, ?_⟩; simp [D.ren, D.rens, D.okN, D.okNs, Cp.ren, Cp.okN, HO.ren, HO.okN, okA, renA, renO, hOf, handed, D.fgt, D.fgts, List.range_succ, List.idxOf_cons, Out.ren, told, Out.fgt, upO, updS, setS])
    ((try simp only [thenD, blockD]); refine EndQ.pan (.inr ⟨[], by decide, by simp, ?_⟩); simp [Out.mov, movT, movH, movD, D.mov, HO.mov, okM, renM, getW, D.ren, D.rens, D.okN, D.okNs, Cp.ren, Cp.okN, HO.ren, HO.okN, okA, renA, renO, hOf, handed, D.fgt, D.fgts, List.range_succ, List.idxOf_cons, tmOf, Out.fgt, D.fgt, D.fgts])
    exact ⟨rfl, rfl⟩
  | some p =>
  obtain ⟨v, s5⟩ := p
  obtain ⟨hu0, hu1, hs5⟩ := numR_lo hs4 q3
  rw [q3] at c0 hF
  obtain ⟨m3, rfl⟩ : ∃ m3 : Nat, v = m3 := ⟨v.toNat, by omega⟩
  replace hF : R = blk3 kd lv ps so ms (timesR ctorN m3 (nd4, s5)) := hF
  unfold withN RdP intD at c0
  dsimp only at c0
  rw [RO] at c0
  (refine wpD_seqk fun K hK => ?_; refine wpD_region tyOK ?_; ((repeat (rw [wpS_cons]; simp)); (try simp only [wpS_nil, thenD, blockD])))
  refine cXo [0] true (c0) ?_
  (rintro o hc ⟨ho, rfl⟩; refine ⟨true, ?_⟩; rw [show told true o = _ from ho]; clear ho; simp [D.ren, D.rens, D.okN, D.okNs, Cp.ren, Cp.okN, HO.ren, HO.okN, okA, renA, renO, hOf, handed, D.fgt, D.fgts, List.range_succ, List.idxOf_cons, Out.ren, told, Out.fgt, upO, updS, setS])
  ((try simp only [wpAft_ret, wpAft_pan, putS, updS, setS]); (repeat (rw [wpS_cons]; simp)); (try simp only [wpS_nil, thenD, blockD]))
  (refine hK _ _ _ ?_; clear hK K)
  refine wpD_fgtQ 1 ?_
  have hb3 : IntKind.i64.wrap (m3 : Int) = m3 := i64w (by omega) (by omega)
  clear c0
  refine wpD_rangeJ tyOK globPure (ti := 3) (tk := 34) (tn := 33) (td := 35) (ts := 52) [4, 34, 35, 36, 37, 38, 39, 40, 41, 42, 43, 44, 45, 46, 47, 48, 49, 50, 51, 52] [] (m3) (fun k ys hl => ∃ (acc : List (Int × T)) (nd' : Int) (s' : List Int), ys = [] ∧ acc.length = k ∧ bytesOk s' ∧ R = blk3 kd lv ps so ms (appR acc (timesR ctorN (m3 - k) (nd', s'))) ∧ hl = [.cells 98 [.slice (byD s') .any, .int .i64 all, kmD, .int .i64 nd'], .cells 34 [.int .i64 kd, .int .i64 lv, .int .i64 0, .int .i64 0, .int .i64 0, .slice [] .full, .slice [] .full, .int .i64 0, .int .i64 0, .int .i64 0, .slice [] .full, .slice [] .full, .slice (ps.map encT) .any, .slice (so.map encP) .any, .slice (ms.map encMb) (.tok 2), .slice (acc.map encCt) (.tok 3)], .tok, .tok]) rfl rfl rfl rfl rfl rfl rfl rfl rfl rfl rfl rfl (by simp) (by decide) rfl (by first | assumption | omega | (unfold LMax; omega)) rfl (by kernel_rfl) (by decide) ?_ ?_ ?_
  · exact ⟨[], nd4, s5, rfl, rfl, hs5, by rw [appR_nil]; exact hF, rfl⟩
  · rintro i ys hl A hi ⟨acc, nd', s', rfl, hac, hs', hF2, rfl⟩ hA hA2
    simp only [putAll, List.set, List.map_cons, List.map_nil, List.cons_append, List.nil_append]
    rw [show m3 - i = (m3 - (i + 1)) + 1 by omega] at hF2
    have hi' : (i : Int) < m3 := by omega
    have hel : acc.length + 1 ≤ LMax := by unfold LMax; omega
    have c1 := rnumber_spec 8 s' hs' all nd'
    unfold RO at c1
    cases hn1 : numR 8 s' with
    | none =>
      rw [appR_none (by unfold ctorN; rw [hn1])] at hF2
      replace hF2 : R = none := hF2
      subst hF2
      rw [hn1] at c1
      unfold withN RdP at c1
      (refine wpD_seqk fun K hK => ?_; refine wpD_region tyOK ?_; ((repeat (rw [wpS_cons]; simp)); (try simp only [wpS_nil, thenD, blockD])))
      refine cXo [0] true (c1) ?_
      (rintro o hc ⟨rfl, rfl⟩; refine ⟨false, ?_⟩; simp [D.ren, D.rens, D.okN, D.okNs, Cp.ren, Cp.okN, HO.ren, HO.okN, okA, renA, renO, hOf, handed, D.fgt, D.fgts, List.range_succ, List.idxOf_cons, Out.ren, told, Out.fgt, upO, updS, setS])
      (try simp only [thenD, blockD])
      refine Or.inl ?_
      ((try simp only [thenD, blockD]); refine EndQ.pan (.inr ⟨[], by decide, by simp, ?_⟩); simp [Out.mov, movT, movH, movD, D.mov, HO.mov, okM, renM, getW, D.ren, D.rens, D.okN, D.okNs, Cp.ren, Cp.okN, HO.ren, HO.okN, okA, renA, renO, hOf, handed, D.fgt, D.fgts, List.range_succ, List.idxOf_cons, tmOf, Out.fgt, D.fgt, D.fgts])
      exact ⟨rfl, rfl⟩
    | some p =>
      obtain ⟨w, s6⟩ := p
      obtain ⟨-, -, hs6⟩ := numR_lo hs' hn1
      rw [hn1] at c1
      unfold withN RdP intD at c1
      dsimp only at c1
      rw [RO] at c1
      (refine wpD_seqk fun K hK => ?_; refine wpD_region tyOK ?_; ((repeat (rw [wpS_cons]; simp)); (try simp only [wpS_nil, thenD, blockD])))
      refine cXo [0] true (c1) ?_
      (rintro o hc ⟨ho, rfl⟩; refine ⟨true, ?_⟩; rw [show told true o = _ from ho]; clear ho; simp [D.ren, D.rens, D.okN, D.okNs, Cp.ren, Cp.okN, HO.ren, HO.okN, okA, renA, renO, hOf, handed, D.fgt, D.fgts, List.range_succ, List.idxOf_cons, Out.ren, told, Out.fgt, upO, updS, setS])
      ((try simp only [wpAft_ret, wpAft_pan, putS, updS, setS]); (repeat (rw [wpS_cons]; simp)); (try simp only [wpS_nil, thenD, blockD]))
      (refine hK _ _ _ ?_; clear hK K)
      have c2 := rterm_spec s6 hs6 all nd'
      unfold RO at c2
      cases hn2 : termN s6 with
      | none =>
        rw [appR_none (by unfold ctorN; rw [hn1]; dsimp only; rw [hn2])] at hF2
        replace hF2 : R = none := hF2
        subst hF2
        rw [hn2] at c2
        unfold RdP at c2
        (refine wpD_seqk fun K hK => ?_; refine wpD_region tyOK ?_; ((repeat (rw [wpS_cons]; simp)); (try simp only [wpS_nil, thenD, blockD])))
        refine cXo [0] true (c2) ?_
        (rintro o hc ⟨rfl, rfl⟩; refine ⟨false, ?_⟩; simp [D.ren, D.rens, D.okN, D.okNs, Cp.ren, Cp.okN, HO.ren, HO.okN, okA, renA, renO, hOf, handed, D.fgt, D.fgts, List.range_succ, List.idxOf_cons, Out.ren, told, Out.fgt, upO, updS, setS])
        (try simp only [thenD, blockD])
        refine Or.inl ?_
        ((try simp only [thenD, blockD]); refine EndQ.pan (.inr ⟨[], by decide, by simp, ?_⟩); simp [Out.mov, movT, movH, movD, D.mov, HO.mov, okM, renM, getW, D.ren, D.rens, D.okN, D.okNs, Cp.ren, Cp.okN, HO.ren, HO.okN, okA, renA, renO, hOf, handed, D.fgt, D.fgts, List.range_succ, List.idxOf_cons, tmOf, Out.fgt, D.fgt, D.fgts])
        exact ⟨rfl, rfl⟩
      | some p =>
        obtain ⟨x, nd7, s7⟩ := p
        have hs7 := (termN_got hs6 hn2).2
        rw [appR_some (x := (w, x)) (s1 := (nd7, s7)) (by unfold ctorN; rw [hn1]; dsimp only; rw [hn2])] at hF2
        rw [hn2] at c2
        unfold RdP at c2
        dsimp only at c2
        rw [RO, encT_eq] at c2
        (refine wpD_seqk fun K hK => ?_; refine wpD_region tyOK ?_; ((repeat (rw [wpS_cons]; simp)); (try simp only [wpS_nil, thenD, blockD])))
        refine cXo [0] true (c2) ?_
        (rintro o hc ⟨ho, rfl⟩; refine ⟨true, ?_⟩; rw [show told true o = _ from ho]; clear ho; simp [D.ren, D.rens, D.okN, D.okNs, Cp.ren, Cp.okN, HO.ren, HO.okN, okA, renA, renO, hOf, handed, D.fgt, D.fgts, List.range_succ, List.idxOf_cons, Out.ren, told, Out.fgt, upO, updS, setS])
        ((try simp only [wpAft_ret, wpAft_pan, putS, updS, setS]); (repeat (rw [wpS_cons]; simp)); (try simp only [wpS_nil, thenD, blockD]))
        (refine hK _ _ _ ?_; clear hK K)
        (refine wpD_drawk tyOK (by kernel_rfl) (by kernel_rfl) fun KT hKT => ?_; ((repeat (rw [wpT_cons]; simp [hel])); (try simp only [wpT_nil])))
        (refine hKT _ _ _ _ (by kernel_rfl) ?_; clear hKT KT; (try simp only [thenD, blockD]))
        (refine hA2 ([2, 5]) _ _ _ (LeT.refl _) (by decide) (by simp) (by simp [movT, movH, movD, D.mov, HO.mov, okM, renM, getW, D.ren, D.rens, D.okN, D.okNs, Cp.ren, Cp.okN, HO.ren, HO.okN, okA, renA, renO, hOf, handed, D.fgt, D.fgts, List.range_succ, List.idxOf_cons, putAll]) ?_ rfl; simp [movT, movH, movD, D.mov, HO.mov, okM, renM, getW, D.ren, D.rens, D.okN, D.okNs, Cp.ren, Cp.okN, HO.ren, HO.okN, okA, renA, renO, hOf, handed, D.fgt, D.fgts, List.range_succ, List.idxOf_cons])
        refine ⟨acc ++ [(w, x)], by simp [hac], nd7, s7, hs7, hF2, ⟨rfl, rfl⟩, ?_⟩
        rw [show List.map encCt acc ++ [D.agg [.int .i64 w, .int .i64 x.k, .int .i64 x.n, .int .i64 x.a, .slice (x.ls.map encL) .any, .slice (x.ks.map encT) .any]] = (acc ++ [(w, x)]).map encCt by simp [encCt]]
        exact encCt_rens _ _
  rintro ys hl' tl' ⟨cs, nd8, s8, rfl, hac, hs8, hF2, rfl⟩ htl
  rw [Nat.sub_self, appR_end] at hF2
  replace hF2 : R = some (⟨kd, lv, zeroTm, zeroTm, ps, so, ms, cs⟩, (nd8, s8)) := hF2
  subst hF2
  refine Or.inr ⟨34, _, rfl, ?_⟩
  simp [D.fgts, D.fgt]
  ((try simp only [thenD, blockD]); refine EndQ.nrm rfl (.inr ⟨[], by decide, by simp, ?_⟩); simp [Out.mov, movT, movH, movD, D.mov, HO.mov, okM, renM, getW, D.ren, D.rens, D.okN, D.okNs, Cp.ren, Cp.okN, HO.ren, HO.okN, okA, renA, renO, hOf, handed, D.fgt, D.fgts, List.range_succ, List.idxOf_cons, tmOf, Out.fgt, D.fgt, D.fgts])
  exact ⟨rfl, rfl⟩
end Go.Proofs.YtgloldepdhgfaaaDoor
namespace Go.Proofs.YtgloldepdhgfaaaDoor
set_option linter.unusedSimpArgs false
set_option linter.unusedVariables false
set_option linter.unusedSimpArgs false
set_option linter.unusedVariables false
set_option maxHeartbeats 10000000
set_option maxRecDepth 20000
open Go.RowKit
attribute [local simp] wpAft_ret wpAft_pan wantD evOp opD tmOf putS updS setS hOf isFree isTok fillD TK.isAgg TK.known partD thenD blockD putAll D.ofV inB nilTest isNilS binX binD binE isCst bndD capB IntKind.min IntKind.max IntKind.signed IntKind.bits dstOf late
def decE : Option (De × NS) → Option (De × NS)
  | none => none
  | some (d, st) => if rightDe d = true then some (d, st) else none
theorem declN_u (st : NS) : declN st = match numR 3 st.2 with
  | none => none
  | some (kd, s) => match numR 8 s with
    | none => none
    | some (lv, s) => decE (bodyN kd lv (st.1, s)) := by
  unfold declN decE
  rfl
theorem rdecl_spec (s : List Int) (hs : bytesOk s) (all nd : Int) : Spec Tryd.prog glob 36 [.box 0 0] (RO s all nd) (RdP encDe all (declN (nd, s))) := by
  refine RdP.of ?_
  obtain ⟨R, hR⟩ : ∃ R, R = declN (nd, s) := ⟨_, rfl⟩
  rw [← hR]
  rw [declN_u] at hR
  dsimp only at hR
  have c0 := rnumber_spec 3 s hs all nd
  unfold RO
  unfold RO at c0
  refine Spec.movd globPure (wpD_spec tyOK Tryd.func36 rfl (enters _ _ Tryd.func36 rfl (by decide)) rfl rfl ?_)
  (refine wpD_seqk fun K hK => ?_; refine wpD_region tyOK ?_; ((repeat (rw [wpS_cons]; simp)); (try simp only [wpS_nil, thenD, blockD])); refine hK _ _ _ ?_; clear hK K)
  cases q0 : numR 3 s with
  | none =>
    rw [q0] at c0 hR
    replace hR : R = none := hR
    subst hR
    unfold withN RdP at c0
    (refine wpD_seqk fun K hK => ?_; refine wpD_region tyOK ?_; ((repeat (rw [wpS_cons]; simp)); (try simp only [wpS_nil, thenD, blockD])))
    refine cXo [0] true (c0) ?_
    (rintro o hc ⟨rfl, rfl⟩; refine ⟨false, ?_⟩; simp [D.ren, D.rens, D.okN, D.okNs, Cp.ren, Cp.okN, HO.ren, HO.okN, okA, renA, renO, hOf, handed, D.fgt, D.fgts, List.range_succ, List.idxOf_cons, Out.ren, told, Out.fgt, upO, updS, setS])
    ((try simp only [thenD, blockD]); refine EndQ.pan (.inr ⟨[], by decide, by simp, ?_⟩); simp [Out.mov, movT, movH, movD, D.mov, HO.mov, okM, renM, getW, D.ren, D.rens, D.okN, D.okNs, Cp.ren, Cp.okN, HO.ren, HO.okN, okA, renA, renO, hOf, handed, D.fgt, D.fgts, List.range_succ, List.idxOf_cons, tmOf, Out.fgt, D.fgt, D.fgts])
    exact ⟨rfl, rfl⟩
  | some p =>
  obtain ⟨kd, s1⟩ := p
  obtain ⟨hk0, hk1, hs1⟩ := numR_lo hs q0
  rw [q0] at c0 hR
  dsimp only at hR
  unfold withN RdP intD at c0
  dsimp only at c0
  rw [RO] at c0
  have c1 := rnumber_spec 8 s1 hs1 all nd
  unfold RO at c1
  cases q1 : numR 8 s1 with
  | none =>
    rw [q1] at c1 hR
    replace hR : R = none := hR
    subst hR
    unfold withN RdP at c1
    (refine wpD_seqk fun K hK => ?_; refine wpD_region tyOK ?_; ((repeat (rw [wpS_cons]; simp)); (try simp only [wpS_nil, thenD, blockD])))
    refine cXo [0] true (c0) ?_
    (rintro o hc ⟨ho, rfl⟩; refine ⟨true, ?_⟩; rw [show told true o = _ from ho]; clear ho; simp [D.ren, D.rens, D.okN, D.okNs, Cp.ren, Cp.okN, HO.ren, HO.okN, okA, renA, renO, hOf, handed, D.fgt, D.fgts, List.range_succ, List.idxOf_cons, Out.ren, told, Out.fgt, upO, updS, setS])
    ((try simp only [wpAft_ret, wpAft_pan, putS, updS, setS]); (repeat (rw [wpS_cons]; simp)); (try simp only [wpS_nil, thenD, blockD]))
    refine cXo [0] true (c1) ?_
    (rintro o hc ⟨rfl, rfl⟩; refine ⟨false, ?_⟩; simp [D.ren, D.rens, D.okN, D.okNs, Cp.ren, Cp.okN, HO.ren, HO.okN, okA, renA, renO, hOf, handed, D.fgt, D.fgts, List.range_succ, List.idxOf_cons, Out.ren, told, Out.fgt, upO, updS, setS])
    ((try simp only [thenD, blockD]); refine EndQ.pan (.inr ⟨[], by decide, by simp, ?_⟩); simp [Out.mov, movT, movH, movD, D.mov, HO.mov, okM, renM, getW, D.ren, D.rens, D.okN, D.okNs, Cp.ren, Cp.okN, HO.ren, HO.okN, okA, renA, renO, hOf, handed, D.fgt, D.fgts, List.range_succ, List.idxOf_cons, tmOf, Out.fgt, D.fgt, D.fgts])
    exact ⟨rfl, rfl⟩
  | some p =>
  obtain ⟨lv, s2⟩ := p
  obtain ⟨hl0, hl1, hs2⟩ := numR_lo hs1 q1
  have hlv : I64 lv := by unfold I64; omega
  rw [q1] at c1 hR
  dsimp only at hR
  unfold withN RdP intD at c1
  dsimp only at c1
  rw [RO] at c1
  (refine wpD_seqk fun K hK => ?_; refine wpD_region tyOK ?_; ((repeat (rw [wpS_cons]; simp)); (try simp only [wpS_nil, thenD, blockD])))
  refine cXo [0] true (c0) ?_
  (rintro o hc ⟨ho, rfl⟩; refine ⟨true, ?_⟩; rw [show told true o = _ from ho]; clear ho; simp [D.ren, D.rens, D.okN, D.okNs, Cp.ren, Cp.okN, HO.ren, HO.okN, okA, renA, renO, hOf, handed, D.fgt, D.fgts, List.range_succ, List.idxOf_cons, Out.ren, told, Out.fgt, upO, updS, setS])
  ((try simp only [wpAft_ret, wpAft_pan, putS, updS, setS]); (repeat (rw [wpS_cons]; simp)); (try simp only [wpS_nil, thenD, blockD]))
  refine cXo [0] true (c1) ?_
  (rintro o hc ⟨ho, rfl⟩; refine ⟨true, ?_⟩; rw [show told true o = _ from ho]; clear ho; simp [D.ren, D.rens, D.okN, D.okNs, Cp.ren, Cp.okN, HO.ren, HO.okN, okA, renA, renO, hOf, handed, D.fgt, D.fgts, List.range_succ, List.idxOf_cons, Out.ren, told, Out.fgt, upO, updS, setS])
  ((try simp only [wpAft_ret, wpAft_pan, putS, updS, setS]); (repeat (rw [wpS_cons]; simp)); (try simp only [wpS_nil, thenD, blockD]))
  (refine hK _ _ _ ?_; clear hK K)
  clear c0 c1 hs q0 q1
  refine wpD_seqk fun K1 hK1 => ?_
  (refine wpD_seqk fun K hK => ?_; refine wpD_region tyOK ?_; ((repeat (rw [wpS_cons]; simp)); (try simp only [wpS_nil, thenD, blockD])); refine hK _ _ _ ?_; clear hK K)
  refine wpD_block ?_
  unfold bodyN at hR
  by_cases h1 : kd = 1
  · subst h1
    rw [if_pos rfl] at hR
    (refine wpD_seqk fun K hK => ?_; refine wpD_region tyOK ?_; ((repeat (rw [wpS_cons]; simp)); (try simp only [wpS_nil, thenD, blockD])); refine hK _ _ _ ?_; clear hK K)
    refine wpD_part rfl (fun _ => ?_) (fun h => by simp at h)
    have c := rterm_spec s2 hs2 all nd
    unfold RO at c
    dsimp only at hR
    cases q2 : termN s2 with
    | none =>
      rw [q2] at c hR
      replace hR : R = none := hR
      subst hR
      unfold RdP at c
      (refine wpD_region tyOK ?_; ((repeat (rw [wpS_cons]; simp)); (try simp only [wpS_nil, thenD, blockD])))
      refine cXo [0] true (c) ?_
      (rintro o hc ⟨rfl, rfl⟩; refine ⟨false, ?_⟩; simp [D.ren, D.rens, D.okN, D.okNs, Cp.ren, Cp.okN, HO.ren, HO.okN, okA, renA, renO, hOf, handed, D.fgt, D.fgts, List.range_succ, List.idxOf_cons, Out.ren, told, Out.fgt, upO, updS, setS])
      ((try simp only [thenD, blockD]); refine EndQ.pan (.inr ⟨[], by decide, by simp, ?_⟩); simp [Out.mov, movT, movH, movD, D.mov, HO.mov, okM, renM, getW, D.ren, D.rens, D.okN, D.okNs, Cp.ren, Cp.okN, HO.ren, HO.okN, okA, renA, renO, hOf, handed, D.fgt, D.fgts, List.range_succ, List.idxOf_cons, tmOf, Out.fgt, D.fgt, D.fgts])
      exact ⟨rfl, rfl⟩
    | some p =>
      obtain ⟨t, nd3, s3⟩ := p
      obtain ⟨hr, hs3⟩ := termN_got hs2 q2
      rw [q2] at c hR
      dsimp only at hR
      unfold RdP at c
      dsimp only at c
      rw [RO, encT_eq] at c
      (refine wpD_region tyOK ?_; ((repeat (rw [wpS_cons]; simp)); (try simp only [wpS_nil, thenD, blockD])))
      refine cXo [0] true (c) ?_
      (rintro o hc ⟨ho, rfl⟩; refine ⟨true, ?_⟩; rw [show told true o = _ from ho]; clear ho; simp [D.ren, D.rens, D.okN, D.okNs, Cp.ren, Cp.okN, HO.ren, HO.okN, okA, renA, renO, hOf, handed, D.fgt, D.fgts, List.range_succ, List.idxOf_cons, Out.ren, told, Out.fgt, upO, updS, setS])
      ((try simp only [wpAft_ret, wpAft_pan, putS, updS, setS]); (repeat (rw [wpS_cons]; simp)); (try simp only [wpS_nil, thenD, blockD]))
      refine hK1 _ _ _ ?_
      clear hK1 K1
      have c0 := pright_spec ⟨1, lv, t, zeroTm, [], [], [], []⟩ ⟨by unfold I64; dsimp only; omega, hlv, right_ok hr, zeroTm_ok, by simp, (fun _ h => nomatch h), by simp, by simp, (fun _ h => nomatch h), by simp, (fun _ h => nomatch h)⟩
      rw [show encDe ⟨1, lv, t, zeroTm, [], [], [], []⟩ = .agg [.int .i64 1, .int .i64 lv, .int .i64 t.k, .int .i64 t.n, .int .i64 t.a, .slice (t.ls.map encL) .any, .slice (t.ks.map encT) .any, .int .i64 0, .int .i64 0, .int .i64 0, .slice [] .any, .slice [] .any, .slice [] .any, .slice [] .any, .slice [] .any, .slice [] .any] from rfl] at c0
      unfold decE at hR
      dsimp only at hR
      cases hB : rightDe ⟨1, lv, t, zeroTm, [], [], [], []⟩ with
      | true =>
        rw [hB, pkOut_t] at c0
        rw [if_pos hB] at hR
        subst hR
        (refine wpD_seqk fun K hK => ?_; refine wpD_region tyOK ?_; ((repeat (rw [wpS_cons]; simp)); (try simp only [wpS_nil, thenD, blockD])))
        refine cXp (c0) ?_
        ((try simp only [wpAft_ret, wpAft_pan, putS, updS, setS]); (repeat (rw [wpS_cons]; simp)); (try simp only [wpS_nil, thenD, blockD]))
        (refine hK _ _ _ ?_; clear hK K)
        (refine wpD_seqk fun K hK => ?_; refine wpD_region tyOK ?_; ((repeat (rw [wpS_cons]; simp)); (try simp only [wpS_nil, thenD, blockD])); refine hK _ _ _ ?_; clear hK K)
        (refine wpD_ret ?_; (try simp only [thenD, blockD]); refine EndQ.ret rfl (.inr ⟨[], by decide, by simp, ?_⟩); simp [Out.mov, movT, movH, movD, D.mov, HO.mov, okM, renM, getW, D.ren, D.rens, D.okN, D.okNs, Cp.ren, Cp.okN, HO.ren, HO.okN, okA, renA, renO, hOf, handed, D.fgt, D.fgts, List.range_succ, List.idxOf_cons, tmOf, Out.fgt, D.fgt, D.fgts])
        exact ⟨rfl, rfl⟩
      | false =>
        rw [hB, pkOut_f] at c0
        rw [if_neg (by rw [hB]; simp)] at hR
        subst hR
        (refine wpD_seqk fun K hK => ?_; refine wpD_region tyOK ?_; ((repeat (rw [wpS_cons]; simp)); (try simp only [wpS_nil, thenD, blockD])))
        refine CallX.pure globPure (c0) ?_ (by simp [D.fgts, D.fgt, pnoneD]) (by simp [D.pures, D.pure, Cp.free, D.pures_map, pnoneD]) (by simp [Out.pure, D.pure, D.pures, Cp.free, D.pures_map, pnoneD])
        ((try simp only [wpAft_ret, wpAft_pan, putS, updS, setS]); (repeat (rw [wpS_cons]; simp)); (try simp only [wpS_nil, thenD, blockD]))
        ((try simp only [thenD, blockD]); refine EndQ.pan (.inr ⟨[], by decide, by simp, ?_⟩); simp [Out.mov, movT, movH, movD, D.mov, HO.mov, okM, renM, getW, D.ren, D.rens, D.okN, D.okNs, Cp.ren, Cp.okN, HO.ren, HO.okN, okA, renA, renO, hOf, handed, D.fgt, D.fgts, List.range_succ, List.idxOf_cons, tmOf, Out.fgt, D.fgt, D.fgts])
        exact ⟨rfl, rfl⟩
  rw [if_neg h1] at hR
  by_cases h2 : kd = 2
  · subst h2
    rw [if_pos rfl] at hR
    (refine wpD_seqk fun K hK => ?_; refine wpD_region tyOK ?_; ((repeat (rw [wpS_cons]; simp)); (try simp only [wpS_nil, thenD, blockD])); refine hK _ _ _ ?_; clear hK K)
    refine wpD_part rfl (fun h => by simp at h) (fun _ => ?_)
    (refine wpD_seqk fun K hK => ?_; refine wpD_region tyOK ?_; ((repeat (rw [wpS_cons]; simp)); (try simp only [wpS_nil, thenD, blockD])); refine hK _ _ _ ?_; clear hK K)
    refine wpD_part rfl (fun _ => ?_) (fun h => by simp at h)
    have c := rterm_spec s2 hs2 all nd
    unfold RO at c
    dsimp only at hR
    cases q2 : termN s2 with
    | none =>
      rw [q2] at c hR
      replace hR : R = none := hR
      subst hR
      unfold RdP at c
      (refine wpD_region tyOK ?_; ((repeat (rw [wpS_cons]; simp)); (try simp only [wpS_nil, thenD, blockD])))
      refine cXo [0] true (c) ?_
      (rintro o hc ⟨rfl, rfl⟩; refine ⟨false, ?_⟩; simp [D.ren, D.rens, D.okN, D.okNs, Cp.ren, Cp.okN, HO.ren, HO.okN, okA, renA, renO, hOf, handed, D.fgt, D.fgts, List.range_succ, List.idxOf_cons, Out.ren, told, Out.fgt, upO, updS, setS])
      ((try simp only [thenD, blockD]); refine EndQ.pan (.inr ⟨[], by decide, by simp, ?_⟩); simp [Out.mov, movT, movH, movD, D.mov, HO.mov, okM, renM, getW, D.ren, D.rens, D.okN, D.okNs, Cp.ren, Cp.okN, HO.ren, HO.okN, okA, renA, renO, hOf, handed, D.fgt, D.fgts, List.range_succ, List.idxOf_cons, tmOf, Out.fgt, D.fgt, D.fgts])
      exact ⟨rfl, rfl⟩
    | some p =>
      obtain ⟨t, nd3, s3⟩ := p
      obtain ⟨hr, hs3⟩ := termN_got hs2 q2
      rw [q2] at c hR
      dsimp only at hR
      unfold RdP at c
      dsimp only at c
      rw [RO, encT_eq] at c
      have c3 := rterm_spec s3 hs3 all nd3
      unfold RO at c3
      cases q3 : termN s3 with
      | none =>
        rw [q3] at c3 hR
        replace hR : R = none := hR
        subst hR
        unfold RdP at c3
        (refine wpD_region tyOK ?_; ((repeat (rw [wpS_cons]; simp)); (try simp only [wpS_nil, thenD, blockD])))
        refine cXo [0] true (c) ?_
        (rintro o hc ⟨ho, rfl⟩; refine ⟨true, ?_⟩; rw [show told true o = _ from ho]; clear ho; simp [D.ren, D.rens, D.okN, D.okNs, Cp.ren, Cp.okN, HO.ren, HO.okN, okA, renA, renO, hOf, handed, D.fgt, D.fgts, List.range_succ, List.idxOf_cons, Out.ren, told, Out.fgt, upO, updS, setS])
        ((try simp only [wpAft_ret, wpAft_pan, putS, updS, setS]); (repeat (rw [wpS_cons]; simp)); (try simp only [wpS_nil, thenD, blockD]))
        refine cXo [0] true (c3) ?_
        (rintro o hc ⟨rfl, rfl⟩; refine ⟨false, ?_⟩; simp [D.ren, D.rens, D.okN, D.okNs, Cp.ren, Cp.okN, HO.ren, HO.okN, okA, renA, renO, hOf, handed, D.fgt, D.fgts, List.range_succ, List.idxOf_cons, Out.ren, told, Out.fgt, upO, updS, setS])
        ((try simp only [thenD, blockD]); refine EndQ.pan (.inr ⟨[], by decide, by simp, ?_⟩); simp [Out.mov, movT, movH, movD, D.mov, HO.mov, okM, renM, getW, D.ren, D.rens, D.okN, D.okNs, Cp.ren, Cp.okN, HO.ren, HO.okN, okA, renA, renO, hOf, handed, D.fgt, D.fgts, List.range_succ, List.idxOf_cons, tmOf, Out.fgt, D.fgt, D.fgts])
        exact ⟨rfl, rfl⟩
      | some p =>
        obtain ⟨u, nd4, s4⟩ := p
        obtain ⟨hr2, hs4⟩ := termN_got hs3 q3
        rw [q3] at c3 hR
        dsimp only at hR
        unfold RdP at c3
        dsimp only at c3
        rw [RO, encT_eq] at c3
        (refine wpD_region tyOK ?_; ((repeat (rw [wpS_cons]; simp)); (try simp only [wpS_nil, thenD, blockD])))
        refine cXo [0] true (c) ?_
        (rintro o hc ⟨ho, rfl⟩; refine ⟨true, ?_⟩; rw [show told true o = _ from ho]; clear ho; simp [D.ren, D.rens, D.okN, D.okNs, Cp.ren, Cp.okN, HO.ren, HO.okN, okA, renA, renO, hOf, handed, D.fgt, D.fgts, List.range_succ, List.idxOf_cons, Out.ren, told, Out.fgt, upO, updS, setS])
        ((try simp only [wpAft_ret, wpAft_pan, putS, updS, setS]); (repeat (rw [wpS_cons]; simp)); (try simp only [wpS_nil, thenD, blockD]))
        refine cXo [0] true (c3) ?_
        (rintro o hc ⟨ho, rfl⟩; refine ⟨true, ?_⟩; rw [show told true o = _ from ho]; clear ho; simp [D.ren, D.rens, D.okN, D.okNs, Cp.ren, Cp.okN, HO.ren, HO.okN, okA, renA, renO, hOf, handed, D.fgt, D.fgts, List.range_succ, List.idxOf_cons, Out.ren, told, Out.fgt, upO, updS, setS])
        ((try simp only [wpAft_ret, wpAft_pan, putS, updS, setS]); (repeat (rw [wpS_cons]; simp)); (try simp only [wpS_nil, thenD, blockD]))
        refine hK1 _ _ _ ?_
        clear hK1 K1
        have c0 := pright_spec ⟨2, lv, t, u, [], [], [], []⟩ ⟨by unfold I64; dsimp only; omega, hlv, right_ok hr, right_ok hr2, by simp, (fun _ h => nomatch h), by simp, by simp, (fun _ h => nomatch h), by simp, (fun _ h => nomatch h)⟩
        rw [show encDe ⟨2, lv, t, u, [], [], [], []⟩ = .agg [.int .i64 2, .int .i64 lv, .int .i64 t.k, .int .i64 t.n, .int .i64 t.a, .slice (t.ls.map encL) .any, .slice (t.ks.map encT) .any, .int .i64 u.k, .int .i64 u.n, .int .i64 u.a, .slice (u.ls.map encL) .any, .slice (u.ks.map encT) .any, .slice [] .any, .slice [] .any, .slice [] .any, .slice [] .any] from rfl] at c0
        unfold decE at hR
        dsimp only at hR
        cases hB : rightDe ⟨2, lv, t, u, [], [], [], []⟩ with
        | true =>
          rw [hB, pkOut_t] at c0
          rw [if_pos hB] at hR
          subst hR
          (refine wpD_seqk fun K hK => ?_; refine wpD_region tyOK ?_; ((repeat (rw [wpS_cons]; simp)); (try simp only [wpS_nil, thenD, blockD])))
          refine cXp (c0) ?_
          ((try simp only [wpAft_ret, wpAft_pan, putS, updS, setS]); (repeat (rw [wpS_cons]; simp)); (try simp only [wpS_nil, thenD, blockD]))
          (refine hK _ _ _ ?_; clear hK K)
          (refine wpD_seqk fun K hK => ?_; refine wpD_region tyOK ?_; ((repeat (rw [wpS_cons]; simp)); (try simp only [wpS_nil, thenD, blockD])); refine hK _ _ _ ?_; clear hK K)
          (refine wpD_ret ?_; (try simp only [thenD, blockD]); refine EndQ.ret rfl (.inr ⟨[], by decide, by simp, ?_⟩); simp [Out.mov, movT, movH, movD, D.mov, HO.mov, okM, renM, getW, D.ren, D.rens, D.okN, D.okNs, Cp.ren, Cp.okN, HO.ren, HO.okN, okA, renA, renO, hOf, handed, D.fgt, D.fgts, List.range_succ, List.idxOf_cons, tmOf, Out.fgt, D.fgt, D.fgts])
          exact ⟨rfl, rfl⟩
        | false =>
          rw [hB, pkOut_f] at c0
          rw [if_neg (by rw [hB]; simp)] at hR
          subst hR
          (refine wpD_seqk fun K hK => ?_; refine wpD_region tyOK ?_; ((repeat (rw [wpS_cons]; simp)); (try simp only [wpS_nil, thenD, blockD])))
          refine CallX.pure globPure (c0) ?_ (by simp [D.fgts, D.fgt, pnoneD]) (by simp [D.pures, D.pure, Cp.free, D.pures_map, pnoneD]) (by simp [Out.pure, D.pure, D.pures, Cp.free, D.pures_map, pnoneD])
          ((try simp only [wpAft_ret, wpAft_pan, putS, updS, setS]); (repeat (rw [wpS_cons]; simp)); (try simp only [wpS_nil, thenD, blockD]))
          ((try simp only [thenD, blockD]); refine EndQ.pan (.inr ⟨[], by decide, by simp, ?_⟩); simp [Out.mov, movT, movH, movD, D.mov, HO.mov, okM, renM, getW, D.ren, D.rens, D.okN, D.okNs, Cp.ren, Cp.okN, HO.ren, HO.okN, okA, renA, renO, hOf, handed, D.fgt, D.fgts, List.range_succ, List.idxOf_cons, tmOf, Out.fgt, D.fgt, D.fgts])
          exact ⟨rfl, rfl⟩
  rw [if_neg h2] at hR
  by_cases h3 : kd = 3
  · subst h3
    rw [if_pos rfl] at hR
    (refine wpD_seqk fun K hK => ?_; refine wpD_region tyOK ?_; ((repeat (rw [wpS_cons]; simp)); (try simp only [wpS_nil, thenD, blockD])); refine hK _ _ _ ?_; clear hK K)
    refine wpD_part rfl (fun h => by simp at h) (fun _ => ?_)
    (refine wpD_seqk fun K hK => ?_; refine wpD_region tyOK ?_; ((repeat (rw [wpS_cons]; simp)); (try simp only [wpS_nil, thenD, blockD])); refine hK _ _ _ ?_; clear hK K)
    refine wpD_part rfl (fun h => by simp at h) (fun _ => ?_)
    (refine wpD_seqk fun K hK => ?_; refine wpD_region tyOK ?_; ((repeat (rw [wpS_cons]; simp)); (try simp only [wpS_nil, thenD, blockD])); refine hK _ _ _ ?_; clear hK K)
    refine wpD_part rfl (fun _ => ?_) (fun h => by simp at h)
    have c := rblock_spec 3 lv s2 hs2 all nd
    cases q2 : blockN 3 lv (nd, s2) with
    | none =>
      rw [q2] at c hR
      replace hR : R = none := hR
      subst hR
      unfold BlP at c
      (refine wpD_region tyOK ?_; ((repeat (rw [wpS_cons]; simp)); (try simp only [wpS_nil, thenD, blockD])))
      refine cXo [0, 1] true (c) ?_
      (rintro o hc ⟨rfl, rfl⟩; refine ⟨false, ?_⟩; simp [D.ren, D.rens, D.okN, D.okNs, Cp.ren, Cp.okN, HO.ren, HO.okN, okA, renA, renO, hOf, handed, D.fgt, D.fgts, List.range_succ, List.idxOf_cons, Out.ren, told, Out.fgt, upO, updS, setS])
      ((try simp only [thenD, blockD]); refine EndQ.pan (.inr ⟨[], by decide, by simp, ?_⟩); simp [Out.mov, movT, movH, movD, D.mov, HO.mov, okM, renM, getW, D.ren, D.rens, D.okN, D.okNs, Cp.ren, Cp.okN, HO.ren, HO.okN, okA, renA, renO, hOf, handed, D.fgt, D.fgts, List.range_succ, List.idxOf_cons, tmOf, Out.fgt, D.fgt, D.fgts])
      exact ⟨rfl, rfl⟩
    | some p =>
      obtain ⟨x, nd3, s3⟩ := p
      obtain ⟨hok, hs3⟩ := blockN_ok (by unfold I64; omega) hlv hs2 q2
      rw [q2] at c hR
      unfold BlP decL at c
      dsimp only at c
      (refine wpD_region tyOK ?_; ((repeat (rw [wpS_cons]; simp)); (try simp only [wpS_nil, thenD, blockD])))
      refine cXo [0, 1] true (c) ?_
      (rintro o hc ⟨rfl, rfl⟩; refine ⟨false, ?_⟩; simp [D.ren, D.rens, D.okN, D.okNs, Cp.ren, Cp.okN, HO.ren, HO.okN, okA, renA, renO, hOf, handed, D.fgt, D.fgts, List.range_succ, List.idxOf_cons, Out.ren, told, Out.fgt, upO, updS, setS])
      ((try simp only [wpAft_ret, wpAft_pan, putS, updS, setS]); (repeat (rw [wpS_cons]; simp)); (try simp only [wpS_nil, thenD, blockD]))
      refine hK1 _ _ _ ?_
      clear hK1 K1
      have c0 := pright_spec x hok
      rw [show encDe x = .agg (decL x) from rfl] at c0
      unfold decL at c0
      unfold decE at hR
      dsimp only at hR
      cases hB : rightDe x with
      | true =>
        rw [hB, pkOut_t] at c0
        rw [if_pos hB] at hR
        subst hR
        (refine wpD_seqk fun K hK => ?_; refine wpD_region tyOK ?_; ((repeat (rw [wpS_cons]; simp)); (try simp only [wpS_nil, thenD, blockD])))
        refine cXp (c0) ?_
        ((try simp only [wpAft_ret, wpAft_pan, putS, updS, setS]); (repeat (rw [wpS_cons]; simp)); (try simp only [wpS_nil, thenD, blockD]))
        (refine hK _ _ _ ?_; clear hK K)
        (refine wpD_seqk fun K hK => ?_; refine wpD_region tyOK ?_; ((repeat (rw [wpS_cons]; simp)); (try simp only [wpS_nil, thenD, blockD])); refine hK _ _ _ ?_; clear hK K)
        (refine wpD_ret ?_; (try simp only [thenD, blockD]); refine EndQ.ret rfl (.inr ⟨[], by decide, by simp, ?_⟩); simp [Out.mov, movT, movH, movD, D.mov, HO.mov, okM, renM, getW, D.ren, D.rens, D.okN, D.okNs, Cp.ren, Cp.okN, HO.ren, HO.okN, okA, renA, renO, hOf, handed, D.fgt, D.fgts, List.range_succ, List.idxOf_cons, tmOf, Out.fgt, D.fgt, D.fgts])
        exact ⟨rfl, rfl⟩
      | false =>
        rw [hB, pkOut_f] at c0
        rw [if_neg (by rw [hB]; simp)] at hR
        subst hR
        (refine wpD_seqk fun K hK => ?_; refine wpD_region tyOK ?_; ((repeat (rw [wpS_cons]; simp)); (try simp only [wpS_nil, thenD, blockD])))
        refine CallX.pure globPure (c0) ?_ (by simp [D.fgts, D.fgt, pnoneD]) (by simp [D.pures, D.pure, Cp.free, D.pures_map, pnoneD]) (by simp [Out.pure, D.pure, D.pures, Cp.free, D.pures_map, pnoneD])
        ((try simp only [wpAft_ret, wpAft_pan, putS, updS, setS]); (repeat (rw [wpS_cons]; simp)); (try simp only [wpS_nil, thenD, blockD]))
        ((try simp only [thenD, blockD]); refine EndQ.pan (.inr ⟨[], by decide, by simp, ?_⟩); simp [Out.mov, movT, movH, movD, D.mov, HO.mov, okM, renM, getW, D.ren, D.rens, D.okN, D.okNs, Cp.ren, Cp.okN, HO.ren, HO.okN, okA, renA, renO, hOf, handed, D.fgt, D.fgts, List.range_succ, List.idxOf_cons, tmOf, Out.fgt, D.fgt, D.fgts])
        exact ⟨rfl, rfl⟩
  rw [if_neg h3] at hR
  (refine wpD_seqk fun K hK => ?_; refine wpD_region tyOK ?_; ((repeat (rw [wpS_cons]; simp [h1])); (try simp only [wpS_nil, thenD, blockD])); refine hK _ _ _ ?_; clear hK K)
  refine wpD_part rfl (fun h => by simp at h) (fun _ => ?_)
  (refine wpD_seqk fun K hK => ?_; refine wpD_region tyOK ?_; ((repeat (rw [wpS_cons]; simp [h2])); (try simp only [wpS_nil, thenD, blockD])); refine hK _ _ _ ?_; clear hK K)
  refine wpD_part rfl (fun h => by simp at h) (fun _ => ?_)
  (refine wpD_seqk fun K hK => ?_; refine wpD_region tyOK ?_; ((repeat (rw [wpS_cons]; simp [h3])); (try simp only [wpS_nil, thenD, blockD])); refine hK _ _ _ ?_; clear hK K)
  refine wpD_part rfl (fun h => by simp at h) (fun _ => ?_)
  refine wpD_skip (hK1 _ _ _ ?_)
  clear hK1 K1
  have c0 := pright_spec ⟨kd, lv, zeroTm, zeroTm, [], [], [], []⟩ ⟨by unfold I64; dsimp only; omega, hlv, zeroTm_ok, zeroTm_ok, by simp, (fun _ h => nomatch h), by simp, by simp, (fun _ h => nomatch h), by simp, (fun _ h => nomatch h)⟩
  rw [show encDe ⟨kd, lv, zeroTm, zeroTm, [], [], [], []⟩ = .agg [.int .i64 kd, .int .i64 lv, .int .i64 0, .int .i64 0, .int .i64 0, .slice [] .any, .slice [] .any, .int .i64 0, .int .i64 0, .int .i64 0, .slice [] .any, .slice [] .any, .slice [] .any, .slice [] .any, .slice [] .any, .slice [] .any] from rfl] at c0
  unfold decE at hR
  dsimp only at hR
  cases hB : rightDe ⟨kd, lv, zeroTm, zeroTm, [], [], [], []⟩ with
  | true =>
    rw [hB, pkOut_t] at c0
    rw [if_pos hB] at hR
    subst hR
    (refine wpD_seqk fun K hK => ?_; refine wpD_region tyOK ?_; ((repeat (rw [wpS_cons]; simp)); (try simp only [wpS_nil, thenD, blockD])))
    refine cXp (c0) ?_
    ((try simp only [wpAft_ret, wpAft_pan, putS, updS, setS]); (repeat (rw [wpS_cons]; simp)); (try simp only [wpS_nil, thenD, blockD]))
    (refine hK _ _ _ ?_; clear hK K)
    (refine wpD_seqk fun K hK => ?_; refine wpD_region tyOK ?_; ((repeat (rw [wpS_cons]; simp)); (try simp only [wpS_nil, thenD, blockD])); refine hK _ _ _ ?_; clear hK K)
    (refine wpD_ret ?_; (try simp only [thenD, blockD]); refine EndQ.ret rfl (.inr ⟨[], by decide, by simp, ?_⟩); simp [Out.mov, movT, movH, movD, D.mov, HO.mov, okM, renM, getW, D.ren, D.rens, D.okN, D.okNs, Cp.ren, Cp.okN, HO.ren, HO.okN, okA, renA, renO, hOf, handed, D.fgt, D.fgts, List.range_succ, List.idxOf_cons, tmOf, Out.fgt, D.fgt, D.fgts])
    exact ⟨rfl, rfl⟩
  | false =>
    rw [hB, pkOut_f] at c0
    rw [if_neg (by rw [hB]; simp)] at hR
    subst hR
    (refine wpD_seqk fun K hK => ?_; refine wpD_region tyOK ?_; ((repeat (rw [wpS_cons]; simp)); (try simp only [wpS_nil, thenD, blockD])))
    refine CallX.pure globPure (c0) ?_ (by simp [D.fgts, D.fgt, pnoneD]) (by simp [D.pures, D.pure, Cp.free, D.pures_map, pnoneD]) (by simp [Out.pure, D.pure, D.pures, Cp.free, D.pures_map, pnoneD])
    ((try simp only [wpAft_ret, wpAft_pan, putS, updS, setS]); (repeat (rw [wpS_cons]; simp)); (try simp only [wpS_nil, thenD, blockD]))
    ((try simp only [thenD, blockD]); refine EndQ.pan (.inr ⟨[], by decide, by simp, ?_⟩); simp [Out.mov, movT, movH, movD, D.mov, HO.mov, okM, renM, getW, D.ren, D.rens, D.okN, D.okNs, Cp.ren, Cp.okN, HO.ren, HO.okN, okA, renA, renO, hOf, handed, D.fgt, D.fgts, List.range_succ, List.idxOf_cons, tmOf, Out.fgt, D.fgt, D.fgts])
    exact ⟨rfl, rfl⟩
end Go.Proofs.YtgloldepdhgfaaaDoor
