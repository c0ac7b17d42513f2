/-
  Ma11: the texts C5k, one behind the other.
-/
import Derived.Test.YtebmlojhdnldgaaDoorMa10
namespace Go.Proofs.YtebmlojhdnldgaaDoor
set_option linter.unusedSimpArgs false
set_option linter.unusedVariables false
set_option maxHeartbeats 10000000
set_option maxRecDepth 20000
open Go.RowKit
attribute [local simp] wpAft_ret wpAft_pan wantD evOp opD tmOf putS updS setS hOf isFree isTok fillD TK.isAgg TK.known partD thenD blockD putAll D.ofV inB nilTest isNilS binX binD binE isCst bndD capB IntKind.min IntKind.max IntKind.signed IntKind.bits dstOf late
theorem low5_spec (most : Int) (t : T) : okT t → Spec Tryd.prog glob 42 [encT t, .int .i64 most] [] (fun o _ => o.fgt = .ret (.bool (t.lowB most))) := by
  induction t using T.ind with
  | h kk m a ls ks ih =>
  intro ht
  have hkl : ks.length ≤ LMax := ht.kl
  have hll : ls.length ≤ LMax := ht.ll
  have hks := ht.ks
  have hls := ht.ls
  simp only [T.ks_mk, T.ls_mk] at hks hls
  unfold LMax at hkl hll
  obtain ⟨R, hR⟩ : ∃ R, R = T.lowB most (.mk kk m a ls ks) := ⟨_, rfl⟩
  rw [← hR]
  rw [T.lowB] at hR
  rw [encT_eq]
  simp only [T.k_mk, T.n_mk, T.a_mk, T.ls_mk, T.ks_mk]
  refine Spec.movd globPure (wpD_spec tyOK Tryd.func42 rfl (enters _ _ Tryd.func42 rfl (by decide)) rfl rfl ?_)
  (refine wpD_seqk fun K hK => ?_; refine wpD_region tyOK ?_; ((try simp only [wpAft_ret, wpAft_pan, putS, updS, setS]); (repeat (rw [wpS_cons]; simp)); (try simp only [wpS_nil, thenD, blockD])); refine hK _ _ _ ?_; clear hK K)
  refine wpD_seqk fun K1a hK1a => ?_
  (refine wpD_seqk fun K hK => ?_; refine wpD_region tyOK ?_; ((try simp only [wpAft_ret, wpAft_pan, putS, updS, setS]); (repeat (rw [wpS_cons]; simp)); (try simp only [wpS_nil, thenD, blockD])); refine hK _ _ _ ?_; clear hK K)
  refine wpD_block ?_
  refine wpD_loopWJ [4, 6, 8, 9, 10, 11, 12, 13, 14, 15, 16, 17, 18, 19, 20, 21, 22, 23, 24, 25, 26, 27, 28, 29, 30, 31, 32, 33, 34, 35, 36, 37] [5] (fun n ys hl => ∃ (k : Nat), ys = [.int .i64 k] ∧ n + k = ls.length ∧ R = ((ls.drop k).all (lowL most) && T.lowsB most ks) ∧ hl = [.cells 27 [.int .i64 kk, .int .i64 m, .int .i64 a, .slice (ls.map encL) .any, .slice (ks.map encT) .any]]) (ls.length) (by kernel_rfl) ?_ ?_
  · exact ⟨0, rfl, rfl, hR, rfl⟩
  · rintro n1 ys hl A1 hA1 ⟨i1, rfl, hn, hF, rfl⟩
    have hA := hA1
    simp only [putAll, List.set, List.map_cons, List.map_nil, List.cons_append, List.nil_append]
    refine wpD_seqk fun K1b hK1b => ?_
    by_cases hi1 : i1 < ls.length
    · have hi1' : (i1 : Int) < ls.length := by omega
      rw [List.drop_eq_getElem_cons hi1, List.all_cons, Bool.and_assoc] at hF
      have hxl := (hls ls[i1] (List.getElem_mem hi1)).1
      obtain ⟨x, hx⟩ : ∃ x, ls[i1] = x := ⟨_, rfl⟩
      rw [hx] at hF hxl
      unfold LMax at hxl
      unfold lowL at hF
      rw [show (fun p : LV => p.all fun p => decide (p.2 ≤ most)) = lowL most from rfl] at hF
      (refine wpD_seqk fun K hK => ?_; refine wpD_region tyOK ?_; ((try simp only [wpAft_ret, wpAft_pan, putS, updS, setS]); (repeat (rw [wpS_cons]; simp [hi1, hi1'])); (try simp only [wpS_nil, thenD, blockD])); refine hK _ _ _ ?_; clear hK K)
      refine wpD_part rfl (fun _ => ?_) (fun h => by simp at h)
      refine wpD_skip (hK1b _ _ _ ?_)
      clear hK1b K1b
      refine wpD_seqk fun K1c hK1c => ?_
      refine wpD_block ?_
      (refine wpD_seqk fun K hK => ?_; refine wpD_region tyOK ?_; ((try simp only [wpAft_ret, wpAft_pan, putS, updS, setS]); (repeat (rw [wpS_cons]; simp)); (try simp only [wpS_nil, thenD, blockD])); refine hK _ _ _ ?_; clear hK K)
      refine wpD_block ?_
      refine wpD_loopWJ [4, 15, 16, 17, 18, 19, 20, 21, 22, 23, 24, 25, 26, 27, 28, 29, 30, 31, 32, 33, 34, 35, 36, 37] [6] (fun n ys hl => ∃ (k : Nat), ys = [.int .i64 k] ∧ n + k = x.length ∧ R = (((x.drop k).all fun p => decide (p.2 ≤ most)) && ((ls.drop (i1 + 1)).all (lowL most) && T.lowsB most ks)) ∧ hl = [.cells 27 [.int .i64 kk, .int .i64 m, .int .i64 a, .slice (ls.map encL) .any, .slice (ks.map encT) .any]]) (x.length) (by kernel_rfl) ?_ ?_
      · exact ⟨0, rfl, rfl, hF, rfl⟩
      · rintro n2 ys hl A2 hA2 ⟨i2, rfl, hn2, hF2, rfl⟩
        have hA := hA2
        simp only [putAll, List.set, List.map_cons, List.map_nil, List.cons_append, List.nil_append]
        refine wpD_seqk fun K2b hK2b => ?_
        by_cases hi2 : i2 < x.length
        · have hi2' : (i2 : Int) < x.length := by omega
          rw [List.drop_eq_getElem_cons hi2, List.all_cons] at hF2
          obtain ⟨p, hp⟩ : ∃ p, x[i2] = p := ⟨_, rfl⟩
          rw [hp] at hF2
          (refine wpD_seqk fun K hK => ?_; refine wpD_region tyOK ?_; ((try simp only [wpAft_ret, wpAft_pan, putS, updS, setS]); (repeat (rw [wpS_cons]; simp [hi2, hi2', hi1, hi1', hx, encL])); (try simp only [wpS_nil, thenD, blockD])); refine hK _ _ _ ?_; clear hK K)
          refine wpD_part rfl (fun _ => ?_) (fun h => by simp at h)
          refine wpD_skip (hK2b _ _ _ ?_)
          clear hK2b K2b
          refine wpD_seqk fun K2c hK2c => ?_
          refine wpD_block ?_
          by_cases hpm : most < p.2
          · have hpm' : ¬ p.2 ≤ most := by omega
            (refine wpD_seqk fun K hK => ?_; refine wpD_region tyOK ?_; ((try simp only [wpAft_ret, wpAft_pan, putS, updS, setS]); (repeat (rw [wpS_cons]; simp [hi1, hi1', hx, encL, hi2, hi2', hp, encP, hpm])); (try simp only [wpS_nil, thenD, blockD])); refine hK _ _ _ ?_; clear hK K)
            refine wpD_part rfl (fun _ => ?_) (fun h => by simp at h)
            (refine wpD_seqk fun K hK => ?_; refine wpD_region tyOK ?_; ((try simp only [wpAft_ret, wpAft_pan, putS, updS, setS]); (repeat (rw [wpS_cons]; simp)); (try simp only [wpS_nil, thenD, blockD])); refine hK _ _ _ ?_; clear hK K)
            (refine wpD_ret ?_; (try simp only [thenD, blockD]); refine EndQ.ret rfl (.inl ?_); simp [tmOf, Out.fgt, D.fgt, D.fgts])
            rw [hF2]; simp [hpm']
          · have hpm' : p.2 ≤ most := by omega
            (refine wpD_seqk fun K hK => ?_; refine wpD_region tyOK ?_; ((try simp only [wpAft_ret, wpAft_pan, putS, updS, setS]); (repeat (rw [wpS_cons]; simp [hi1, hi1', hx, encL, hi2, hi2', hp, encP, hpm])); (try simp only [wpS_nil, thenD, blockD])); refine hK _ _ _ ?_; clear hK K)
            refine wpD_part rfl (fun h => by simp at h) (fun _ => ?_)
            refine wpD_skip (hK2c _ _ _ ?_)
            (try clear hK2c K2c)
            have hA := hA2
            have hw2 : IntKind.i64.wrap ((i2 : Int) + 1) = (i2 : Int) + 1 := i64w (by omega) (by omega)
            (refine wpD_region tyOK ?_; ((try simp only [wpAft_ret, wpAft_pan, putS, updS, setS]); (repeat (rw [wpS_cons]; simp [hw2])); (try simp only [wpS_nil, thenD, blockD])))
            refine hA (n2 - 1) _ _ _ (LeT.refl _) (by omega) (by kernel_rfl) ?_
            exact ⟨i2 + 1, rfl, by omega, by rw [hF2]; simp [hpm'], rfl⟩
        · have hi2' : ¬ (i2 : Int) < x.length := by omega
          (refine wpD_seqk fun K hK => ?_; refine wpD_region tyOK ?_; ((try simp only [wpAft_ret, wpAft_pan, putS, updS, setS]); (repeat (rw [wpS_cons]; simp [hi2, hi2', hi1, hi1', hx, encL])); (try simp only [wpS_nil, thenD, blockD])); refine hK _ _ _ ?_; clear hK K)
          refine wpD_part rfl (fun h => by simp at h) (fun _ => ?_)
          refine wpD_exit ?_
          (try clear hK2b K2b)
          rw [List.drop_of_length_le (by omega)] at hF2
          simp only [List.all_nil, Bool.true_and] at hF2
          refine hK1c _ _ _ ?_
          (try clear hK1c K1c)
          have hA := hA1
          have hw1 : IntKind.i64.wrap ((i1 : Int) + 1) = (i1 : Int) + 1 := i64w (by omega) (by omega)
          (refine wpD_region tyOK ?_; ((try simp only [wpAft_ret, wpAft_pan, putS, updS, setS]); (repeat (rw [wpS_cons]; simp [hw1])); (try simp only [wpS_nil, thenD, blockD])))
          refine hA (n1 - 1) _ _ _ (LeT.refl _) (by omega) (by kernel_rfl) ?_
          exact ⟨i1 + 1, rfl, by omega, hF2, rfl⟩
    · have hi1' : ¬ (i1 : Int) < ls.length := by omega
      (refine wpD_seqk fun K hK => ?_; refine wpD_region tyOK ?_; ((try simp only [wpAft_ret, wpAft_pan, putS, updS, setS]); (repeat (rw [wpS_cons]; simp [hi1, hi1'])); (try simp only [wpS_nil, thenD, blockD])); refine hK _ _ _ ?_; clear hK K)
      refine wpD_part rfl (fun h => by simp at h) (fun _ => ?_)
      refine wpD_exit ?_
      refine hK1a _ _ _ ?_
      (try clear hK1b K1b)
      rw [List.drop_of_length_le (by omega)] at hF
      simp only [List.all_nil, Bool.true_and] at hF
      refine wpD_seqk fun K3a hK3a => ?_
      (refine wpD_seqk fun K hK => ?_; refine wpD_region tyOK ?_; ((try simp only [wpAft_ret, wpAft_pan, putS, updS, setS]); (repeat (rw [wpS_cons]; simp)); (try simp only [wpS_nil, thenD, blockD])); refine hK _ _ _ ?_; clear hK K)
      refine wpD_block ?_
      refine wpD_loopWJ [4, 38, 39, 40, 41, 42, 43, 44, 45, 46, 47, 48, 49, 50, 51, 52] [7] (fun n ys hl => ∃ (k : Nat), ys = [.int .i64 k] ∧ n + k = ks.length ∧ R = T.lowsB most (ks.drop k) ∧ hl = [.cells 27 [.int .i64 kk, .int .i64 m, .int .i64 a, .slice (ls.map encL) .any, .slice (ks.map encT) .any]]) (ks.length) (by kernel_rfl) ?_ ?_
      · exact ⟨0, rfl, rfl, hF, rfl⟩
      · rintro n3 ys hl A3 hA3 ⟨i3, rfl, hn3, hF3, rfl⟩
        have hA := hA3
        simp only [putAll, List.set, List.map_cons, List.map_nil, List.cons_append, List.nil_append]
        refine wpD_seqk fun K3b hK3b => ?_
        by_cases hi3 : i3 < ks.length
        · have hi3' : (i3 : Int) < ks.length := by omega
          rw [List.drop_eq_getElem_cons hi3, T.lowsB] at hF3
          have hrec := ih ks[i3] (List.getElem_mem hi3) (hks _ (List.getElem_mem hi3))
          obtain ⟨y, hy⟩ : ∃ y, ks[i3] = y := ⟨_, rfl⟩
          rw [hy] at hF3 hrec
          have hEy := encT_eq y
          rw [hEy] at hrec
          generalize y.lowB most = B at hF3 hrec
          (refine wpD_seqk fun K hK => ?_; refine wpD_region tyOK ?_; ((try simp only [wpAft_ret, wpAft_pan, putS, updS, setS]); (repeat (rw [wpS_cons]; simp [hi3, hi3'])); (try simp only [wpS_nil, thenD, blockD])); refine hK _ _ _ ?_; clear hK K)
          refine wpD_part rfl (fun _ => ?_) (fun h => by simp at h)
          refine wpD_skip (hK3b _ _ _ ?_)
          clear hK3b K3b
          refine wpD_seqk fun K3c hK3c => ?_
          refine wpD_block ?_
          cases B with
          | true =>
            (refine wpD_seqk fun K hK => ?_; refine wpD_region tyOK ?_; ((try simp only [wpAft_ret, wpAft_pan, putS, updS, setS]); (repeat (rw [wpS_cons]; simp [hi3, hi3', hy, hEy])); (try simp only [wpS_nil, thenD, blockD])))
            refine CallX.pure globPure (hrec) ?_ (by simp [D.fgts, D.fgt]) (by simp [D.pures, D.pure, Cp.free, D.pures_map]) (by simp [Out.pure, D.pure, D.pures, Cp.free, D.pures_map])
            ((try simp only [wpAft_ret, wpAft_pan, putS, updS, setS]); (repeat (rw [wpS_cons]; simp)); (try simp only [wpS_nil, thenD, blockD]))
            (refine hK _ _ _ ?_; clear hK K)
            refine wpD_part rfl (fun h => by simp at h) (fun _ => ?_)
            refine wpD_skip (hK3c _ _ _ ?_)
            (try clear hK3c K3c)
            have hA := hA3
            have hw3 : IntKind.i64.wrap ((i3 : Int) + 1) = (i3 : Int) + 1 := i64w (by omega) (by omega)
            (refine wpD_region tyOK ?_; ((try simp only [wpAft_ret, wpAft_pan, putS, updS, setS]); (repeat (rw [wpS_cons]; simp [hw3])); (try simp only [wpS_nil, thenD, blockD])))
            refine hA (n3 - 1) _ _ _ (LeT.refl _) (by omega) (by kernel_rfl) ?_
            exact ⟨i3 + 1, rfl, by omega, by simpa using hF3, rfl⟩
          | false =>
            (refine wpD_seqk fun K hK => ?_; refine wpD_region tyOK ?_; ((try simp only [wpAft_ret, wpAft_pan, putS, updS, setS]); (repeat (rw [wpS_cons]; simp [hi3, hi3', hy, hEy])); (try simp only [wpS_nil, thenD, blockD])))
            refine CallX.pure globPure (hrec) ?_ (by simp [D.fgts, D.fgt]) (by simp [D.pures, D.pure, Cp.free, D.pures_map]) (by simp [Out.pure, D.pure, D.pures, Cp.free, D.pures_map])
            ((try simp only [wpAft_ret, wpAft_pan, putS, updS, setS]); (repeat (rw [wpS_cons]; simp)); (try simp only [wpS_nil, thenD, blockD]))
            (refine hK _ _ _ ?_; clear hK K)
            refine wpD_part rfl (fun _ => ?_) (fun h => by simp at h)
            (refine wpD_seqk fun K hK => ?_; refine wpD_region tyOK ?_; ((try simp only [wpAft_ret, wpAft_pan, putS, updS, setS]); (repeat (rw [wpS_cons]; simp)); (try simp only [wpS_nil, thenD, blockD])); refine hK _ _ _ ?_; clear hK K)
            (refine wpD_ret ?_; (try simp only [thenD, blockD]); refine EndQ.ret rfl (.inl ?_); simp [tmOf, Out.fgt, D.fgt, D.fgts])
            simpa using hF3
        · have hi3' : ¬ (i3 : Int) < ks.length := by omega
          (refine wpD_seqk fun K hK => ?_; refine wpD_region tyOK ?_; ((try simp only [wpAft_ret, wpAft_pan, putS, updS, setS]); (repeat (rw [wpS_cons]; simp [hi3, hi3'])); (try simp only [wpS_nil, thenD, blockD])); refine hK _ _ _ ?_; clear hK K)
          refine wpD_part rfl (fun h => by simp at h) (fun _ => ?_)
          refine wpD_exit ?_
          refine hK3a _ _ _ ?_
          (try clear hK3b K3b)
          rw [List.drop_of_length_le (by omega), T.lowsB] at hF3
          subst hF3
          (refine wpD_seqk fun K hK => ?_; refine wpD_region tyOK ?_; ((try simp only [wpAft_ret, wpAft_pan, putS, updS, setS]); (repeat (rw [wpS_cons]; simp)); (try simp only [wpS_nil, thenD, blockD])); refine hK _ _ _ ?_; clear hK K)
          (refine wpD_ret ?_; (try simp only [thenD, blockD]); refine EndQ.ret rfl (.inl ?_); simp [tmOf, Out.fgt, D.fgt, D.fgts])
theorem keeps_spec (n0 sc : Int) (cs : List Int) (t : T) (bys : List T) (lift fr : Int) (bls : List LV) (hcs : cs.length ≤ 1048576) (ht : okT t) (hd : t.deep ≤ DM) (hbl : bys.length ≤ 1048576) (hbo : ∀ b, b ∈ bys → okT b ∧ b.deep ≤ DM) (hll : bls.length ≤ 1048576) (hlo : ∀ l, l ∈ bls → okL l) :
    Spec Tryd.prog glob 7 [.int .i64 n0, .int .i64 sc, Ints cs, encT t, Ts bys, .int .i64 lift, .int .i64 fr, Lvs bls] [] (fun o _ => o.fgt = .ret (.bool true)) := by
  have hcs' : cs.length ≤ LMax := by unfold LMax; omega
  have hbl' : bys.length ≤ LMax := by unfold LMax; omega
  have hll' : bls.length ≤ LMax := by unfold LMax; omega
  obtain ⟨G1, hg1⟩ := great5_spec [t] (by unfold LMax; simp) (fun x hx => by
    simp only [List.mem_cons, List.not_mem_nil, or_false] at hx
    subst hx; exact ht)
  obtain ⟨G2, hg2⟩ := great5_spec bys hbl' (fun x hx => (hbo x hx).1)
  have haw := awake5_spec
  have hr0 := coreRight_spec n0 sc cs t hcs' ht
  have hEt := encT_eq t
  have hL1 := lift_spec t lift fr hd ht
  have hr1 := coreRight_spec n0 (sc + lift) cs (t.lift lift fr 0) hcs' (lift_ok lift fr 0 ht)
  have hP1 := putT_spec t bys hbl' hbo hd ht
  have hr2 := coreRight_spec n0 (sc - bys.length) cs (t.put bys 0) hcs' (put_ok (fun b hb => (hbo b hb).1) 0 ht)
  have hby : ∀ (i : Nat) (h : i < bys.length) (q : Int), Spec Tryd.prog glob 39 [.int .i64 n0, .int .i64 q, Ints cs, encT bys[i]] [] (fun o _ => o.fgt = .ret (.bool (rightB n0 q cs bys[i]))) := fun i h q => coreRight_spec n0 q cs _ hcs' (hbo _ (List.getElem_mem h)).1
  have hlow := low5_spec 400 t ht
  have hV1 := levels_spec t bls hll' (fun l hl => (hlo l hl).1) hd ht
  have hr3 := coreRight_spec 8 sc cs (t.levels bls 0) hcs' (levels_ok bls 0 ht)
  have hlv : ∀ (i : Nat) (h : i < bls.length), Spec Tryd.prog glob 43 [encL bls[i], .int .i64 8] [] (fun o _ => o.fgt = .ret (.bool (levelRight bls[i] 8))) := fun i h => levelRight_spec _ 8 (hlo _ (List.getElem_mem h)).1
  simp only [List.map_cons, List.map_nil] at hg1
  unfold Ints at hr0 hr1 hr2 hr3 hby
  unfold Ts at hP1
  unfold Lvs at hV1
  rw [hEt] at hg1 hr0 hL1 hP1 hlow hV1
  unfold Ints Ts Lvs
  refine Spec.movd globPure (wpD_spec tyOK Tryd.func7 rfl (enters _ _ Tryd.func7 rfl (by decide)) rfl rfl ?_)
  rw [hEt]
  (refine wpD_seqk fun K hK => ?_; refine wpD_region tyOK ?_; ((try simp only [wpAft_ret, wpAft_pan, putS, updS, setS]); (repeat (rw [wpS_cons]; simp)); (try simp only [wpS_nil, thenD, blockD])); refine hK _ _ _ ?_; clear hK K)
  refine wpD_seqk fun K1 hK1 => ?_
  (refine wpD_seqk fun K hK => ?_; refine wpD_region tyOK ?_; ((try simp only [wpAft_ret, wpAft_pan, putS, updS, setS]); (repeat (rw [wpS_cons]; simp)); (try simp only [wpS_nil, thenD, blockD])))
  refine CallX.pure globPure (haw) ?_ (by simp [D.fgts, D.fgt]) (by simp [D.pures, D.pure, Cp.free, D.pures_map]) (by simp [Out.pure, D.pure, D.pures, Cp.free, D.pures_map])
  ((try simp only [wpAft_ret, wpAft_pan, putS, updS, setS]); (repeat (rw [wpS_cons]; simp)); (try simp only [wpS_nil, thenD, blockD]))
  (refine hK _ _ _ ?_; clear hK K)
  refine wpD_part rfl (fun h => by simp at h) (fun _ => ?_)
  refine wpD_skip (hK1 _ _ _ ?_)
  clear hK1 K1
  refine wpD_seqk fun K1 hK1 => ?_
  cases G1 with
  | true =>
    (refine wpD_seqk fun K hK => ?_; refine wpD_region tyOK ?_; ((try simp only [wpAft_ret, wpAft_pan, putS, updS, setS]); (repeat (rw [wpS_cons]; simp)); (try simp only [wpS_nil, thenD, blockD])))
    refine CallX.pure globPure (hg1) ?_ (by simp [D.fgts, D.fgt]) (by simp [D.pures, D.pure, Cp.free, D.pures_map]) (by simp [Out.pure, D.pure, D.pures, Cp.free, D.pures_map])
    ((try simp only [wpAft_ret, wpAft_pan, putS, updS, setS]); (repeat (rw [wpS_cons]; simp)); (try simp only [wpS_nil, thenD, blockD]))
    (refine hK _ _ _ ?_; clear hK K)
    refine wpD_part rfl (fun _ => ?_) (fun h => by simp at h)
    (refine wpD_seqk fun K hK => ?_; refine wpD_region tyOK ?_; ((try simp only [wpAft_ret, wpAft_pan, putS, updS, setS]); (repeat (rw [wpS_cons]; simp)); (try simp only [wpS_nil, thenD, blockD])); refine hK _ _ _ ?_; clear hK K)
    (refine wpD_ret ?_; (try simp only [thenD, blockD]); refine EndQ.ret rfl (.inl ?_); simp [tmOf, Out.fgt, D.fgt, D.fgts])
  | false =>
  cases G2 with
  | true =>
    (refine wpD_seqk fun K hK => ?_; refine wpD_region tyOK ?_; ((try simp only [wpAft_ret, wpAft_pan, putS, updS, setS]); (repeat (rw [wpS_cons]; simp)); (try simp only [wpS_nil, thenD, blockD])))
    refine CallX.pure globPure (hg1) ?_ (by simp [D.fgts, D.fgt]) (by simp [D.pures, D.pure, Cp.free, D.pures_map]) (by simp [Out.pure, D.pure, D.pures, Cp.free, D.pures_map])
    ((try simp only [wpAft_ret, wpAft_pan, putS, updS, setS]); (repeat (rw [wpS_cons]; simp)); (try simp only [wpS_nil, thenD, blockD]))
    refine CallX.pure globPure (hg2) ?_ (by simp [D.fgts, D.fgt]) (by simp [D.pures, D.pure, Cp.free, D.pures_map]) (by simp [Out.pure, D.pure, D.pures, Cp.free, D.pures_map])
    ((try simp only [wpAft_ret, wpAft_pan, putS, updS, setS]); (repeat (rw [wpS_cons]; simp)); (try simp only [wpS_nil, thenD, blockD]))
    (refine hK _ _ _ ?_; clear hK K)
    refine wpD_part rfl (fun _ => ?_) (fun h => by simp at h)
    (refine wpD_seqk fun K hK => ?_; refine wpD_region tyOK ?_; ((try simp only [wpAft_ret, wpAft_pan, putS, updS, setS]); (repeat (rw [wpS_cons]; simp)); (try simp only [wpS_nil, thenD, blockD])); refine hK _ _ _ ?_; clear hK K)
    (refine wpD_ret ?_; (try simp only [thenD, blockD]); refine EndQ.ret rfl (.inl ?_); simp [tmOf, Out.fgt, D.fgt, D.fgts])
  | false =>
  by_cases g1 : 3000 < (cs.length : Int)
  · (refine wpD_seqk fun K hK => ?_; refine wpD_region tyOK ?_; ((try simp only [wpAft_ret, wpAft_pan, putS, updS, setS]); (repeat (rw [wpS_cons]; simp [g1])); (try simp only [wpS_nil, thenD, blockD])))
    refine CallX.pure globPure (hg1) ?_ (by simp [D.fgts, D.fgt]) (by simp [D.pures, D.pure, Cp.free, D.pures_map]) (by simp [Out.pure, D.pure, D.pures, Cp.free, D.pures_map])
    ((try simp only [wpAft_ret, wpAft_pan, putS, updS, setS]); (repeat (rw [wpS_cons]; simp [g1])); (try simp only [wpS_nil, thenD, blockD]))
    refine CallX.pure globPure (hg2) ?_ (by simp [D.fgts, D.fgt]) (by simp [D.pures, D.pure, Cp.free, D.pures_map]) (by simp [Out.pure, D.pure, D.pures, Cp.free, D.pures_map])
    ((try simp only [wpAft_ret, wpAft_pan, putS, updS, setS]); (repeat (rw [wpS_cons]; simp [g1])); (try simp only [wpS_nil, thenD, blockD]))
    (refine hK _ _ _ ?_; clear hK K)
    refine wpD_part rfl (fun _ => ?_) (fun h => by simp at h)
    (refine wpD_seqk fun K hK => ?_; refine wpD_region tyOK ?_; ((try simp only [wpAft_ret, wpAft_pan, putS, updS, setS]); (repeat (rw [wpS_cons]; simp)); (try simp only [wpS_nil, thenD, blockD])); refine hK _ _ _ ?_; clear hK K)
    (refine wpD_ret ?_; (try simp only [thenD, blockD]); refine EndQ.ret rfl (.inl ?_); simp [tmOf, Out.fgt, D.fgt, D.fgts])
  by_cases g2 : 20 < (bls.length : Int)
  · (refine wpD_seqk fun K hK => ?_; refine wpD_region tyOK ?_; ((try simp only [wpAft_ret, wpAft_pan, putS, updS, setS]); (repeat (rw [wpS_cons]; simp [g1, g2])); (try simp only [wpS_nil, thenD, blockD])))
    refine CallX.pure globPure (hg1) ?_ (by simp [D.fgts, D.fgt]) (by simp [D.pures, D.pure, Cp.free, D.pures_map]) (by simp [Out.pure, D.pure, D.pures, Cp.free, D.pures_map])
    ((try simp only [wpAft_ret, wpAft_pan, putS, updS, setS]); (repeat (rw [wpS_cons]; simp [g1, g2])); (try simp only [wpS_nil, thenD, blockD]))
    refine CallX.pure globPure (hg2) ?_ (by simp [D.fgts, D.fgt]) (by simp [D.pures, D.pure, Cp.free, D.pures_map]) (by simp [Out.pure, D.pure, D.pures, Cp.free, D.pures_map])
    ((try simp only [wpAft_ret, wpAft_pan, putS, updS, setS]); (repeat (rw [wpS_cons]; simp [g1, g2])); (try simp only [wpS_nil, thenD, blockD]))
    (refine hK _ _ _ ?_; clear hK K)
    refine wpD_part rfl (fun _ => ?_) (fun h => by simp at h)
    (refine wpD_seqk fun K hK => ?_; refine wpD_region tyOK ?_; ((try simp only [wpAft_ret, wpAft_pan, putS, updS, setS]); (repeat (rw [wpS_cons]; simp)); (try simp only [wpS_nil, thenD, blockD])); refine hK _ _ _ ?_; clear hK K)
    (refine wpD_ret ?_; (try simp only [thenD, blockD]); refine EndQ.ret rfl (.inl ?_); simp [tmOf, Out.fgt, D.fgt, D.fgts])
  by_cases g3 : 1000 < sc
  · (refine wpD_seqk fun K hK => ?_; refine wpD_region tyOK ?_; ((try simp only [wpAft_ret, wpAft_pan, putS, updS, setS]); (repeat (rw [wpS_cons]; simp [g1, g2, g3])); (try simp only [wpS_nil, thenD, blockD])))
    refine CallX.pure globPure (hg1) ?_ (by simp [D.fgts, D.fgt]) (by simp [D.pures, D.pure, Cp.free, D.pures_map]) (by simp [Out.pure, D.pure, D.pures, Cp.free, D.pures_map])
    ((try simp only [wpAft_ret, wpAft_pan, putS, updS, setS]); (repeat (rw [wpS_cons]; simp [g1, g2, g3])); (try simp only [wpS_nil, thenD, blockD]))
    refine CallX.pure globPure (hg2) ?_ (by simp [D.fgts, D.fgt]) (by simp [D.pures, D.pure, Cp.free, D.pures_map]) (by simp [Out.pure, D.pure, D.pures, Cp.free, D.pures_map])
    ((try simp only [wpAft_ret, wpAft_pan, putS, updS, setS]); (repeat (rw [wpS_cons]; simp [g1, g2, g3])); (try simp only [wpS_nil, thenD, blockD]))
    (refine hK _ _ _ ?_; clear hK K)
    refine wpD_part rfl (fun _ => ?_) (fun h => by simp at h)
    (refine wpD_seqk fun K hK => ?_; refine wpD_region tyOK ?_; ((try simp only [wpAft_ret, wpAft_pan, putS, updS, setS]); (repeat (rw [wpS_cons]; simp)); (try simp only [wpS_nil, thenD, blockD])); refine hK _ _ _ ?_; clear hK K)
    (refine wpD_ret ?_; (try simp only [thenD, blockD]); refine EndQ.ret rfl (.inl ?_); simp [tmOf, Out.fgt, D.fgt, D.fgts])
  by_cases g4 : lift < 0
  · (refine wpD_seqk fun K hK => ?_; refine wpD_region tyOK ?_; ((try simp only [wpAft_ret, wpAft_pan, putS, updS, setS]); (repeat (rw [wpS_cons]; simp [g1, g2, g3, g4])); (try simp only [wpS_nil, thenD, blockD])))
    refine CallX.pure globPure (hg1) ?_ (by simp [D.fgts, D.fgt]) (by simp [D.pures, D.pure, Cp.free, D.pures_map]) (by simp [Out.pure, D.pure, D.pures, Cp.free, D.pures_map])
    ((try simp only [wpAft_ret, wpAft_pan, putS, updS, setS]); (repeat (rw [wpS_cons]; simp [g1, g2, g3, g4])); (try simp only [wpS_nil, thenD, blockD]))
    refine CallX.pure globPure (hg2) ?_ (by simp [D.fgts, D.fgt]) (by simp [D.pures, D.pure, Cp.free, D.pures_map]) (by simp [Out.pure, D.pure, D.pures, Cp.free, D.pures_map])
    ((try simp only [wpAft_ret, wpAft_pan, putS, updS, setS]); (repeat (rw [wpS_cons]; simp [g1, g2, g3, g4])); (try simp only [wpS_nil, thenD, blockD]))
    (refine hK _ _ _ ?_; clear hK K)
    refine wpD_part rfl (fun _ => ?_) (fun h => by simp at h)
    (refine wpD_seqk fun K hK => ?_; refine wpD_region tyOK ?_; ((try simp only [wpAft_ret, wpAft_pan, putS, updS, setS]); (repeat (rw [wpS_cons]; simp)); (try simp only [wpS_nil, thenD, blockD])); refine hK _ _ _ ?_; clear hK K)
    (refine wpD_ret ?_; (try simp only [thenD, blockD]); refine EndQ.ret rfl (.inl ?_); simp [tmOf, Out.fgt, D.fgt, D.fgts])
  by_cases g5 : 1000 < lift
  · (refine wpD_seqk fun K hK => ?_; refine wpD_region tyOK ?_; ((try simp only [wpAft_ret, wpAft_pan, putS, updS, setS]); (repeat (rw [wpS_cons]; simp [g1, g2, g3, g4, g5])); (try simp only [wpS_nil, thenD, blockD])))
    refine CallX.pure globPure (hg1) ?_ (by simp [D.fgts, D.fgt]) (by simp [D.pures, D.pure, Cp.free, D.pures_map]) (by simp [Out.pure, D.pure, D.pures, Cp.free, D.pures_map])
    ((try simp only [wpAft_ret, wpAft_pan, putS, updS, setS]); (repeat (rw [wpS_cons]; simp [g1, g2, g3, g4, g5])); (try simp only [wpS_nil, thenD, blockD]))
    refine CallX.pure globPure (hg2) ?_ (by simp [D.fgts, D.fgt]) (by simp [D.pures, D.pure, Cp.free, D.pures_map]) (by simp [Out.pure, D.pure, D.pures, Cp.free, D.pures_map])
    ((try simp only [wpAft_ret, wpAft_pan, putS, updS, setS]); (repeat (rw [wpS_cons]; simp [g1, g2, g3, g4, g5])); (try simp only [wpS_nil, thenD, blockD]))
    (refine hK _ _ _ ?_; clear hK K)
    refine wpD_part rfl (fun _ => ?_) (fun h => by simp at h)
    (refine wpD_seqk fun K hK => ?_; refine wpD_region tyOK ?_; ((try simp only [wpAft_ret, wpAft_pan, putS, updS, setS]); (repeat (rw [wpS_cons]; simp)); (try simp only [wpS_nil, thenD, blockD])); refine hK _ _ _ ?_; clear hK K)
    (refine wpD_ret ?_; (try simp only [thenD, blockD]); refine EndQ.ret rfl (.inl ?_); simp [tmOf, Out.fgt, D.fgt, D.fgts])
  cases hB : rightB n0 sc cs t with
  | false =>
    rw [hB] at hr0
    (refine wpD_seqk fun K hK => ?_; refine wpD_region tyOK ?_; ((try simp only [wpAft_ret, wpAft_pan, putS, updS, setS]); (repeat (rw [wpS_cons]; simp [g1, g2, g3, g4, g5])); (try simp only [wpS_nil, thenD, blockD])))
    refine CallX.pure globPure (hg1) ?_ (by simp [D.fgts, D.fgt]) (by simp [D.pures, D.pure, Cp.free, D.pures_map]) (by simp [Out.pure, D.pure, D.pures, Cp.free, D.pures_map])
    ((try simp only [wpAft_ret, wpAft_pan, putS, updS, setS]); (repeat (rw [wpS_cons]; simp [g1, g2, g3, g4, g5])); (try simp only [wpS_nil, thenD, blockD]))
    refine CallX.pure globPure (hg2) ?_ (by simp [D.fgts, D.fgt]) (by simp [D.pures, D.pure, Cp.free, D.pures_map]) (by simp [Out.pure, D.pure, D.pures, Cp.free, D.pures_map])
    ((try simp only [wpAft_ret, wpAft_pan, putS, updS, setS]); (repeat (rw [wpS_cons]; simp [g1, g2, g3, g4, g5])); (try simp only [wpS_nil, thenD, blockD]))
    refine CallX.pure globPure (hr0) ?_ (by simp [D.fgts, D.fgt]) (by simp [D.pures, D.pure, Cp.free, D.pures_map]) (by simp [Out.pure, D.pure, D.pures, Cp.free, D.pures_map])
    ((try simp only [wpAft_ret, wpAft_pan, putS, updS, setS]); (repeat (rw [wpS_cons]; simp [g1, g2, g3, g4, g5])); (try simp only [wpS_nil, thenD, blockD]))
    (refine hK _ _ _ ?_; clear hK K)
    refine wpD_part rfl (fun _ => ?_) (fun h => by simp at h)
    (refine wpD_seqk fun K hK => ?_; refine wpD_region tyOK ?_; ((try simp only [wpAft_ret, wpAft_pan, putS, updS, setS]); (repeat (rw [wpS_cons]; simp)); (try simp only [wpS_nil, thenD, blockD])); refine hK _ _ _ ?_; clear hK K)
    (refine wpD_ret ?_; (try simp only [thenD, blockD]); refine EndQ.ret rfl (.inl ?_); simp [tmOf, Out.fgt, D.fgt, D.fgts])
  | true =>
  rw [hB] at hr0
  (refine wpD_seqk fun K hK => ?_; refine wpD_region tyOK ?_; ((try simp only [wpAft_ret, wpAft_pan, putS, updS, setS]); (repeat (rw [wpS_cons]; simp [g1, g2, g3, g4, g5])); (try simp only [wpS_nil, thenD, blockD])))
  refine CallX.pure globPure (hg1) ?_ (by simp [D.fgts, D.fgt]) (by simp [D.pures, D.pure, Cp.free, D.pures_map]) (by simp [Out.pure, D.pure, D.pures, Cp.free, D.pures_map])
  ((try simp only [wpAft_ret, wpAft_pan, putS, updS, setS]); (repeat (rw [wpS_cons]; simp [g1, g2, g3, g4, g5])); (try simp only [wpS_nil, thenD, blockD]))
  refine CallX.pure globPure (hg2) ?_ (by simp [D.fgts, D.fgt]) (by simp [D.pures, D.pure, Cp.free, D.pures_map]) (by simp [Out.pure, D.pure, D.pures, Cp.free, D.pures_map])
  ((try simp only [wpAft_ret, wpAft_pan, putS, updS, setS]); (repeat (rw [wpS_cons]; simp [g1, g2, g3, g4, g5])); (try simp only [wpS_nil, thenD, blockD]))
  refine CallX.pure globPure (hr0) ?_ (by simp [D.fgts, D.fgt]) (by simp [D.pures, D.pure, Cp.free, D.pures_map]) (by simp [Out.pure, D.pure, D.pures, Cp.free, D.pures_map])
  ((try simp only [wpAft_ret, wpAft_pan, putS, updS, setS]); (repeat (rw [wpS_cons]; simp [g1, g2, g3, g4, g5])); (try simp only [wpS_nil, thenD, blockD]))
  (refine hK _ _ _ ?_; clear hK K)
  refine wpD_part rfl (fun h => by simp at h) (fun _ => ?_)
  refine wpD_skip (hK1 _ _ _ ?_)
  clear hK1 K1 hg1 hg2
  have hsc0 := (rightB_iff.1 hB).2.1
  have w1 : IntKind.i64.wrap (sc + lift) = sc + lift := i64w (by omega) (by omega)
  have w2 : IntKind.i64.wrap (sc - bys.length) = sc - bys.length := i64w (by omega) (by omega)
  rw [right_lift hB ⟨by omega, by omega⟩ (by omega) hd] at hr1
  have hput : (bys.length : Int) ≤ sc → (∀ b, b ∈ bys → rightB n0 (sc - bys.length) cs b = true) → rightB n0 (sc - bys.length) cs (t.put bys 0) = true := fun h1 h2 => right_put hB (by omega) h1 (fun b hb => ⟨h2 b hb, (hbo b hb).2⟩) hd
  have hlev : n0 ≤ bls.length → t.lowB 400 = true → (∀ x, x ∈ bls → levelRight x 8 = true ∧ lowL 400 x = true) → rightB 8 sc cs (t.levels bls 0) = true := fun h1 h2 h3 => right_levels hB h1 (by omega) h2 h3
  generalize rightB n0 (sc - bys.length) cs (t.put bys 0) = r2 at hr2 hput
  generalize rightB 8 sc cs (t.levels bls 0) = r3 at hr3 hlev
  generalize t.put bys 0 = tp at hP1 hr2
  generalize t.levels bls 0 = tv at hV1 hr3
  generalize t.lift lift fr 0 = tl at hL1 hr1
  generalize t.lowB 400 = lw at hlow hlev
  refine wpD_seqf [16, 61, 62, 63, 64, 65, 66, 67, 68, 69, 70, 71, 72, 73, 74, 75] ([.bool false] ++ [61, 62, 63, 64, 65, 66, 67, 68, 69, 70, 71, 72, 73, 74, 75].map fun _ => .junk) [.cells 27 [.int .i64 t.k, .int .i64 t.n, .int .i64 t.a, .slice (t.ls.map encL) .any, .slice (t.ks.map encT) .any]] ?_ ?_
  rotate_left
  · intro K hK0
    by_cases h1 : 0 ≤ fr
    · (refine wpD_seqk fun K hK => ?_; refine wpD_region tyOK ?_; ((try simp only [wpAft_ret, wpAft_pan, putS, updS, setS]); (repeat (rw [wpS_cons]; simp [h1, w1])); (try simp only [wpS_nil, thenD, blockD])))
      refine CallX.pure globPure (hL1) ?_ (by simp [D.fgts, D.fgt]) (by simp [D.pures, D.pure, Cp.free, D.pures_map]) (by simp [Out.pure, D.pure, D.pures, Cp.free, D.pures_map])
      ((try simp only [wpAft_ret, wpAft_pan, putS, updS, setS]); (repeat (rw [wpS_cons]; simp [h1, w1])); (try simp only [wpS_nil, thenD, blockD]))
      refine CallX.pure globPure (hr1) ?_ (by simp [D.fgts, D.fgt]) (by simp [D.pures, D.pure, Cp.free, D.pures_map]) (by simp [Out.pure, D.pure, D.pures, Cp.free, D.pures_map])
      ((try simp only [wpAft_ret, wpAft_pan, putS, updS, setS]); (repeat (rw [wpS_cons]; simp [h1, w1])); (try simp only [wpS_nil, thenD, blockD]))
      (refine hK _ _ _ ?_; clear hK K)
      refine wpD_part rfl (fun h => by simp at h) (fun _ => ?_)
      refine wpD_skip (hK0 _ ?_)
      simp [leT, putAll]
    · (refine wpD_seqk fun K hK => ?_; refine wpD_region tyOK ?_; ((try simp only [wpAft_ret, wpAft_pan, putS, updS, setS]); (repeat (rw [wpS_cons]; simp [h1])); (try simp only [wpS_nil, thenD, blockD])); refine hK _ _ _ ?_; clear hK K)
      refine wpD_part rfl (fun h => by simp at h) (fun _ => ?_)
      refine wpD_skip (hK0 _ ?_)
      simp [leT, putAll]
  simp only [putAll, List.set, List.map_cons, List.map_nil, List.cons_append, List.nil_append]
  (refine wpD_seqk fun K hK => ?_; refine wpD_region tyOK ?_; ((try simp only [wpAft_ret, wpAft_pan, putS, updS, setS]); (repeat (rw [wpS_cons]; simp)); (try simp only [wpS_nil, thenD, blockD])); refine hK _ _ _ ?_; clear hK K)
  obtain ⟨FIT, hFIT⟩ : ∃ F : Bool → Prop, F = fun b => b = true → (bys.length : Int) ≤ sc ∧ ∀ x, x ∈ bys → rightB n0 (sc - bys.length) cs x = true := ⟨_, rfl⟩
  refine wpD_seqE (α := Bool) ([17, 18] ++ [80, 81, 82, 83, 84, 85, 86, 87, 88, 89, 90, 91, 92, 93, 94, 95, 96, 97, 98, 99]) (fun b => [.bool b, .junk] ++ [80, 81, 82, 83, 84, 85, 86, 87, 88, 89, 90, 91, 92, 93, 94, 95, 96, 97, 98, 99].map fun _ => .junk) (fun _ => [.cells 27 [.int .i64 t.k, .int .i64 t.n, .int .i64 t.a, .slice (t.ls.map encL) .any, .slice (t.ks.map encT) .any]]) FIT ?_ ?_
  rotate_left
  · intro K hK0
    subst hFIT
    (refine wpD_seqk fun K hK => ?_; refine wpD_region tyOK ?_; ((try simp only [wpAft_ret, wpAft_pan, putS, updS, setS]); (repeat (rw [wpS_cons]; simp)); (try simp only [wpS_nil, thenD, blockD])); refine hK _ _ _ ?_; clear hK K)
    refine wpD_block ?_
    refine wpD_loopWJ [80, 81, 82, 83, 84, 85, 86, 87, 88, 89, 90, 91, 92, 93, 94, 95, 96, 97, 98, 99] [17, 18] (fun n ys hl => ∃ (k : Nat) (b : Bool), ys = [.bool b, .int .i64 k] ∧ n + k = bys.length ∧ (b = true → (bys.length : Int) ≤ sc ∧ ∀ j (h : j < bys.length), j < k → rightB n0 (sc - bys.length) cs bys[j] = true) ∧ hl = [.cells 27 [.int .i64 t.k, .int .i64 t.n, .int .i64 t.a, .slice (t.ls.map encL) .any, .slice (t.ks.map encT) .any]]) (bys.length) (by kernel_rfl) ?_ ?_
    · exact ⟨0, _, rfl, rfl, fun h => ⟨by simpa using h, fun j h1 h2 => absurd h2 (by omega)⟩, rfl⟩
    · rintro n1 ys hl A1 hA1 ⟨i, b, rfl, hn1, hF, rfl⟩
      have hA := hA1
      simp only [putAll, List.set, List.map_cons, List.map_nil, List.cons_append, List.nil_append]
      refine wpD_seqk fun K2 hK2 => ?_
      by_cases hi : i < bys.length
      · have hi' : (i : Int) < bys.length := by omega
        cases b with
        | true =>
          have hrec := hby i hi (sc - bys.length)
          obtain ⟨hF1, hF2⟩ := hF rfl
          have hF3 : ∀ v, rightB n0 (sc - bys.length) cs bys[i] = v → v = true → (bys.length : Int) ≤ sc ∧ ∀ j (h : j < bys.length), j < i + 1 → rightB n0 (sc - bys.length) cs bys[j] = true := fun v h1 h2 => ⟨hF1, fun j h3 h4 => by
            by_cases hji : j = i
            · subst hji; rw [h1]; exact h2
            · exact hF2 j h3 (by omega)⟩
          generalize hv : rightB n0 (sc - bys.length) cs bys[i] = v at hrec
          have hF3 := hF3 v hv
          obtain ⟨x, hx⟩ : ∃ x, bys[i] = x := ⟨_, rfl⟩
          rw [hx] at hrec
          have hEx := encT_eq x
          rw [hEx] at hrec
          (refine wpD_seqk fun K hK => ?_; refine wpD_region tyOK ?_; ((try simp only [wpAft_ret, wpAft_pan, putS, updS, setS]); (repeat (rw [wpS_cons]; simp [hi, hi'])); (try simp only [wpS_nil, thenD, blockD])); refine hK _ _ _ ?_; clear hK K)
          refine wpD_part rfl (fun _ => ?_) (fun h => by simp at h)
          refine wpD_skip (hK2 _ _ _ ?_)
          clear hK2 K2
          refine wpD_seqk fun K3 hK3 => ?_
          refine wpD_block ?_
          (refine wpD_region tyOK ?_; ((try simp only [wpAft_ret, wpAft_pan, putS, updS, setS]); (repeat (rw [wpS_cons]; simp [hi, hi', hx, hEx, w2])); (try simp only [wpS_nil, thenD, blockD])))
          refine CallX.pure globPure (hrec) ?_ (by simp [D.fgts, D.fgt]) (by simp [D.pures, D.pure, Cp.free, D.pures_map]) (by simp [Out.pure, D.pure, D.pures, Cp.free, D.pures_map])
          ((try simp only [wpAft_ret, wpAft_pan, putS, updS, setS]); (repeat (rw [wpS_cons]; simp)); (try simp only [wpS_nil, thenD, blockD]))
          refine hK3 _ _ _ ?_
          clear hK3 K3
          have hw3 : IntKind.i64.wrap ((i : Int) + 1) = (i : Int) + 1 := i64w (by omega) (by omega)
          (refine wpD_region tyOK ?_; ((try simp only [wpAft_ret, wpAft_pan, putS, updS, setS]); (repeat (rw [wpS_cons]; simp [hw3])); (try simp only [wpS_nil, thenD, blockD])))
          refine hA (n1 - 1) _ _ _ (LeT.refl _) (by omega) (by kernel_rfl) ?_
          exact ⟨i + 1, _, rfl, by omega, hF3, rfl⟩
        | false =>
          (refine wpD_seqk fun K hK => ?_; refine wpD_region tyOK ?_; ((try simp only [wpAft_ret, wpAft_pan, putS, updS, setS]); (repeat (rw [wpS_cons]; simp [hi, hi'])); (try simp only [wpS_nil, thenD, blockD])); refine hK _ _ _ ?_; clear hK K)
          refine wpD_part rfl (fun h => by simp at h) (fun _ => ?_)
          refine wpD_exit ?_
          refine hK0 false _ (fun h => by cases h) ?_
          simp [leT, putAll]
      · have hi' : ¬ (i : Int) < bys.length := by omega
        (refine wpD_seqk fun K hK => ?_; refine wpD_region tyOK ?_; ((try simp only [wpAft_ret, wpAft_pan, putS, updS, setS]); (repeat (rw [wpS_cons]; simp [hi, hi'])); (try simp only [wpS_nil, thenD, blockD])); refine hK _ _ _ ?_; clear hK K)
        refine wpD_part rfl (fun h => by simp at h) (fun _ => ?_)
        refine wpD_exit ?_
        refine hK0 b _ (fun h => ⟨(hF h).1, fun x hx => ?_⟩) ?_
        · obtain ⟨j, hj, rfl⟩ := List.getElem_of_mem hx
          exact (hF h).2 j hj (by omega)
        · simp [leT, putAll]
  intro b hb
  subst hFIT
  simp only [putAll, List.set, List.map_cons, List.map_nil, List.cons_append, List.nil_append]
  refine wpD_seqf [16, 100, 101, 102, 103, 104, 105, 106, 107, 108, 109, 110, 111, 112, 113] ([.bool false] ++ [100, 101, 102, 103, 104, 105, 106, 107, 108, 109, 110, 111, 112, 113].map fun _ => .junk) [.cells 27 [.int .i64 t.k, .int .i64 t.n, .int .i64 t.a, .slice (t.ls.map encL) .any, .slice (t.ks.map encT) .any]] ?_ ?_
  rotate_left
  · intro K hK0
    cases b with
    | true =>
      have hb := hb rfl
      have hput := hput hb.1 hb.2
      subst hput
      (refine wpD_seqk fun K hK => ?_; refine wpD_region tyOK ?_; ((try simp only [wpAft_ret, wpAft_pan, putS, updS, setS]); (repeat (rw [wpS_cons]; simp [w2])); (try simp only [wpS_nil, thenD, blockD])))
      refine CallX.pure globPure (hP1) ?_ (by simp [D.fgts, D.fgt]) (by simp [D.pures, D.pure, Cp.free, D.pures_map]) (by simp [Out.pure, D.pure, D.pures, Cp.free, D.pures_map])
      ((try simp only [wpAft_ret, wpAft_pan, putS, updS, setS]); (repeat (rw [wpS_cons]; simp [w2])); (try simp only [wpS_nil, thenD, blockD]))
      refine CallX.pure globPure (hr2) ?_ (by simp [D.fgts, D.fgt]) (by simp [D.pures, D.pure, Cp.free, D.pures_map]) (by simp [Out.pure, D.pure, D.pures, Cp.free, D.pures_map])
      ((try simp only [wpAft_ret, wpAft_pan, putS, updS, setS]); (repeat (rw [wpS_cons]; simp)); (try simp only [wpS_nil, thenD, blockD]))
      (refine hK _ _ _ ?_; clear hK K)
      refine wpD_part rfl (fun h => by simp at h) (fun _ => ?_)
      refine wpD_skip (hK0 _ ?_)
      simp [leT, putAll]
    | false =>
      (refine wpD_seqk fun K hK => ?_; refine wpD_region tyOK ?_; ((try simp only [wpAft_ret, wpAft_pan, putS, updS, setS]); (repeat (rw [wpS_cons]; simp)); (try simp only [wpS_nil, thenD, blockD])); refine hK _ _ _ ?_; clear hK K)
      refine wpD_part rfl (fun h => by simp at h) (fun _ => ?_)
      refine wpD_skip (hK0 _ ?_)
      simp [leT, putAll]
  simp only [putAll, List.set, List.map_cons, List.map_nil, List.cons_append, List.nil_append]
  (refine wpD_junkW [17] ?_; simp only [putAll, List.set, List.map_cons, List.map_nil])
  clear hb b hput hr2 hP1 hr1 hL1 hby
  obtain ⟨SM, hSM⟩ : ∃ F : Bool → Prop, F = fun b => b = true → n0 ≤ bls.length ∧ lw = true ∧ ∀ x, x ∈ bls → levelRight x 8 = true ∧ lowL 400 x = true := ⟨_, rfl⟩
  refine wpD_seqE (α := Bool) ([19, 114, 115, 116, 117, 118, 119, 120, 121]) (fun b => [.bool b] ++ [114, 115, 116, 117, 118, 119, 120, 121].map fun _ => .junk) (fun _ => [.cells 27 [.int .i64 t.k, .int .i64 t.n, .int .i64 t.a, .slice (t.ls.map encL) .any, .slice (t.ks.map encT) .any]]) (fun b => b = true → n0 ≤ bls.length ∧ lw = true) ?_ ?_
  rotate_left
  · intro K hK0
    by_cases h1 : n0 ≤ (bls.length : Int)
    · (refine wpD_region tyOK ?_; ((try simp only [wpAft_ret, wpAft_pan, putS, updS, setS]); (repeat (rw [wpS_cons]; simp [h1])); (try simp only [wpS_nil, thenD, blockD])))
      refine CallX.pure globPure (hlow) ?_ (by simp [D.fgts, D.fgt]) (by simp [D.pures, D.pure, Cp.free, D.pures_map]) (by simp [Out.pure, D.pure, D.pures, Cp.free, D.pures_map])
      ((try simp only [wpAft_ret, wpAft_pan, putS, updS, setS]); (repeat (rw [wpS_cons]; simp)); (try simp only [wpS_nil, thenD, blockD]))
      refine hK0 lw _ (fun h => ⟨h1, h⟩) ?_
      simp [leT, putAll]
    · (refine wpD_region tyOK ?_; ((try simp only [wpAft_ret, wpAft_pan, putS, updS, setS]); (repeat (rw [wpS_cons]; simp [h1])); (try simp only [wpS_nil, thenD, blockD])))
      refine hK0 false _ (fun h => by cases h) ?_
      simp [leT, putAll]
  intro b0 hb0
  simp only [putAll, List.set, List.map_cons, List.map_nil, List.cons_append, List.nil_append]
  refine wpD_seqE (α := Bool) ([19, 20, 21] ++ [122, 123, 124, 125, 126, 127, 128, 129, 130, 131, 132, 133, 134, 135, 136, 137, 138, 139, 140, 141, 142, 143, 144, 145, 146, 147, 148, 149, 150, 151, 152, 153, 154, 155, 156, 157, 158]) (fun b => [.bool b, .junk, .junk] ++ [122, 123, 124, 125, 126, 127, 128, 129, 130, 131, 132, 133, 134, 135, 136, 137, 138, 139, 140, 141, 142, 143, 144, 145, 146, 147, 148, 149, 150, 151, 152, 153, 154, 155, 156, 157, 158].map fun _ => .junk) (fun _ => [.cells 27 [.int .i64 t.k, .int .i64 t.n, .int .i64 t.a, .slice (t.ls.map encL) .any, .slice (t.ks.map encT) .any]]) SM ?_ ?_
  rotate_left
  · intro K hK0
    subst hSM
    (refine wpD_seqk fun K hK => ?_; refine wpD_region tyOK ?_; ((try simp only [wpAft_ret, wpAft_pan, putS, updS, setS]); (repeat (rw [wpS_cons]; simp)); (try simp only [wpS_nil, thenD, blockD])); refine hK _ _ _ ?_; clear hK K)
    refine wpD_block ?_
    refine wpD_loopWJ [21, 122, 123, 124, 125, 126, 127, 128, 129, 130, 131, 132, 133, 134, 135, 136, 137, 138, 139, 140, 141, 142, 143, 144, 145, 146, 147, 148, 149, 150, 151, 152, 153, 154, 155, 156, 157, 158] [19, 20] (fun n ys hl => ∃ (k : Nat) (b : Bool), ys = [.bool b, .int .i64 k] ∧ n + k = bls.length ∧ (b = true → n0 ≤ bls.length ∧ lw = true ∧ ∀ j (h : j < bls.length), j < k → levelRight bls[j] 8 = true ∧ lowL 400 bls[j] = true) ∧ hl = [.cells 27 [.int .i64 t.k, .int .i64 t.n, .int .i64 t.a, .slice (t.ls.map encL) .any, .slice (t.ks.map encT) .any]]) (bls.length) (by kernel_rfl) ?_ ?_
    · exact ⟨0, b0, rfl, rfl, fun h => ⟨(hb0 h).1, (hb0 h).2, fun j h1 h2 => absurd h2 (by omega)⟩, rfl⟩
    · rintro n1 ys hl A1 hA1 ⟨i, b, rfl, hn1, hF, rfl⟩
      have hA := hA1
      simp only [putAll, List.set, List.map_cons, List.map_nil, List.cons_append, List.nil_append]
      refine wpD_seqk fun K2 hK2 => ?_
      by_cases hi : i < bls.length
      · have hi' : (i : Int) < bls.length := by omega
        cases b with
        | true =>
          have hrec := hlv i hi
          obtain ⟨hF0, hF1, hF2⟩ := hF rfl
          have hxl := (hlo _ (List.getElem_mem hi)).1
          have hF3 : (levelRight bls[i] 8 = true ∧ lowL 400 bls[i] = true) → n0 ≤ bls.length ∧ lw = true ∧ ∀ j (h : j < bls.length), j < i + 1 → levelRight bls[j] 8 = true ∧ lowL 400 bls[j] = true := fun h1 => ⟨hF0, hF1, fun j h3 h4 => by
            by_cases hji : j = i
            · subst hji; exact h1
            · exact hF2 j h3 (by omega)⟩
          obtain ⟨x, hx⟩ : ∃ x, bls[i] = x := ⟨_, rfl⟩
          rw [hx] at hrec hF3 hxl
          unfold encL at hrec
          unfold LMax at hxl
          generalize levelRight x 8 = v at hrec hF3
          (refine wpD_seqk fun K hK => ?_; refine wpD_region tyOK ?_; ((try simp only [wpAft_ret, wpAft_pan, putS, updS, setS]); (repeat (rw [wpS_cons]; simp [hi, hi'])); (try simp only [wpS_nil, thenD, blockD])); refine hK _ _ _ ?_; clear hK K)
          refine wpD_part rfl (fun _ => ?_) (fun h => by simp at h)
          refine wpD_skip (hK2 _ _ _ ?_)
          clear hK2 K2
          refine wpD_seqk fun K3 hK3 => ?_
          refine wpD_block ?_
          (refine wpD_seqk fun K hK => ?_; refine wpD_region tyOK ?_; ((try simp only [wpAft_ret, wpAft_pan, putS, updS, setS]); (repeat (rw [wpS_cons]; simp [hi, hi', hx, encL])); (try simp only [wpS_nil, thenD, blockD])))
          refine CallX.pure globPure (hrec) ?_ (by simp [D.fgts, D.fgt]) (by simp [D.pures, D.pure, Cp.free, D.pures_map]) (by simp [Out.pure, D.pure, D.pures, Cp.free, D.pures_map])
          ((try simp only [wpAft_ret, wpAft_pan, putS, updS, setS]); (repeat (rw [wpS_cons]; simp)); (try simp only [wpS_nil, thenD, blockD]))
          (refine hK _ _ _ ?_; clear hK K)
          (refine wpD_seqk fun K hK => ?_; refine wpD_region tyOK ?_; ((try simp only [wpAft_ret, wpAft_pan, putS, updS, setS]); (repeat (rw [wpS_cons]; simp)); (try simp only [wpS_nil, thenD, blockD])); refine hK _ _ _ ?_; clear hK K)
          refine wpD_block ?_
          refine wpD_loopWJ [136, 137, 138, 139, 140, 141, 142, 143, 144, 145, 146, 147, 148, 149, 150, 151, 152, 153, 154, 155, 156, 157, 158] [19, 21] (fun n ys hl => ∃ (k : Nat) (b : Bool), ys = [.bool b, .int .i64 k] ∧ n + k = x.length ∧ (b = true → v = true ∧ ∀ p, p ∈ x.take k → p.2 ≤ 400) ∧ hl = [.cells 27 [.int .i64 t.k, .int .i64 t.n, .int .i64 t.a, .slice (t.ls.map encL) .any, .slice (t.ks.map encT) .any]]) (x.length) (by kernel_rfl) ?_ ?_
          · exact ⟨0, v, rfl, rfl, fun h => ⟨h, fun p hp => by simp at hp⟩, rfl⟩
          · rintro n2 ys hl A2 hA2 ⟨k, b, rfl, hn2, hG, rfl⟩
            have hA := hA2
            simp only [putAll, List.set, List.map_cons, List.map_nil, List.cons_append, List.nil_append]
            refine wpD_seqk fun K4 hK4 => ?_
            by_cases hk : k < x.length
            · have hk' : (k : Int) < x.length := by omega
              obtain ⟨p, hp⟩ : ∃ p, x[k] = p := ⟨_, rfl⟩
              have htk : x.take (k + 1) = x.take k ++ [p] := by rw [List.take_succ_eq_append_getElem hk, hp]
              have hw4 : IntKind.i64.wrap ((k : Int) + 1) = (k : Int) + 1 := i64w (by omega) (by omega)
              (refine wpD_seqk fun K hK => ?_; refine wpD_region tyOK ?_; ((try simp only [wpAft_ret, wpAft_pan, putS, updS, setS]); (repeat (rw [wpS_cons]; simp [hi, hi', hx, encL, hk, hk'])); (try simp only [wpS_nil, thenD, blockD])); refine hK _ _ _ ?_; clear hK K)
              refine wpD_part rfl (fun _ => ?_) (fun h => by simp at h)
              refine wpD_skip (hK4 _ _ _ ?_)
              clear hK4 K4
              refine wpD_seqk fun K5 hK5 => ?_
              refine wpD_block ?_
              cases b with
              | true =>
                have hG := hG rfl
                by_cases hpm : p.2 ≤ 400
                · (refine wpD_region tyOK ?_; ((try simp only [wpAft_ret, wpAft_pan, putS, updS, setS]); (repeat (rw [wpS_cons]; simp [hi, hi', hx, encL, hk, hk', hp, encP, hpm])); (try simp only [wpS_nil, thenD, blockD])))
                  refine hK5 _ _ _ ?_
                  clear hK5 K5
                  (refine wpD_region tyOK ?_; ((try simp only [wpAft_ret, wpAft_pan, putS, updS, setS]); (repeat (rw [wpS_cons]; simp [hw4])); (try simp only [wpS_nil, thenD, blockD])))
                  refine hA (n2 - 1) _ _ _ (LeT.refl _) (by omega) (by kernel_rfl) ?_
                  refine ⟨k + 1, true, rfl, by omega, fun _ => ⟨hG.1, fun q hq => ?_⟩, rfl⟩
                  rw [htk, List.mem_append] at hq
                  rcases hq with hq | hq
                  · exact hG.2 q hq
                  · simp only [List.mem_cons, List.not_mem_nil, or_false] at hq
                    subst hq; exact hpm
                · (refine wpD_region tyOK ?_; ((try simp only [wpAft_ret, wpAft_pan, putS, updS, setS]); (repeat (rw [wpS_cons]; simp [hi, hi', hx, encL, hk, hk', hp, encP, hpm])); (try simp only [wpS_nil, thenD, blockD])))
                  refine hK5 _ _ _ ?_
                  clear hK5 K5
                  (refine wpD_region tyOK ?_; ((try simp only [wpAft_ret, wpAft_pan, putS, updS, setS]); (repeat (rw [wpS_cons]; simp [hw4])); (try simp only [wpS_nil, thenD, blockD])))
                  refine hA (n2 - 1) _ _ _ (LeT.refl _) (by omega) (by kernel_rfl) ?_
                  exact ⟨k + 1, false, rfl, by omega, (fun h => by cases h), rfl⟩
              | false =>
                (refine wpD_region tyOK ?_; ((try simp only [wpAft_ret, wpAft_pan, putS, updS, setS]); (repeat (rw [wpS_cons]; simp)); (try simp only [wpS_nil, thenD, blockD])))
                refine hK5 _ _ _ ?_
                clear hK5 K5
                (refine wpD_region tyOK ?_; ((try simp only [wpAft_ret, wpAft_pan, putS, updS, setS]); (repeat (rw [wpS_cons]; simp [hw4])); (try simp only [wpS_nil, thenD, blockD])))
                refine hA (n2 - 1) _ _ _ (LeT.refl _) (by omega) (by kernel_rfl) ?_
                exact ⟨k + 1, false, rfl, by omega, (fun h => by cases h), rfl⟩
            · have hk' : ¬ (k : Int) < x.length := by omega
              (refine wpD_seqk fun K hK => ?_; refine wpD_region tyOK ?_; ((try simp only [wpAft_ret, wpAft_pan, putS, updS, setS]); (repeat (rw [wpS_cons]; simp [hi, hi', hx, encL, hk, hk'])); (try simp only [wpS_nil, thenD, blockD])); refine hK _ _ _ ?_; clear hK K)
              refine wpD_part rfl (fun h => by simp at h) (fun _ => ?_)
              refine wpD_exit ?_
              refine hK3 _ _ _ ?_
              have hw3 : IntKind.i64.wrap ((i : Int) + 1) = (i : Int) + 1 := i64w (by omega) (by omega)
              have hA := hA1
              (refine wpD_region tyOK ?_; ((try simp only [wpAft_ret, wpAft_pan, putS, updS, setS]); (repeat (rw [wpS_cons]; simp [hw3])); (try simp only [wpS_nil, thenD, blockD])))
              refine hA (n1 - 1) _ _ _ (LeT.refl _) (by omega) (by kernel_rfl) ?_
              refine ⟨i + 1, b, rfl, by omega, fun h => hF3 ⟨(hG h).1, ?_⟩, rfl⟩
              have hG2 := (hG h).2
              rw [List.take_of_length_le (by omega)] at hG2
              unfold lowL
              rw [List.all_eq_true]
              exact fun p hp => by simpa using hG2 p hp
        | false =>
          (refine wpD_seqk fun K hK => ?_; refine wpD_region tyOK ?_; ((try simp only [wpAft_ret, wpAft_pan, putS, updS, setS]); (repeat (rw [wpS_cons]; simp [hi, hi'])); (try simp only [wpS_nil, thenD, blockD])); refine hK _ _ _ ?_; clear hK K)
          refine wpD_part rfl (fun h => by simp at h) (fun _ => ?_)
          refine wpD_exit ?_
          refine hK0 false _ (fun h => by cases h) ?_
          simp [leT, putAll]
      · have hi' : ¬ (i : Int) < bls.length := by omega
        (refine wpD_seqk fun K hK => ?_; refine wpD_region tyOK ?_; ((try simp only [wpAft_ret, wpAft_pan, putS, updS, setS]); (repeat (rw [wpS_cons]; simp [hi, hi'])); (try simp only [wpS_nil, thenD, blockD])); refine hK _ _ _ ?_; clear hK K)
        refine wpD_part rfl (fun h => by simp at h) (fun _ => ?_)
        refine wpD_exit ?_
        refine hK0 b _ (fun h => ⟨(hF h).1, (hF h).2.1, fun x hx => ?_⟩) ?_
        · obtain ⟨j, hj, rfl⟩ := List.getElem_of_mem hx
          exact (hF h).2.2 j hj (by omega)
        · simp [leT, putAll]
  intro b hb
  subst hSM
  simp only [putAll, List.set, List.map_cons, List.map_nil, List.cons_append, List.nil_append]
  cases b with
  | true =>
    have hb := hb rfl
    have hlev := hlev hb.1 hb.2.1 hb.2.2
    subst hlev
    (refine wpD_seqk fun K hK => ?_; refine wpD_region tyOK ?_; ((try simp only [wpAft_ret, wpAft_pan, putS, updS, setS]); (repeat (rw [wpS_cons]; simp)); (try simp only [wpS_nil, thenD, blockD])))
    refine CallX.pure globPure (hV1) ?_ (by simp [D.fgts, D.fgt]) (by simp [D.pures, D.pure, Cp.free, D.pures_map]) (by simp [Out.pure, D.pure, D.pures, Cp.free, D.pures_map])
    ((try simp only [wpAft_ret, wpAft_pan, putS, updS, setS]); (repeat (rw [wpS_cons]; simp)); (try simp only [wpS_nil, thenD, blockD]))
    refine CallX.pure globPure (hr3) ?_ (by simp [D.fgts, D.fgt]) (by simp [D.pures, D.pure, Cp.free, D.pures_map]) (by simp [Out.pure, D.pure, D.pures, Cp.free, D.pures_map])
    ((try simp only [wpAft_ret, wpAft_pan, putS, updS, setS]); (repeat (rw [wpS_cons]; simp)); (try simp only [wpS_nil, thenD, blockD]))
    (refine hK _ _ _ ?_; clear hK K)
    (refine wpD_ret ?_; (try simp only [thenD, blockD]); refine EndQ.ret rfl (.inl ?_); simp [tmOf, Out.fgt, D.fgt, D.fgts])
  | false =>
    (refine wpD_seqk fun K hK => ?_; refine wpD_region tyOK ?_; ((try simp only [wpAft_ret, wpAft_pan, putS, updS, setS]); (repeat (rw [wpS_cons]; simp)); (try simp only [wpS_nil, thenD, blockD])); refine hK _ _ _ ?_; clear hK K)
    (refine wpD_ret ?_; (try simp only [thenD, blockD]); refine EndQ.ret rfl (.inl ?_); simp [tmOf, Out.fgt, D.fgt, D.fgts])
end Go.Proofs.YtebmlojhdnldgaaDoor

