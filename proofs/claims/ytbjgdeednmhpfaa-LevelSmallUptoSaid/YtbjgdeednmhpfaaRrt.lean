/-
  The reference's Right, Put, Value, on data.
-/
import Derived.Test.YtbjgdeednmhpfaaRfun
import Derived.Test.YtbjgdeednmhpfaaLrt
set_option linter.unusedSimpArgs false
set_option linter.unusedVariables false
set_option maxHeartbeats 10000000
set_option maxRecDepth 20000
namespace Go.Proofs.Ytbjgdeednmhpfaa
open Go.RowKit

theorem lr_bad {l : LV} {n : Int} {p : Int × Int} (hp : p ∈ l) (h : partBad n p = true) : levelRight l n = false := by
  have : l.any (partBad n) = true := List.any_eq_true.2 ⟨p, hp, h⟩
  unfold levelRight
  rw [this]; simp
theorem lr_desc {l : LV} {n : Int} {k : Nat} (h : k + 1 < l.length) (hd : ¬ l[k].1 < l[k + 1].1) : levelRight l n = false := by
  have : sortedB l = false := by
    cases hs : sortedB l with
    | false => rfl
    | true => exact absurd ((sortedB_iff l).1 hs k h) hd
  unfold levelRight
  rw [this]; simp
def goodK (l : LV) (n : Int) (k : Nat) : Prop := (∀ i (h : i < l.length), i < k → partBad n l[i] = false) ∧ ∀ i (h : i + 1 < l.length), i + 1 < k → (l[i]'(by omega)).1 < l[i + 1].1
theorem lr_end {l : LV} {n : Int} (h : goodK l n l.length) : levelRight l n = decide (l.length ≤ 9) := by
  have h1 : l.any (partBad n) = false := by
    rw [List.any_eq_false]
    intro p hp
    obtain ⟨i, hi, rfl⟩ := List.getElem_of_mem hp
    rw [h.1 i hi hi]; simp
  have h2 : sortedB l = true := (sortedB_iff l).2 fun i hi => h.2 i hi hi
  unfold levelRight
  rw [h1, h2]; simp

theorem rright_spec (l : LV) (M : Int) (hl : l.length ≤ LMax) : Spec Try.prog glob 33 [encL l, .int .i64 M] [] (fun o _ => o.fgt = .ret (.bool (levelRight l M))) := by
  unfold LMax at hl
  refine Spec.movd globPure (wpD_spec tyOK Try.func33 rfl (enters _ _ Try.func33 rfl (by decide)) rfl rfl ?_)
  unfold encL
  (refine wpD_seqk fun K hK => ?_; refine wpD_region tyOK ?_; ((try simp only [wpAft_ret, wpAft_pan, putS, updS, setS]); (repeat (rw [wpS_cons]; simp [wpAft_ret, wpAft_pan, wantD, evOp, opD, tmOf, putS, updS, setS, hOf, isFree, isTok, fillD, TK.isAgg, TK.known, partD, thenD, blockD, putAll, D.ofV, inB, binX, binD, binE, isCst, bndD, capB, IntKind.min, IntKind.max, IntKind.signed, IntKind.bits, dstOf])); (try simp only [wpS_nil, thenD, blockD])); refine hK _ _ _ ?_; clear hK K)
  refine wpD_seqk fun K1 hK1 => ?_
  (refine wpD_seqk fun K hK => ?_; refine wpD_region tyOK ?_; ((try simp only [wpAft_ret, wpAft_pan, putS, updS, setS]); (repeat (rw [wpS_cons]; simp [wpAft_ret, wpAft_pan, wantD, evOp, opD, tmOf, putS, updS, setS, hOf, isFree, isTok, fillD, TK.isAgg, TK.known, partD, thenD, blockD, putAll, D.ofV, inB, binX, binD, binE, isCst, bndD, capB, IntKind.min, IntKind.max, IntKind.signed, IntKind.bits, dstOf])); (try simp only [wpS_nil, thenD, blockD])); refine hK _ _ _ ?_; clear hK K)
  refine wpD_block ?_
  refine wpD_loopV globPure [4, 5, 6, 7, 8, 9, 10, 11, 12, 13, 14, 15, 16, 17, 18, 19, 20, 21, 22, 23, 24, 25, 26, 27, 28, 29, 30, 31, 32, 33, 34, 35, 36, 37, 38, 39, 40, 41, 42, 43, 44, 45, 46, 47, 48, 49, 50, 51, 52, 53] (fun m ys hl => ∃ (k : Nat) (x4 x6 x7 x8 x9 x10 x11 x12 x13 x14 x15 x16 x17 x18 x19 x20 x21 x22 x23 x24 x25 x26 x27 x28 x29 x30 x31 x32 x33 x34 x35 x36 x37 x38 x39 x40 x41 x42 x43 x44 x45 x46 x47 x48 x49 x50 x51 x52 x53 : D), ys = [x4, .int .i64 k, x6, x7, x8, x9, x10, x11, x12, x13, x14, x15, x16, x17, x18, x19, x20, x21, x22, x23, x24, x25, x26, x27, x28, x29, x30, x31, x32, x33, x34, x35, x36, x37, x38, x39, x40, x41, x42, x43, x44, x45, x46, x47, x48, x49, x50, x51, x52, x53] ∧ m + k = l.length ∧ goodK l M k ∧ hl = [.cells 24 [.slice (l.map encP) .any]]) (l.length) (by kernel_rfl) ?_ ?_
  · exact ⟨0, _, _, _, _, _, _, _, _, _, _, _, _, _, _, _, _, _, _, _, _, _, _, _, _, _, _, _, _, _, _, _, _, _, _, _, _, _, _, _, _, _, _, _, _, _, _, _, _, _, rfl, rfl, ⟨fun _ _ h => absurd h (by omega), fun _ _ h => absurd h (by omega)⟩, rfl⟩
  · rintro m ys hl A hA ⟨k, x4, x6, x7, x8, x9, x10, x11, x12, x13, x14, x15, x16, x17, x18, x19, x20, x21, x22, x23, x24, x25, x26, x27, x28, x29, x30, x31, x32, x33, x34, x35, x36, x37, x38, x39, x40, x41, x42, x43, x44, x45, x46, x47, x48, x49, x50, x51, x52, x53, rfl, hk, he, rfl⟩
    simp only [putAll, List.set]
    refine wpD_seqk fun K2 hK2 => ?_
    (refine wpD_seqk fun K hK => ?_; refine wpD_region tyOK ?_; ((try simp only [wpAft_ret, wpAft_pan, putS, updS, setS]); (repeat (rw [wpS_cons]; simp [wpAft_ret, wpAft_pan, wantD, evOp, opD, tmOf, putS, updS, setS, hOf, isFree, isTok, fillD, TK.isAgg, TK.known, partD, thenD, blockD, putAll, D.ofV, inB, binX, binD, binE, isCst, bndD, capB, IntKind.min, IntKind.max, IntKind.signed, IntKind.bits, dstOf])); (try simp only [wpS_nil, thenD, blockD])); refine hK _ _ _ ?_; clear hK K)
    refine wpD_part rfl (fun hkl => ?_) (fun hkl => ?_)
    · replace hkl : k < l.length := by simpa using hkl
      refine wpD_skip (hK2 _ _ _ ?_)
      clear hK2 K2
      refine wpD_seqk fun K3 hK3 => ?_
      refine wpD_block ?_
      obtain ⟨p, hp⟩ : ∃ p, p = l[k] := ⟨_, rfl⟩
      have hge : l[k] = p := hp.symm
      have hpm : p ∈ l := by rw [hp]; exact List.getElem_mem hkl
      (refine wpD_seqk fun K hK => ?_; refine wpD_region tyOK ?_; ((try simp only [wpAft_ret, wpAft_pan, putS, updS, setS]); (repeat (rw [wpS_cons]; simp [wpAft_ret, wpAft_pan, wantD, evOp, opD, tmOf, putS, updS, setS, hOf, isFree, isTok, fillD, TK.isAgg, TK.known, partD, thenD, blockD, putAll, D.ofV, inB, binX, binD, binE, isCst, bndD, capB, IntKind.min, IntKind.max, IntKind.signed, IntKind.bits, dstOf, hkl, hge, encP])); (try simp only [wpS_nil, thenD, blockD])); refine hK _ _ _ ?_; clear hK K)
      have hw1 : IntKind.i64.wrap ((k : Int) + 1) = (k : Int) + 1 := i64w (by omega) (by omega)
      have hnext : partBad M p = false → (∀ j (h : j + 1 < l.length), j + 1 = k → (l[j]'(by omega)).1 < l[j + 1].1) → goodK l M (k + 1) := fun h1 h2 => ⟨fun i hi hik => by
        by_cases hi2 : i = k
        · subst hi2; rw [hge]; exact h1
        · exact he.1 i hi (by omega), fun i hi hik => by
        by_cases hi2 : i + 1 = k
        · exact h2 i hi hi2
        · exact he.2 i hi (by omega)⟩
      by_cases h1 : p.1 < 0
      · (refine wpD_seqk fun K hK => ?_; refine wpD_drawk tyOK (by kernel_rfl) (by kernel_rfl) fun KT hKT => ?_; ((try simp only [wpAftT_ret, wpAftT_pan, putS, updS, setS]); (repeat (rw [wpT_cons]; simp [wpAft_ret, wpAft_pan, wantD, evOp, opD, tmOf, putS, updS, setS, hOf, isFree, isTok, fillD, TK.isAgg, TK.known, partD, thenD, blockD, putAll, D.ofV, inB, binX, binD, binE, isCst, bndD, capB, IntKind.min, IntKind.max, IntKind.signed, IntKind.bits, dstOf, late, h1])); (try simp only [wpT_nil])))
        (refine hKT _ _ _ _ (by kernel_rfl) ?_; clear hKT KT; (try simp only [thenD, blockD]))
        (refine hK _ _ _ ?_; clear hK K)
        refine wpD_part rfl (fun _ => ?_) (fun h => by simp at h)
        rw [lr_bad hpm (by simp only [partBad, Bool.or_eq_true, decide_eq_true_eq]; omega)]
        (refine wpD_seqk fun K hK => ?_; refine wpD_region tyOK ?_; ((try simp only [wpAft_ret, wpAft_pan, putS, updS, setS]); (repeat (rw [wpS_cons]; simp [wpAft_ret, wpAft_pan, wantD, evOp, opD, tmOf, putS, updS, setS, hOf, isFree, isTok, fillD, TK.isAgg, TK.known, partD, thenD, blockD, putAll, D.ofV, inB, binX, binD, binE, isCst, bndD, capB, IntKind.min, IntKind.max, IntKind.signed, IntKind.bits, dstOf])); (try simp only [wpS_nil, thenD, blockD])); refine hK _ _ _ ?_; clear hK K)
        (refine wpD_ret ?_; (try simp only [thenD, blockD]); refine EndQ.ret rfl (.inl ?_); simp [tmOf, Out.fgt, D.fgt, D.fgts])
      · skip
        by_cases h2 : M < p.1
        · (refine wpD_seqk fun K hK => ?_; refine wpD_drawk tyOK (by kernel_rfl) (by kernel_rfl) fun KT hKT => ?_; ((try simp only [wpAftT_ret, wpAftT_pan, putS, updS, setS]); (repeat (rw [wpT_cons]; simp [wpAft_ret, wpAft_pan, wantD, evOp, opD, tmOf, putS, updS, setS, hOf, isFree, isTok, fillD, TK.isAgg, TK.known, partD, thenD, blockD, putAll, D.ofV, inB, binX, binD, binE, isCst, bndD, capB, IntKind.min, IntKind.max, IntKind.signed, IntKind.bits, dstOf, late, h1, h2])); (try simp only [wpT_nil])))
          (refine hKT _ _ _ _ (by kernel_rfl) ?_; clear hKT KT; (try simp only [thenD, blockD]))
          (refine hK _ _ _ ?_; clear hK K)
          refine wpD_part rfl (fun _ => ?_) (fun h => by simp at h)
          rw [lr_bad hpm (by simp only [partBad, Bool.or_eq_true, decide_eq_true_eq]; omega)]
          (refine wpD_seqk fun K hK => ?_; refine wpD_region tyOK ?_; ((try simp only [wpAft_ret, wpAft_pan, putS, updS, setS]); (repeat (rw [wpS_cons]; simp [wpAft_ret, wpAft_pan, wantD, evOp, opD, tmOf, putS, updS, setS, hOf, isFree, isTok, fillD, TK.isAgg, TK.known, partD, thenD, blockD, putAll, D.ofV, inB, binX, binD, binE, isCst, bndD, capB, IntKind.min, IntKind.max, IntKind.signed, IntKind.bits, dstOf])); (try simp only [wpS_nil, thenD, blockD])); refine hK _ _ _ ?_; clear hK K)
          (refine wpD_ret ?_; (try simp only [thenD, blockD]); refine EndQ.ret rfl (.inl ?_); simp [tmOf, Out.fgt, D.fgt, D.fgts])
        · skip
          by_cases h3 : p.2 < 0
          · (refine wpD_seqk fun K hK => ?_; refine wpD_drawk tyOK (by kernel_rfl) (by kernel_rfl) fun KT hKT => ?_; ((try simp only [wpAftT_ret, wpAftT_pan, putS, updS, setS]); (repeat (rw [wpT_cons]; simp [wpAft_ret, wpAft_pan, wantD, evOp, opD, tmOf, putS, updS, setS, hOf, isFree, isTok, fillD, TK.isAgg, TK.known, partD, thenD, blockD, putAll, D.ofV, inB, binX, binD, binE, isCst, bndD, capB, IntKind.min, IntKind.max, IntKind.signed, IntKind.bits, dstOf, late, h1, h2, h3])); (try simp only [wpT_nil])))
            (refine hKT _ _ _ _ (by kernel_rfl) ?_; clear hKT KT; (try simp only [thenD, blockD]))
            (refine hK _ _ _ ?_; clear hK K)
            refine wpD_part rfl (fun _ => ?_) (fun h => by simp at h)
            rw [lr_bad hpm (by simp only [partBad, Bool.or_eq_true, decide_eq_true_eq]; omega)]
            (refine wpD_seqk fun K hK => ?_; refine wpD_region tyOK ?_; ((try simp only [wpAft_ret, wpAft_pan, putS, updS, setS]); (repeat (rw [wpS_cons]; simp [wpAft_ret, wpAft_pan, wantD, evOp, opD, tmOf, putS, updS, setS, hOf, isFree, isTok, fillD, TK.isAgg, TK.known, partD, thenD, blockD, putAll, D.ofV, inB, binX, binD, binE, isCst, bndD, capB, IntKind.min, IntKind.max, IntKind.signed, IntKind.bits, dstOf])); (try simp only [wpS_nil, thenD, blockD])); refine hK _ _ _ ?_; clear hK K)
            (refine wpD_ret ?_; (try simp only [thenD, blockD]); refine EndQ.ret rfl (.inl ?_); simp [tmOf, Out.fgt, D.fgt, D.fgts])
          · skip
            by_cases h4 : 1000 < p.2
            · (refine wpD_seqk fun K hK => ?_; refine wpD_drawk tyOK (by kernel_rfl) (by kernel_rfl) fun KT hKT => ?_; ((try simp only [wpAftT_ret, wpAftT_pan, putS, updS, setS]); (repeat (rw [wpT_cons]; simp [wpAft_ret, wpAft_pan, wantD, evOp, opD, tmOf, putS, updS, setS, hOf, isFree, isTok, fillD, TK.isAgg, TK.known, partD, thenD, blockD, putAll, D.ofV, inB, binX, binD, binE, isCst, bndD, capB, IntKind.min, IntKind.max, IntKind.signed, IntKind.bits, dstOf, late, h1, h2, h3, h4])); (try simp only [wpT_nil])))
              (refine hKT _ _ _ _ (by kernel_rfl) ?_; clear hKT KT; (try simp only [thenD, blockD]))
              (refine hK _ _ _ ?_; clear hK K)
              refine wpD_part rfl (fun _ => ?_) (fun h => by simp at h)
              rw [lr_bad hpm (by simp only [partBad, Bool.or_eq_true, decide_eq_true_eq]; omega)]
              (refine wpD_seqk fun K hK => ?_; refine wpD_region tyOK ?_; ((try simp only [wpAft_ret, wpAft_pan, putS, updS, setS]); (repeat (rw [wpS_cons]; simp [wpAft_ret, wpAft_pan, wantD, evOp, opD, tmOf, putS, updS, setS, hOf, isFree, isTok, fillD, TK.isAgg, TK.known, partD, thenD, blockD, putAll, D.ofV, inB, binX, binD, binE, isCst, bndD, capB, IntKind.min, IntKind.max, IntKind.signed, IntKind.bits, dstOf])); (try simp only [wpS_nil, thenD, blockD])); refine hK _ _ _ ?_; clear hK K)
              (refine wpD_ret ?_; (try simp only [thenD, blockD]); refine EndQ.ret rfl (.inl ?_); simp [tmOf, Out.fgt, D.fgt, D.fgts])
            · skip
              have hpb : partBad M p = false := by simp [partBad, h1, h2, h3, h4]
              by_cases hk0 : k = 0
              · subst hk0
                (refine wpD_seqk fun K hK => ?_; refine wpD_drawk tyOK (by kernel_rfl) (by kernel_rfl) fun KT hKT => ?_; ((try simp only [wpAftT_ret, wpAftT_pan, putS, updS, setS]); (repeat (rw [wpT_cons]; simp [wpAft_ret, wpAft_pan, wantD, evOp, opD, tmOf, putS, updS, setS, hOf, isFree, isTok, fillD, TK.isAgg, TK.known, partD, thenD, blockD, putAll, D.ofV, inB, binX, binD, binE, isCst, bndD, capB, IntKind.min, IntKind.max, IntKind.signed, IntKind.bits, dstOf, late, h1, h2, h3, h4])); (try simp only [wpT_nil])))
                (refine hKT _ _ _ _ (by kernel_rfl) ?_; clear hKT KT; (try simp only [thenD, blockD]))
                (refine hK _ _ _ ?_; clear hK K)
                refine wpD_part rfl (fun h => by simp at h) (fun _ => ?_)
                refine wpD_skip (hK3 _ _ _ ?_)
                clear hK3 K3
                (refine wpD_region tyOK ?_; ((try simp only [wpAft_ret, wpAft_pan, putS, updS, setS]); (repeat (rw [wpS_cons]; simp [wpAft_ret, wpAft_pan, wantD, evOp, opD, tmOf, putS, updS, setS, hOf, isFree, isTok, fillD, TK.isAgg, TK.known, partD, thenD, blockD, putAll, D.ofV, inB, binX, binD, binE, isCst, bndD, capB, IntKind.min, IntKind.max, IntKind.signed, IntKind.bits, dstOf, hw1])); (try simp only [wpS_nil, thenD, blockD])))
                (refine hA (m - 1) _ _ (by omega) (by simp [D.cut, D.low, D.lows, Cp.low, putAll, getW]) ?_)
                refine ⟨1, _, _, _, _, _, _, _, _, _, _, _, _, _, _, _, _, _, _, _, _, _, _, _, _, _, _, _, _, _, _, _, _, _, _, _, _, _, _, _, _, _, _, _, _, _, _, _, _, _, rfl, by omega, hnext hpb (fun j _ h => absurd h (by omega)), by simp [HO.cut, D.lows_pure _ _ (show D.pures [D.slice (List.map encP l) Cp.any] = true from Ps_pures l)]⟩
              · obtain ⟨j, rfl⟩ : ∃ j, k = j + 1 := ⟨k - 1, by omega⟩
                have hj1 : (0 : Int) < (j : Int) + 1 := by omega
                have hw2 : IntKind.i64.wrap (j : Int) = (j : Int) := i64w (by omega) (by omega)
                have hjl : j < l.length := by omega
                have hw3 : IntKind.i64.wrap ((j : Int) + 1 + 1) = (j : Int) + 1 + 1 := i64w (by omega) (by omega)
                obtain ⟨q, hq⟩ : ∃ q, q = l[j] := ⟨_, rfl⟩
                have hgq : l[j] = q := hq.symm
                by_cases h5 : p.1 ≤ q.1
                · (refine wpD_seqk fun K hK => ?_; refine wpD_drawk tyOK (by kernel_rfl) (by kernel_rfl) fun KT hKT => ?_; ((try simp only [wpAftT_ret, wpAftT_pan, putS, updS, setS]); (repeat (rw [wpT_cons]; simp [wpAft_ret, wpAft_pan, wantD, evOp, opD, tmOf, putS, updS, setS, hOf, isFree, isTok, fillD, TK.isAgg, TK.known, partD, thenD, blockD, putAll, D.ofV, inB, binX, binD, binE, isCst, bndD, capB, IntKind.min, IntKind.max, IntKind.signed, IntKind.bits, dstOf, late, h1, h2, h3, h4, hj1, hw2, hjl, hgq, encP, h5])); (try simp only [wpT_nil])))
                  (refine hKT _ _ _ _ (by kernel_rfl) ?_; clear hKT KT; (try simp only [thenD, blockD]))
                  (refine hK _ _ _ ?_; clear hK K)
                  refine wpD_part rfl (fun _ => ?_) (fun h => by simp at h)
                  rw [lr_desc hkl (by rw [hgq, hge]; omega)]
                  (refine wpD_seqk fun K hK => ?_; refine wpD_region tyOK ?_; ((try simp only [wpAft_ret, wpAft_pan, putS, updS, setS]); (repeat (rw [wpS_cons]; simp [wpAft_ret, wpAft_pan, wantD, evOp, opD, tmOf, putS, updS, setS, hOf, isFree, isTok, fillD, TK.isAgg, TK.known, partD, thenD, blockD, putAll, D.ofV, inB, binX, binD, binE, isCst, bndD, capB, IntKind.min, IntKind.max, IntKind.signed, IntKind.bits, dstOf])); (try simp only [wpS_nil, thenD, blockD])); refine hK _ _ _ ?_; clear hK K)
                  (refine wpD_ret ?_; (try simp only [thenD, blockD]); refine EndQ.ret rfl (.inl ?_); simp [tmOf, Out.fgt, D.fgt, D.fgts])
                · (refine wpD_seqk fun K hK => ?_; refine wpD_drawk tyOK (by kernel_rfl) (by kernel_rfl) fun KT hKT => ?_; ((try simp only [wpAftT_ret, wpAftT_pan, putS, updS, setS]); (repeat (rw [wpT_cons]; simp [wpAft_ret, wpAft_pan, wantD, evOp, opD, tmOf, putS, updS, setS, hOf, isFree, isTok, fillD, TK.isAgg, TK.known, partD, thenD, blockD, putAll, D.ofV, inB, binX, binD, binE, isCst, bndD, capB, IntKind.min, IntKind.max, IntKind.signed, IntKind.bits, dstOf, late, h1, h2, h3, h4, hj1, hw2, hjl, hgq, encP, h5])); (try simp only [wpT_nil])))
                  (refine hKT _ _ _ _ (by kernel_rfl) ?_; clear hKT KT; (try simp only [thenD, blockD]))
                  (refine hK _ _ _ ?_; clear hK K)
                  refine wpD_part rfl (fun h => by simp at h) (fun _ => ?_)
                  refine wpD_skip (hK3 _ _ _ ?_)
                  clear hK3 K3
                  (refine wpD_region tyOK ?_; ((try simp only [wpAft_ret, wpAft_pan, putS, updS, setS]); (repeat (rw [wpS_cons]; simp [wpAft_ret, wpAft_pan, wantD, evOp, opD, tmOf, putS, updS, setS, hOf, isFree, isTok, fillD, TK.isAgg, TK.known, partD, thenD, blockD, putAll, D.ofV, inB, binX, binD, binE, isCst, bndD, capB, IntKind.min, IntKind.max, IntKind.signed, IntKind.bits, dstOf, hw1, hw3])); (try simp only [wpS_nil, thenD, blockD])))
                  (refine hA (m - 1) _ _ (by omega) (by simp [D.cut, D.low, D.lows, Cp.low, putAll, getW]) ?_)
                  refine ⟨j + 1 + 1, _, _, _, _, _, _, _, _, _, _, _, _, _, _, _, _, _, _, _, _, _, _, _, _, _, _, _, _, _, _, _, _, _, _, _, _, _, _, _, _, _, _, _, _, _, _, _, _, _, by rw [show ((j + 1 + 1 : Nat) : Int) = (j : Int) + 1 + 1 by omega]; rfl, by omega, hnext hpb (fun i hi h => ?_), by simp [HO.cut, D.lows_pure _ _ (show D.pures [D.slice (List.map encP l) Cp.any] = true from Ps_pures l)]⟩
                  obtain rfl : i = j := by omega
                  rw [hgq, hge]; omega
    · replace hkl : ¬ k < l.length := by simpa using hkl
      refine wpD_exit ?_
      refine hK1 _ _ _ ?_
      obtain rfl : k = l.length := by omega
      have hend := lr_end he
      rw [show decide (l.length ≤ 9) = decide ((l.length : Int) ≤ 9) from by congr 1; exact propext (by omega)] at hend
      (refine wpD_seqk fun K hK => ?_; refine wpD_region tyOK ?_; ((try simp only [wpAft_ret, wpAft_pan, putS, updS, setS]); (repeat (rw [wpS_cons]; simp [wpAft_ret, wpAft_pan, wantD, evOp, opD, tmOf, putS, updS, setS, hOf, isFree, isTok, fillD, TK.isAgg, TK.known, partD, thenD, blockD, putAll, D.ofV, inB, binX, binD, binE, isCst, bndD, capB, IntKind.min, IntKind.max, IntKind.signed, IntKind.bits, dstOf])); (try simp only [wpS_nil, thenD, blockD])); refine hK _ _ _ ?_; clear hK K)
      (refine wpD_ret ?_; (try simp only [thenD, blockD]); refine EndQ.ret rfl (.inl ?_); simp [tmOf, Out.fgt, D.fgt, D.fgts])
      rw [hend]
end Go.Proofs.Ytbjgdeednmhpfaa
