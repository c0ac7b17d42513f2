/-
  The reference's Put, Value, on data.
-/
import Derived.Test.YtbjgdeednmhpfaaRrt
set_option linter.unusedSimpArgs false
set_option linter.unusedVariables false
set_option maxHeartbeats 10000000
set_option maxRecDepth 20000
namespace Go.Proofs.Ytbjgdeednmhpfaa
open Go.RowKit

def outT (rs : List LV) (k : Nat) : LV := (rs.take k).flatten
theorem outT_succ {rs : List LV} {k : Nat} (h : k < rs.length) : outT rs (k + 1) = outT rs k ++ rs[k] := by
  unfold outT
  rw [List.take_succ_eq_append_getElem h, List.flatten_append]; simp
theorem outT_end {rs : List LV} {k : Nat} (h : rs.length ≤ k) : outT rs k = rs.flatten := by unfold outT; rw [List.take_of_length_le h]
theorem outT_len (rs : List LV) (k : Nat) : (outT rs k).length ≤ rs.flatten.length := by
  conv => rhs; rw [← List.take_append_drop k rs, List.flatten_append, List.length_append]
  exact Nat.le_add_right ..
def addT (X : LV) (n : Int) (j : Nat) : LV := (X.take j).map (addP n)
theorem addT_succ {X : LV} {n : Int} {j : Nat} (h : j < X.length) : addT X n (j + 1) = addT X n j ++ [addP n X[j]] := by
  unfold addT; rw [List.take_succ_eq_append_getElem h, List.map_append]; rfl
theorem addT_end {X : LV} {n : Int} {j : Nat} (h : X.length ≤ j) : addT X n j = X.map (addP n) := by unfold addT; rw [List.take_of_length_le h]
theorem addT_len {X : LV} {n : Int} {j : Nat} (h : j ≤ X.length) : (addT X n j).length = j := by unfold addT; rw [List.length_map, List.length_take]; omega

def mixT (E X : LV) (n : Int) (j : Nat) : LV := E ++ addT X n j
theorem mixT_0 {E X : LV} {n : Int} : mixT E X n 0 = E := by simp [mixT, addT]
theorem mixT_succ {E X : LV} {n : Int} {j : Nat} (h : j < X.length) : mixT E X n (j + 1) = mixT E X n j ++ [addP n X[j]] := by unfold mixT; rw [addT_succ h, List.append_assoc]
theorem mixT_end {E X : LV} {n : Int} {j : Nat} (h : X.length ≤ j) : mixT E X n j = E ++ X.map (addP n) := by unfold mixT; rw [addT_end h]
theorem mixT_len {E X : LV} {n : Int} {j : Nat} (h : j ≤ X.length) : (mixT E X n j).length = E.length + j := by unfold mixT; rw [List.length_append, addT_len h]

set_option maxHeartbeats 20000000 in
theorem rPut_spec (l : LV) (bys : List LV) (hl : l.length < LMax) (hbl : bys.length ≤ LMax) (hbys : ∀ x, x ∈ bys → x.length < LMax) (hp : (putL l bys).length < LMax) : Spec Try.prog glob 18 [encL l, Lvs bys] [] (fun o _ => o.fgt = .ret (encL (normOf (putL l bys)))) := by
  have hsp := rnormN_spec l hl
  have hspo := rnormN_spec (putL l bys) hp
  have hnf := normOf_nf l
  have hnl := normOf_len l
  unfold LMax at hbl
  have hput : putL l bys = ((normOf l).map (rowP bys)).flatten := rfl
  generalize normOf (putL l bys) = R at hspo ⊢
  generalize putL l bys = O at hput hp hspo
  generalize normOf l = N at hsp hnf hnl hput
  obtain ⟨rs, hrs⟩ : ∃ rs, rs = N.map (rowP bys) := ⟨_, rfl⟩
  rw [← hrs] at hput
  have hrl : rs.length = N.length := by rw [hrs, List.length_map]
  have hE : ∀ l : LV, encL l = .agg [.slice (l.map encP) .any] := fun _ => rfl
  have hol := outT_len rs
  rw [← hput] at hol
  refine Spec.movd globPure (wpD_spec tyOK Try.func18 rfl (enters _ _ Try.func18 rfl (by decide)) rfl rfl ?_)
  rw [hE l, hE N] at hsp
  rw [hE O, hE R] at hspo
  rw [hE l, hE R]
  unfold Lvs
  (refine wpD_seqk fun K hK => ?_; refine wpD_region tyOK ?_; ((try simp only [wpAft_ret, wpAft_pan, putS, updS, setS]); (repeat (rw [wpS_cons]; simp [wpAft_ret, wpAft_pan, wantD, evOp, opD, tmOf, putS, updS, setS, hOf, isFree, isTok, fillD, TK.isAgg, TK.known, partD, thenD, blockD, putAll, D.ofV, inB, binX, binD, binE, isCst, bndD, capB, IntKind.min, IntKind.max, IntKind.signed, IntKind.bits, dstOf])); (try simp only [wpS_nil, thenD, blockD])); refine hK _ _ _ ?_; clear hK K)
  (refine wpD_seqk fun K hK => ?_; refine wpD_region tyOK ?_; ((try simp only [wpAft_ret, wpAft_pan, putS, updS, setS]); (repeat (rw [wpS_cons]; simp [wpAft_ret, wpAft_pan, wantD, evOp, opD, tmOf, putS, updS, setS, hOf, isFree, isTok, fillD, TK.isAgg, TK.known, partD, thenD, blockD, putAll, D.ofV, inB, binX, binD, binE, isCst, bndD, capB, IntKind.min, IntKind.max, IntKind.signed, IntKind.bits, dstOf])); (try simp only [wpS_nil, thenD, blockD])))
  refine CallX.pure globPure (hsp) ?_ (by simp [D.fgts, D.fgt, encPs_pure]) (by simp [D.pures, D.pure, Cp.free, D.pures_map, encPs_pure]) (by simp [Out.pure, D.pure, D.pures, Cp.free, D.pures_map, encPs_pure])
  ((try simp only [wpAft_ret, wpAft_pan, putS, updS, setS]); (repeat (rw [wpS_cons]; simp [wpAft_ret, wpAft_pan, wantD, evOp, opD, tmOf, putS, updS, setS, hOf, isFree, isTok, fillD, TK.isAgg, TK.known, partD, thenD, blockD, putAll, D.ofV, inB, binX, binD, binE, isCst, bndD, capB, IntKind.min, IntKind.max, IntKind.signed, IntKind.bits, dstOf])); (try simp only [wpS_nil, thenD, blockD]))
  (refine hK _ _ _ ?_; clear hK K)
  (refine wpD_seqk fun K hK => ?_; refine wpD_region tyOK ?_; ((try simp only [wpAft_ret, wpAft_pan, putS, updS, setS]); (repeat (rw [wpS_cons]; simp [wpAft_ret, wpAft_pan, wantD, evOp, opD, tmOf, putS, updS, setS, hOf, isFree, isTok, fillD, TK.isAgg, TK.known, partD, thenD, blockD, putAll, D.ofV, inB, binX, binD, binE, isCst, bndD, capB, IntKind.min, IntKind.max, IntKind.signed, IntKind.bits, dstOf])); (try simp only [wpS_nil, thenD, blockD])); refine hK _ _ _ ?_; clear hK K)
  refine wpD_ownO 2 0 2 (ty := 24) (ds := [.slice [] .full]) rfl ?_
  simp [D.ownd]
  refine wpD_seqk fun K1 hK1 => ?_
  (refine wpD_seqk fun K hK => ?_; refine wpD_region tyOK ?_; ((try simp only [wpAft_ret, wpAft_pan, putS, updS, setS]); (repeat (rw [wpS_cons]; simp [wpAft_ret, wpAft_pan, wantD, evOp, opD, tmOf, putS, updS, setS, hOf, isFree, isTok, fillD, TK.isAgg, TK.known, partD, thenD, blockD, putAll, D.ofV, inB, binX, binD, binE, isCst, bndD, capB, IntKind.min, IntKind.max, IntKind.signed, IntKind.bits, dstOf])); (try simp only [wpS_nil, thenD, blockD])); refine hK _ _ _ ?_; clear hK K)
  refine wpD_block ?_
  refine wpD_loopMJ globPure [7, 8, 9, 12, 13, 14, 15, 16, 17, 18, 19, 20, 21, 22, 23, 24, 25, 26, 27, 28, 29, 30, 31, 32, 33, 34, 35, 36, 37, 38, 39, 40, 41, 42, 43, 44, 45, 46, 47, 48, 49, 50, 51, 52, 53, 54, 55, 56, 57, 58, 59, 60, 61, 62, 63, 64, 65, 66, 67, 68, 69, 70, 71, 72, 73, 74, 75, 76, 77, 78, 79, 80, 81, 82, 83, 84, 85] [6] (fun n ys hl => ∃ (k : Nat), ys = [.int .i64 k] ∧ n + k = N.length ∧ hl = [.cells 24 [.slice (N.map encP) .any], .cells 24 [.slice [] .full], .cells 24 [.own 3 (outT rs k).length], .row 2 ((outT rs k).map encP)]) (N.length) (by kernel_rfl) ?_ ?_
  · exact ⟨0, rfl, rfl, rfl⟩
  · rintro n ys hl A hA hA2 ⟨k, rfl, hn, rfl⟩
    simp only [putAll, List.set, List.map_cons, List.map_nil, List.cons_append, List.nil_append]
    refine wpD_seqk fun K2 hK2 => ?_
    by_cases hk : k < N.length
    · have hk' : (k : Int) < N.length := by omega
      have hkr : k < rs.length := by omega
      obtain ⟨p, hpd⟩ : ∃ p, p = N[k] := ⟨_, rfl⟩
      have hge : N[k] = p := hpd.symm
      have hpb := badP_nn (hnf.ok N[k] (List.getElem_mem hk))
      rw [hge] at hpb
      have hos := outT_succ hkr
      have hrk : rs[k] = (xsP bys p).map (addP p.2) := by
        have : rs[k] = rowP bys N[k] := by simp [hrs]
        rw [this, hge]; rfl
      rw [hrk] at hos
      have hol1 := hol (k + 1)
      rw [hos, List.length_append, List.length_map] at hol1
      generalize outT rs k = E at hos hol1 ⊢
      have hw1 : IntKind.i64.wrap ((k : Int) + 1) = (k : Int) + 1 := i64w (by omega) (by omega)
      (refine wpD_seqk fun K hK => ?_; refine wpD_region tyOK ?_; ((try simp only [wpAft_ret, wpAft_pan, putS, updS, setS]); (repeat (rw [wpS_cons]; simp [wpAft_ret, wpAft_pan, wantD, evOp, opD, tmOf, putS, updS, setS, hOf, isFree, isTok, fillD, TK.isAgg, TK.known, partD, thenD, blockD, putAll, D.ofV, inB, binX, binD, binE, isCst, bndD, capB, IntKind.min, IntKind.max, IntKind.signed, IntKind.bits, dstOf, hk, hk'])); (try simp only [wpS_nil, thenD, blockD])); refine hK _ _ _ ?_; clear hK K)
      refine wpD_part rfl (fun _ => ?_) (fun h => by simp at h)
      refine wpD_skip (hK2 _ _ _ ?_)
      clear hK2 K2
      refine wpD_seqk fun K3 hK3 => ?_
      refine wpD_block ?_
      (refine wpD_seqk fun K hK => ?_; refine wpD_region tyOK ?_; ((try simp only [wpAft_ret, wpAft_pan, putS, updS, setS]); (repeat (rw [wpS_cons]; simp [wpAft_ret, wpAft_pan, wantD, evOp, opD, tmOf, putS, updS, setS, hOf, isFree, isTok, fillD, TK.isAgg, TK.known, partD, thenD, blockD, putAll, D.ofV, inB, binX, binD, binE, isCst, bndD, capB, IntKind.min, IntKind.max, IntKind.signed, IntKind.bits, dstOf, hk, hk', hge, encP])); (try simp only [wpS_nil, thenD, blockD])); refine hK _ _ _ ?_; clear hK K)
      have hX0 := xsP_ne bys p
      have hXok := xsP_ok bys p
      have hXe : xsP bys p = orZero (levOf bys p.1) := rfl
      have hlv : levOf bys p.1 = (if 0 < p.1 ∧ p.1 ≤ bys.length then normOf (bys.getD (p.1 - 1).toNat []) else []) := rfl
      generalize xsP bys p = X at hos hol1 hX0 hXok hXe
      have hXl : 0 < X.length := List.length_pos_iff.2 hX0
      have hE1 : E.length + 1 ≤ LMax := by omega
      have hOL : E.length + X.length ≤ LMax := by omega
      refine wpD_seqk fun K4 hK4 => ?_
      by_cases h0 : p.1 = 0
      · rw [if_neg (by omega)] at hlv
        rw [hlv] at hXe
        have hXe' : X = [(0, 0)] := hXe
        subst hXe'
        (refine wpD_seqk fun K hK => ?_; refine wpD_region tyOK ?_; ((try simp only [wpAft_ret, wpAft_pan, putS, updS, setS]); (repeat (rw [wpS_cons]; simp [wpAft_ret, wpAft_pan, wantD, evOp, opD, tmOf, putS, updS, setS, hOf, isFree, isTok, fillD, TK.isAgg, TK.known, partD, thenD, blockD, putAll, D.ofV, inB, binX, binD, binE, isCst, bndD, capB, IntKind.min, IntKind.max, IntKind.signed, IntKind.bits, dstOf, h0])); (try simp only [wpS_nil, thenD, blockD])); refine hK _ _ _ ?_; clear hK K)
        refine wpD_part rfl (fun _ => ?_) (fun h => by simp at h)
        (refine wpD_seqk fun K hK => ?_; refine wpD_region tyOK ?_; ((try simp only [wpAft_ret, wpAft_pan, putS, updS, setS]); (repeat (rw [wpS_cons]; simp [wpAft_ret, wpAft_pan, wantD, evOp, opD, tmOf, putS, updS, setS, hOf, isFree, isTok, fillD, TK.isAgg, TK.known, partD, thenD, blockD, putAll, D.ofV, inB, binX, binD, binE, isCst, bndD, capB, IntKind.min, IntKind.max, IntKind.signed, IntKind.bits, dstOf, hE1])); (try simp only [wpS_nil, thenD, blockD])); refine hK _ _ _ ?_; clear hK K)
        refine wpD_exit ?_
        refine hK3 _ _ _ ?_
        clear hK3 K3 hK4 K4
        (refine wpD_region tyOK ?_; ((try simp only [wpAft_ret, wpAft_pan, putS, updS, setS]); (repeat (rw [wpS_cons]; simp [wpAft_ret, wpAft_pan, wantD, evOp, opD, tmOf, putS, updS, setS, hOf, isFree, isTok, fillD, TK.isAgg, TK.known, partD, thenD, blockD, putAll, D.ofV, inB, binX, binD, binE, isCst, bndD, capB, IntKind.min, IntKind.max, IntKind.signed, IntKind.bits, dstOf, hw1])); (try simp only [wpS_nil, thenD, blockD])))
        (refine hA2 ([0, 1, 2, 5]) (n - 1) _ _ (by decide) (by simp) (by omega) (by simp [movT, movH, movD, D.mov, HO.mov, okM, renM, getW, D.ren, D.rens, D.okN, D.okNs, Cp.ren, Cp.okN, HO.ren, HO.okN, okA, renA, renO, hOf, handed, D.fgt, D.fgts, List.range_succ, List.idxOf_cons, putAll]) ?_; simp [movT, movH, movD, D.mov, HO.mov, okM, renM, getW, D.ren, D.rens, D.okN, D.okNs, Cp.ren, Cp.okN, HO.ren, HO.okN, okA, renA, renO, hOf, handed, D.fgt, D.fgts, List.range_succ, List.idxOf_cons])
        refine ⟨k + 1, by omega, by omega, ?_⟩
        rw [hos]
        simp [encP, addP, h0]
      · have h1 : 0 < p.1 := by omega
        (refine wpD_seqk fun K hK => ?_; refine wpD_region tyOK ?_; ((try simp only [wpAft_ret, wpAft_pan, putS, updS, setS]); (repeat (rw [wpS_cons]; simp [wpAft_ret, wpAft_pan, wantD, evOp, opD, tmOf, putS, updS, setS, hOf, isFree, isTok, fillD, TK.isAgg, TK.known, partD, thenD, blockD, putAll, D.ofV, inB, binX, binD, binE, isCst, bndD, capB, IntKind.min, IntKind.max, IntKind.signed, IntKind.bits, dstOf, h0])); (try simp only [wpS_nil, thenD, blockD])); refine hK _ _ _ ?_; clear hK K)
        refine wpD_part rfl (fun h => by simp at h) (fun _ => ?_)
        refine wpD_skip (hK4 _ _ _ ?_)
        clear hK4 K4
        (refine wpD_seqk fun K hK => ?_; refine wpD_region tyOK ?_; ((try simp only [wpAft_ret, wpAft_pan, putS, updS, setS]); (repeat (rw [wpS_cons]; simp [wpAft_ret, wpAft_pan, wantD, evOp, opD, tmOf, putS, updS, setS, hOf, isFree, isTok, fillD, TK.isAgg, TK.known, partD, thenD, blockD, putAll, D.ofV, inB, binX, binD, binE, isCst, bndD, capB, IntKind.min, IntKind.max, IntKind.signed, IntKind.bits, dstOf])); (try simp only [wpS_nil, thenD, blockD])); refine hK _ _ _ ?_; clear hK K)
        refine wpD_seqk fun K4 hK4 => ?_
        by_cases h2 : p.1 ≤ bys.length
        · obtain ⟨j0, hj0⟩ : ∃ j0 : Nat, p.1 - 1 = j0 := ⟨(p.1 - 1).toNat, by omega⟩
          have hjl : j0 < bys.length := by omega
          have hw0 : IntKind.i64.wrap (p.1 - 1) = (j0 : Int) := by rw [i64w (by omega) (by omega)]; exact hj0
          have hgd : bys.getD (p.1 - 1).toNat [] = bys[j0] := by rw [hj0]; simp [List.getD_eq_getElem?_getD, hjl]
          rw [if_pos ⟨h1, h2⟩, hgd] at hlv
          rw [hlv] at hXe
          unfold orZero at hXe
          have hspj := rnormN_spec bys[j0] (hbys _ (List.getElem_mem hjl))
          have hYl : (normOf bys[j0]).length ≤ 274877906944 := normOf_lmax bys[j0]
          unfold encL at hspj
          generalize normOf bys[j0] = Y at hXe hspj hYl
          (refine wpD_seqk fun K hK => ?_; refine wpD_region tyOK ?_; ((try simp only [wpAft_ret, wpAft_pan, putS, updS, setS]); (repeat (rw [wpS_cons]; simp [wpAft_ret, wpAft_pan, wantD, evOp, opD, tmOf, putS, updS, setS, hOf, isFree, isTok, fillD, TK.isAgg, TK.known, partD, thenD, blockD, putAll, D.ofV, inB, binX, binD, binE, isCst, bndD, capB, IntKind.min, IntKind.max, IntKind.signed, IntKind.bits, dstOf, h2])); (try simp only [wpS_nil, thenD, blockD])); refine hK _ _ _ ?_; clear hK K)
          refine wpD_part rfl (fun _ => ?_) (fun h => by simp at h)
          (refine wpD_region tyOK ?_; ((try simp only [wpAft_ret, wpAft_pan, putS, updS, setS]); (repeat (rw [wpS_cons]; simp [wpAft_ret, wpAft_pan, wantD, evOp, opD, tmOf, putS, updS, setS, hOf, isFree, isTok, fillD, TK.isAgg, TK.known, partD, thenD, blockD, putAll, D.ofV, inB, binX, binD, binE, isCst, bndD, capB, IntKind.min, IntKind.max, IntKind.signed, IntKind.bits, dstOf, hw0, hjl, encL])); (try simp only [wpS_nil, thenD, blockD])))
          refine CallX.pure globPure (hspj) ?_ (by simp [D.fgts, D.fgt, encPs_pure]) (by simp [D.pures, D.pure, Cp.free, D.pures_map, encPs_pure]) (by simp [Out.pure, D.pure, D.pures, Cp.free, D.pures_map, encPs_pure])
          ((try simp only [wpAft_ret, wpAft_pan, putS, updS, setS]); (repeat (rw [wpS_cons]; simp [wpAft_ret, wpAft_pan, wantD, evOp, opD, tmOf, putS, updS, setS, hOf, isFree, isTok, fillD, TK.isAgg, TK.known, partD, thenD, blockD, putAll, D.ofV, inB, binX, binD, binE, isCst, bndD, capB, IntKind.min, IntKind.max, IntKind.signed, IntKind.bits, dstOf])); (try simp only [wpS_nil, thenD, blockD]))
          refine hK4 _ _ _ ?_
          clear hK4 K4
          refine wpD_seqk fun K5 hK5 => ?_
          by_cases hY : Y = []
          · subst hY
            rw [if_pos rfl] at hXe
            subst hXe
            (refine wpD_seqk fun K hK => ?_; refine wpD_region tyOK ?_; ((try simp only [wpAft_ret, wpAft_pan, putS, updS, setS]); (repeat (rw [wpS_cons]; simp [wpAft_ret, wpAft_pan, wantD, evOp, opD, tmOf, putS, updS, setS, hOf, isFree, isTok, fillD, TK.isAgg, TK.known, partD, thenD, blockD, putAll, D.ofV, inB, binX, binD, binE, isCst, bndD, capB, IntKind.min, IntKind.max, IntKind.signed, IntKind.bits, dstOf])); (try simp only [wpS_nil, thenD, blockD])); refine hK _ _ _ ?_; clear hK K)
            refine wpD_part rfl (fun _ => ?_) (fun h => by simp at h)
            (refine wpD_region tyOK ?_; ((try simp only [wpAft_ret, wpAft_pan, putS, updS, setS]); (repeat (rw [wpS_cons]; simp [wpAft_ret, wpAft_pan, wantD, evOp, opD, tmOf, putS, updS, setS, hOf, isFree, isTok, fillD, TK.isAgg, TK.known, partD, thenD, blockD, putAll, D.ofV, inB, binX, binD, binE, isCst, bndD, capB, IntKind.min, IntKind.max, IntKind.signed, IntKind.bits, dstOf, hE1])); (try simp only [wpS_nil, thenD, blockD])))
            refine hK5 _ _ _ ?_
            clear hK5 K5
            (refine wpD_seqk fun K hK => ?_; refine wpD_region tyOK ?_; ((try simp only [wpAft_ret, wpAft_pan, putS, updS, setS]); (repeat (rw [wpS_cons]; simp [wpAft_ret, wpAft_pan, wantD, evOp, opD, tmOf, putS, updS, setS, hOf, isFree, isTok, fillD, TK.isAgg, TK.known, partD, thenD, blockD, putAll, D.ofV, inB, binX, binD, binE, isCst, bndD, capB, IntKind.min, IntKind.max, IntKind.signed, IntKind.bits, dstOf])); (try simp only [wpS_nil, thenD, blockD])); refine hK _ _ _ ?_; clear hK K)
            refine wpD_block ?_
            refine wpD_loopWJ [58, 59, 60, 61, 62, 63, 64, 65, 66, 67, 68, 69, 70, 71, 72, 73, 74, 75, 76, 77, 78, 79, 80, 81, 82, 83, 84, 85] [9] (fun n ys hl => ys = [.int .i64 0] ∧ hl = [.cells 24 [.slice (N.map encP) .any], .cells 24 [.slice [] .full], .cells 24 [.own 6 (E.length + 1)], .dead, .cells 39 [.int .i64 p.1, .int .i64 p.2], .cells 24 [.slice [] .any], .row 2 (E.map encP ++ [D.agg [.int .i64 0, .int .i64 p.2]])]) (0) (by kernel_rfl) ?_ ?_
            · exact ⟨rfl, rfl⟩
            · rintro n2 ys hl Ab hAb ⟨rfl, rfl⟩
              simp only [putAll, List.set, List.map_cons, List.map_nil, List.cons_append, List.nil_append]
              refine wpD_seqk fun K6 hK6 => ?_
              (refine wpD_seqk fun K hK => ?_; refine wpD_region tyOK ?_; ((try simp only [wpAft_ret, wpAft_pan, putS, updS, setS]); (repeat (rw [wpS_cons]; simp [wpAft_ret, wpAft_pan, wantD, evOp, opD, tmOf, putS, updS, setS, hOf, isFree, isTok, fillD, TK.isAgg, TK.known, partD, thenD, blockD, putAll, D.ofV, inB, binX, binD, binE, isCst, bndD, capB, IntKind.min, IntKind.max, IntKind.signed, IntKind.bits, dstOf])); (try simp only [wpS_nil, thenD, blockD])); refine hK _ _ _ ?_; clear hK K)
              refine wpD_part rfl (fun h => by simp at h) (fun _ => ?_)
              refine wpD_exit ?_
              refine hK3 _ _ _ ?_
              clear hK3 K3 hK6 K6 hAb Ab
              (refine wpD_region tyOK ?_; ((try simp only [wpAft_ret, wpAft_pan, putS, updS, setS]); (repeat (rw [wpS_cons]; simp [wpAft_ret, wpAft_pan, wantD, evOp, opD, tmOf, putS, updS, setS, hOf, isFree, isTok, fillD, TK.isAgg, TK.known, partD, thenD, blockD, putAll, D.ofV, inB, binX, binD, binE, isCst, bndD, capB, IntKind.min, IntKind.max, IntKind.signed, IntKind.bits, dstOf, hw1])); (try simp only [wpS_nil, thenD, blockD])))
              (refine hA2 ([0, 1, 2, 6]) (n - 1) _ _ (by decide) (by simp) (by omega) (by simp [movT, movH, movD, D.mov, HO.mov, okM, renM, getW, D.ren, D.rens, D.okN, D.okNs, Cp.ren, Cp.okN, HO.ren, HO.okN, okA, renA, renO, hOf, handed, D.fgt, D.fgts, List.range_succ, List.idxOf_cons, putAll]) ?_; simp [movT, movH, movD, D.mov, HO.mov, okM, renM, getW, D.ren, D.rens, D.okN, D.okNs, Cp.ren, Cp.okN, HO.ren, HO.okN, okA, renA, renO, hOf, handed, D.fgt, D.fgts, List.range_succ, List.idxOf_cons])
              refine ⟨k + 1, by omega, by omega, ?_⟩
              rw [hos]
              simp [encP, addP]
          · rw [if_neg hY] at hXe
            subst hXe
            have hY0 : ¬ (X.length : Int) = 0 := by omega
            (refine wpD_seqk fun K hK => ?_; refine wpD_region tyOK ?_; ((try simp only [wpAft_ret, wpAft_pan, putS, updS, setS]); (repeat (rw [wpS_cons]; simp [wpAft_ret, wpAft_pan, wantD, evOp, opD, tmOf, putS, updS, setS, hOf, isFree, isTok, fillD, TK.isAgg, TK.known, partD, thenD, blockD, putAll, D.ofV, inB, binX, binD, binE, isCst, bndD, capB, IntKind.min, IntKind.max, IntKind.signed, IntKind.bits, dstOf, hY, hY0])); (try simp only [wpS_nil, thenD, blockD])); refine hK _ _ _ ?_; clear hK K)
            refine wpD_part rfl (fun h => by simp at h) (fun _ => ?_)
            refine wpD_skip (hK5 _ _ _ ?_)
            clear hK5 K5
            (refine wpD_seqk fun K hK => ?_; refine wpD_region tyOK ?_; ((try simp only [wpAft_ret, wpAft_pan, putS, updS, setS]); (repeat (rw [wpS_cons]; simp [wpAft_ret, wpAft_pan, wantD, evOp, opD, tmOf, putS, updS, setS, hOf, isFree, isTok, fillD, TK.isAgg, TK.known, partD, thenD, blockD, putAll, D.ofV, inB, binX, binD, binE, isCst, bndD, capB, IntKind.min, IntKind.max, IntKind.signed, IntKind.bits, dstOf])); (try simp only [wpS_nil, thenD, blockD])); refine hK _ _ _ ?_; clear hK K)
            refine wpD_block ?_
            have hA20 := hA2
            refine wpD_loopMJ globPure [58, 59, 60, 61, 62, 63, 64, 65, 66, 67, 68, 69, 70, 71, 72, 73, 74, 75, 76, 77, 78, 79, 80, 81, 82, 83, 84, 85] [9] (fun n ys hl => ∃ (j : Nat), ys = [.int .i64 j] ∧ n + j = X.length ∧ hl = [.cells 24 [.slice (N.map encP) .any], .cells 24 [.slice [] .full], .cells 24 [.own 3 (mixT E X p.2 j).length], .row 2 ((mixT E X p.2 j).map encP), .cells 39 [.int .i64 p.1, .int .i64 p.2], .cells 24 [.slice (X.map encP) .any]]) (X.length) (by kernel_rfl) ?_ ?_
            · exact ⟨0, rfl, rfl, by rw [mixT_0]⟩
            · rintro n2 ys hl Ab hA hA2 ⟨j, rfl, hn2, rfl⟩
              simp only [putAll, List.set, List.map_cons, List.map_nil, List.cons_append, List.nil_append]
              refine wpD_seqk fun K6 hK6 => ?_
              by_cases hj : j < X.length
              · have hj' : (j : Int) < X.length := by omega
                obtain ⟨q, hqd⟩ : ∃ q, q = X[j] := ⟨_, rfl⟩
                have hgq : X[j] = q := hqd.symm
                have hqb := badP_nn (hXok X[j] (List.getElem_mem hj))
                rw [hgq] at hqb
                have hF1 := mixT_succ (E := E) (n := p.2) hj
                rw [hgq] at hF1
                have hFl := mixT_len (E := E) (n := p.2) (Nat.le_of_lt hj)
                replace hFl : (mixT E X p.2 j).length + 1 ≤ LMax := by omega
                generalize mixT E X p.2 j = F at hFl hF1 ⊢
                have hw2 : IntKind.i64.wrap ((j : Int) + 1) = (j : Int) + 1 := i64w (by omega) (by omega)
                have hw3 : IntKind.i64.wrap (q.2 + p.2) = q.2 + p.2 := i64w (by omega) (by omega)
                (refine wpD_seqk fun K hK => ?_; refine wpD_region tyOK ?_; ((try simp only [wpAft_ret, wpAft_pan, putS, updS, setS]); (repeat (rw [wpS_cons]; simp [wpAft_ret, wpAft_pan, wantD, evOp, opD, tmOf, putS, updS, setS, hOf, isFree, isTok, fillD, TK.isAgg, TK.known, partD, thenD, blockD, putAll, D.ofV, inB, binX, binD, binE, isCst, bndD, capB, IntKind.min, IntKind.max, IntKind.signed, IntKind.bits, dstOf, hj, hj'])); (try simp only [wpS_nil, thenD, blockD])); refine hK _ _ _ ?_; clear hK K)
                refine wpD_part rfl (fun _ => ?_) (fun h => by simp at h)
                refine wpD_skip (hK6 _ _ _ ?_)
                clear hK6 K6
                refine wpD_seqk fun K7 hK7 => ?_
                refine wpD_block ?_
                (refine wpD_drawk tyOK (by kernel_rfl) (by kernel_rfl) fun KT hKT => ?_; ((try simp only [wpAftT_ret, wpAftT_pan, putS, updS, setS]); (repeat (rw [wpT_cons]; simp [wpAft_ret, wpAft_pan, wantD, evOp, opD, tmOf, putS, updS, setS, hOf, isFree, isTok, fillD, TK.isAgg, TK.known, partD, thenD, blockD, putAll, D.ofV, inB, binX, binD, binE, isCst, bndD, capB, IntKind.min, IntKind.max, IntKind.signed, IntKind.bits, dstOf, late, hj, hj', hgq, encP, hFl, hw3])); (try simp only [wpT_nil])))
                (refine hKT _ _ _ _ (by kernel_rfl) ?_; clear hKT KT; (try simp only [thenD, blockD]))
                refine hK7 _ _ _ ?_
                clear hK7 K7
                (refine wpD_region tyOK ?_; ((try simp only [wpAft_ret, wpAft_pan, putS, updS, setS]); (repeat (rw [wpS_cons]; simp [wpAft_ret, wpAft_pan, wantD, evOp, opD, tmOf, putS, updS, setS, hOf, isFree, isTok, fillD, TK.isAgg, TK.known, partD, thenD, blockD, putAll, D.ofV, inB, binX, binD, binE, isCst, bndD, capB, IntKind.min, IntKind.max, IntKind.signed, IntKind.bits, dstOf, hw2])); (try simp only [wpS_nil, thenD, blockD])))
                (refine hA2 ([0, 1, 2, 6, 4, 5]) (n2 - 1) _ _ (by decide) (by simp) (by omega) (by simp [movT, movH, movD, D.mov, HO.mov, okM, renM, getW, D.ren, D.rens, D.okN, D.okNs, Cp.ren, Cp.okN, HO.ren, HO.okN, okA, renA, renO, hOf, handed, D.fgt, D.fgts, List.range_succ, List.idxOf_cons, putAll]) ?_; simp [movT, movH, movD, D.mov, HO.mov, okM, renM, getW, D.ren, D.rens, D.okN, D.okNs, Cp.ren, Cp.okN, HO.ren, HO.okN, okA, renA, renO, hOf, handed, D.fgt, D.fgts, List.range_succ, List.idxOf_cons])
                refine ⟨j + 1, by omega, by omega, ?_⟩
                rw [hF1]
                simp [encP, addP]
              · have hj' : ¬ (j : Int) < X.length := by omega
                (refine wpD_seqk fun K hK => ?_; refine wpD_region tyOK ?_; ((try simp only [wpAft_ret, wpAft_pan, putS, updS, setS]); (repeat (rw [wpS_cons]; simp [wpAft_ret, wpAft_pan, wantD, evOp, opD, tmOf, putS, updS, setS, hOf, isFree, isTok, fillD, TK.isAgg, TK.known, partD, thenD, blockD, putAll, D.ofV, inB, binX, binD, binE, isCst, bndD, capB, IntKind.min, IntKind.max, IntKind.signed, IntKind.bits, dstOf, hj, hj'])); (try simp only [wpS_nil, thenD, blockD])); refine hK _ _ _ ?_; clear hK K)
                refine wpD_part rfl (fun h => by simp at h) (fun _ => ?_)
                refine wpD_exit ?_
                refine hK3 _ _ _ ?_
                clear hK3 K3 hK6 K6 hA hA2 Ab
                have hA2 := hA20
                rw [mixT_end (by omega), ← hos]
                (refine wpD_region tyOK ?_; ((try simp only [wpAft_ret, wpAft_pan, putS, updS, setS]); (repeat (rw [wpS_cons]; simp [wpAft_ret, wpAft_pan, wantD, evOp, opD, tmOf, putS, updS, setS, hOf, isFree, isTok, fillD, TK.isAgg, TK.known, partD, thenD, blockD, putAll, D.ofV, inB, binX, binD, binE, isCst, bndD, capB, IntKind.min, IntKind.max, IntKind.signed, IntKind.bits, dstOf, hw1])); (try simp only [wpS_nil, thenD, blockD])))
                (refine hA2 ([0, 1, 2, 3]) (n - 1) _ _ (by decide) (by simp) (by omega) (by simp [movT, movH, movD, D.mov, HO.mov, okM, renM, getW, D.ren, D.rens, D.okN, D.okNs, Cp.ren, Cp.okN, HO.ren, HO.okN, okA, renA, renO, hOf, handed, D.fgt, D.fgts, List.range_succ, List.idxOf_cons, putAll]) ?_; simp [movT, movH, movD, D.mov, HO.mov, okM, renM, getW, D.ren, D.rens, D.okN, D.okNs, Cp.ren, Cp.okN, HO.ren, HO.okN, okA, renA, renO, hOf, handed, D.fgt, D.fgts, List.range_succ, List.idxOf_cons])
                exact ⟨k + 1, by omega, by omega, rfl, rfl⟩
        · rw [if_neg (by omega)] at hlv
          rw [hlv] at hXe
          have hXe' : X = [(0, 0)] := hXe
          subst hXe'
          (refine wpD_seqk fun K hK => ?_; refine wpD_region tyOK ?_; ((try simp only [wpAft_ret, wpAft_pan, putS, updS, setS]); (repeat (rw [wpS_cons]; simp [wpAft_ret, wpAft_pan, wantD, evOp, opD, tmOf, putS, updS, setS, hOf, isFree, isTok, fillD, TK.isAgg, TK.known, partD, thenD, blockD, putAll, D.ofV, inB, binX, binD, binE, isCst, bndD, capB, IntKind.min, IntKind.max, IntKind.signed, IntKind.bits, dstOf, h2])); (try simp only [wpS_nil, thenD, blockD])); refine hK _ _ _ ?_; clear hK K)
          refine wpD_part rfl (fun h => by simp at h) (fun _ => ?_)
          refine wpD_skip (hK4 _ _ _ ?_)
          clear hK4 K4
          refine wpD_seqk fun K5 hK5 => ?_
          (refine wpD_seqk fun K hK => ?_; refine wpD_region tyOK ?_; ((try simp only [wpAft_ret, wpAft_pan, putS, updS, setS]); (repeat (rw [wpS_cons]; simp [wpAft_ret, wpAft_pan, wantD, evOp, opD, tmOf, putS, updS, setS, hOf, isFree, isTok, fillD, TK.isAgg, TK.known, partD, thenD, blockD, putAll, D.ofV, inB, binX, binD, binE, isCst, bndD, capB, IntKind.min, IntKind.max, IntKind.signed, IntKind.bits, dstOf])); (try simp only [wpS_nil, thenD, blockD])); refine hK _ _ _ ?_; clear hK K)
          refine wpD_part rfl (fun _ => ?_) (fun h => by simp at h)
          (refine wpD_region tyOK ?_; ((try simp only [wpAft_ret, wpAft_pan, putS, updS, setS]); (repeat (rw [wpS_cons]; simp [wpAft_ret, wpAft_pan, wantD, evOp, opD, tmOf, putS, updS, setS, hOf, isFree, isTok, fillD, TK.isAgg, TK.known, partD, thenD, blockD, putAll, D.ofV, inB, binX, binD, binE, isCst, bndD, capB, IntKind.min, IntKind.max, IntKind.signed, IntKind.bits, dstOf, hE1])); (try simp only [wpS_nil, thenD, blockD])))
          refine hK5 _ _ _ ?_
          clear hK5 K5
          (refine wpD_seqk fun K hK => ?_; refine wpD_region tyOK ?_; ((try simp only [wpAft_ret, wpAft_pan, putS, updS, setS]); (repeat (rw [wpS_cons]; simp [wpAft_ret, wpAft_pan, wantD, evOp, opD, tmOf, putS, updS, setS, hOf, isFree, isTok, fillD, TK.isAgg, TK.known, partD, thenD, blockD, putAll, D.ofV, inB, binX, binD, binE, isCst, bndD, capB, IntKind.min, IntKind.max, IntKind.signed, IntKind.bits, dstOf])); (try simp only [wpS_nil, thenD, blockD])); refine hK _ _ _ ?_; clear hK K)
          refine wpD_block ?_
          refine wpD_loopWJ [58, 59, 60, 61, 62, 63, 64, 65, 66, 67, 68, 69, 70, 71, 72, 73, 74, 75, 76, 77, 78, 79, 80, 81, 82, 83, 84, 85] [9] (fun n ys hl => ys = [.int .i64 0] ∧ hl = [.cells 24 [.slice (N.map encP) .any], .cells 24 [.slice [] .full], .cells 24 [.own 6 (E.length + 1)], .dead, .cells 39 [.int .i64 p.1, .int .i64 p.2], .cells 24 [.slice [] .full], .row 2 (E.map encP ++ [D.agg [.int .i64 0, .int .i64 p.2]])]) (0) (by kernel_rfl) ?_ ?_
          · exact ⟨rfl, rfl⟩
          · rintro n2 ys hl Ab hAb ⟨rfl, rfl⟩
            simp only [putAll, List.set, List.map_cons, List.map_nil, List.cons_append, List.nil_append]
            refine wpD_seqk fun K6 hK6 => ?_
            (refine wpD_seqk fun K hK => ?_; refine wpD_region tyOK ?_; ((try simp only [wpAft_ret, wpAft_pan, putS, updS, setS]); (repeat (rw [wpS_cons]; simp [wpAft_ret, wpAft_pan, wantD, evOp, opD, tmOf, putS, updS, setS, hOf, isFree, isTok, fillD, TK.isAgg, TK.known, partD, thenD, blockD, putAll, D.ofV, inB, binX, binD, binE, isCst, bndD, capB, IntKind.min, IntKind.max, IntKind.signed, IntKind.bits, dstOf])); (try simp only [wpS_nil, thenD, blockD])); refine hK _ _ _ ?_; clear hK K)
            refine wpD_part rfl (fun h => by simp at h) (fun _ => ?_)
            refine wpD_exit ?_
            refine hK3 _ _ _ ?_
            clear hK3 K3 hK6 K6 hAb Ab
            (refine wpD_region tyOK ?_; ((try simp only [wpAft_ret, wpAft_pan, putS, updS, setS]); (repeat (rw [wpS_cons]; simp [wpAft_ret, wpAft_pan, wantD, evOp, opD, tmOf, putS, updS, setS, hOf, isFree, isTok, fillD, TK.isAgg, TK.known, partD, thenD, blockD, putAll, D.ofV, inB, binX, binD, binE, isCst, bndD, capB, IntKind.min, IntKind.max, IntKind.signed, IntKind.bits, dstOf, hw1])); (try simp only [wpS_nil, thenD, blockD])))
            (refine hA2 ([0, 1, 2, 6]) (n - 1) _ _ (by decide) (by simp) (by omega) (by simp [movT, movH, movD, D.mov, HO.mov, okM, renM, getW, D.ren, D.rens, D.okN, D.okNs, Cp.ren, Cp.okN, HO.ren, HO.okN, okA, renA, renO, hOf, handed, D.fgt, D.fgts, List.range_succ, List.idxOf_cons, putAll]) ?_; simp [movT, movH, movD, D.mov, HO.mov, okM, renM, getW, D.ren, D.rens, D.okN, D.okNs, Cp.ren, Cp.okN, HO.ren, HO.okN, okA, renA, renO, hOf, handed, D.fgt, D.fgts, List.range_succ, List.idxOf_cons])
            refine ⟨k + 1, by omega, by omega, ?_⟩
            rw [hos]
            simp [encP, addP]
    · have hk' : ¬ (k : Int) < N.length := by omega
      (refine wpD_seqk fun K hK => ?_; refine wpD_region tyOK ?_; ((try simp only [wpAft_ret, wpAft_pan, putS, updS, setS]); (repeat (rw [wpS_cons]; simp [wpAft_ret, wpAft_pan, wantD, evOp, opD, tmOf, putS, updS, setS, hOf, isFree, isTok, fillD, TK.isAgg, TK.known, partD, thenD, blockD, putAll, D.ofV, inB, binX, binD, binE, isCst, bndD, capB, IntKind.min, IntKind.max, IntKind.signed, IntKind.bits, dstOf, hk, hk'])); (try simp only [wpS_nil, thenD, blockD])); refine hK _ _ _ ?_; clear hK K)
      refine wpD_part rfl (fun h => by simp at h) (fun _ => ?_)
      refine wpD_exit ?_
      refine hK1 _ _ _ ?_
      clear hK1 K1 hK2 K2 hA hA2 A
      rw [outT_end (by omega), ← hput]
      (refine wpD_stayO 3 rfl ?_; simp [D.frzs, D.frz, HO.frz, dfFrz, FK.isB, FK.isM, FK.isO, D.isLen])
      (refine wpD_seqk fun K hK => ?_; refine wpD_region tyOK ?_; ((try simp only [wpAft_ret, wpAft_pan, putS, updS, setS]); (repeat (rw [wpS_cons]; simp [wpAft_ret, wpAft_pan, wantD, evOp, opD, tmOf, putS, updS, setS, hOf, isFree, isTok, fillD, TK.isAgg, TK.known, partD, thenD, blockD, putAll, D.ofV, inB, binX, binD, binE, isCst, bndD, capB, IntKind.min, IntKind.max, IntKind.signed, IntKind.bits, dstOf])); (try simp only [wpS_nil, thenD, blockD])))
      refine CallX.pure globPure (hspo) ?_ (by simp [D.fgts, D.fgt, encPs_pure]) (by simp [D.pures, D.pure, Cp.free, D.pures_map, encPs_pure]) (by simp [Out.pure, D.pure, D.pures, Cp.free, D.pures_map, encPs_pure])
      ((try simp only [wpAft_ret, wpAft_pan, putS, updS, setS]); (repeat (rw [wpS_cons]; simp [wpAft_ret, wpAft_pan, wantD, evOp, opD, tmOf, putS, updS, setS, hOf, isFree, isTok, fillD, TK.isAgg, TK.known, partD, thenD, blockD, putAll, D.ofV, inB, binX, binD, binE, isCst, bndD, capB, IntKind.min, IntKind.max, IntKind.signed, IntKind.bits, dstOf])); (try simp only [wpS_nil, thenD, blockD]))
      (refine hK _ _ _ ?_; clear hK K)
      (refine wpD_ret ?_; (try simp only [thenD, blockD]); refine EndQ.ret rfl (.inl ?_); simp [tmOf, Out.fgt, D.fgt, D.fgts])

def valT (ns : List Int) (N : LV) (k : Nat) : Int := valN ns (N.take k)
theorem valT_succ {ns : List Int} {N : LV} {k : Nat} (h : k < N.length) : valT ns N (k + 1) = max (valT ns N k) (numV ns N[k].1 + N[k].2) := by
  unfold valT valN
  rw [List.take_succ_eq_append_getElem h, List.foldl_append]; rfl
theorem valT_end {ns : List Int} {N : LV} {k : Nat} (h : N.length ≤ k) : valT ns N k = valN ns N := by unfold valT; rw [List.take_of_length_le h]
theorem valT_nn {ns : List Int} {N : LV} {k : Nat} (h : okV N) : 0 ≤ valT ns N k ∧ valT ns N k ≤ 2097152 := valN_nn ns _ 0 (fun p hp => h p (List.mem_of_mem_take hp)) (by omega) (by omega)

theorem rvalue_spec (l : LV) (ns : List Int) (hl : l.length < LMax) (hn : ns.length ≤ LMax) : Spec Try.prog glob 19 [encL l, Ints ns] [] (fun o _ => o.fgt = .ret (.int .i64 (valN ns (normOf l)))) := by
  have hsp := rnormN_spec l hl
  have hok := norm_okV l
  have hnl := normOf_len l
  unfold LMax at hn
  generalize normOf l = N at hsp hok hnl ⊢
  unfold encL at hsp ⊢
  unfold Ints
  refine Spec.movd globPure (wpD_spec tyOK Try.func19 rfl (enters _ _ Try.func19 rfl (by decide)) rfl rfl ?_)
  (refine wpD_seqk fun K hK => ?_; refine wpD_region tyOK ?_; ((try simp only [wpAft_ret, wpAft_pan, putS, updS, setS]); (repeat (rw [wpS_cons]; simp [wpAft_ret, wpAft_pan, wantD, evOp, opD, tmOf, putS, updS, setS, hOf, isFree, isTok, fillD, TK.isAgg, TK.known, partD, thenD, blockD, putAll, D.ofV, inB, binX, binD, binE, isCst, bndD, capB, IntKind.min, IntKind.max, IntKind.signed, IntKind.bits, dstOf])); (try simp only [wpS_nil, thenD, blockD])); refine hK _ _ _ ?_; clear hK K)
  (refine wpD_seqk fun K hK => ?_; refine wpD_region tyOK ?_; ((try simp only [wpAft_ret, wpAft_pan, putS, updS, setS]); (repeat (rw [wpS_cons]; simp [wpAft_ret, wpAft_pan, wantD, evOp, opD, tmOf, putS, updS, setS, hOf, isFree, isTok, fillD, TK.isAgg, TK.known, partD, thenD, blockD, putAll, D.ofV, inB, binX, binD, binE, isCst, bndD, capB, IntKind.min, IntKind.max, IntKind.signed, IntKind.bits, dstOf])); (try simp only [wpS_nil, thenD, blockD])))
  refine CallX.pure globPure (hsp) ?_ (by simp [D.fgts, D.fgt, encPs_pure]) (by simp [D.pures, D.pure, Cp.free, D.pures_map, encPs_pure]) (by simp [Out.pure, D.pure, D.pures, Cp.free, D.pures_map, encPs_pure])
  ((try simp only [wpAft_ret, wpAft_pan, putS, updS, setS]); (repeat (rw [wpS_cons]; simp [wpAft_ret, wpAft_pan, wantD, evOp, opD, tmOf, putS, updS, setS, hOf, isFree, isTok, fillD, TK.isAgg, TK.known, partD, thenD, blockD, putAll, D.ofV, inB, binX, binD, binE, isCst, bndD, capB, IntKind.min, IntKind.max, IntKind.signed, IntKind.bits, dstOf])); (try simp only [wpS_nil, thenD, blockD]))
  (refine hK _ _ _ ?_; clear hK K)
  (refine wpD_seqk fun K hK => ?_; refine wpD_region tyOK ?_; ((try simp only [wpAft_ret, wpAft_pan, putS, updS, setS]); (repeat (rw [wpS_cons]; simp [wpAft_ret, wpAft_pan, wantD, evOp, opD, tmOf, putS, updS, setS, hOf, isFree, isTok, fillD, TK.isAgg, TK.known, partD, thenD, blockD, putAll, D.ofV, inB, binX, binD, binE, isCst, bndD, capB, IntKind.min, IntKind.max, IntKind.signed, IntKind.bits, dstOf])); (try simp only [wpS_nil, thenD, blockD])); refine hK _ _ _ ?_; clear hK K)
  refine wpD_seqk fun K1 hK1 => ?_
  (refine wpD_seqk fun K hK => ?_; refine wpD_region tyOK ?_; ((try simp only [wpAft_ret, wpAft_pan, putS, updS, setS]); (repeat (rw [wpS_cons]; simp [wpAft_ret, wpAft_pan, wantD, evOp, opD, tmOf, putS, updS, setS, hOf, isFree, isTok, fillD, TK.isAgg, TK.known, partD, thenD, blockD, putAll, D.ofV, inB, binX, binD, binE, isCst, bndD, capB, IntKind.min, IntKind.max, IntKind.signed, IntKind.bits, dstOf])); (try simp only [wpS_nil, thenD, blockD])); refine hK _ _ _ ?_; clear hK K)
  refine wpD_block ?_
  refine wpD_loopWJ [7, 8, 11, 12, 13, 14, 15, 16, 17, 18, 19, 20, 21, 22, 23, 24, 25, 26, 27, 28, 29, 30, 31, 32, 33, 34, 35, 36, 37, 38, 39, 40, 41, 42, 43, 44, 45, 46, 47, 48, 49, 50, 51, 52, 53, 54, 55, 56, 57, 58, 59, 60, 61, 62] [5, 6] (fun n ys hl => ∃ (k : Nat), ys = [.int .i64 (valT ns N k), .int .i64 k] ∧ n + k = N.length ∧ hl = [.cells 24 [.slice (N.map encP) .any]]) (N.length) (by kernel_rfl) ?_ ?_
  · exact ⟨0, rfl, rfl, rfl⟩
  · rintro n ys hl A hA ⟨k, rfl, hk, rfl⟩
    simp only [putAll, List.set, List.map_cons, List.map_nil, List.cons_append, List.nil_append]
    refine wpD_seqk fun K2 hK2 => ?_
    by_cases hkl : k < N.length
    · have hkl' : (k : Int) < N.length := by omega
      obtain ⟨p, hp⟩ : ∃ p, p = N[k] := ⟨_, rfl⟩
      have hge : N[k] = p := hp.symm
      have hvs := valT_succ (ns := ns) hkl
      rw [hge] at hvs
      have hpb := badP_nn (hok N[k] (List.getElem_mem hkl))
      rw [hge] at hpb
      have hvn := valT_nn (ns := ns) (k := k) hok
      generalize valT ns N k = V at hvs hvn ⊢
      have hnn := numV_nn ns p.1
      have hnv : numV ns p.1 = if 0 < p.1 ∧ p.1 ≤ ns.length then (if 0 ≤ ns.getD (p.1 - 1).toNat 0 ∧ ns.getD (p.1 - 1).toNat 0 ≤ 1048576 then ns.getD (p.1 - 1).toNat 0 else 0) else 0 := rfl
      generalize numV ns p.1 = m at hvs hnn hnv
      have hw1 : IntKind.i64.wrap ((k : Int) + 1) = (k : Int) + 1 := i64w (by omega) (by omega)
      have hw2 : IntKind.i64.wrap (m + p.2) = m + p.2 := i64w (by omega) (by omega)
      have hw3 : IntKind.i64.wrap (0 + p.2) = p.2 := by rw [Int.zero_add]; exact i64w (by omega) (by omega)
      have hw4 : IntKind.i64.wrap p.2 = p.2 := i64w (by omega) (by omega)
      (refine wpD_seqk fun K hK => ?_; refine wpD_region tyOK ?_; ((try simp only [wpAft_ret, wpAft_pan, putS, updS, setS]); (repeat (rw [wpS_cons]; simp [wpAft_ret, wpAft_pan, wantD, evOp, opD, tmOf, putS, updS, setS, hOf, isFree, isTok, fillD, TK.isAgg, TK.known, partD, thenD, blockD, putAll, D.ofV, inB, binX, binD, binE, isCst, bndD, capB, IntKind.min, IntKind.max, IntKind.signed, IntKind.bits, dstOf, hkl, hkl'])); (try simp only [wpS_nil, thenD, blockD])); refine hK _ _ _ ?_; clear hK K)
      refine wpD_part rfl (fun _ => ?_) (fun h => by simp at h)
      refine wpD_skip (hK2 _ _ _ ?_)
      clear hK2 K2
      refine wpD_seqk fun K3 hK3 => ?_
      refine wpD_block ?_
      (refine wpD_seqk fun K hK => ?_; refine wpD_region tyOK ?_; ((try simp only [wpAft_ret, wpAft_pan, putS, updS, setS]); (repeat (rw [wpS_cons]; simp [wpAft_ret, wpAft_pan, wantD, evOp, opD, tmOf, putS, updS, setS, hOf, isFree, isTok, fillD, TK.isAgg, TK.known, partD, thenD, blockD, putAll, D.ofV, inB, binX, binD, binE, isCst, bndD, capB, IntKind.min, IntKind.max, IntKind.signed, IntKind.bits, dstOf])); (try simp only [wpS_nil, thenD, blockD])); refine hK _ _ _ ?_; clear hK K)
      refine wpD_seqf [7, 8, 18, 19, 20, 21, 22, 23, 24, 25, 26, 27, 28, 29, 30, 31, 32, 33, 34, 35, 36, 37, 38, 39, 40, 41, 42, 43, 44, 45, 46, 47, 48, 49, 50, 51, 52] (.int .i64 m :: .junk :: [18, 19, 20, 21, 22, 23, 24, 25, 26, 27, 28, 29, 30, 31, 32, 33, 34, 35, 36, 37, 38, 39, 40, 41, 42, 43, 44, 45, 46, 47, 48, 49, 50, 51, 52].map fun _ => .junk) [.cells 24 [.slice (N.map encP) .any]] ?_ ?_
      rotate_left
      · intro K hK
        (refine wpD_seqk fun K hK => ?_; refine wpD_region tyOK ?_; ((try simp only [wpAft_ret, wpAft_pan, putS, updS, setS]); (repeat (rw [wpS_cons]; simp [wpAft_ret, wpAft_pan, wantD, evOp, opD, tmOf, putS, updS, setS, hOf, isFree, isTok, fillD, TK.isAgg, TK.known, partD, thenD, blockD, putAll, D.ofV, inB, binX, binD, binE, isCst, bndD, capB, IntKind.min, IntKind.max, IntKind.signed, IntKind.bits, dstOf, hkl, hkl', hge, encP])); (try simp only [wpS_nil, thenD, blockD])); refine hK _ _ _ ?_; clear hK K)
        by_cases h1 : 0 < p.1
        · by_cases h2 : p.1 ≤ ns.length
          · obtain ⟨j0, hj0⟩ : ∃ j0 : Nat, p.1 - 1 = j0 := ⟨(p.1 - 1).toNat, by omega⟩
            have hjl : j0 < ns.length := by omega
            have hw0 : IntKind.i64.wrap (p.1 - 1) = (j0 : Int) := by rw [i64w (by omega) (by omega)]; exact hj0
            have hgd : ns.getD (p.1 - 1).toNat 0 = ns[j0] := by rw [hj0]; simp [List.getD_eq_getElem?_getD, hjl]
            rw [if_pos ⟨h1, h2⟩, hgd] at hnv
            obtain ⟨y, hy⟩ : ∃ y, y = ns[j0] := ⟨_, rfl⟩
            have hgy : ns[j0] = y := hy.symm
            rw [hgy] at hnv
            by_cases h3 : 0 ≤ y
            · by_cases h4 : y ≤ 1048576
              · rw [if_pos ⟨h3, h4⟩] at hnv
                (refine wpD_seqk fun K hK => ?_; refine wpD_region tyOK ?_; ((try simp only [wpAft_ret, wpAft_pan, putS, updS, setS]); (repeat (rw [wpS_cons]; simp [wpAft_ret, wpAft_pan, wantD, evOp, opD, tmOf, putS, updS, setS, hOf, isFree, isTok, fillD, TK.isAgg, TK.known, partD, thenD, blockD, putAll, D.ofV, inB, binX, binD, binE, isCst, bndD, capB, IntKind.min, IntKind.max, IntKind.signed, IntKind.bits, dstOf, h1, h2, hw0, hjl, hgy, h3, h4])); (try simp only [wpS_nil, thenD, blockD])); refine hK _ _ _ ?_; clear hK K)
                refine wpD_part rfl (fun _ => ?_) (fun h => by simp at h)
                (refine wpD_region tyOK ?_; ((try simp only [wpAft_ret, wpAft_pan, putS, updS, setS]); (repeat (rw [wpS_cons]; simp [wpAft_ret, wpAft_pan, wantD, evOp, opD, tmOf, putS, updS, setS, hOf, isFree, isTok, fillD, TK.isAgg, TK.known, partD, thenD, blockD, putAll, D.ofV, inB, binX, binD, binE, isCst, bndD, capB, IntKind.min, IntKind.max, IntKind.signed, IntKind.bits, dstOf, hw0, hjl, hgy])); (try simp only [wpS_nil, thenD, blockD])))
                refine hK _ ?_
                rw [hnv]
                simp [leT, putAll]
              · rw [if_neg (fun h => h4 h.2)] at hnv
                (refine wpD_seqk fun K hK => ?_; refine wpD_region tyOK ?_; ((try simp only [wpAft_ret, wpAft_pan, putS, updS, setS]); (repeat (rw [wpS_cons]; simp [wpAft_ret, wpAft_pan, wantD, evOp, opD, tmOf, putS, updS, setS, hOf, isFree, isTok, fillD, TK.isAgg, TK.known, partD, thenD, blockD, putAll, D.ofV, inB, binX, binD, binE, isCst, bndD, capB, IntKind.min, IntKind.max, IntKind.signed, IntKind.bits, dstOf, h1, h2, hw0, hjl, hgy, h3, h4])); (try simp only [wpS_nil, thenD, blockD])); refine hK _ _ _ ?_; clear hK K)
                refine wpD_part rfl (fun h => by simp at h) (fun _ => ?_)
                refine wpD_skip (hK _ ?_)
                rw [hnv]
                simp [leT, putAll]
            · rw [if_neg (fun h => h3 h.1)] at hnv
              (refine wpD_seqk fun K hK => ?_; refine wpD_region tyOK ?_; ((try simp only [wpAft_ret, wpAft_pan, putS, updS, setS]); (repeat (rw [wpS_cons]; simp [wpAft_ret, wpAft_pan, wantD, evOp, opD, tmOf, putS, updS, setS, hOf, isFree, isTok, fillD, TK.isAgg, TK.known, partD, thenD, blockD, putAll, D.ofV, inB, binX, binD, binE, isCst, bndD, capB, IntKind.min, IntKind.max, IntKind.signed, IntKind.bits, dstOf, h1, h2, hw0, hjl, hgy, h3])); (try simp only [wpS_nil, thenD, blockD])); refine hK _ _ _ ?_; clear hK K)
              refine wpD_part rfl (fun h => by simp at h) (fun _ => ?_)
              refine wpD_skip (hK _ ?_)
              rw [hnv]
              simp [leT, putAll]
          · rw [if_neg (fun h => h2 h.2)] at hnv
            (refine wpD_seqk fun K hK => ?_; refine wpD_region tyOK ?_; ((try simp only [wpAft_ret, wpAft_pan, putS, updS, setS]); (repeat (rw [wpS_cons]; simp [wpAft_ret, wpAft_pan, wantD, evOp, opD, tmOf, putS, updS, setS, hOf, isFree, isTok, fillD, TK.isAgg, TK.known, partD, thenD, blockD, putAll, D.ofV, inB, binX, binD, binE, isCst, bndD, capB, IntKind.min, IntKind.max, IntKind.signed, IntKind.bits, dstOf, h1, h2])); (try simp only [wpS_nil, thenD, blockD])); refine hK _ _ _ ?_; clear hK K)
            refine wpD_part rfl (fun h => by simp at h) (fun _ => ?_)
            refine wpD_skip (hK _ ?_)
            rw [hnv]
            simp [leT, putAll]
        · rw [if_neg (fun h => h1 h.1)] at hnv
          (refine wpD_seqk fun K hK => ?_; refine wpD_region tyOK ?_; ((try simp only [wpAft_ret, wpAft_pan, putS, updS, setS]); (repeat (rw [wpS_cons]; simp [wpAft_ret, wpAft_pan, wantD, evOp, opD, tmOf, putS, updS, setS, hOf, isFree, isTok, fillD, TK.isAgg, TK.known, partD, thenD, blockD, putAll, D.ofV, inB, binX, binD, binE, isCst, bndD, capB, IntKind.min, IntKind.max, IntKind.signed, IntKind.bits, dstOf, h1])); (try simp only [wpS_nil, thenD, blockD])); refine hK _ _ _ ?_; clear hK K)
          refine wpD_part rfl (fun h => by simp at h) (fun _ => ?_)
          refine wpD_skip (hK _ ?_)
          rw [hnv]
          simp [leT, putAll]
      · simp only [putAll, List.set, List.map_cons, List.map_nil, List.cons_append, List.nil_append]
        (refine wpD_region tyOK ?_; ((try simp only [wpAft_ret, wpAft_pan, putS, updS, setS]); (repeat (rw [wpS_cons]; simp [wpAft_ret, wpAft_pan, wantD, evOp, opD, tmOf, putS, updS, setS, hOf, isFree, isTok, fillD, TK.isAgg, TK.known, partD, thenD, blockD, putAll, D.ofV, inB, binX, binD, binE, isCst, bndD, capB, IntKind.min, IntKind.max, IntKind.signed, IntKind.bits, dstOf, hkl, hkl', hge, encP, hw2])); (try simp only [wpS_nil, thenD, blockD])))
        refine hK3 _ _ _ ?_
        clear hK3 K3
        (refine wpD_region tyOK ?_; ((try simp only [wpAft_ret, wpAft_pan, putS, updS, setS]); (repeat (rw [wpS_cons]; simp [wpAft_ret, wpAft_pan, wantD, evOp, opD, tmOf, putS, updS, setS, hOf, isFree, isTok, fillD, TK.isAgg, TK.known, partD, thenD, blockD, putAll, D.ofV, inB, binX, binD, binE, isCst, bndD, capB, IntKind.min, IntKind.max, IntKind.signed, IntKind.bits, dstOf, hw1])); (try simp only [wpS_nil, thenD, blockD])))
        refine hA (n - 1) _ _ (by omega) (by kernel_rfl) ?_
        exact ⟨k + 1, by rw [hvs]; rfl, by omega, rfl⟩
    · have hkl' : ¬ (k : Int) < N.length := by omega
      (refine wpD_seqk fun K hK => ?_; refine wpD_region tyOK ?_; ((try simp only [wpAft_ret, wpAft_pan, putS, updS, setS]); (repeat (rw [wpS_cons]; simp [wpAft_ret, wpAft_pan, wantD, evOp, opD, tmOf, putS, updS, setS, hOf, isFree, isTok, fillD, TK.isAgg, TK.known, partD, thenD, blockD, putAll, D.ofV, inB, binX, binD, binE, isCst, bndD, capB, IntKind.min, IntKind.max, IntKind.signed, IntKind.bits, dstOf, hkl, hkl'])); (try simp only [wpS_nil, thenD, blockD])); refine hK _ _ _ ?_; clear hK K)
      refine wpD_part rfl (fun h => by simp at h) (fun _ => ?_)
      refine wpD_exit ?_
      refine hK1 _ _ _ ?_
      rw [valT_end (by omega)]
      (refine wpD_seqk fun K hK => ?_; refine wpD_region tyOK ?_; ((try simp only [wpAft_ret, wpAft_pan, putS, updS, setS]); (repeat (rw [wpS_cons]; simp [wpAft_ret, wpAft_pan, wantD, evOp, opD, tmOf, putS, updS, setS, hOf, isFree, isTok, fillD, TK.isAgg, TK.known, partD, thenD, blockD, putAll, D.ofV, inB, binX, binD, binE, isCst, bndD, capB, IntKind.min, IntKind.max, IntKind.signed, IntKind.bits, dstOf])); (try simp only [wpS_nil, thenD, blockD])); refine hK _ _ _ ?_; clear hK K)
      (refine wpD_ret ?_; (try simp only [thenD, blockD]); refine EndQ.ret rfl (.inl ?_); simp [tmOf, Out.fgt, D.fgt, D.fgts])
end Go.Proofs.Ytbjgdeednmhpfaa
