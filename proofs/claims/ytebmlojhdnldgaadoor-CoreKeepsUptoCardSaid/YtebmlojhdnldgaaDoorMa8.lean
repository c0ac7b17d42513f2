/-
  Ma8: the texts Tct Tpla Kct Tl2 Ddp Tl3 Tok Tl4 Dopen Dcard Hdd, one behind the other.
-/
import Derived.Test.YtebmlojhdnldgaaDoorRows
import Derived.ProofKit
import Derived.OpenShut
import Derived.Carry
import Derived.Below
import Derived.Test.YtebmlojhdnldgaaDoorMa7
namespace Go.Proofs.YtebmlojhdnldgaaDoor
set_option linter.unusedSimpArgs false
set_option linter.unusedVariables false
set_option maxHeartbeats 10000000
set_option maxRecDepth 20000
open Go.RowKit
attribute [local simp] wpAft_ret wpAft_pan wantD evOp opD tmOf putS updS setS hOf isFree isTok fillD TK.isAgg TK.known partD thenD blockD putAll D.ofV inB nilTest isNilS binX binD binE isCst bndD capB IntKind.min IntKind.max IntKind.signed IntKind.bits dstOf late
mutual
/-- what is counted: is all right, how many -/
def T.cnt : T → Int → Int → Bool × Int
  | .mk k n a ls ks, deep, c =>
    let c1 := IntKind.i64.wrap (c + 1)
    if deep ≤ 400 ∧ c1 ≤ 20000 ∧ nodeT (.mk k n a ls ks) = true then T.cnts ks (IntKind.i64.wrap (deep + 1)) c1 else (false, c1)
def T.cnts : List T → Int → Int → Bool × Int
  | [], _, c => (true, c)
  | t :: r, deep, c => if (T.cnt t deep c).1 = true then T.cnts r deep (T.cnt t deep c).2 else (false, (T.cnt t deep c).2)
end
def T.right (t : T) : Bool := (t.cnt 1 0).1
def numO (c : Int) : HO := .cells 3 [.int .i64 c]
/-- the kids from j on: where one is found, the count then -/
def findK (f : T → Int → Bool × Int) : List T → Nat → Int → Int × Int
  | [], _, c => (-1, c)
  | t :: r, j, c => if (f t c).1 = true then ((j : Int), (f t c).2) else findK f r (j + 1) (f t c).2
theorem findK_at {f : T → Int → Bool × Int} {l : List T} {k : Nat} {c : Int} (h : k < l.length) : findK f (l.drop k) k c = if (f l[k] c).1 = true then ((k : Int), (f l[k] c).2) else findK f (l.drop (k + 1)) (k + 1) (f l[k] c).2 := by
  rw [List.drop_eq_getElem_cons h, findK]
/-- IndexFunc with a closure that counts -/
theorem indexFuncC_spec (l : List T) (f : T → Int → Bool × Int) (g : FuncId) (dp : Int) (hl : l.length ≤ LMax)
    (hg : ∀ x, x ∈ l → ∀ c, Spec Tryd.prog glob g [encT x, .ref (.int .i64 dp), .ref (.box 0 0)] [numO c] (fun o hc => o = .ret (.bool (f x c).1) ∧ hc = [numO (f x c).2])) (c : Int) :
    Spec Tryd.prog glob 187 [.slice (l.map encT) .any, .fn (.func g) [] [.ref (.int .i64 dp), .ref (.box 0 0)]] [numO c] (fun o hc => o = .ret (.int .i64 (findK f l 0 c).1) ∧ hc = [numO (findK f l 0 c).2]) := by
  obtain ⟨R, hR⟩ : ∃ R, R = findK f l 0 c := ⟨_, rfl⟩
  rw [← hR]
  unfold numO
  refine Spec.movd globPure (wpD_spec tyOK Tryd.func187 rfl (enters _ _ Tryd.func187 rfl (by decide)) rfl rfl ?_)
  (refine wpD_seqk fun K hK => ?_; refine wpD_region tyOK ?_; ((try simp only [wpAft_ret, wpAft_pan, putS, updS, setS]); (repeat (rw [wpS_cons]; simp)); (try simp only [wpS_nil, thenD, blockD])); refine hK _ _ _ ?_; clear hK K)
  refine wpD_seqk fun K1 hK1 => ?_
  (refine wpD_seqk fun K hK => ?_; refine wpD_region tyOK ?_; ((try simp only [wpAft_ret, wpAft_pan, putS, updS, setS]); (repeat (rw [wpS_cons]; simp)); (try simp only [wpS_nil, thenD, blockD])); refine hK _ _ _ ?_; clear hK K)
  refine wpD_rangeJ tyOK globPure (ti := 3) (tk := 8) (tn := 7) (td := 9) (ts := 18) [4, 5, 8, 9, 10, 11, 12, 13, 14, 15, 16, 17, 18] [] (l.length) (fun k ys hl => ∃ (m : Int), ys = [] ∧ R = findK f (l.drop k) k m ∧ hl = [.cells 3 [.int .i64 m]]) rfl rfl rfl rfl rfl rfl rfl rfl rfl rfl rfl rfl (by simp) (by decide) rfl (by first | assumption | omega | (unfold LMax; omega)) rfl (by kernel_rfl) (by decide) ?_ ?_ ?_
  · exact ⟨c, rfl, hR, rfl⟩
  · rintro i ys hl A hi ⟨m, rfl, hF, rfl⟩ hA hA2
    simp only [putAll, List.set, List.map_cons, List.map_nil, List.cons_append, List.nil_append]
    have hi' : (i : Int) < l.length := by omega
    rw [findK_at hi] at hF
    have hrec := hg l[i] (List.getElem_mem hi) m
    obtain ⟨x, hx⟩ : ∃ x, l[i] = x := ⟨_, rfl⟩
    rw [hx] at hrec hF
    have hEx := encT_eq x
    rw [hEx] at hrec
    unfold numO at hrec
    generalize f x m = B at hrec hF
    obtain ⟨b, m2⟩ := B
    (refine wpD_seqk fun K hK => ?_; refine wpD_region tyOK ?_; ((try simp only [wpAft_ret, wpAft_pan, putS, updS, setS]); (repeat (rw [wpS_cons]; simp)); (try simp only [wpS_nil, thenD, blockD])); refine hK _ _ _ ?_; clear hK K)
    (refine wpD_seqk fun K hK => ?_; refine wpD_region tyOK ?_; ((try simp only [wpAft_ret, wpAft_pan, putS, updS, setS]); (repeat (rw [wpS_cons]; simp [hi, hi', hx, hEx])); (try simp only [wpS_nil, thenD, blockD])))
    refine CallX.objs globPure [0] true (hrec) ?_ (by rintro o hc ⟨_, rfl⟩; simp) (by decide) (by simp) (by simp [D.ren, D.rens, D.okN, D.okNs, Cp.ren, Cp.okN, HO.ren, HO.okN, okA, renA, renO, hOf, handed, D.fgt, D.fgts, List.range_succ, List.idxOf_cons]) (by simp [D.ren, D.rens, D.okN, D.okNs, Cp.ren, Cp.okN, HO.ren, HO.okN, okA, renA, renO, hOf, handed, D.fgt, D.fgts, List.range_succ, List.idxOf_cons]) (by simp [D.ren, D.rens, D.okN, D.okNs, Cp.ren, Cp.okN, HO.ren, HO.okN, okA, renA, renO, hOf, handed, D.fgt, D.fgts, List.range_succ, List.idxOf_cons]) (by simp [D.ren, D.rens, D.okN, D.okNs, Cp.ren, Cp.okN, HO.ren, HO.okN, okA, renA, renO, hOf, handed, D.fgt, D.fgts, List.range_succ, List.idxOf_cons])
    (rintro o hc ⟨rfl, rfl⟩; refine ⟨false, ?_⟩; simp [D.ren, D.rens, D.okN, D.okNs, Cp.ren, Cp.okN, HO.ren, HO.okN, okA, renA, renO, hOf, handed, D.fgt, D.fgts, List.range_succ, List.idxOf_cons, Out.ren, told, Out.fgt, upO, updS, setS])
    ((try simp only [wpAft_ret, wpAft_pan, putS, updS, setS]); (repeat (rw [wpS_cons]; simp)); (try simp only [wpS_nil, thenD, blockD]))
    (refine hK _ _ _ ?_; clear hK K)
    cases b with
    | true =>
      refine wpD_part rfl (fun _ => ?_) (fun h => by simp at h)
      (refine wpD_seqk fun K hK => ?_; refine wpD_region tyOK ?_; ((try simp only [wpAft_ret, wpAft_pan, putS, updS, setS]); (repeat (rw [wpS_cons]; simp)); (try simp only [wpS_nil, thenD, blockD])); refine hK _ _ _ ?_; clear hK K)
      (refine wpD_ret ?_; (try simp only [thenD, blockD]); refine EndQ.ret rfl (.inr ⟨[], by decide, by simp, ?_⟩); simp [Out.mov, movT, movH, movD, D.mov, HO.mov, okM, renM, getW, D.ren, D.rens, D.okN, D.okNs, Cp.ren, Cp.okN, HO.ren, HO.okN, okA, renA, renO, hOf, handed, D.fgt, D.fgts, List.range_succ, List.idxOf_cons, tmOf, Out.fgt, D.fgt, D.fgts])
      rw [hF, if_pos rfl]
      exact ⟨rfl, rfl⟩
    | false =>
      refine wpD_part rfl (fun h => by simp at h) (fun _ => ?_)
      refine wpD_skip ?_
      (refine hA2 ([]) _ _ _ (LeT.refl _) (by decide) (by simp) (by simp [movT, movH, movD, D.mov, HO.mov, okM, renM, getW, D.ren, D.rens, D.okN, D.okNs, Cp.ren, Cp.okN, HO.ren, HO.okN, okA, renA, renO, hOf, handed, D.fgt, D.fgts, List.range_succ, List.idxOf_cons, putAll]) ?_ rfl; simp [movT, movH, movD, D.mov, HO.mov, okM, renM, getW, D.ren, D.rens, D.okN, D.okNs, Cp.ren, Cp.okN, HO.ren, HO.okN, okA, renA, renO, hOf, handed, D.fgt, D.fgts, List.range_succ, List.idxOf_cons])
      exact hF
  · rintro ys hl tl' ⟨m, rfl, hF, rfl⟩ htl
    refine hK1 _ _ _ (wpD_weakL htl ?_)
    simp only [putAll, List.set, List.map_cons, List.map_nil, List.cons_append, List.nil_append]
    rw [List.drop_length, findK] at hF
    subst hF
    (refine wpD_seqk fun K hK => ?_; refine wpD_region tyOK ?_; ((try simp only [wpAft_ret, wpAft_pan, putS, updS, setS]); (repeat (rw [wpS_cons]; simp)); (try simp only [wpS_nil, thenD, blockD])); refine hK _ _ _ ?_; clear hK K)
    (refine wpD_ret ?_; (try simp only [thenD, blockD]); refine EndQ.ret rfl (.inr ⟨[], by decide, by simp, ?_⟩); simp [Out.mov, movT, movH, movD, D.mov, HO.mov, okM, renM, getW, D.ren, D.rens, D.okN, D.okNs, Cp.ren, Cp.okN, HO.ren, HO.okN, okA, renA, renO, hOf, handed, D.fgt, D.fgts, List.range_succ, List.idxOf_cons, tmOf, Out.fgt, D.fgt, D.fgts])
theorem containsFuncC_spec (l : List T) (f : T → Int → Bool × Int) (g : FuncId) (dp : Int) (hl : l.length ≤ LMax)
    (hg : ∀ x, x ∈ l → ∀ c, Spec Tryd.prog glob g [encT x, .ref (.int .i64 dp), .ref (.box 0 0)] [numO c] (fun o hc => o = .ret (.bool (f x c).1) ∧ hc = [numO (f x c).2])) (c : Int) :
    Spec Tryd.prog glob 144 [.slice (l.map encT) .any, .fn (.func g) [] [.ref (.int .i64 dp), .ref (.box 0 0)]] [numO c] (fun o hc => o = .ret (.bool (decide (0 ≤ (findK f l 0 c).1))) ∧ hc = [numO (findK f l 0 c).2]) := by
  have h := indexFuncC_spec l f g dp hl hg c
  generalize findK f l 0 c = R at h ⊢
  unfold numO at h ⊢
  refine Spec.movd globPure (wpD_spec tyOK Tryd.func144 rfl (enters _ _ Tryd.func144 rfl (by decide)) rfl rfl ?_)
  (refine wpD_seqk fun K hK => ?_; refine wpD_region tyOK ?_; ((try simp only [wpAft_ret, wpAft_pan, putS, updS, setS]); (repeat (rw [wpS_cons]; simp)); (try simp only [wpS_nil, thenD, blockD])); refine hK _ _ _ ?_; clear hK K)
  (refine wpD_seqk fun K hK => ?_; refine wpD_region tyOK ?_; ((try simp only [wpAft_ret, wpAft_pan, putS, updS, setS]); (repeat (rw [wpS_cons]; simp)); (try simp only [wpS_nil, thenD, blockD])))
  refine CallX.objs globPure [0] true (h) ?_ (by rintro o hc ⟨_, rfl⟩; simp) (by decide) (by simp) (by simp [D.ren, D.rens, D.okN, D.okNs, Cp.ren, Cp.okN, HO.ren, HO.okN, okA, renA, renO, hOf, handed, D.fgt, D.fgts, List.range_succ, List.idxOf_cons]) (by simp [D.ren, D.rens, D.okN, D.okNs, Cp.ren, Cp.okN, HO.ren, HO.okN, okA, renA, renO, hOf, handed, D.fgt, D.fgts, List.range_succ, List.idxOf_cons]) (by simp [D.ren, D.rens, D.okN, D.okNs, Cp.ren, Cp.okN, HO.ren, HO.okN, okA, renA, renO, hOf, handed, D.fgt, D.fgts, List.range_succ, List.idxOf_cons]) (by simp [D.ren, D.rens, D.okN, D.okNs, Cp.ren, Cp.okN, HO.ren, HO.okN, okA, renA, renO, hOf, handed, D.fgt, D.fgts, List.range_succ, List.idxOf_cons])
  (rintro o hc ⟨rfl, rfl⟩; refine ⟨false, ?_⟩; simp [D.ren, D.rens, D.okN, D.okNs, Cp.ren, Cp.okN, HO.ren, HO.okN, okA, renA, renO, hOf, handed, D.fgt, D.fgts, List.range_succ, List.idxOf_cons, Out.ren, told, Out.fgt, upO, updS, setS])
  ((try simp only [wpAft_ret, wpAft_pan, putS, updS, setS]); (repeat (rw [wpS_cons]; simp)); (try simp only [wpS_nil, thenD, blockD]))
  (refine hK _ _ _ ?_; clear hK K)
  (refine wpD_ret ?_; (try simp only [thenD, blockD]); refine EndQ.ret rfl (.inr ⟨[], by decide, by simp, ?_⟩); simp [Out.mov, movT, movH, movD, D.mov, HO.mov, okM, renM, getW, D.ren, D.rens, D.okN, D.okNs, Cp.ren, Cp.okN, HO.ren, HO.okN, okA, renA, renO, hOf, handed, D.fgt, D.fgts, List.range_succ, List.idxOf_cons, tmOf, Out.fgt, D.fgt, D.fgts])
theorem cnts_find (d : Int) : ∀ (ks : List T) (j : Nat) (c : Int), (T.cnts ks d c).1 = !decide (0 ≤ (findK (fun x c => (!(T.cnt x d c).1, (T.cnt x d c).2)) ks j c).1) ∧ (T.cnts ks d c).2 = (findK (fun x c => (!(T.cnt x d c).1, (T.cnt x d c).2)) ks j c).2
  | [], j, c => by rw [T.cnts, findK]; simp
  | t :: r, j, c => by
    rw [T.cnts, findK]
    have ih := cnts_find d r (j + 1) (T.cnt t d c).2
    cases h : (T.cnt t d c).1 with
    | true => simp only [Bool.not_true, if_true, if_neg Bool.false_ne_true]; exact ih
    | false =>
      simp only [Bool.not_false, if_true, if_neg Bool.false_ne_true]
      refine ⟨?_, by first | rfl | trivial⟩
      have : (0 : Int) ≤ (j : Int) := by omega
      simp [this]
theorem count_spec (t : T) : ∀ (dp c : Int), okT t → Spec Tryd.prog glob 92 [encT t, .int .i64 dp, .box 0 0] [numO c] (fun o hc => o = .ret (.bool (t.cnt dp c).1) ∧ hc = [numO (t.cnt dp c).2]) := by
  induction t using T.ind with
  | h k n a ls ks ih =>
    intro dp c ht
    have hkl : ks.length ≤ LMax := ht.kl
    have hks := ht.ks
    simp only [T.ks_mk] at hks
    have hnode := node_spec _ ht
    have hcl : ∀ x, x ∈ ks → ∀ m, Spec Tryd.prog glob 145 [encT x, .ref (.int .i64 dp), .ref (.box 0 0)] [numO m] (fun o hc => o = .ret (.bool (!(T.cnt x (IntKind.i64.wrap (dp + 1)) m).1)) ∧ hc = [numO (T.cnt x (IntKind.i64.wrap (dp + 1)) m).2]) := by
      intro x hx m
      have h := ih x hx (IntKind.i64.wrap (dp + 1)) m (hks x hx)
      generalize T.cnt x (IntKind.i64.wrap (dp + 1)) m = R at h ⊢
      have hE := encT_eq x
      rw [hE] at h ⊢
      unfold numO at h ⊢
      refine Spec.movd globPure (wpD_spec tyOK Tryd.func145 rfl (enters _ _ Tryd.func145 rfl (by decide)) rfl rfl ?_)
      (refine wpD_seqk fun K hK => ?_; refine wpD_region tyOK ?_; ((try simp only [wpAft_ret, wpAft_pan, putS, updS, setS]); (repeat (rw [wpS_cons]; simp)); (try simp only [wpS_nil, thenD, blockD])); refine hK _ _ _ ?_; clear hK K)
      (refine wpD_seqk fun K hK => ?_; refine wpD_region tyOK ?_; ((try simp only [wpAft_ret, wpAft_pan, putS, updS, setS]); (repeat (rw [wpS_cons]; simp)); (try simp only [wpS_nil, thenD, blockD])))
      refine CallX.objs globPure [0] true (h) ?_ (by rintro o hc ⟨_, rfl⟩; simp) (by decide) (by simp) (by simp [D.ren, D.rens, D.okN, D.okNs, Cp.ren, Cp.okN, HO.ren, HO.okN, okA, renA, renO, hOf, handed, D.fgt, D.fgts, List.range_succ, List.idxOf_cons]) (by simp [D.ren, D.rens, D.okN, D.okNs, Cp.ren, Cp.okN, HO.ren, HO.okN, okA, renA, renO, hOf, handed, D.fgt, D.fgts, List.range_succ, List.idxOf_cons]) (by simp [D.ren, D.rens, D.okN, D.okNs, Cp.ren, Cp.okN, HO.ren, HO.okN, okA, renA, renO, hOf, handed, D.fgt, D.fgts, List.range_succ, List.idxOf_cons]) (by simp [D.ren, D.rens, D.okN, D.okNs, Cp.ren, Cp.okN, HO.ren, HO.okN, okA, renA, renO, hOf, handed, D.fgt, D.fgts, List.range_succ, List.idxOf_cons])
      (rintro o hc ⟨rfl, rfl⟩; refine ⟨false, ?_⟩; simp [D.ren, D.rens, D.okN, D.okNs, Cp.ren, Cp.okN, HO.ren, HO.okN, okA, renA, renO, hOf, handed, D.fgt, D.fgts, List.range_succ, List.idxOf_cons, Out.ren, told, Out.fgt, upO, updS, setS])
      ((try simp only [wpAft_ret, wpAft_pan, putS, updS, setS]); (repeat (rw [wpS_cons]; simp)); (try simp only [wpS_nil, thenD, blockD]))
      (refine hK _ _ _ ?_; clear hK K)
      (refine wpD_ret ?_; (try simp only [thenD, blockD]); refine EndQ.ret rfl (.inr ⟨[], by decide, by simp, ?_⟩); simp [Out.mov, movT, movH, movD, D.mov, HO.mov, okM, renM, getW, D.ren, D.rens, D.okN, D.okNs, Cp.ren, Cp.okN, HO.ren, HO.okN, okA, renA, renO, hOf, handed, D.fgt, D.fgts, List.range_succ, List.idxOf_cons, tmOf, Out.fgt, D.fgt, D.fgts])
    have hc1 : T.cnt (.mk k n a ls ks) dp c = if dp ≤ 400 ∧ IntKind.i64.wrap (c + 1) ≤ 20000 ∧ nodeT (.mk k n a ls ks) = true then T.cnts ks (IntKind.i64.wrap (dp + 1)) (IntKind.i64.wrap (c + 1)) else (false, IntKind.i64.wrap (c + 1)) := by rw [T.cnt]
    generalize hC : IntKind.i64.wrap (c + 1) = c1 at hc1
    have hcont := containsFuncC_spec ks (fun x c => (!(T.cnt x (IntKind.i64.wrap (dp + 1)) c).1, (T.cnt x (IntKind.i64.wrap (dp + 1)) c).2)) 145 dp hkl hcl c1
    have hfind := cnts_find (IntKind.i64.wrap (dp + 1)) ks 0 c1
    generalize findK (fun x c => (!(T.cnt x (IntKind.i64.wrap (dp + 1)) c).1, (T.cnt x (IntKind.i64.wrap (dp + 1)) c).2)) ks 0 c1 = F at hcont hfind
    generalize T.cnts ks (IntKind.i64.wrap (dp + 1)) c1 = G at hc1 hfind
    generalize T.cnt (.mk k n a ls ks) dp c = R at hc1 ⊢
    obtain ⟨g1, g2⟩ := G
    obtain ⟨f1, f2⟩ := F
    simp only at hfind
    obtain ⟨rfl, rfl⟩ := hfind
    clear hcl ih hks ht
    generalize nodeT (.mk k n a ls ks) = N at hnode hc1
    rw [encT_eq] at hnode ⊢
    simp only [T.k_mk, T.n_mk, T.a_mk, T.ls_mk, T.ks_mk] at hnode ⊢
    unfold numO at hcont ⊢
    refine Spec.movd globPure (wpD_spec tyOK Tryd.func92 rfl (enters _ _ Tryd.func92 rfl (by decide)) rfl rfl ?_)
    (refine wpD_seqk fun K hK => ?_; refine wpD_region tyOK ?_; ((try simp only [wpAft_ret, wpAft_pan, putS, updS, setS]); (repeat (rw [wpS_cons]; simp)); (try simp only [wpS_nil, thenD, blockD])); refine hK _ _ _ ?_; clear hK K)
    (refine wpD_seqk fun K hK => ?_; refine wpD_region tyOK ?_; ((try simp only [wpAft_ret, wpAft_pan, putS, updS, setS]); (repeat (rw [wpS_cons]; simp [hC])); (try simp only [wpS_nil, thenD, blockD])); refine hK _ _ _ ?_; clear hK K)
    by_cases h1 : dp ≤ 400
    · by_cases h2 : c1 ≤ 20000
      · cases N with
        | true =>
          rw [if_pos ⟨h1, h2, rfl⟩] at hc1
          subst hc1
          (refine wpD_stay (T := tyOf) 2 (ty := 3) (ds := [.int .i64 dp]) rfl rfl (by first | exact ⟨rfl, .inr ⟨_, rfl, rfl⟩⟩ | exact ⟨rfl, .inl rfl⟩) ?_; simp [D.frzs, D.frz, HO.frz, dfFrz, refOf, TK.isAgg, FK.isB, FK.isM, FK.isO, D.isLen])
          (refine wpD_stay (T := tyOf) 3 (ty := 135) (ds := [.box 0 0]) rfl rfl (by first | exact ⟨rfl, .inr ⟨_, rfl, rfl⟩⟩ | exact ⟨rfl, .inl rfl⟩) ?_; simp [D.frzs, D.frz, HO.frz, dfFrz, refOf, TK.isAgg, FK.isB, FK.isM, FK.isO, D.isLen])
          (refine wpD_seqk fun K hK => ?_; refine wpD_region tyOK ?_; ((try simp only [wpAft_ret, wpAft_pan, putS, updS, setS]); (repeat (rw [wpS_cons]; simp [h1, h2])); (try simp only [wpS_nil, thenD, blockD])))
          refine CallX.pure globPure (hnode) ?_ (by simp [D.fgts, D.fgt]) (by simp [D.pures, D.pure, Cp.free, D.pures_map]) (by simp [Out.pure, D.pure, D.pures, Cp.free, D.pures_map])
          ((try simp only [wpAft_ret, wpAft_pan, putS, updS, setS]); (repeat (rw [wpS_cons]; simp)); (try simp only [wpS_nil, thenD, blockD]))
          refine CallX.objs globPure [0] true (hcont) ?_ (by rintro o hc ⟨_, rfl⟩; simp) (by decide) (by simp) (by simp [D.ren, D.rens, D.okN, D.okNs, Cp.ren, Cp.okN, HO.ren, HO.okN, okA, renA, renO, hOf, handed, D.fgt, D.fgts, List.range_succ, List.idxOf_cons]) (by simp [D.ren, D.rens, D.okN, D.okNs, Cp.ren, Cp.okN, HO.ren, HO.okN, okA, renA, renO, hOf, handed, D.fgt, D.fgts, List.range_succ, List.idxOf_cons]) (by simp [D.ren, D.rens, D.okN, D.okNs, Cp.ren, Cp.okN, HO.ren, HO.okN, okA, renA, renO, hOf, handed, D.fgt, D.fgts, List.range_succ, List.idxOf_cons]) (by simp [D.ren, D.rens, D.okN, D.okNs, Cp.ren, Cp.okN, HO.ren, HO.okN, okA, renA, renO, hOf, handed, D.fgt, D.fgts, List.range_succ, List.idxOf_cons])
          (rintro o hc ⟨rfl, rfl⟩; refine ⟨false, ?_⟩; simp [D.ren, D.rens, D.okN, D.okNs, Cp.ren, Cp.okN, HO.ren, HO.okN, okA, renA, renO, hOf, handed, D.fgt, D.fgts, List.range_succ, List.idxOf_cons, Out.ren, told, Out.fgt, upO, updS, setS])
          ((try simp only [wpAft_ret, wpAft_pan, putS, updS, setS]); (repeat (rw [wpS_cons]; simp)); (try simp only [wpS_nil, thenD, blockD]))
          (refine hK _ _ _ ?_; clear hK K)
          (refine wpD_ret ?_; (try simp only [thenD, blockD]); refine EndQ.ret rfl (.inr ⟨[], by decide, by simp, ?_⟩); simp [Out.mov, movT, movH, movD, D.mov, HO.mov, okM, renM, getW, D.ren, D.rens, D.okN, D.okNs, Cp.ren, Cp.okN, HO.ren, HO.okN, okA, renA, renO, hOf, handed, D.fgt, D.fgts, List.range_succ, List.idxOf_cons, tmOf, Out.fgt, D.fgt, D.fgts])
        | false =>
          rw [if_neg (by simp)] at hc1
          subst hc1
          (refine wpD_seqk fun K hK => ?_; refine wpD_region tyOK ?_; ((try simp only [wpAft_ret, wpAft_pan, putS, updS, setS]); (repeat (rw [wpS_cons]; simp [h1, h2])); (try simp only [wpS_nil, thenD, blockD])))
          refine CallX.pure globPure (hnode) ?_ (by simp [D.fgts, D.fgt]) (by simp [D.pures, D.pure, Cp.free, D.pures_map]) (by simp [Out.pure, D.pure, D.pures, Cp.free, D.pures_map])
          ((try simp only [wpAft_ret, wpAft_pan, putS, updS, setS]); (repeat (rw [wpS_cons]; simp)); (try simp only [wpS_nil, thenD, blockD]))
          (refine hK _ _ _ ?_; clear hK K)
          (refine wpD_ret ?_; (try simp only [thenD, blockD]); refine EndQ.ret rfl (.inr ⟨[], by decide, by simp, ?_⟩); simp [Out.mov, movT, movH, movD, D.mov, HO.mov, okM, renM, getW, D.ren, D.rens, D.okN, D.okNs, Cp.ren, Cp.okN, HO.ren, HO.okN, okA, renA, renO, hOf, handed, D.fgt, D.fgts, List.range_succ, List.idxOf_cons, tmOf, Out.fgt, D.fgt, D.fgts])
      · rw [if_neg (fun h => h2 h.2.1)] at hc1
        subst hc1
        (refine wpD_seqk fun K hK => ?_; refine wpD_region tyOK ?_; ((try simp only [wpAft_ret, wpAft_pan, putS, updS, setS]); (repeat (rw [wpS_cons]; simp [h1, h2])); (try simp only [wpS_nil, thenD, blockD])); refine hK _ _ _ ?_; clear hK K)
        (refine wpD_ret ?_; (try simp only [thenD, blockD]); refine EndQ.ret rfl (.inr ⟨[], by decide, by simp, ?_⟩); simp [Out.mov, movT, movH, movD, D.mov, HO.mov, okM, renM, getW, D.ren, D.rens, D.okN, D.okNs, Cp.ren, Cp.okN, HO.ren, HO.okN, okA, renA, renO, hOf, handed, D.fgt, D.fgts, List.range_succ, List.idxOf_cons, tmOf, Out.fgt, D.fgt, D.fgts])
    · rw [if_neg (fun h => h1 h.1)] at hc1
      subst hc1
      (refine wpD_seqk fun K hK => ?_; refine wpD_region tyOK ?_; ((try simp only [wpAft_ret, wpAft_pan, putS, updS, setS]); (repeat (rw [wpS_cons]; simp [h1])); (try simp only [wpS_nil, thenD, blockD])); refine hK _ _ _ ?_; clear hK K)
      (refine wpD_ret ?_; (try simp only [thenD, blockD]); refine EndQ.ret rfl (.inr ⟨[], by decide, by simp, ?_⟩); simp [Out.mov, movT, movH, movD, D.mov, HO.mov, okM, renM, getW, D.ren, D.rens, D.okN, D.okNs, Cp.ren, Cp.okN, HO.ren, HO.okN, okA, renA, renO, hOf, handed, D.fgt, D.fgts, List.range_succ, List.idxOf_cons, tmOf, Out.fgt, D.fgt, D.fgts])
theorem right_spec (t : T) (ht : okT t) : Spec Tryd.prog glob 36 [encT t] [] (fun o _ => o.fgt = .ret (.bool t.right)) := by
  have h := count_spec t 1 0 ht
  have hR : t.right = (t.cnt 1 0).1 := rfl
  rw [hR]
  generalize t.cnt 1 0 = R at h ⊢
  rw [encT_eq] at h ⊢
  unfold numO at h
  refine Spec.movd globPure (wpD_spec tyOK Tryd.func36 rfl (enters _ _ Tryd.func36 rfl (by decide)) rfl rfl ?_)
  (refine wpD_seqk fun K hK => ?_; refine wpD_region tyOK ?_; ((try simp only [wpAft_ret, wpAft_pan, putS, updS, setS]); (repeat (rw [wpS_cons]; simp)); (try simp only [wpS_nil, thenD, blockD])); refine hK _ _ _ ?_; clear hK K)
  (refine wpD_seqk fun K hK => ?_; refine wpD_region tyOK ?_; ((try simp only [wpAft_ret, wpAft_pan, putS, updS, setS]); (repeat (rw [wpS_cons]; simp)); (try simp only [wpS_nil, thenD, blockD])); refine hK _ _ _ ?_; clear hK K)
  (refine wpD_seqk fun K hK => ?_; refine wpD_region tyOK ?_; ((try simp only [wpAft_ret, wpAft_pan, putS, updS, setS]); (repeat (rw [wpS_cons]; simp)); (try simp only [wpS_nil, thenD, blockD])))
  refine CallX.objs globPure [1] true (h) ?_ (by rintro o hc ⟨_, rfl⟩; simp) (by decide) (by simp) (by simp [D.ren, D.rens, D.okN, D.okNs, Cp.ren, Cp.okN, HO.ren, HO.okN, okA, renA, renO, hOf, handed, D.fgt, D.fgts, List.range_succ, List.idxOf_cons]) (by simp [D.ren, D.rens, D.okN, D.okNs, Cp.ren, Cp.okN, HO.ren, HO.okN, okA, renA, renO, hOf, handed, D.fgt, D.fgts, List.range_succ, List.idxOf_cons]) (by simp [D.ren, D.rens, D.okN, D.okNs, Cp.ren, Cp.okN, HO.ren, HO.okN, okA, renA, renO, hOf, handed, D.fgt, D.fgts, List.range_succ, List.idxOf_cons]) (by simp [D.ren, D.rens, D.okN, D.okNs, Cp.ren, Cp.okN, HO.ren, HO.okN, okA, renA, renO, hOf, handed, D.fgt, D.fgts, List.range_succ, List.idxOf_cons])
  (rintro o hc ⟨rfl, rfl⟩; refine ⟨false, ?_⟩; simp [D.ren, D.rens, D.okN, D.okNs, Cp.ren, Cp.okN, HO.ren, HO.okN, okA, renA, renO, hOf, handed, D.fgt, D.fgts, List.range_succ, List.idxOf_cons, Out.ren, told, Out.fgt, upO, updS, setS])
  ((try simp only [wpAft_ret, wpAft_pan, putS, updS, setS]); (repeat (rw [wpS_cons]; simp)); (try simp only [wpS_nil, thenD, blockD]))
  (refine hK _ _ _ ?_; clear hK K)
  (refine wpD_ret ?_; (try simp only [thenD, blockD]); refine EndQ.ret rfl (.inl ?_); simp [tmOf, Out.fgt, D.fgt, D.fgts])
end Go.Proofs.YtebmlojhdnldgaaDoor

namespace Go.Proofs.YtebmlojhdnldgaaDoor
set_option linter.unusedSimpArgs false
set_option linter.unusedVariables false
open Go.RowKit
mutual
/-- all variables from 0 to 1000 -/
def T.tameB : T → Bool
  | .mk k n _ _ ks => !(decide (k = 1) && (decide (n < 0) || decide (1000 < n))) && T.tamesB ks
def T.tamesB : List T → Bool
  | [] => true
  | t :: r => T.tameB t && T.tamesB r
end
theorem T.tamesB_mem {ks : List T} (h : T.tamesB ks = true) {t : T} (ht : t ∈ ks) : t.tameB = true := by
  induction ks with
  | nil => cases ht
  | cons x r ih =>
    rw [T.tamesB, Bool.and_eq_true] at h
    cases ht with
    | head => exact h.1
    | tail _ hm => exact ih h.2 hm
theorem T.tame_num {k n a : Int} {ls : List LV} {ks : List T} (h : (T.mk k n a ls ks).tameB = true) : k = 1 → 0 ≤ n ∧ n ≤ 1000 := by
  rw [T.tameB, Bool.and_eq_true] at h
  intro hk
  have := h.1
  simp [hk] at this
  omega
theorem T.tame_kids {k n a : Int} {ls : List LV} {ks : List T} (h : (T.mk k n a ls ks).tameB = true) : T.tamesB ks = true := by
  rw [T.tameB, Bool.and_eq_true] at h; exact h.2
theorem walk_inr {f : Turn} {k n a : Int} {ls : List LV} {ks : List T} {d : Int} {x : Int × List LV} (h : f d (.mk k n a ls ks) = .inr x) : T.walk f (.mk k n a ls ks) d = .mk k x.1 a x.2 (T.walks f k ks 0 d) := by rw [T.walk, h]
theorem walk_inl {f : Turn} {k n a : Int} {ls : List LV} {ks : List T} {d : Int} {u : T} (h : f d (.mk k n a ls ks) = .inl u) : T.walk f (.mk k n a ls ks) d = u := by rw [T.walk, h]
theorem walk_lift (m fr k n a : Int) (ls : List LV) (ks : List T) (d : Int) : T.walk (liftTurn m fr) (.mk k n a ls ks) d = .mk k (liftNum m fr d k n) a ls (T.walks (liftTurn m fr) k ks 0 d) := by rw [T.walk]; rfl
theorem walks_comp {f g h : Turn} {k d1 d2 d3 : Int} (ks : List T) : ∀ i, (∀ (j : Nat) t, t ∈ ks → T.walk g (T.walk f t (belowD d1 k j)) (belowD d2 k j) = T.walk h t (belowD d3 k j)) → T.walks g k (T.walks f k ks i d1) i d2 = T.walks h k ks i d3 := by
  induction ks with
  | nil => intro i _; simp [T.walks]
  | cons t r ih =>
    intro i H
    simp only [T.walks]
    rw [H i t List.mem_cons_self, ih (i + 1) (fun j t ht => H j t (List.mem_cons_of_mem _ ht))]
theorem Fits.le {d : Int} {t : T} (h : Fits d t) : 0 ≤ d ∧ d ≤ 1099511627776 := by unfold Fits DM at h; omega
theorem w64s {n : Int} (h1 : -4000000000000000 ≤ n) (h2 : n ≤ 4000000000000000) : IntKind.i64.wrap n = n := i64w (by omega) (by omega)
theorem liftNum_in {n fr d k m : Int} (hd : 0 ≤ d ∧ d ≤ 1099511627776) (hm : k = 1 → 0 ≤ m ∧ m ≤ 1000000) (hn : 0 ≤ n ∧ n ≤ 1000000) : liftNum n fr d k m = if k = 1 ∧ d ≤ m ∧ fr ≤ m - d then m + n else m := by
  unfold liftNum
  by_cases h1 : k = 1
  · have := hm h1
    rw [w64s (n := m - d) (by omega) (by omega), w64s (n := m + n) (by omega) (by omega)]
  · rw [if_neg (fun h => h1 h.1), if_neg (fun h => h1 h.1)]
theorem lift_lift (n m fr : Int) (hn : 0 ≤ n ∧ n ≤ 1000) (hm : 0 ≤ m ∧ m ≤ 1000) (t : T) : ∀ d, t.tameB = true → Fits d t → T.walk (liftTurn m fr) (T.walk (liftTurn n fr) t d) d = T.walk (liftTurn (n + m) fr) t d := by
  induction t using T.ind with
  | h k num a ls ks ih =>
    intro d ht hd
    have hnum := T.tame_num ht
    have hd' := hd.le
    rw [walk_lift, walk_lift, walk_lift]
    rw [walks_comp ks 0 (fun j t hm' => ih t hm' _ (T.tamesB_mem (T.tame_kids ht) hm') (hd.kid hm' j))]
    rw [liftNum_in (n := n) hd' (fun h => by have := hnum h; omega) (by omega), liftNum_in (n := n + m) hd' (fun h => by have := hnum h; omega) (by omega), liftNum_in (n := m) hd' (fun h => by have := hnum h; split <;> omega) (by omega)]
    congr 1
    repeat' split
    all_goals first | omega | (rename_i h1 h2; first | omega | exact absurd ⟨h1.1, by omega, by omega⟩ h2) | (exfalso; rename_i h1 h2 h3; first | exact h2 ⟨h1.1, by omega, by omega⟩ | exact h3 ⟨h1.1, by omega, by omega⟩ | omega)
mutual
theorem T.lift_zero_aux (fr : Int) : ∀ (t : T) (d : Int), okT t → T.walk (liftTurn 0 fr) t d = t
  | .mk k n a ls ks, d, h => by
    rw [walk_lift, T.lifts_zero_aux fr k ks 0 d h.ks]
    have hn := h.n
    simp only [T.n_mk] at hn
    unfold I64 at hn
    have : liftNum 0 fr d k n = n := by
      unfold liftNum
      split
      · rw [Int.add_zero, i64w hn.1 hn.2]
      · rfl
    rw [this]
theorem T.lifts_zero_aux (fr k : Int) : ∀ (ks : List T) (i : Nat) (d : Int), (∀ t, t ∈ ks → okT t) → T.walks (liftTurn 0 fr) k ks i d = ks
  | [], _, _, _ => by rw [T.walks]
  | t :: r, i, d, h => by
    rw [T.walks, T.lift_zero_aux fr t _ (h t List.mem_cons_self), T.lifts_zero_aux fr k r (i + 1) d (fun t ht => h t (List.mem_cons_of_mem _ ht))]
end
theorem lift_zero {t : T} (h : okT t) (fr : Int) : t.lift 0 fr 0 = t := T.lift_zero_aux fr t 0 h
/-! sizes -/
mutual
theorem sz_lift (n fr : Int) : ∀ (t : T) (d : Int), (T.walk (liftTurn n fr) t d).sz = t.sz
  | .mk k m a ls ks, d => by rw [walk_lift, T.sz, T.sz, szs_lift n fr k ks 0 d 1]
theorem szs_lift (n fr k : Int) : ∀ (ks : List T) (i : Nat) (d s : Int), T.szs (T.walks (liftTurn n fr) k ks i d) s = T.szs ks s
  | [], _, _, _ => by rw [T.walks]
  | t :: r, i, d, s => by rw [T.walks, T.szs, T.szs, sz_lift n fr t, szs_lift n fr k r]
end
/-! what is free -/
theorem free_lift {n fr lo hi lo' hi' : Int} (H : ∀ d num, 0 ≤ d → d ≤ 1099511627776 → 0 ≤ num → num ≤ 1000 → hitB lo hi 1 (liftNum n fr d 1 num) d = hitB lo' hi' 1 num d) (t : T) : ∀ d, t.tameB = true → Fits d t → (T.walk (liftTurn n fr) t d).freeB lo hi d = t.freeB lo' hi' d := by
  induction t using T.ind with
  | h k num a ls ks ih =>
    intro d ht hd
    have hnum := T.tame_num ht
    have hd' := hd.le
    have hks : ∀ (l : List T), (∀ x, x ∈ l → x ∈ ks) → ∀ i, T.freesB lo hi k (T.walks (liftTurn n fr) k l i d) i d = T.freesB lo' hi' k l i d := by
      intro l
      induction l with
      | nil => intro _ i; simp [T.walks, T.freesB]
      | cons x r ihl =>
        intro hl i
        have hx := hl x List.mem_cons_self
        rw [T.walks, T.freesB, T.freesB, ih x hx _ (T.tamesB_mem (T.tame_kids ht) hx) (hd.kid hx i), ihl (fun y hy => hl y (List.mem_cons_of_mem _ hy))]
    rw [walk_lift, T.freeB, T.freeB, hks ks (fun _ h => h) 0]
    congr 1
    by_cases h1 : k = 1
    · subst h1
      have := hnum rfl
      exact H d num hd'.1 hd'.2 this.1 this.2
    · simp [hitB, h1]
theorem hitB_in {lo hi num d : Int} (hd : 0 ≤ d ∧ d ≤ 1099511627776) (h : 0 ≤ num ∧ num ≤ 1000000) : (hitB lo hi 1 num d = true ↔ d ≤ num ∧ lo ≤ num - d ∧ num - d < hi) := by
  unfold hitB
  rw [w64s (n := num - d) (by omega) (by omega)]
  simp [Bool.and_eq_true, and_assoc]
mutual
theorem free_none (lo : Int) : ∀ (t : T) (d : Int), t.freeB lo lo d = false
  | .mk k n a ls ks, d => by
    rw [T.freeB, frees_none lo k ks 0 d]
    simp [hitB]
theorem frees_none (lo k : Int) : ∀ (ks : List T) (i : Nat) (d : Int), T.freesB lo lo k ks i d = false
  | [], _, _ => by rw [T.freesB]
  | t :: r, i, d => by rw [T.freesB, free_none lo t, frees_none lo k r]; rfl
end
theorem free_gap (n fr : Int) (hn : 0 ≤ n ∧ n ≤ 1000) (hf : 0 ≤ fr ∧ fr ≤ 1000) (t : T) (ht : t.tameB = true) (hd : Fits 0 t) : (t.lift n fr 0).freeB fr (fr + n) 0 = false := by
  unfold T.lift
  rw [free_lift (lo' := 0) (hi' := 0) ?_ t 0 ht hd, free_none]
  intro d num h1 h2 h3 h4
  rw [liftNum_in ⟨h1, h2⟩ (fun _ => by omega) (by omega)]
  rw [Bool.eq_iff_iff, hitB_in ⟨h1, h2⟩ (by split <;> omega), hitB_in ⟨h1, h2⟩ (by omega)]
  split <;> rename_i h <;> constructor <;> intro h' <;> first | omega | (exfalso; exact h ⟨rfl, by omega, by omega⟩)
theorem free_above (n fr : Int) (hn : 0 ≤ n ∧ n ≤ 1000) (hf : 0 ≤ fr ∧ fr ≤ 1000) (t : T) (ht : t.tameB = true) (hd : Fits 0 t) : (t.lift n fr 0).freeB (fr + n) 6000 0 = t.freeB fr 5000 0 := by
  unfold T.lift
  refine free_lift ?_ t 0 ht hd
  intro d num h1 h2 h3 h4
  rw [liftNum_in ⟨h1, h2⟩ (fun _ => by omega) (by omega)]
  rw [Bool.eq_iff_iff, hitB_in ⟨h1, h2⟩ (by split <;> omega), hitB_in ⟨h1, h2⟩ (by omega)]
  split <;> rename_i h <;> constructor <;> intro h' <;> first | omega | (exfalso; exact h ⟨rfl, by omega, by omega⟩)
theorem free_below (n fr : Int) (hn : 0 ≤ n ∧ n ≤ 1000) (hf : 0 ≤ fr ∧ fr ≤ 1000) (t : T) (ht : t.tameB = true) (hd : Fits 0 t) : (t.lift n fr 0).freeB 0 fr 0 = t.freeB 0 fr 0 := by
  unfold T.lift
  refine free_lift ?_ t 0 ht hd
  intro d num h1 h2 h3 h4
  rw [liftNum_in ⟨h1, h2⟩ (fun _ => by omega) (by omega)]
  rw [Bool.eq_iff_iff, hitB_in ⟨h1, h2⟩ (by split <;> omega), hitB_in ⟨h1, h2⟩ (by omega)]
  split <;> rename_i h <;> constructor <;> intro h' <;> first | omega | (exfalso; exact h ⟨rfl, by omega, by omega⟩)
/-! what is the same -/
theorem sameLs_refl : ∀ l : List LV, sameLs l l = true
  | [] => rfl
  | a :: r => by rw [sameLs, sameLs_refl r]; simp
mutual
theorem T.same_refl : ∀ t : T, T.sameB t t = true
  | .mk k n a ls ks => by rw [T.sameB, sameLs_refl, T.sames_refl ks]; simp
theorem T.sames_refl : ∀ ks : List T, T.samesB ks ks = true
  | [] => by rw [T.samesB]
  | t :: r => by rw [T.samesB, T.same_refl t, T.sames_refl r]; rfl
end
theorem T.same_mk {k n a k' n' a' : Int} {ls ls' : List LV} {ks ks' : List T} : T.sameB (.mk k n a ls ks) (.mk k' n' a' ls' ks') = true ↔ k = k' ∧ n = n' ∧ a = a' ∧ sameLs ls ls' = true ∧ T.samesB ks ks' = true := by
  rw [T.sameB]; simp [and_assoc]
/-- turns that do the same to what is the same -/
def TurnSame (f g : Turn) : Prop := ∀ d t u, T.sameB t u = true → (∃ v w, f d t = .inl v ∧ g d u = .inl w ∧ T.sameB v w = true) ∨ (∃ m l l', f d t = .inr (m, l) ∧ g d u = .inr (m, l') ∧ sameLs l l' = true)
theorem same_walk {f g : Turn} (H : TurnSame f g) (t : T) : ∀ u d, T.sameB t u = true → T.sameB (T.walk f t d) (T.walk g u d) = true := by
  induction t using T.ind with
  | h k n a ls ks ih =>
    rintro ⟨k', n', a', ls', ks'⟩ d h
    have h0 := H d _ _ h
    obtain ⟨rfl, rfl, rfl, h4, h5⟩ := T.same_mk.1 h
    rcases h0 with ⟨v, w, h1, h2, h3⟩ | ⟨m, l, l', h1, h2, h3⟩
    · rw [walk_inl h1, walk_inl h2]; exact h3
    · rw [walk_inr h1, walk_inr h2]
      refine T.same_mk.2 ⟨rfl, rfl, rfl, h3, ?_⟩
      have : ∀ (l l' : List T), (∀ x, x ∈ l → x ∈ ks) → T.samesB l l' = true → ∀ i, T.samesB (T.walks f k l i d) (T.walks g k l' i d) = true := by
        intro l
        induction l with
        | nil =>
          intro l' _ hs i
          cases l' with
          | nil => simp [T.walks, T.samesB]
          | cons _ _ => simp [T.samesB] at hs
        | cons x r ihl =>
          intro l' hl hs i
          cases l' with
          | nil => simp [T.samesB] at hs
          | cons y s =>
            rw [T.samesB, Bool.and_eq_true] at hs
            rw [T.walks, T.walks, T.samesB, ih x (hl x List.mem_cons_self) y _ hs.1, ihl s (fun z hz => hl z (List.mem_cons_of_mem _ hz)) hs.2]
            rfl
      exact this ks ks' (fun _ h => h) h5 0
theorem same_k {t u : T} (h : T.sameB t u = true) : t.k = u.k ∧ t.n = u.n ∧ t.a = u.a ∧ sameLs t.ls u.ls = true := by
  cases t; cases u
  obtain ⟨h1, h2, h3, h4, h5⟩ := T.same_mk.1 h
  exact ⟨h1, h2, h3, h4⟩
theorem same_lift (n fr : Int) {t u : T} (h : T.sameB t u = true) : T.sameB (t.lift n fr 0) (u.lift n fr 0) = true := by
  refine same_walk ?_ t u 0 h
  intro d t u h
  obtain ⟨h1, h2, h3, h4⟩ := same_k h
  exact .inr ⟨_, _, _, rfl, by unfold liftTurn; rw [h1, h2], h4⟩
theorem putTurn_in {bys : List T} {d : Int} {t : T} (h1 : t.k = 1 ∧ d ≤ t.n) (h : (t.n - d).toNat < bys.length) : putTurn bys d t = .inl ((bys[bys.length - 1 - (t.n - d).toNat]'(by omega)).lift d 0 0) := by
  unfold putTurn; rw [if_pos h1, dif_pos h]
theorem putTurn_over {bys : List T} {d : Int} {t : T} (h1 : t.k = 1 ∧ d ≤ t.n) (h : ¬ (t.n - d).toNat < bys.length) : putTurn bys d t = .inr (IntKind.i64.wrap (t.n - bys.length), t.ls) := by
  unfold putTurn; rw [if_pos h1, dif_neg h]
theorem putTurn_low {bys : List T} {d : Int} {t : T} (h1 : ¬ (t.k = 1 ∧ d ≤ t.n)) : putTurn bys d t = .inr (t.n, t.ls) := by
  unfold putTurn; rw [if_neg h1]
theorem same_put (bys : List T) {t u : T} (h : T.sameB t u = true) : T.sameB (t.put bys 0) (u.put bys 0) = true := by
  refine same_walk ?_ t u 0 h
  rintro d ⟨k, n, a, ls, ks⟩ ⟨k', n', a', ls', ks'⟩ h
  obtain ⟨rfl, rfl, rfl, h4, h5⟩ := T.same_mk.1 h
  by_cases hh : k = 1 ∧ d ≤ n
  · by_cases hl : (n - d).toNat < bys.length
    · exact .inl ⟨_, _, putTurn_in (t := .mk k n a ls ks) hh hl, putTurn_in (t := .mk k n a ls' ks') hh hl, T.same_refl _⟩
    · exact .inr ⟨_, _, _, putTurn_over (t := .mk k n a ls ks) hh hl, putTurn_over (t := .mk k n a ls' ks') hh hl, h4⟩
  · exact .inr ⟨_, _, _, putTurn_low (t := .mk k n a ls ks) hh, putTurn_low (t := .mk k n a ls' ks') hh, h4⟩
theorem sameLs_map (f : LV → LV) (hf : ∀ a b, normOf a = normOf b → f a = f b) : ∀ l l' : List LV, sameLs l l' = true → sameLs (l.map f) (l'.map f) = true
  | [], [], _ => rfl
  | [], _ :: _, h => by simp [sameLs] at h
  | _ :: _, [], h => by simp [sameLs] at h
  | a :: r, b :: s, h => by
    rw [sameLs, Bool.and_eq_true, decide_eq_true_eq] at h
    rw [List.map_cons, List.map_cons, sameLs, sameLs_map f hf r s h.2, hf a b h.1]
    simp
theorem same_levels (bys : List LV) {t u : T} (h : T.sameB t u = true) : T.sameB (t.levels bys 0) (u.levels bys 0) = true := by
  refine same_walk ?_ t u 0 h
  intro d t u h
  obtain ⟨h1, h2, h3, h4⟩ := same_k h
  unfold levTurn
  rw [← h2]
  exact .inr ⟨_, _, _, rfl, rfl, sameLs_map _ (fun a b hab => by unfold putL; rw [hab]) _ _ h4⟩
mutual
theorem sz_same : ∀ (t u : T), T.sameB t u = true → t.sz = u.sz
  | .mk k n a ls ks, .mk k' n' a' ls' ks', h => by
    obtain ⟨_, _, _, _, h5⟩ := T.same_mk.1 h
    rw [T.sz, T.sz, szs_same ks ks' 1 h5]
theorem szs_same : ∀ (ks ks' : List T) (n : Int), T.samesB ks ks' = true → T.szs ks n = T.szs ks' n
  | [], [], n, _ => rfl
  | [], _ :: _, _, h => by simp [T.samesB] at h
  | _ :: _, [], _, h => by simp [T.samesB] at h
  | t :: r, u :: s, n, h => by
    rw [T.samesB, Bool.and_eq_true] at h
    rw [T.szs, T.szs, sz_same t u h.1, szs_same r s _ h.2]
end
end Go.Proofs.YtebmlojhdnldgaaDoor

namespace Go.Proofs.YtebmlojhdnldgaaDoor
set_option linter.unusedSimpArgs false
set_option linter.unusedVariables false
set_option maxHeartbeats 10000000
set_option maxRecDepth 20000
open Go.RowKit
attribute [local simp] wpAft_ret wpAft_pan wantD evOp opD tmOf putS updS setS hOf isFree isTok fillD TK.isAgg TK.known partD thenD blockD putAll D.ofV inB nilTest isNilS binX binD binE isCst bndD capB IntKind.min IntKind.max IntKind.signed IntKind.bits dstOf late
def cntF {α : Type} (step : α → Int → Int) (q : Int) : List α → Int → Int
  | [], n => n
  | x :: r, n => if n ≤ q then cntF step q r (step x n) else n
def lvOf (q : Int) (l : LV) : Int := min (IntKind.i64.wrap (1 + (l.length : Int))) (IntKind.i64.wrap (q + 1))
theorem lvOf_spec (l : LV) (q : Int) : Spec Tryd.prog glob 70 [encL l, .int .i64 q] [] (fun o _ => o.fgt = .ret (.int .i64 (lvOf q l))) := by
  refine Spec.movd globPure (wpD_spec tyOK Tryd.func70 rfl (enters _ _ Tryd.func70 rfl (by decide)) rfl rfl ?_)
  unfold encL
  (refine wpD_seqk fun K hK => ?_; refine wpD_region tyOK ?_; ((try simp only [wpAft_ret, wpAft_pan, putS, updS, setS]); (repeat (rw [wpS_cons]; simp)); (try simp only [wpS_nil, thenD, blockD])); refine hK _ _ _ ?_; clear hK K)
  (refine wpD_seqk fun K hK => ?_; refine wpD_region tyOK ?_; ((try simp only [wpAft_ret, wpAft_pan, putS, updS, setS]); (repeat (rw [wpS_cons]; simp)); (try simp only [wpS_nil, thenD, blockD])); refine hK _ _ _ ?_; clear hK K)
  (refine wpD_ret ?_; (try simp only [thenD, blockD]); refine EndQ.ret rfl (.inl ?_); simp [tmOf, Out.fgt, D.fgt, D.fgts])
  rfl
theorem lvsOf_gen (l : List (LV)) (q : Int) (step : LV → Int → Int) (hl : l.length ≤ LMax) (hst : ∀ x s, step x s = IntKind.i64.wrap (s + lvOf q x)) (hg : ∀ x, x ∈ l → ∀ s : Int, Spec Tryd.prog glob 70 [encL x, .int .i64 q] [] (fun o _ => o.fgt = .ret (.int .i64 (lvOf q x)))) :
    Spec Tryd.prog glob 50 [.slice (l.map encL) .any, .int .i64 q] [] (fun o _ => o.fgt = .ret (.int .i64 (cntF step q l 0))) := by
  obtain ⟨R, hR⟩ : ∃ R, R = cntF step q l 0 := ⟨_, rfl⟩
  rw [← hR]
  have hl0 := hl
  unfold LMax at hl0
  refine Spec.movd globPure (wpD_spec tyOK Tryd.func50 rfl (enters _ _ Tryd.func50 rfl (by decide)) rfl rfl ?_)
  (refine wpD_seqk fun K hK => ?_; refine wpD_region tyOK ?_; ((try simp only [wpAft_ret, wpAft_pan, putS, updS, setS]); (repeat (rw [wpS_cons]; simp)); (try simp only [wpS_nil, thenD, blockD])); refine hK _ _ _ ?_; clear hK K)
  (refine wpD_seqk fun K hK => ?_; refine wpD_region tyOK ?_; ((try simp only [wpAft_ret, wpAft_pan, putS, updS, setS]); (repeat (rw [wpS_cons]; simp)); (try simp only [wpS_nil, thenD, blockD])); refine hK _ _ _ ?_; clear hK K)
  refine wpD_seqk fun K1 hK1 => ?_
  (refine wpD_seqk fun K hK => ?_; refine wpD_region tyOK ?_; ((try simp only [wpAft_ret, wpAft_pan, putS, updS, setS]); (repeat (rw [wpS_cons]; simp)); (try simp only [wpS_nil, thenD, blockD])); refine hK _ _ _ ?_; clear hK K)
  refine wpD_block ?_
  refine wpD_loopWJ [7, 8, 9, 10, 11, 12, 13, 14, 15, 16, 17, 18, 19, 20, 21, 22, 23, 24, 25] [5, 6] (fun n ys hl => ∃ (k : Nat) (s : Int), ys = [.int .i64 s, .int .i64 k] ∧ n + k = l.length ∧ R = cntF step q (l.drop k) s ∧ hl = []) (l.length) (by kernel_rfl) ?_ ?_
  · exact ⟨0, 0, rfl, rfl, hR, rfl⟩
  · rintro n ys hl A hA ⟨i, s, rfl, hn, hF, rfl⟩
    simp only [putAll, List.set, List.map_cons, List.map_nil, List.cons_append, List.nil_append]
    refine wpD_seqk fun K2 hK2 => ?_
    by_cases hi : i < l.length
    · have hi' : (i : Int) < l.length := by omega
      by_cases hs : s ≤ q
      · (refine wpD_seqk fun K hK => ?_; refine wpD_region tyOK ?_; ((try simp only [wpAft_ret, wpAft_pan, putS, updS, setS]); (repeat (rw [wpS_cons]; simp [hi, hi', hs])); (try simp only [wpS_nil, thenD, blockD])); refine hK _ _ _ ?_; clear hK K)
        refine wpD_part rfl (fun _ => ?_) (fun h => by simp at h)
        refine wpD_skip (hK2 _ _ _ ?_)
        clear hK2 K2
        refine wpD_seqk fun K3 hK3 => ?_
        refine wpD_block ?_
        rw [List.drop_eq_getElem_cons hi, cntF, if_pos hs] at hF
        have hrec := hg l[i] (List.getElem_mem hi) s
        obtain ⟨x, hx⟩ : ∃ x, l[i] = x := ⟨_, rfl⟩
        rw [hx] at hrec hF
        unfold encL at hrec
        obtain ⟨v, hv⟩ : ∃ v, lvOf q x = v := ⟨_, rfl⟩
        rw [hv] at hrec
        rw [hst, hv] at hF
        (refine wpD_region tyOK ?_; ((try simp only [wpAft_ret, wpAft_pan, putS, updS, setS]); (repeat (rw [wpS_cons]; simp [hi, hi', hx, encL])); (try simp only [wpS_nil, thenD, blockD])))
        refine CallX.pure globPure (hrec) ?_ (by simp [D.fgts, D.fgt]) (by simp [D.pures, D.pure, Cp.free, D.pures_map]) (by simp [Out.pure, D.pure, D.pures, Cp.free, D.pures_map])
        ((try simp only [wpAft_ret, wpAft_pan, putS, updS, setS]); (repeat (rw [wpS_cons]; simp)); (try simp only [wpS_nil, thenD, blockD]))
        refine hK3 _ _ _ ?_
        clear hK3 K3
        have hw1 : IntKind.i64.wrap ((i : Int) + 1) = (i : Int) + 1 := i64w (by omega) (by omega)
        (refine wpD_region tyOK ?_; ((try simp only [wpAft_ret, wpAft_pan, putS, updS, setS]); (repeat (rw [wpS_cons]; simp [hw1])); (try simp only [wpS_nil, thenD, blockD])))
        refine hA (n - 1) _ _ _ (LeT.refl _) (by omega) (by kernel_rfl) ?_
        exact ⟨i + 1, _, rfl, by omega, hF, rfl⟩
      · (refine wpD_seqk fun K hK => ?_; refine wpD_region tyOK ?_; ((try simp only [wpAft_ret, wpAft_pan, putS, updS, setS]); (repeat (rw [wpS_cons]; simp [hi, hi', hs])); (try simp only [wpS_nil, thenD, blockD])); refine hK _ _ _ ?_; clear hK K)
        refine wpD_part rfl (fun h => by simp at h) (fun _ => ?_)
        refine wpD_exit ?_
        refine hK1 _ _ _ ?_
        rw [List.drop_eq_getElem_cons hi, cntF, if_neg hs] at hF
        subst hF
        (refine wpD_seqk fun K hK => ?_; refine wpD_region tyOK ?_; ((try simp only [wpAft_ret, wpAft_pan, putS, updS, setS]); (repeat (rw [wpS_cons]; simp)); (try simp only [wpS_nil, thenD, blockD])); refine hK _ _ _ ?_; clear hK K)
        (refine wpD_ret ?_; (try simp only [thenD, blockD]); refine EndQ.ret rfl (.inl ?_); simp [tmOf, Out.fgt, D.fgt, D.fgts])
    · have hi' : ¬ (i : Int) < l.length := by omega
      (refine wpD_seqk fun K hK => ?_; refine wpD_region tyOK ?_; ((try simp only [wpAft_ret, wpAft_pan, putS, updS, setS]); (repeat (rw [wpS_cons]; simp [hi, hi'])); (try simp only [wpS_nil, thenD, blockD])); refine hK _ _ _ ?_; clear hK K)
      refine wpD_part rfl (fun h => by simp at h) (fun _ => ?_)
      refine wpD_exit ?_
      refine hK1 _ _ _ ?_
      rw [List.drop_of_length_le (by omega), cntF] at hF
      subst hF
      (refine wpD_seqk fun K hK => ?_; refine wpD_region tyOK ?_; ((try simp only [wpAft_ret, wpAft_pan, putS, updS, setS]); (repeat (rw [wpS_cons]; simp)); (try simp only [wpS_nil, thenD, blockD])); refine hK _ _ _ ?_; clear hK K)
      (refine wpD_ret ?_; (try simp only [thenD, blockD]); refine EndQ.ret rfl (.inl ?_); simp [tmOf, Out.fgt, D.fgt, D.fgts])
def lvsN (q : Int) (ls : List LV) : Int := cntF (fun x s => IntKind.i64.wrap (s + lvOf q x)) q ls 0
theorem lvsN_spec (ls : List LV) (q : Int) (hl : ls.length ≤ LMax) : Spec Tryd.prog glob 50 [.slice (ls.map encL) .any, .int .i64 q] [] (fun o _ => o.fgt = .ret (.int .i64 (lvsN q ls))) :=
  lvsOf_gen ls q _ hl (fun _ _ => rfl) (fun x _ _ => lvOf_spec x q)
mutual
def T.tof : T → Int → Int
  | .mk _ _ _ ls ks, q => IntKind.i64.wrap (IntKind.i64.wrap (1 + lvsN q ls) + T.tofs ks 0 q)
def T.tofs : List T → Int → Int → Int
  | [], n, _ => n
  | t :: r, n, q => if n ≤ q then T.tofs r (IntKind.i64.wrap (n + T.tof t (IntKind.i64.wrap (q - n)))) q else n
end
theorem tofs_cnt (q : Int) : ∀ (l : List T) (n : Int), T.tofs l n q = cntF (fun x s => IntKind.i64.wrap (s + T.tof x (IntKind.i64.wrap (q - s)))) q l n
  | [], n => by rw [T.tofs, cntF]
  | t :: r, n => by rw [T.tofs, cntF, tofs_cnt q r]
theorem tofs_gen (l : List (T)) (q : Int) (step : T → Int → Int) (hl : l.length ≤ LMax) (hst : ∀ x s, step x s = IntKind.i64.wrap (s + T.tof x (IntKind.i64.wrap (q - s)))) (hg : ∀ x, x ∈ l → ∀ s : Int, Spec Tryd.prog glob 12 [encT x, .int .i64 (IntKind.i64.wrap (q - s))] [] (fun o _ => o.fgt = .ret (.int .i64 (T.tof x (IntKind.i64.wrap (q - s)))))) :
    Spec Tryd.prog glob 51 [.slice (l.map encT) .any, .int .i64 q] [] (fun o _ => o.fgt = .ret (.int .i64 (cntF step q l 0))) := by
  obtain ⟨R, hR⟩ : ∃ R, R = cntF step q l 0 := ⟨_, rfl⟩
  rw [← hR]
  have hl0 := hl
  unfold LMax at hl0
  refine Spec.movd globPure (wpD_spec tyOK Tryd.func51 rfl (enters _ _ Tryd.func51 rfl (by decide)) rfl rfl ?_)
  (refine wpD_seqk fun K hK => ?_; refine wpD_region tyOK ?_; ((try simp only [wpAft_ret, wpAft_pan, putS, updS, setS]); (repeat (rw [wpS_cons]; simp)); (try simp only [wpS_nil, thenD, blockD])); refine hK _ _ _ ?_; clear hK K)
  (refine wpD_seqk fun K hK => ?_; refine wpD_region tyOK ?_; ((try simp only [wpAft_ret, wpAft_pan, putS, updS, setS]); (repeat (rw [wpS_cons]; simp)); (try simp only [wpS_nil, thenD, blockD])); refine hK _ _ _ ?_; clear hK K)
  refine wpD_seqk fun K1 hK1 => ?_
  (refine wpD_seqk fun K hK => ?_; refine wpD_region tyOK ?_; ((try simp only [wpAft_ret, wpAft_pan, putS, updS, setS]); (repeat (rw [wpS_cons]; simp)); (try simp only [wpS_nil, thenD, blockD])); refine hK _ _ _ ?_; clear hK K)
  refine wpD_block ?_
  refine wpD_loopWJ [7, 8, 9, 10, 11, 12, 13, 14, 15, 16, 17, 18, 19, 20, 21, 22, 23, 24, 25, 26, 27] [5, 6] (fun n ys hl => ∃ (k : Nat) (s : Int), ys = [.int .i64 s, .int .i64 k] ∧ n + k = l.length ∧ R = cntF step q (l.drop k) s ∧ hl = []) (l.length) (by kernel_rfl) ?_ ?_
  · exact ⟨0, 0, rfl, rfl, hR, rfl⟩
  · rintro n ys hl A hA ⟨i, s, rfl, hn, hF, rfl⟩
    simp only [putAll, List.set, List.map_cons, List.map_nil, List.cons_append, List.nil_append]
    refine wpD_seqk fun K2 hK2 => ?_
    by_cases hi : i < l.length
    · have hi' : (i : Int) < l.length := by omega
      by_cases hs : s ≤ q
      · (refine wpD_seqk fun K hK => ?_; refine wpD_region tyOK ?_; ((try simp only [wpAft_ret, wpAft_pan, putS, updS, setS]); (repeat (rw [wpS_cons]; simp [hi, hi', hs])); (try simp only [wpS_nil, thenD, blockD])); refine hK _ _ _ ?_; clear hK K)
        refine wpD_part rfl (fun _ => ?_) (fun h => by simp at h)
        refine wpD_skip (hK2 _ _ _ ?_)
        clear hK2 K2
        refine wpD_seqk fun K3 hK3 => ?_
        refine wpD_block ?_
        rw [List.drop_eq_getElem_cons hi, cntF, if_pos hs] at hF
        have hrec := hg l[i] (List.getElem_mem hi) s
        obtain ⟨x, hx⟩ : ∃ x, l[i] = x := ⟨_, rfl⟩
        rw [hx] at hrec hF
        have hEx := encT_eq x
        rw [hEx] at hrec
        rw [hst] at hF
        generalize T.tof x (IntKind.i64.wrap (q - s)) = v at hrec hF
        (refine wpD_region tyOK ?_; ((try simp only [wpAft_ret, wpAft_pan, putS, updS, setS]); (repeat (rw [wpS_cons]; simp [hi, hi', hx, hEx])); (try simp only [wpS_nil, thenD, blockD])))
        refine CallX.pure globPure (hrec) ?_ (by simp [D.fgts, D.fgt]) (by simp [D.pures, D.pure, Cp.free, D.pures_map]) (by simp [Out.pure, D.pure, D.pures, Cp.free, D.pures_map])
        ((try simp only [wpAft_ret, wpAft_pan, putS, updS, setS]); (repeat (rw [wpS_cons]; simp)); (try simp only [wpS_nil, thenD, blockD]))
        refine hK3 _ _ _ ?_
        clear hK3 K3
        have hw1 : IntKind.i64.wrap ((i : Int) + 1) = (i : Int) + 1 := i64w (by omega) (by omega)
        (refine wpD_region tyOK ?_; ((try simp only [wpAft_ret, wpAft_pan, putS, updS, setS]); (repeat (rw [wpS_cons]; simp [hw1])); (try simp only [wpS_nil, thenD, blockD])))
        refine hA (n - 1) _ _ _ (LeT.refl _) (by omega) (by kernel_rfl) ?_
        exact ⟨i + 1, _, rfl, by omega, hF, rfl⟩
      · (refine wpD_seqk fun K hK => ?_; refine wpD_region tyOK ?_; ((try simp only [wpAft_ret, wpAft_pan, putS, updS, setS]); (repeat (rw [wpS_cons]; simp [hi, hi', hs])); (try simp only [wpS_nil, thenD, blockD])); refine hK _ _ _ ?_; clear hK K)
        refine wpD_part rfl (fun h => by simp at h) (fun _ => ?_)
        refine wpD_exit ?_
        refine hK1 _ _ _ ?_
        rw [List.drop_eq_getElem_cons hi, cntF, if_neg hs] at hF
        subst hF
        (refine wpD_seqk fun K hK => ?_; refine wpD_region tyOK ?_; ((try simp only [wpAft_ret, wpAft_pan, putS, updS, setS]); (repeat (rw [wpS_cons]; simp)); (try simp only [wpS_nil, thenD, blockD])); refine hK _ _ _ ?_; clear hK K)
        (refine wpD_ret ?_; (try simp only [thenD, blockD]); refine EndQ.ret rfl (.inl ?_); simp [tmOf, Out.fgt, D.fgt, D.fgts])
    · have hi' : ¬ (i : Int) < l.length := by omega
      (refine wpD_seqk fun K hK => ?_; refine wpD_region tyOK ?_; ((try simp only [wpAft_ret, wpAft_pan, putS, updS, setS]); (repeat (rw [wpS_cons]; simp [hi, hi'])); (try simp only [wpS_nil, thenD, blockD])); refine hK _ _ _ ?_; clear hK K)
      refine wpD_part rfl (fun h => by simp at h) (fun _ => ?_)
      refine wpD_exit ?_
      refine hK1 _ _ _ ?_
      rw [List.drop_of_length_le (by omega), cntF] at hF
      subst hF
      (refine wpD_seqk fun K hK => ?_; refine wpD_region tyOK ?_; ((try simp only [wpAft_ret, wpAft_pan, putS, updS, setS]); (repeat (rw [wpS_cons]; simp)); (try simp only [wpS_nil, thenD, blockD])); refine hK _ _ _ ?_; clear hK K)
      (refine wpD_ret ?_; (try simp only [thenD, blockD]); refine EndQ.ret rfl (.inl ?_); simp [tmOf, Out.fgt, D.fgt, D.fgts])
theorem tof_spec (t : T) : ∀ q, okT t → Spec Tryd.prog glob 12 [encT t, .int .i64 q] [] (fun o _ => o.fgt = .ret (.int .i64 (t.tof q))) := by
  induction t using T.ind with
  | h k n a ls ks ih =>
    intro q ht
    have hks := ht.ks
    simp only [T.ks_mk] at hks
    have hL := lvsN_spec ls q ht.ll
    have hT := tofs_gen ks q _ ht.kl (fun _ _ => rfl) (fun x hx s => ih x hx _ (hks x hx))
    rw [← tofs_cnt] at hT
    have e : (T.mk k n a ls ks).tof q = IntKind.i64.wrap (IntKind.i64.wrap (1 + lvsN q ls) + T.tofs ks 0 q) := by rw [T.tof]
    rw [e]
    generalize lvsN q ls = v at hL ⊢
    generalize T.tofs ks 0 q = v2 at hT ⊢
    rw [encT_eq]
    simp only [T.k_mk, T.n_mk, T.a_mk, T.ls_mk, T.ks_mk]
    refine Spec.movd globPure (wpD_spec tyOK Tryd.func12 rfl (enters _ _ Tryd.func12 rfl (by decide)) rfl rfl ?_)
    (refine wpD_seqk fun K hK => ?_; refine wpD_region tyOK ?_; ((try simp only [wpAft_ret, wpAft_pan, putS, updS, setS]); (repeat (rw [wpS_cons]; simp)); (try simp only [wpS_nil, thenD, blockD])); refine hK _ _ _ ?_; clear hK K)
    (refine wpD_seqk fun K hK => ?_; refine wpD_drawk tyOK (by kernel_rfl) (by kernel_rfl) fun KT hKT => ?_; ((try simp only [wpAftT_ret, wpAftT_pan, putS, updS, setS]); (repeat (rw [wpT_cons]; simp)); (try simp only [wpT_nil])))
    refine CallY.pure globPure (hL) ?_ (by simp [D.fgts, D.fgt]) (by simp [D.pures, D.pure, Cp.free, D.pures_map]) (by simp [Out.pure, D.pure, D.pures, Cp.free, D.pures_map])
    ((try simp only [wpAftT_ret, wpAftT_pan, putS, updS, setS]); (repeat (rw [wpT_cons]; simp)); (try simp only [wpT_nil]))
    refine CallY.pure globPure (hT) ?_ (by simp [D.fgts, D.fgt]) (by simp [D.pures, D.pure, Cp.free, D.pures_map]) (by simp [Out.pure, D.pure, D.pures, Cp.free, D.pures_map])
    ((try simp only [wpAftT_ret, wpAftT_pan, putS, updS, setS]); (repeat (rw [wpT_cons]; simp)); (try simp only [wpT_nil]))
    (refine hKT _ _ _ _ (by kernel_rfl) ?_; clear hKT KT; (try simp only [thenD, blockD]))
    (refine hK _ _ _ ?_; clear hK K)
    (refine wpD_ret ?_; (try simp only [thenD, blockD]); refine EndQ.ret rfl (.inl ?_); simp [tmOf, Out.fgt, D.fgt, D.fgts])
theorem tofs_spec (l : List T) (q : Int) (hl : l.length ≤ LMax) (hls : ∀ x, x ∈ l → okT x) : Spec Tryd.prog glob 51 [.slice (l.map encT) .any, .int .i64 q] [] (fun o _ => o.fgt = .ret (.int .i64 (T.tofs l 0 q))) := by
  rw [tofs_cnt]
  exact tofs_gen l q _ hl (fun _ _ => rfl) (fun x hx s => tof_spec x _ (hls x hx))
end Go.Proofs.YtebmlojhdnldgaaDoor

namespace Go.Proofs.YtebmlojhdnldgaaDoor
set_option linter.unusedSimpArgs false
set_option linter.unusedVariables false
set_option maxHeartbeats 10000000
set_option maxRecDepth 20000
open Go.RowKit
attribute [local simp] wpAft_ret wpAft_pan wantD evOp opD tmOf putS updS setS hOf isFree isTok fillD TK.isAgg TK.known partD thenD blockD putAll D.ofV inB nilTest isNilS binX binD binE isCst bndD capB IntKind.min IntKind.max IntKind.signed IntKind.bits dstOf late
def vT (n : Int) : T := .mk 1 n 0 [] []
def appT (f a : T) : T := .mk 6 0 0 [] [f, a]
def lamT (a b : T) : T := .mk 5 0 0 [] [a, b]
theorem encT_mk (k n a : Int) (ls : List LV) (ks : List T) : encT (.mk k n a ls ks) = .agg [.int .i64 k, .int .i64 n, .int .i64 a, .slice (ls.map encL) .any, .slice (ks.map encT) .any] := encT_eq _
theorem v2_spec (n : Int) : Spec Tryd.prog glob 79 [.int .i64 n] [] (fun o _ => o.fgt = .ret (encT (vT n))) := by
  unfold vT
  rw [encT_mk]
  refine Spec.movd globPure (wpD_spec tyOK Tryd.func79 rfl (enters _ _ Tryd.func79 rfl (by decide)) rfl rfl ?_)
  (refine wpD_seqk fun K hK => ?_; refine wpD_region tyOK ?_; ((try simp only [wpAft_ret, wpAft_pan, putS, updS, setS]); (repeat (rw [wpS_cons]; simp)); (try simp only [wpS_nil, thenD, blockD])); refine hK _ _ _ ?_; clear hK K)
  (refine wpD_seqk fun K hK => ?_; refine wpD_region tyOK ?_; ((try simp only [wpAft_ret, wpAft_pan, putS, updS, setS]); (repeat (rw [wpS_cons]; simp)); (try simp only [wpS_nil, thenD, blockD])); refine hK _ _ _ ?_; clear hK K)
  (refine wpD_ret ?_; (try simp only [thenD, blockD]); refine EndQ.ret rfl (.inl ?_); simp [tmOf, Out.fgt, D.fgt, D.fgts])
theorem app2_spec (f a : T) : Spec Tryd.prog glob 80 [encT f, encT a] [] (fun o _ => o.fgt = .ret (encT (appT f a))) := by
  have hf := encT_eq f
  have ha := encT_eq a
  unfold appT
  rw [encT_mk]
  simp only [List.map_cons, List.map_nil]
  rw [hf, ha]
  refine Spec.movd globPure (wpD_spec tyOK Tryd.func80 rfl (enters _ _ Tryd.func80 rfl (by decide)) rfl rfl ?_)
  (refine wpD_seqk fun K hK => ?_; refine wpD_region tyOK ?_; ((try simp only [wpAft_ret, wpAft_pan, putS, updS, setS]); (repeat (rw [wpS_cons]; simp)); (try simp only [wpS_nil, thenD, blockD])); refine hK _ _ _ ?_; clear hK K)
  (refine wpD_seqk fun K hK => ?_; refine wpD_region tyOK ?_; ((try simp only [wpAft_ret, wpAft_pan, putS, updS, setS]); (repeat (rw [wpS_cons]; simp)); (try simp only [wpS_nil, thenD, blockD])); refine hK _ _ _ ?_; clear hK K)
  (refine wpD_ret ?_; (try simp only [thenD, blockD]); refine EndQ.ret rfl (.inl ?_); simp [tmOf, Out.fgt, D.fgt, D.fgts])
theorem lam2_spec (f a : T) : Spec Tryd.prog glob 78 [encT f, encT a] [] (fun o _ => o.fgt = .ret (encT (lamT f a))) := by
  have hf := encT_eq f
  have ha := encT_eq a
  unfold lamT
  rw [encT_mk]
  simp only [List.map_cons, List.map_nil]
  rw [hf, ha]
  refine Spec.movd globPure (wpD_spec tyOK Tryd.func78 rfl (enters _ _ Tryd.func78 rfl (by decide)) rfl rfl ?_)
  (refine wpD_seqk fun K hK => ?_; refine wpD_region tyOK ?_; ((try simp only [wpAft_ret, wpAft_pan, putS, updS, setS]); (repeat (rw [wpS_cons]; simp)); (try simp only [wpS_nil, thenD, blockD])); refine hK _ _ _ ?_; clear hK K)
  (refine wpD_seqk fun K hK => ?_; refine wpD_region tyOK ?_; ((try simp only [wpAft_ret, wpAft_pan, putS, updS, setS]); (repeat (rw [wpS_cons]; simp)); (try simp only [wpS_nil, thenD, blockD])); refine hK _ _ _ ?_; clear hK K)
  (refine wpD_ret ?_; (try simp only [thenD, blockD]); refine EndQ.ret rfl (.inl ?_); simp [tmOf, Out.fgt, D.fgt, D.fgts])
theorem same2_spec (t u : T) (ht : okT t) (hu : okT u) : Spec Tryd.prog glob 30 [encT t, encT u] [] (fun o _ => o.fgt = .ret (.bool (t.eqB u))) := by
  have h := eqT_spec t u ht hu
  have hf := encT_eq t
  have ha := encT_eq u
  rw [hf, ha] at h ⊢
  refine Spec.movd globPure (wpD_spec tyOK Tryd.func30 rfl (enters _ _ Tryd.func30 rfl (by decide)) rfl rfl ?_)
  (refine wpD_seqk fun K hK => ?_; refine wpD_region tyOK ?_; ((try simp only [wpAft_ret, wpAft_pan, putS, updS, setS]); (repeat (rw [wpS_cons]; simp)); (try simp only [wpS_nil, thenD, blockD])); refine hK _ _ _ ?_; clear hK K)
  (refine wpD_seqk fun K hK => ?_; refine wpD_region tyOK ?_; ((try simp only [wpAft_ret, wpAft_pan, putS, updS, setS]); (repeat (rw [wpS_cons]; simp)); (try simp only [wpS_nil, thenD, blockD])))
  refine CallX.pure globPure (h) ?_ (by simp [D.fgts, D.fgt]) (by simp [D.pures, D.pure, Cp.free, D.pures_map]) (by simp [Out.pure, D.pure, D.pures, Cp.free, D.pures_map])
  ((try simp only [wpAft_ret, wpAft_pan, putS, updS, setS]); (repeat (rw [wpS_cons]; simp)); (try simp only [wpS_nil, thenD, blockD]))
  (refine hK _ _ _ ?_; clear hK K)
  (refine wpD_ret ?_; (try simp only [thenD, blockD]); refine EndQ.ret rfl (.inl ?_); simp [tmOf, Out.fgt, D.fgt, D.fgts])
theorem great2_spec (l : List T) (hl : l.length ≤ LMax) (hls : ∀ x, x ∈ l → okT x) : ∃ b, Spec Tryd.prog glob 27 [.slice (l.map encT) .any] [] (fun o _ => o.fgt = .ret (.bool b)) := by
  have h := tofs_spec l 600 hl hls
  generalize T.tofs l 0 600 = v at h
  refine ⟨decide (600 < v), ?_⟩
  refine Spec.movd globPure (wpD_spec tyOK Tryd.func27 rfl (enters _ _ Tryd.func27 rfl (by decide)) rfl rfl ?_)
  (refine wpD_seqk fun K hK => ?_; refine wpD_region tyOK ?_; ((try simp only [wpAft_ret, wpAft_pan, putS, updS, setS]); (repeat (rw [wpS_cons]; simp)); (try simp only [wpS_nil, thenD, blockD])); refine hK _ _ _ ?_; clear hK K)
  (refine wpD_seqk fun K hK => ?_; refine wpD_region tyOK ?_; ((try simp only [wpAft_ret, wpAft_pan, putS, updS, setS]); (repeat (rw [wpS_cons]; simp)); (try simp only [wpS_nil, thenD, blockD])))
  refine CallX.pure globPure (h) ?_ (by simp [D.fgts, D.fgt]) (by simp [D.pures, D.pure, Cp.free, D.pures_map]) (by simp [Out.pure, D.pure, D.pures, Cp.free, D.pures_map])
  ((try simp only [wpAft_ret, wpAft_pan, putS, updS, setS]); (repeat (rw [wpS_cons]; simp)); (try simp only [wpS_nil, thenD, blockD]))
  (refine hK _ _ _ ?_; clear hK K)
  (refine wpD_ret ?_; (try simp only [thenD, blockD]); refine EndQ.ret rfl (.inl ?_); simp [tmOf, Out.fgt, D.fgt, D.fgts])
theorem tames_gen (l : List T) (hl : l.length ≤ LMax) (hg : ∀ x, x ∈ l → Spec Tryd.prog glob 28 [.slice (x.ks.map encT) .any] [] (fun o _ => o.fgt = .ret (.bool (T.tamesB x.ks)))) :
    Spec Tryd.prog glob 28 [.slice (l.map encT) .any] [] (fun o _ => o.fgt = .ret (.bool (T.tamesB l))) := by
  obtain ⟨R, hR⟩ : ∃ R, R = T.tamesB l := ⟨_, rfl⟩
  rw [← hR]
  have hl0 := hl
  unfold LMax at hl0
  refine Spec.movd globPure (wpD_spec tyOK Tryd.func28 rfl (enters _ _ Tryd.func28 rfl (by decide)) rfl rfl ?_)
  (refine wpD_seqk fun K hK => ?_; refine wpD_region tyOK ?_; ((try simp only [wpAft_ret, wpAft_pan, putS, updS, setS]); (repeat (rw [wpS_cons]; simp)); (try simp only [wpS_nil, thenD, blockD])); refine hK _ _ _ ?_; clear hK K)
  refine wpD_seqk fun K1 hK1 => ?_
  (refine wpD_seqk fun K hK => ?_; refine wpD_region tyOK ?_; ((try simp only [wpAft_ret, wpAft_pan, putS, updS, setS]); (repeat (rw [wpS_cons]; simp)); (try simp only [wpS_nil, thenD, blockD])); refine hK _ _ _ ?_; clear hK K)
  refine wpD_block ?_
  refine wpD_loopWJ [2, 4, 5, 6, 7, 8, 9, 10, 11, 12, 13, 14, 15, 16, 17, 18, 19, 20, 21, 22, 23, 24, 25, 26, 27, 28, 29, 30, 31, 32, 33, 34, 35, 36, 37, 38, 39, 40] [3] (fun n ys hl => ∃ (k : Nat), ys = [.int .i64 k] ∧ n + k = l.length ∧ R = T.tamesB (l.drop k) ∧ hl = []) (l.length) (by kernel_rfl) ?_ ?_
  · exact ⟨0, rfl, rfl, hR, rfl⟩
  · rintro n ys hl A hA ⟨i, rfl, hn, hF, rfl⟩
    simp only [putAll, List.set, List.map_cons, List.map_nil, List.cons_append, List.nil_append]
    refine wpD_seqk fun K2 hK2 => ?_
    by_cases hi : i < l.length
    · have hi' : (i : Int) < l.length := by omega
      (refine wpD_seqk fun K hK => ?_; refine wpD_region tyOK ?_; ((try simp only [wpAft_ret, wpAft_pan, putS, updS, setS]); (repeat (rw [wpS_cons]; simp [hi, hi'])); (try simp only [wpS_nil, thenD, blockD])); refine hK _ _ _ ?_; clear hK K)
      refine wpD_part rfl (fun _ => ?_) (fun h => by simp at h)
      refine wpD_skip (hK2 _ _ _ ?_)
      clear hK2 K2
      refine wpD_seqk fun K3 hK3 => ?_
      refine wpD_block ?_
      rw [List.drop_eq_getElem_cons hi, T.tamesB] at hF
      have hrec := hg l[i] (List.getElem_mem hi)
      obtain ⟨x, hx⟩ : ∃ x, l[i] = x := ⟨_, rfl⟩
      rw [hx] at hrec hF
      obtain ⟨xk, xn, xa, xls, xks⟩ := x
      have hEx := encT_mk xk xn xa xls xks
      simp only [T.ks_mk] at hrec
      rw [T.tameB] at hF
      generalize T.tamesB xks = B at hrec hF
      have hw1 : IntKind.i64.wrap ((i : Int) + 1) = (i : Int) + 1 := i64w (by omega) (by omega)
      have fin : ∀ (b : Bool), R = (b && T.tamesB (l.drop (i + 1))) → b = true → R = T.tamesB (l.drop (i + 1)) := fun b h1 h2 => by rw [h1, h2, Bool.true_and]
      by_cases h1 : xk = 1
      · subst h1
        by_cases h2 : xn < 0
        · (refine wpD_seqk fun K hK => ?_; refine wpD_region tyOK ?_; ((try simp only [wpAft_ret, wpAft_pan, putS, updS, setS]); (repeat (rw [wpS_cons]; simp [hi, hi', hx, hEx, h2])); (try simp only [wpS_nil, thenD, blockD])); refine hK _ _ _ ?_; clear hK K)
          refine wpD_part rfl (fun _ => ?_) (fun h => by simp at h)
          (refine wpD_seqk fun K hK => ?_; refine wpD_region tyOK ?_; ((try simp only [wpAft_ret, wpAft_pan, putS, updS, setS]); (repeat (rw [wpS_cons]; simp)); (try simp only [wpS_nil, thenD, blockD])); refine hK _ _ _ ?_; clear hK K)
          (refine wpD_ret ?_; (try simp only [thenD, blockD]); refine EndQ.ret rfl (.inl ?_); simp [tmOf, Out.fgt, D.fgt, D.fgts])
          rw [hF]; simp [h2]
        by_cases h3 : 1000 < xn
        · (refine wpD_seqk fun K hK => ?_; refine wpD_region tyOK ?_; ((try simp only [wpAft_ret, wpAft_pan, putS, updS, setS]); (repeat (rw [wpS_cons]; simp [hi, hi', hx, hEx, h2, h3])); (try simp only [wpS_nil, thenD, blockD])); refine hK _ _ _ ?_; clear hK K)
          refine wpD_part rfl (fun _ => ?_) (fun h => by simp at h)
          (refine wpD_seqk fun K hK => ?_; refine wpD_region tyOK ?_; ((try simp only [wpAft_ret, wpAft_pan, putS, updS, setS]); (repeat (rw [wpS_cons]; simp)); (try simp only [wpS_nil, thenD, blockD])); refine hK _ _ _ ?_; clear hK K)
          (refine wpD_ret ?_; (try simp only [thenD, blockD]); refine EndQ.ret rfl (.inl ?_); simp [tmOf, Out.fgt, D.fgt, D.fgts])
          rw [hF]; simp [h3]
        cases B with
        | true =>
          (refine wpD_seqk fun K hK => ?_; refine wpD_region tyOK ?_; ((try simp only [wpAft_ret, wpAft_pan, putS, updS, setS]); (repeat (rw [wpS_cons]; simp [hi, hi', hx, hEx, h2, h3])); (try simp only [wpS_nil, thenD, blockD])))
          refine CallX.pure globPure (hrec) ?_ (by simp [D.fgts, D.fgt]) (by simp [D.pures, D.pure, Cp.free, D.pures_map]) (by simp [Out.pure, D.pure, D.pures, Cp.free, D.pures_map])
          ((try simp only [wpAft_ret, wpAft_pan, putS, updS, setS]); (repeat (rw [wpS_cons]; simp)); (try simp only [wpS_nil, thenD, blockD]))
          (refine hK _ _ _ ?_; clear hK K)
          refine wpD_part rfl (fun h => by simp at h) (fun _ => ?_)
          refine wpD_skip (hK3 _ _ _ ?_)
          clear hK3 K3
          (refine wpD_region tyOK ?_; ((try simp only [wpAft_ret, wpAft_pan, putS, updS, setS]); (repeat (rw [wpS_cons]; simp [hw1])); (try simp only [wpS_nil, thenD, blockD])))
          refine hA (n - 1) _ _ _ (LeT.refl _) (by omega) (by kernel_rfl) ?_
          exact ⟨i + 1, rfl, by omega, fin _ hF (by simp [h2, h3]), rfl⟩
        | false =>
          (refine wpD_seqk fun K hK => ?_; refine wpD_region tyOK ?_; ((try simp only [wpAft_ret, wpAft_pan, putS, updS, setS]); (repeat (rw [wpS_cons]; simp [hi, hi', hx, hEx, h2, h3])); (try simp only [wpS_nil, thenD, blockD])))
          refine CallX.pure globPure (hrec) ?_ (by simp [D.fgts, D.fgt]) (by simp [D.pures, D.pure, Cp.free, D.pures_map]) (by simp [Out.pure, D.pure, D.pures, Cp.free, D.pures_map])
          ((try simp only [wpAft_ret, wpAft_pan, putS, updS, setS]); (repeat (rw [wpS_cons]; simp)); (try simp only [wpS_nil, thenD, blockD]))
          (refine hK _ _ _ ?_; clear hK K)
          refine wpD_part rfl (fun _ => ?_) (fun h => by simp at h)
          (refine wpD_seqk fun K hK => ?_; refine wpD_region tyOK ?_; ((try simp only [wpAft_ret, wpAft_pan, putS, updS, setS]); (repeat (rw [wpS_cons]; simp)); (try simp only [wpS_nil, thenD, blockD])); refine hK _ _ _ ?_; clear hK K)
          (refine wpD_ret ?_; (try simp only [thenD, blockD]); refine EndQ.ret rfl (.inl ?_); simp [tmOf, Out.fgt, D.fgt, D.fgts])
          rw [hF]; simp
      · cases B with
        | true =>
          (refine wpD_seqk fun K hK => ?_; refine wpD_region tyOK ?_; ((try simp only [wpAft_ret, wpAft_pan, putS, updS, setS]); (repeat (rw [wpS_cons]; simp [hi, hi', hx, hEx, h1])); (try simp only [wpS_nil, thenD, blockD])))
          refine CallX.pure globPure (hrec) ?_ (by simp [D.fgts, D.fgt]) (by simp [D.pures, D.pure, Cp.free, D.pures_map]) (by simp [Out.pure, D.pure, D.pures, Cp.free, D.pures_map])
          ((try simp only [wpAft_ret, wpAft_pan, putS, updS, setS]); (repeat (rw [wpS_cons]; simp)); (try simp only [wpS_nil, thenD, blockD]))
          (refine hK _ _ _ ?_; clear hK K)
          refine wpD_part rfl (fun h => by simp at h) (fun _ => ?_)
          refine wpD_skip (hK3 _ _ _ ?_)
          clear hK3 K3
          (refine wpD_region tyOK ?_; ((try simp only [wpAft_ret, wpAft_pan, putS, updS, setS]); (repeat (rw [wpS_cons]; simp [hw1])); (try simp only [wpS_nil, thenD, blockD])))
          refine hA (n - 1) _ _ _ (LeT.refl _) (by omega) (by kernel_rfl) ?_
          exact ⟨i + 1, rfl, by omega, fin _ hF (by simp [h1]), rfl⟩
        | false =>
          (refine wpD_seqk fun K hK => ?_; refine wpD_region tyOK ?_; ((try simp only [wpAft_ret, wpAft_pan, putS, updS, setS]); (repeat (rw [wpS_cons]; simp [hi, hi', hx, hEx, h1])); (try simp only [wpS_nil, thenD, blockD])))
          refine CallX.pure globPure (hrec) ?_ (by simp [D.fgts, D.fgt]) (by simp [D.pures, D.pure, Cp.free, D.pures_map]) (by simp [Out.pure, D.pure, D.pures, Cp.free, D.pures_map])
          ((try simp only [wpAft_ret, wpAft_pan, putS, updS, setS]); (repeat (rw [wpS_cons]; simp)); (try simp only [wpS_nil, thenD, blockD]))
          (refine hK _ _ _ ?_; clear hK K)
          refine wpD_part rfl (fun _ => ?_) (fun h => by simp at h)
          (refine wpD_seqk fun K hK => ?_; refine wpD_region tyOK ?_; ((try simp only [wpAft_ret, wpAft_pan, putS, updS, setS]); (repeat (rw [wpS_cons]; simp)); (try simp only [wpS_nil, thenD, blockD])); refine hK _ _ _ ?_; clear hK K)
          (refine wpD_ret ?_; (try simp only [thenD, blockD]); refine EndQ.ret rfl (.inl ?_); simp [tmOf, Out.fgt, D.fgt, D.fgts])
          rw [hF]; simp
    · have hi' : ¬ (i : Int) < l.length := by omega
      (refine wpD_seqk fun K hK => ?_; refine wpD_region tyOK ?_; ((try simp only [wpAft_ret, wpAft_pan, putS, updS, setS]); (repeat (rw [wpS_cons]; simp [hi, hi'])); (try simp only [wpS_nil, thenD, blockD])); refine hK _ _ _ ?_; clear hK K)
      refine wpD_part rfl (fun h => by simp at h) (fun _ => ?_)
      refine wpD_exit ?_
      refine hK1 _ _ _ ?_
      rw [List.drop_of_length_le (by omega), T.tamesB] at hF
      subst hF
      (refine wpD_seqk fun K hK => ?_; refine wpD_region tyOK ?_; ((try simp only [wpAft_ret, wpAft_pan, putS, updS, setS]); (repeat (rw [wpS_cons]; simp)); (try simp only [wpS_nil, thenD, blockD])); refine hK _ _ _ ?_; clear hK K)
      (refine wpD_ret ?_; (try simp only [thenD, blockD]); refine EndQ.ret rfl (.inl ?_); simp [tmOf, Out.fgt, D.fgt, D.fgts])
theorem tame1_spec (t : T) : okT t → Spec Tryd.prog glob 28 [.slice (t.ks.map encT) .any] [] (fun o _ => o.fgt = .ret (.bool (T.tamesB t.ks))) := by
  induction t using T.ind with
  | h k n a ls ks ih =>
    intro ht
    exact tames_gen ks ht.kl (fun x hx => ih x hx (ht.ks x hx))
theorem tame_spec (l : List T) (hl : l.length ≤ LMax) (hls : ∀ x, x ∈ l → okT x) : Spec Tryd.prog glob 28 [.slice (l.map encT) .any] [] (fun o _ => o.fgt = .ret (.bool (T.tamesB l))) :=
  tames_gen l hl (fun x hx => tame1_spec x (hls x hx))
end Go.Proofs.YtebmlojhdnldgaaDoor

namespace Go.Proofs.YtebmlojhdnldgaaDoor
set_option linter.unusedSimpArgs false
set_option linter.unusedVariables false
open Go.RowKit
theorem CallOK.deepA {P : Program} {G : Nat → Option D} {f : FuncId} {args' : List D} {hh : Nat → HO} {out : Out} {rd : List Nat} {up : List (Nat × HO)} (h : CallOK P G f (D.deeps args') hh out rd up) : CallOK P G f args' hh out rd up :=
  fun ρ w H vs hR hx hvs => h ρ w H vs hR hx (RpL_deep _ _ hvs)
theorem CallX.pureD {P : Program} {G : Nat → Option D} (hG : ∀ g d, G g = some d → d.pure = true) {f : FuncId} {args args' : List D} {out : Out} (h : Spec P G f args [] (fun o _ => o.fgt = out)) {hl : List HO} {K : Out → List HO → Prop} (hK : K out hl) (ha : D.fgts (D.deeps args') = args) (hp : D.pures args = true) (ho : out.pure = true) : CallX P G f args' hl K :=
  ⟨fun o up => o = out ∧ up = [], (CallOK.deepA (CallOK.pure hG h ha hp ho _)).toR, fun o up ⟨h1, h2⟩ => by subst h1; subst h2; exact hK⟩
theorem CallY.pureD {P : Program} {G : Nat → Option D} (hG : ∀ g d, G g = some d → d.pure = true) {f : FuncId} {args args' : List D} {out : Out} (h : Spec P G f args [] (fun o _ => o.fgt = out)) {hl : List HO} {K : Out → List Nat → List (Nat × HO) → Prop} (hK : K out [] []) (ha : D.fgts (D.deeps args') = args) (hp : D.pures args = true) (ho : out.pure = true) : CallY P G f args' hl K :=
  ⟨out, [], [], CallOK.deepA (CallOK.pure hG h ha hp ho _), hK⟩
/-- behind a statement whose ends are many, of which something is told: a -/
theorem wpD_seqE {P : Program} {G : Nat → Option D} {M : Nat} {Q : DX → List D → List HO → Df → Prop} {tl : List D} {hl : List HO} {df : Df} {α : Type} {x y : Code} (W : List Nat) (ds : α → List D) (hl1 : α → List HO) (Pre : α → Prop) (h1 : ∀ a, Pre a → wpD P G M y Q (putAll tl W (ds a)) (hl1 a) df)
    (h2 : ∀ K : List D → List HO → Df → Prop, (∀ a tl', Pre a → leT (putAll tl W (ds a)) tl' → K tl' (hl1 a) df) → wpD P G M x (thenD K Q) tl hl df) : wpD P G M (.seq x y) Q tl hl df :=
  wpD_seqk fun K hK => h2 K fun a tl' hp h => hK _ _ _ (wpD_weak h (h1 a hp))
@[simp high] theorem encP_deep (p : Int × Int) : (encP p).deep = encP p := rfl
theorem mapP_deep (l : LV) : D.deeps (l.map encP) = l.map encP := by rw [D.deeps_map, List.map_map]; rfl
@[simp high] theorem mapP_deep' (l : LV) : D.deeps (l.map encP) = l.map encP := mapP_deep l
@[simp high] theorem encL_deep (l : LV) : (encL l).deep = encL l := by
  unfold encL
  simp only [D.deep, D.deeps, mapP_deep]
@[simp high] theorem mapL_deep (l : List LV) : D.deeps (l.map encL) = l.map encL := by
  rw [D.deeps_map, List.map_map]
  exact List.map_congr_left fun x _ => encL_deep x
@[simp high] theorem encT_deep (t : T) : (encT t).deep = encT t := by
  induction t using T.ind with
  | h k n a ls ks ih =>
    rw [encT_eq]
    have : D.deeps (ks.map encT) = ks.map encT := by
      rw [D.deeps_map, List.map_map]
      exact List.map_congr_left fun x hx => ih x hx
    simp only [D.deep, D.deeps, mapL_deep, T.ks_mk, this]
@[simp high] theorem mapT_deep (l : List T) : D.deeps (l.map encT) = l.map encT := by
  rw [D.deeps_map, List.map_map]
  exact List.map_congr_left fun x _ => encT_deep x
@[simp high] theorem mapI_deep (l : List Int) : D.deeps (l.map (.int .i64)) = l.map (.int .i64) := by
  rw [D.deeps_map, List.map_map]; rfl
end Go.Proofs.YtebmlojhdnldgaaDoor

namespace Go.Proofs.YtebmlojhdnldgaaDoor
set_option linter.unusedSimpArgs false
set_option linter.unusedVariables false
set_option maxHeartbeats 10000000
set_option maxRecDepth 20000
open Go.RowKit
attribute [local simp] wpAft_ret wpAft_pan wantD evOp opD tmOf putS updS setS hOf isFree isTok fillD TK.isAgg TK.known partD thenD blockD putAll D.ofV inB nilTest isNilS binX binD binE isCst bndD capB IntKind.min IntKind.max IntKind.signed IntKind.bits dstOf late
theorem ok_leaf {k n a : Int} (h1 : I64 k) (h2 : I64 n) (h3 : I64 a) : okT (.mk k n a [] []) := .mk h1 h2 h3 (by simp) (fun _ h => nomatch h) (by simp) (fun _ h => nomatch h)
theorem ok_two {k n a : Int} {x y : T} (h1 : I64 k) (h2 : I64 n) (h3 : I64 a) (hx : okT x) (hy : okT y) : okT (.mk k n a [] [x, y]) := .mk h1 h2 h3 (by simp) (fun _ h => nomatch h) (by unfold LMax; simp) (fun t h => by
  simp only [List.mem_cons, List.not_mem_nil, or_false] at h
  rcases h with rfl | rfl <;> assumption)
theorem i64c {n : Int} (h : -1000000 ≤ n ∧ n ≤ 1000000 := by decide) : I64 n := by unfold I64; omega
theorem ok_v {n : Int} (h : -1000000 ≤ n ∧ n ≤ 1000000 := by decide) : okT (vT n) := ok_leaf (i64c) (i64c h) (i64c)
theorem ok_app {x y : T} (hx : okT x) (hy : okT y) : okT (appT x y) := ok_two (i64c) (i64c) (i64c) hx hy
theorem ok_lam {x y : T} (hx : okT x) (hy : okT y) : okT (lamT x y) := ok_two (i64c) (i64c) (i64c) hx hy
def finT3 : T := .mk 22 3 0 [] []
theorem ok_fin3 : okT finT3 := ok_leaf i64c i64c i64c
def appE : T := .mk 6 0 0 [] []
theorem ok_appE : okT appE := ok_leaf i64c i64c i64c
theorem awake2_spec : Spec Tryd.prog glob 26 [] [] (fun o _ => o.fgt = .ret (.bool true)) := by
  have v0 := v2_spec 0
  have v1 := v2_spec 1
  have v7 := v2_spec 7
  have v8 := v2_spec 8
  have a1 := app2_spec (vT 0) (vT 1)
  have l1 := lam2_spec (vT 0) (appT (vT 0) (vT 1))
  have p1 := putT_spec (lamT (vT 0) (appT (vT 0) (vT 1))) [vT 7] (by unfold LMax; simp) (fun b hb => by
    simp only [List.mem_cons, List.not_mem_nil, or_false] at hb
    subst hb
    exact ⟨ok_v, by decide⟩) (by decide) (ok_lam ok_v (ok_app ok_v ok_v))
  rw [show (lamT (vT 0) (appT (vT 0) (vT 1))).put [vT 7] 0 = lamT (vT 7) (appT (vT 0) (vT 8)) from by kernel_rfl] at p1
  have p2 := putT_spec (appT (vT 0) (vT 1)) [finT3] (by unfold LMax; simp) (fun b hb => by
    simp only [List.mem_cons, List.not_mem_nil, or_false] at hb
    subst hb
    exact ⟨ok_fin3, by decide⟩) (by decide) (ok_app ok_v ok_v)
  rw [show (appT (vT 0) (vT 1)).put [finT3] 0 = appT finT3 (vT 0) from by kernel_rfl] at p2
  have a2 := app2_spec finT3 (vT 0)
  have s1 := same2_spec (appT finT3 (vT 0)) (appT finT3 (vT 0)) (ok_app ok_fin3 ok_v) (ok_app ok_fin3 ok_v)
  rw [(T.eqB_iff _ _).2 rfl] at s1
  have a3 := app2_spec (vT 0) (vT 8)
  have l3 := lam2_spec (vT 7) (appT (vT 0) (vT 8))
  have okP : okT (lamT (vT 7) (appT (vT 0) (vT 8))) := ok_lam ok_v (ok_app ok_v ok_v)
  have s2 := same2_spec (lamT (vT 7) (appT (vT 0) (vT 8))) (lamT (vT 7) (appT (vT 0) (vT 8))) okP okP
  rw [(T.eqB_iff _ _).2 rfl] at s2
  have r1 := right_spec _ okP
  rw [show (lamT (vT 7) (appT (vT 0) (vT 8))).right = true from by kernel_rfl] at r1
  have r2 := right_spec _ ok_appE
  rw [show appE.right = false from by kernel_rfl] at r2
  have z1 := size_spec _ okP
  rw [show (lamT (vT 7) (appT (vT 0) (vT 8))).sz = 5 from by kernel_rfl] at z1
  have hEf : encT finT3 = .agg [.int .i64 22, .int .i64 3, .int .i64 0, .slice [] .any, .slice [] .any] := encT_eq _
  have hEa : encT appE = .agg [.int .i64 6, .int .i64 0, .int .i64 0, .slice [] .any, .slice [] .any] := encT_eq _
  generalize hP : lamT (vT 7) (appT (vT 0) (vT 8)) = P at p1 l3 s2 r1 z1
  have hEP := encT_eq P
  unfold Ts at p1 p2
  simp only [List.map_cons, List.map_nil] at p1 p2
  rw [hEf] at p2 a2
  rw [hEa] at r2
  rw [hEP] at r1 z1
  have s2' := s2
  rw [hEP] at s2
  refine Spec.movd globPure (wpD_spec tyOK Tryd.func26 rfl (enters _ _ Tryd.func26 rfl (by decide)) rfl rfl ?_)
  (refine wpD_seqk fun K hK => ?_; refine wpD_region tyOK ?_; ((try simp only [wpAft_ret, wpAft_pan, putS, updS, setS]); (repeat (rw [wpS_cons]; simp)); (try simp only [wpS_nil, thenD, blockD])); refine hK _ _ _ ?_; clear hK K)
  (refine wpD_seqk fun K hK => ?_; refine wpD_region tyOK ?_; ((try simp only [wpAft_ret, wpAft_pan, putS, updS, setS]); (repeat (rw [wpS_cons]; simp)); (try simp only [wpS_nil, thenD, blockD])); refine hK _ _ _ ?_; clear hK K)
  (refine wpD_seqk fun K hK => ?_; refine wpD_region tyOK ?_; ((try simp only [wpAft_ret, wpAft_pan, putS, updS, setS]); (repeat (rw [wpS_cons]; simp)); (try simp only [wpS_nil, thenD, blockD])))
  refine CallX.pure globPure (v0) ?_ (by simp [D.fgts, D.fgt]) (by simp [D.pures, D.pure, Cp.free, D.pures_map]) (by simp [Out.pure, D.pure, D.pures, Cp.free, D.pures_map])
  ((try simp only [wpAft_ret, wpAft_pan, putS, updS, setS]); (repeat (rw [wpS_cons]; simp)); (try simp only [wpS_nil, thenD, blockD]))
  refine CallX.pure globPure (v0) ?_ (by simp [D.fgts, D.fgt]) (by simp [D.pures, D.pure, Cp.free, D.pures_map]) (by simp [Out.pure, D.pure, D.pures, Cp.free, D.pures_map])
  ((try simp only [wpAft_ret, wpAft_pan, putS, updS, setS]); (repeat (rw [wpS_cons]; simp)); (try simp only [wpS_nil, thenD, blockD]))
  refine CallX.pure globPure (v1) ?_ (by simp [D.fgts, D.fgt]) (by simp [D.pures, D.pure, Cp.free, D.pures_map]) (by simp [Out.pure, D.pure, D.pures, Cp.free, D.pures_map])
  ((try simp only [wpAft_ret, wpAft_pan, putS, updS, setS]); (repeat (rw [wpS_cons]; simp)); (try simp only [wpS_nil, thenD, blockD]))
  refine CallX.pure globPure (a1) ?_ (by simp [D.fgts, D.fgt]) (by simp [D.pures, D.pure, Cp.free, D.pures_map]) (by simp [Out.pure, D.pure, D.pures, Cp.free, D.pures_map])
  ((try simp only [wpAft_ret, wpAft_pan, putS, updS, setS]); (repeat (rw [wpS_cons]; simp)); (try simp only [wpS_nil, thenD, blockD]))
  refine CallX.pure globPure (l1) ?_ (by simp [D.fgts, D.fgt]) (by simp [D.pures, D.pure, Cp.free, D.pures_map]) (by simp [Out.pure, D.pure, D.pures, Cp.free, D.pures_map])
  ((try simp only [wpAft_ret, wpAft_pan, putS, updS, setS]); (repeat (rw [wpS_cons]; simp)); (try simp only [wpS_nil, thenD, blockD]))
  refine CallX.pure globPure (v7) ?_ (by simp [D.fgts, D.fgt]) (by simp [D.pures, D.pure, Cp.free, D.pures_map]) (by simp [Out.pure, D.pure, D.pures, Cp.free, D.pures_map])
  ((try simp only [wpAft_ret, wpAft_pan, putS, updS, setS]); (repeat (rw [wpS_cons]; simp)); (try simp only [wpS_nil, thenD, blockD]))
  refine CallX.pure globPure (p1) ?_ (by simp [D.fgts, D.fgt]) (by simp [D.pures, D.pure, Cp.free, D.pures_map]) (by simp [Out.pure, D.pure, D.pures, Cp.free, D.pures_map])
  ((try simp only [wpAft_ret, wpAft_pan, putS, updS, setS]); (repeat (rw [wpS_cons]; simp)); (try simp only [wpS_nil, thenD, blockD]))
  (refine hK _ _ _ ?_; clear hK K)
  (refine wpD_seqk fun K hK => ?_; refine wpD_drawk tyOK (by kernel_rfl) (by kernel_rfl) fun KT hKT => ?_; ((try simp only [wpAftT_ret, wpAftT_pan, putS, updS, setS]); (repeat (rw [wpT_cons]; simp)); (try simp only [wpT_nil])))
  refine CallY.pure globPure (v0) ?_ (by simp [D.fgts, D.fgt]) (by simp [D.pures, D.pure, Cp.free, D.pures_map]) (by simp [Out.pure, D.pure, D.pures, Cp.free, D.pures_map])
  ((try simp only [wpAftT_ret, wpAftT_pan, putS, updS, setS]); (repeat (rw [wpT_cons]; simp)); (try simp only [wpT_nil]))
  refine CallY.pure globPure (v1) ?_ (by simp [D.fgts, D.fgt]) (by simp [D.pures, D.pure, Cp.free, D.pures_map]) (by simp [Out.pure, D.pure, D.pures, Cp.free, D.pures_map])
  ((try simp only [wpAftT_ret, wpAftT_pan, putS, updS, setS]); (repeat (rw [wpT_cons]; simp)); (try simp only [wpT_nil]))
  refine CallY.pure globPure (a1) ?_ (by simp [D.fgts, D.fgt]) (by simp [D.pures, D.pure, Cp.free, D.pures_map]) (by simp [Out.pure, D.pure, D.pures, Cp.free, D.pures_map])
  ((try simp only [wpAftT_ret, wpAftT_pan, putS, updS, setS]); (repeat (rw [wpT_cons]; simp)); (try simp only [wpT_nil]))
  refine CallY.pureD globPure (p2) ?_ (by simp [D.deeps, D.deep, D.fgts, D.fgt]) (by simp [D.pures, D.pure, Cp.free, D.pures_map]) (by simp [Out.pure, D.pure, D.pures, Cp.free, D.pures_map])
  ((try simp only [wpAftT_ret, wpAftT_pan, putS, updS, setS]); (repeat (rw [wpT_cons]; simp)); (try simp only [wpT_nil]))
  refine CallY.pure globPure (v0) ?_ (by simp [D.fgts, D.fgt]) (by simp [D.pures, D.pure, Cp.free, D.pures_map]) (by simp [Out.pure, D.pure, D.pures, Cp.free, D.pures_map])
  ((try simp only [wpAftT_ret, wpAftT_pan, putS, updS, setS]); (repeat (rw [wpT_cons]; simp)); (try simp only [wpT_nil]))
  refine CallY.pureD globPure (a2) ?_ (by simp [D.deeps, D.deep, D.fgts, D.fgt]) (by simp [D.pures, D.pure, Cp.free, D.pures_map]) (by simp [Out.pure, D.pure, D.pures, Cp.free, D.pures_map])
  ((try simp only [wpAftT_ret, wpAftT_pan, putS, updS, setS]); (repeat (rw [wpT_cons]; simp)); (try simp only [wpT_nil]))
  refine CallY.pure globPure (s1) ?_ (by simp [D.fgts, D.fgt]) (by simp [D.pures, D.pure, Cp.free, D.pures_map]) (by simp [Out.pure, D.pure, D.pures, Cp.free, D.pures_map])
  ((try simp only [wpAftT_ret, wpAftT_pan, putS, updS, setS]); (repeat (rw [wpT_cons]; simp)); (try simp only [wpT_nil]))
  refine CallY.pure globPure (v7) ?_ (by simp [D.fgts, D.fgt]) (by simp [D.pures, D.pure, Cp.free, D.pures_map]) (by simp [Out.pure, D.pure, D.pures, Cp.free, D.pures_map])
  ((try simp only [wpAftT_ret, wpAftT_pan, putS, updS, setS]); (repeat (rw [wpT_cons]; simp)); (try simp only [wpT_nil]))
  refine CallY.pure globPure (v0) ?_ (by simp [D.fgts, D.fgt]) (by simp [D.pures, D.pure, Cp.free, D.pures_map]) (by simp [Out.pure, D.pure, D.pures, Cp.free, D.pures_map])
  ((try simp only [wpAftT_ret, wpAftT_pan, putS, updS, setS]); (repeat (rw [wpT_cons]; simp)); (try simp only [wpT_nil]))
  refine CallY.pure globPure (v8) ?_ (by simp [D.fgts, D.fgt]) (by simp [D.pures, D.pure, Cp.free, D.pures_map]) (by simp [Out.pure, D.pure, D.pures, Cp.free, D.pures_map])
  ((try simp only [wpAftT_ret, wpAftT_pan, putS, updS, setS]); (repeat (rw [wpT_cons]; simp)); (try simp only [wpT_nil]))
  refine CallY.pure globPure (a3) ?_ (by simp [D.fgts, D.fgt]) (by simp [D.pures, D.pure, Cp.free, D.pures_map]) (by simp [Out.pure, D.pure, D.pures, Cp.free, D.pures_map])
  ((try simp only [wpAftT_ret, wpAftT_pan, putS, updS, setS]); (repeat (rw [wpT_cons]; simp)); (try simp only [wpT_nil]))
  refine CallY.pure globPure (l3) ?_ (by simp [D.fgts, D.fgt]) (by simp [D.pures, D.pure, Cp.free, D.pures_map]) (by simp [Out.pure, D.pure, D.pures, Cp.free, D.pures_map])
  ((try simp only [wpAftT_ret, wpAftT_pan, putS, updS, setS]); (repeat (rw [wpT_cons]; simp)); (try simp only [wpT_nil]))
  refine CallY.pure globPure (s2) ?_ (by simp [D.fgts, D.fgt, hEP]) (by simp [D.pures, D.pure, Cp.free, D.pures_map, hEP]) (by simp [Out.pure, D.pure, D.pures, Cp.free, D.pures_map, hEP])
  ((try simp only [wpAftT_ret, wpAftT_pan, putS, updS, setS]); (repeat (rw [wpT_cons]; simp)); (try simp only [wpT_nil]))
  refine CallY.pure globPure (r1) ?_ (by simp [D.fgts, D.fgt]) (by simp [D.pures, D.pure, Cp.free, D.pures_map]) (by simp [Out.pure, D.pure, D.pures, Cp.free, D.pures_map])
  ((try simp only [wpAftT_ret, wpAftT_pan, putS, updS, setS]); (repeat (rw [wpT_cons]; simp)); (try simp only [wpT_nil]))
  refine CallY.pureD globPure (r2) ?_ (by simp [D.deeps, D.deep, D.fgts, D.fgt]) (by simp [D.pures, D.pure, Cp.free, D.pures_map]) (by simp [Out.pure, D.pure, D.pures, Cp.free, D.pures_map])
  ((try simp only [wpAftT_ret, wpAftT_pan, putS, updS, setS]); (repeat (rw [wpT_cons]; simp)); (try simp only [wpT_nil]))
  refine CallY.pure globPure (z1) ?_ (by simp [D.fgts, D.fgt]) (by simp [D.pures, D.pure, Cp.free, D.pures_map]) (by simp [Out.pure, D.pure, D.pures, Cp.free, D.pures_map])
  ((try simp only [wpAftT_ret, wpAftT_pan, putS, updS, setS]); (repeat (rw [wpT_cons]; simp)); (try simp only [wpT_nil]))
  (refine hKT _ _ _ _ (by kernel_rfl) ?_; clear hKT KT; (try simp only [thenD, blockD]))
  (refine hK _ _ _ ?_; clear hK K)
  (refine wpD_ret ?_; (try simp only [thenD, blockD]); refine EndQ.ret rfl (.inl ?_); simp [tmOf, Out.fgt, D.fgt, D.fgts])
end Go.Proofs.YtebmlojhdnldgaaDoor

namespace Go.Proofs.YtebmlojhdnldgaaDoor
set_option linter.unusedSimpArgs false
set_option linter.unusedVariables false
open Go.RowKit
def TurnOk (f : Turn) : Prop := ∀ d t, okT t → (∀ u, f d t = .inl u → okT u) ∧ (∀ x, f d t = .inr x → I64 x.1 ∧ x.2.length ≤ LMax ∧ ∀ l, l ∈ x.2 → okL l)
theorem walk_ok {f : Turn} (hf : TurnOk f) (t : T) : ∀ d, okT t → okT (T.walk f t d) := by
  induction t using T.ind with
  | h k m a ls ks ih =>
    intro d ht
    obtain ⟨h1, h2⟩ := hf d _ ht
    cases hturn : f d (.mk k m a ls ks) with
    | inl u => rw [walk_inl hturn]; exact h1 u hturn
    | inr x =>
      rw [walk_inr hturn]
      obtain ⟨h3, h4, h5⟩ := h2 x hturn
      refine .mk ht.k h3 ht.a h4 h5 (by rw [T.walks_length]; exact ht.kl) ?_
      have hks := ht.ks
      simp only [T.ks_mk] at hks
      have : ∀ (l : List T), (∀ x, x ∈ l → x ∈ ks) → ∀ (i : Nat) t, t ∈ T.walks f k l i d → okT t := by
        intro l
        induction l with
        | nil => intro _ i t h; rw [T.walks] at h; cases h
        | cons x r ihl =>
          intro hl i t h
          rw [T.walks] at h
          cases h with
          | head => exact ih x (hl x List.mem_cons_self) _ (hks x (hl x List.mem_cons_self))
          | tail _ hm => exact ihl (fun y hy => hl y (List.mem_cons_of_mem _ hy)) (i + 1) t hm
      exact this ks (fun _ h => h) 0
theorem lift_turn_ok (n fr : Int) : TurnOk (liftTurn n fr) := fun d t ht => ⟨(fun u h => by cases h), fun x h => by
  cases h
  exact ⟨liftNum_ok ht.n, ht.ll, ht.ls⟩⟩
theorem lift_ok {t : T} (n fr d : Int) (h : okT t) : okT (t.lift n fr d) := walk_ok (lift_turn_ok n fr) t d h
theorem put_turn_ok {bys : List T} (hb : ∀ b, b ∈ bys → okT b) : TurnOk (putTurn bys) := fun d t ht => by
  by_cases hh : t.k = 1 ∧ d ≤ t.n
  · by_cases hl : (t.n - d).toNat < bys.length
    · rw [putTurn_in hh hl]
      exact ⟨(fun u h => by cases h; exact lift_ok _ _ _ (hb _ (List.getElem_mem _))), (fun x h => by cases h)⟩
    · rw [putTurn_over hh hl]
      exact ⟨(fun u h => by cases h), (fun x h => by cases h; exact ⟨i64_wrap _, ht.ll, ht.ls⟩)⟩
  · rw [putTurn_low hh]
    exact ⟨(fun u h => by cases h), (fun x h => by cases h; exact ⟨ht.n, ht.ll, ht.ls⟩)⟩
theorem put_ok {t : T} {bys : List T} (hb : ∀ b, b ∈ bys → okT b) (d : Int) (h : okT t) : okT (t.put bys d) := walk_ok (put_turn_ok hb) t d h
theorem norm_okL (l : LV) : okL (normOf l) := ⟨normOf_lmax l, fun p hp => by
  have := badP_nn ((normOf_nf l).ok p hp)
  unfold I64
  omega⟩
theorem lev_turn_ok (bys : List LV) : TurnOk (levTurn bys) := fun d t ht => ⟨(fun u h => by cases h), fun x h => by
  cases h
  refine ⟨ht.n, by rw [List.length_map]; exact ht.ll, fun l hl => ?_⟩
  rw [List.mem_map] at hl
  obtain ⟨y, _, rfl⟩ := hl
  exact norm_okL _⟩
theorem levels_ok {t : T} (bys : List LV) (d : Int) (h : okT t) : okT (t.levels bys d) := walk_ok (lev_turn_ok bys) t d h
theorem deep_walks {f : Turn} {B : Nat} {k d : Int} (ks : List T) : ∀ i, (∀ (j : Nat) t, t ∈ ks → (T.walk f t (belowD d k j)).deep ≤ t.deep + B) → T.deeps (T.walks f k ks i d) ≤ T.deeps ks + B := by
  induction ks with
  | nil => intro i _; simp [T.walks, T.deeps]
  | cons t r ih =>
    intro i H
    simp only [T.walks, T.deeps]
    have h1 := H i t List.mem_cons_self
    have h2 := ih (i + 1) (fun j t ht => H j t (List.mem_cons_of_mem _ ht))
    omega
theorem deep_lift (n fr : Int) (t : T) : ∀ d, (t.lift n fr d).deep ≤ t.deep := by
  unfold T.lift
  induction t using T.ind with
  | h k m a ls ks ih =>
    intro d
    rw [walk_lift, T.deep, T.deep]
    have := deep_walks (f := liftTurn n fr) (B := 0) (k := k) (d := d) ks 0 (fun j t ht => ih t ht _)
    omega
theorem deep_put (bys : List T) (B : Nat) (hB : ∀ b, b ∈ bys → b.deep ≤ B) (t : T) : ∀ d, (t.put bys d).deep ≤ t.deep + B := by
  unfold T.put
  induction t using T.ind with
  | h k m a ls ks ih =>
    intro d
    have hks : T.deeps (T.walks (putTurn bys) k ks 0 d) ≤ T.deeps ks + B := deep_walks ks 0 (fun j t ht => ih t ht _)
    by_cases hh : k = 1 ∧ d ≤ m
    · by_cases hl : (m - d).toNat < bys.length
      · rw [walk_inl (putTurn_in (t := .mk k m a ls ks) hh hl)]
        have h1 := hB _ (List.getElem_mem (l := bys) (n := bys.length - 1 - ((T.mk k m a ls ks).n - d).toNat) (by simp only [T.n_mk]; omega))
        exact Nat.le_trans (deep_lift _ _ _ _) (by omega)
      · rw [walk_inr (putTurn_over (t := .mk k m a ls ks) hh hl), T.deep, T.deep]
        omega
    · rw [walk_inr (putTurn_low (t := .mk k m a ls ks) hh), T.deep, T.deep]
      omega
theorem deep_levels (bys : List LV) (t : T) : ∀ d, (t.levels bys d).deep ≤ t.deep := by
  unfold T.levels
  induction t using T.ind with
  | h k m a ls ks ih =>
    intro d
    rw [walk_inr (f := levTurn bys) (x := (m, ls.map fun l => normOf (putL l bys))) rfl, T.deep, T.deep]
    have := deep_walks (f := levTurn bys) (B := 0) (k := k) (d := d) ks 0 (fun j t ht => ih t ht _)
    omega
end Go.Proofs.YtebmlojhdnldgaaDoor

namespace Go.Proofs.YtebmlojhdnldgaaDoor
set_option linter.unusedSimpArgs false
set_option linter.unusedVariables false
set_option maxHeartbeats 10000000
set_option maxRecDepth 20000
open Go.RowKit
attribute [local simp] wpAft_ret wpAft_pan wantD evOp opD tmOf putS updS setS hOf isFree isTok fillD TK.isAgg TK.known partD thenD blockD putAll D.ofV inB nilTest isNilS binX binD binE isCst bndD capB IntKind.min IntKind.max IntKind.signed IntKind.bits dstOf late
theorem lifts_spec (t u a : T) (n m fr : Int) (bys : List LV) (ht : okT t) (hu : okT u) (ha : okT a) (dt : t.deep ≤ DM) (du : u.deep ≤ DM) (da : a.deep ≤ DM) (hb : bys.length ≤ LMax) (hbo : ∀ b, b ∈ bys → b.length ≤ LMax) :
    Spec Tryd.prog glob 5 [encT t, encT u, encT a, .int .i64 n, .int .i64 m, .int .i64 fr, Lvs bys] [] (fun o _ => o.fgt = .ret (.bool true)) := by
  have hEt := encT_eq t
  have hEu := encT_eq u
  have hEa := encT_eq a
  obtain ⟨G, hgr⟩ := great2_spec [t, u, a] (by unfold LMax; simp) (fun x hx => by
    simp only [List.mem_cons, List.not_mem_nil, or_false] at hx
    rcases hx with rfl | rfl | rfl <;> assumption)
  have hta := tame_spec [t, u, a] (by unfold LMax; simp) (fun x hx => by
    simp only [List.mem_cons, List.not_mem_nil, or_false] at hx
    rcases hx with rfl | rfl | rfl <;> assumption)
  simp only [List.map_cons, List.map_nil] at hgr hta
  obtain ⟨M, hM⟩ : ∃ M, M = T.tamesB [t, u, a] := ⟨_, rfl⟩
  rw [← hM] at hta
  have haw := awake2_spec
  rw [hEt, hEu, hEa] at hgr hta
  have rest : ∀ (hn : 0 ≤ n ∧ n ≤ 1000) (hm : 0 ≤ m ∧ m ≤ 1000) (hf : 0 ≤ fr ∧ fr ≤ 1000), M = true →
      t.tameB = true := fun _ _ _ h => by
    rw [hM, T.tamesB, Bool.and_eq_true] at h
    exact h.1
  unfold Lvs
  refine Spec.movd globPure (wpD_spec tyOK Tryd.func5 rfl (enters _ _ Tryd.func5 rfl (by decide)) rfl rfl ?_)
  (refine wpD_seqk fun K hK => ?_; refine wpD_region tyOK ?_; ((try simp only [wpAft_ret, wpAft_pan, putS, updS, setS]); (repeat (rw [wpS_cons]; simp)); (try simp only [wpS_nil, thenD, blockD])); refine hK _ _ _ ?_; clear hK K)
  refine wpD_seqk fun K1 hK1 => ?_
  (refine wpD_seqk fun K hK => ?_; refine wpD_region tyOK ?_; ((try simp only [wpAft_ret, wpAft_pan, putS, updS, setS]); (repeat (rw [wpS_cons]; simp)); (try simp only [wpS_nil, thenD, blockD])))
  refine CallX.pure globPure (haw) ?_ (by simp [D.fgts, D.fgt]) (by simp [D.pures, D.pure, Cp.free, D.pures_map]) (by simp [Out.pure, D.pure, D.pures, Cp.free, D.pures_map])
  ((try simp only [wpAft_ret, wpAft_pan, putS, updS, setS]); (repeat (rw [wpS_cons]; simp)); (try simp only [wpS_nil, thenD, blockD]))
  (refine hK _ _ _ ?_; clear hK K)
  refine wpD_part rfl (fun h => by simp at h) (fun _ => ?_)
  refine wpD_skip (hK1 _ _ _ ?_)
  clear hK1 K1
  refine wpD_seqk fun K1 hK1 => ?_
  cases G with
  | true =>
    (refine wpD_seqk fun K hK => ?_; refine wpD_region tyOK ?_; ((try simp only [wpAft_ret, wpAft_pan, putS, updS, setS]); (repeat (rw [wpS_cons]; simp)); (try simp only [wpS_nil, thenD, blockD])))
    refine CallX.pure globPure (hgr) ?_ (by simp [D.fgts, D.fgt]) (by simp [D.pures, D.pure, Cp.free, D.pures_map]) (by simp [Out.pure, D.pure, D.pures, Cp.free, D.pures_map])
    ((try simp only [wpAft_ret, wpAft_pan, putS, updS, setS]); (repeat (rw [wpS_cons]; simp)); (try simp only [wpS_nil, thenD, blockD]))
    (refine hK _ _ _ ?_; clear hK K)
    refine wpD_part rfl (fun _ => ?_) (fun h => by simp at h)
    (refine wpD_seqk fun K hK => ?_; refine wpD_region tyOK ?_; ((try simp only [wpAft_ret, wpAft_pan, putS, updS, setS]); (repeat (rw [wpS_cons]; simp)); (try simp only [wpS_nil, thenD, blockD])); refine hK _ _ _ ?_; clear hK K)
    (refine wpD_ret ?_; (try simp only [thenD, blockD]); refine EndQ.ret rfl (.inl ?_); simp [tmOf, Out.fgt, D.fgt, D.fgts])
  | false =>
  cases hMM : M with
  | false =>
    rw [hMM] at hta
    (refine wpD_seqk fun K hK => ?_; refine wpD_region tyOK ?_; ((try simp only [wpAft_ret, wpAft_pan, putS, updS, setS]); (repeat (rw [wpS_cons]; simp)); (try simp only [wpS_nil, thenD, blockD])))
    refine CallX.pure globPure (hgr) ?_ (by simp [D.fgts, D.fgt]) (by simp [D.pures, D.pure, Cp.free, D.pures_map]) (by simp [Out.pure, D.pure, D.pures, Cp.free, D.pures_map])
    ((try simp only [wpAft_ret, wpAft_pan, putS, updS, setS]); (repeat (rw [wpS_cons]; simp)); (try simp only [wpS_nil, thenD, blockD]))
    refine CallX.pure globPure (hta) ?_ (by simp [D.fgts, D.fgt]) (by simp [D.pures, D.pure, Cp.free, D.pures_map]) (by simp [Out.pure, D.pure, D.pures, Cp.free, D.pures_map])
    ((try simp only [wpAft_ret, wpAft_pan, putS, updS, setS]); (repeat (rw [wpS_cons]; simp)); (try simp only [wpS_nil, thenD, blockD]))
    (refine hK _ _ _ ?_; clear hK K)
    refine wpD_part rfl (fun _ => ?_) (fun h => by simp at h)
    (refine wpD_seqk fun K hK => ?_; refine wpD_region tyOK ?_; ((try simp only [wpAft_ret, wpAft_pan, putS, updS, setS]); (repeat (rw [wpS_cons]; simp)); (try simp only [wpS_nil, thenD, blockD])); refine hK _ _ _ ?_; clear hK K)
    (refine wpD_ret ?_; (try simp only [thenD, blockD]); refine EndQ.ret rfl (.inl ?_); simp [tmOf, Out.fgt, D.fgt, D.fgts])
  | true =>
  rw [hMM] at hta
  by_cases g1 : n < 0
  · (refine wpD_seqk fun K hK => ?_; refine wpD_region tyOK ?_; ((try simp only [wpAft_ret, wpAft_pan, putS, updS, setS]); (repeat (rw [wpS_cons]; simp [g1])); (try simp only [wpS_nil, thenD, blockD])))
    refine CallX.pure globPure (hgr) ?_ (by simp [D.fgts, D.fgt]) (by simp [D.pures, D.pure, Cp.free, D.pures_map]) (by simp [Out.pure, D.pure, D.pures, Cp.free, D.pures_map])
    ((try simp only [wpAft_ret, wpAft_pan, putS, updS, setS]); (repeat (rw [wpS_cons]; simp [g1])); (try simp only [wpS_nil, thenD, blockD]))
    refine CallX.pure globPure (hta) ?_ (by simp [D.fgts, D.fgt]) (by simp [D.pures, D.pure, Cp.free, D.pures_map]) (by simp [Out.pure, D.pure, D.pures, Cp.free, D.pures_map])
    ((try simp only [wpAft_ret, wpAft_pan, putS, updS, setS]); (repeat (rw [wpS_cons]; simp [g1])); (try simp only [wpS_nil, thenD, blockD]))
    (refine hK _ _ _ ?_; clear hK K)
    refine wpD_part rfl (fun _ => ?_) (fun h => by simp at h)
    (refine wpD_seqk fun K hK => ?_; refine wpD_region tyOK ?_; ((try simp only [wpAft_ret, wpAft_pan, putS, updS, setS]); (repeat (rw [wpS_cons]; simp)); (try simp only [wpS_nil, thenD, blockD])); refine hK _ _ _ ?_; clear hK K)
    (refine wpD_ret ?_; (try simp only [thenD, blockD]); refine EndQ.ret rfl (.inl ?_); simp [tmOf, Out.fgt, D.fgt, D.fgts])
  by_cases g2 : 1000 < n
  · (refine wpD_seqk fun K hK => ?_; refine wpD_region tyOK ?_; ((try simp only [wpAft_ret, wpAft_pan, putS, updS, setS]); (repeat (rw [wpS_cons]; simp [g1, g2])); (try simp only [wpS_nil, thenD, blockD])))
    refine CallX.pure globPure (hgr) ?_ (by simp [D.fgts, D.fgt]) (by simp [D.pures, D.pure, Cp.free, D.pures_map]) (by simp [Out.pure, D.pure, D.pures, Cp.free, D.pures_map])
    ((try simp only [wpAft_ret, wpAft_pan, putS, updS, setS]); (repeat (rw [wpS_cons]; simp [g1, g2])); (try simp only [wpS_nil, thenD, blockD]))
    refine CallX.pure globPure (hta) ?_ (by simp [D.fgts, D.fgt]) (by simp [D.pures, D.pure, Cp.free, D.pures_map]) (by simp [Out.pure, D.pure, D.pures, Cp.free, D.pures_map])
    ((try simp only [wpAft_ret, wpAft_pan, putS, updS, setS]); (repeat (rw [wpS_cons]; simp [g1, g2])); (try simp only [wpS_nil, thenD, blockD]))
    (refine hK _ _ _ ?_; clear hK K)
    refine wpD_part rfl (fun _ => ?_) (fun h => by simp at h)
    (refine wpD_seqk fun K hK => ?_; refine wpD_region tyOK ?_; ((try simp only [wpAft_ret, wpAft_pan, putS, updS, setS]); (repeat (rw [wpS_cons]; simp)); (try simp only [wpS_nil, thenD, blockD])); refine hK _ _ _ ?_; clear hK K)
    (refine wpD_ret ?_; (try simp only [thenD, blockD]); refine EndQ.ret rfl (.inl ?_); simp [tmOf, Out.fgt, D.fgt, D.fgts])
  by_cases g3 : m < 0
  · (refine wpD_seqk fun K hK => ?_; refine wpD_region tyOK ?_; ((try simp only [wpAft_ret, wpAft_pan, putS, updS, setS]); (repeat (rw [wpS_cons]; simp [g1, g2, g3])); (try simp only [wpS_nil, thenD, blockD])))
    refine CallX.pure globPure (hgr) ?_ (by simp [D.fgts, D.fgt]) (by simp [D.pures, D.pure, Cp.free, D.pures_map]) (by simp [Out.pure, D.pure, D.pures, Cp.free, D.pures_map])
    ((try simp only [wpAft_ret, wpAft_pan, putS, updS, setS]); (repeat (rw [wpS_cons]; simp [g1, g2, g3])); (try simp only [wpS_nil, thenD, blockD]))
    refine CallX.pure globPure (hta) ?_ (by simp [D.fgts, D.fgt]) (by simp [D.pures, D.pure, Cp.free, D.pures_map]) (by simp [Out.pure, D.pure, D.pures, Cp.free, D.pures_map])
    ((try simp only [wpAft_ret, wpAft_pan, putS, updS, setS]); (repeat (rw [wpS_cons]; simp [g1, g2, g3])); (try simp only [wpS_nil, thenD, blockD]))
    (refine hK _ _ _ ?_; clear hK K)
    refine wpD_part rfl (fun _ => ?_) (fun h => by simp at h)
    (refine wpD_seqk fun K hK => ?_; refine wpD_region tyOK ?_; ((try simp only [wpAft_ret, wpAft_pan, putS, updS, setS]); (repeat (rw [wpS_cons]; simp)); (try simp only [wpS_nil, thenD, blockD])); refine hK _ _ _ ?_; clear hK K)
    (refine wpD_ret ?_; (try simp only [thenD, blockD]); refine EndQ.ret rfl (.inl ?_); simp [tmOf, Out.fgt, D.fgt, D.fgts])
  by_cases g4 : 1000 < m
  · (refine wpD_seqk fun K hK => ?_; refine wpD_region tyOK ?_; ((try simp only [wpAft_ret, wpAft_pan, putS, updS, setS]); (repeat (rw [wpS_cons]; simp [g1, g2, g3, g4])); (try simp only [wpS_nil, thenD, blockD])))
    refine CallX.pure globPure (hgr) ?_ (by simp [D.fgts, D.fgt]) (by simp [D.pures, D.pure, Cp.free, D.pures_map]) (by simp [Out.pure, D.pure, D.pures, Cp.free, D.pures_map])
    ((try simp only [wpAft_ret, wpAft_pan, putS, updS, setS]); (repeat (rw [wpS_cons]; simp [g1, g2, g3, g4])); (try simp only [wpS_nil, thenD, blockD]))
    refine CallX.pure globPure (hta) ?_ (by simp [D.fgts, D.fgt]) (by simp [D.pures, D.pure, Cp.free, D.pures_map]) (by simp [Out.pure, D.pure, D.pures, Cp.free, D.pures_map])
    ((try simp only [wpAft_ret, wpAft_pan, putS, updS, setS]); (repeat (rw [wpS_cons]; simp [g1, g2, g3, g4])); (try simp only [wpS_nil, thenD, blockD]))
    (refine hK _ _ _ ?_; clear hK K)
    refine wpD_part rfl (fun _ => ?_) (fun h => by simp at h)
    (refine wpD_seqk fun K hK => ?_; refine wpD_region tyOK ?_; ((try simp only [wpAft_ret, wpAft_pan, putS, updS, setS]); (repeat (rw [wpS_cons]; simp)); (try simp only [wpS_nil, thenD, blockD])); refine hK _ _ _ ?_; clear hK K)
    (refine wpD_ret ?_; (try simp only [thenD, blockD]); refine EndQ.ret rfl (.inl ?_); simp [tmOf, Out.fgt, D.fgt, D.fgts])
  by_cases g5 : fr < 0
  · (refine wpD_seqk fun K hK => ?_; refine wpD_region tyOK ?_; ((try simp only [wpAft_ret, wpAft_pan, putS, updS, setS]); (repeat (rw [wpS_cons]; simp [g1, g2, g3, g4, g5])); (try simp only [wpS_nil, thenD, blockD])))
    refine CallX.pure globPure (hgr) ?_ (by simp [D.fgts, D.fgt]) (by simp [D.pures, D.pure, Cp.free, D.pures_map]) (by simp [Out.pure, D.pure, D.pures, Cp.free, D.pures_map])
    ((try simp only [wpAft_ret, wpAft_pan, putS, updS, setS]); (repeat (rw [wpS_cons]; simp [g1, g2, g3, g4, g5])); (try simp only [wpS_nil, thenD, blockD]))
    refine CallX.pure globPure (hta) ?_ (by simp [D.fgts, D.fgt]) (by simp [D.pures, D.pure, Cp.free, D.pures_map]) (by simp [Out.pure, D.pure, D.pures, Cp.free, D.pures_map])
    ((try simp only [wpAft_ret, wpAft_pan, putS, updS, setS]); (repeat (rw [wpS_cons]; simp [g1, g2, g3, g4, g5])); (try simp only [wpS_nil, thenD, blockD]))
    (refine hK _ _ _ ?_; clear hK K)
    refine wpD_part rfl (fun _ => ?_) (fun h => by simp at h)
    (refine wpD_seqk fun K hK => ?_; refine wpD_region tyOK ?_; ((try simp only [wpAft_ret, wpAft_pan, putS, updS, setS]); (repeat (rw [wpS_cons]; simp)); (try simp only [wpS_nil, thenD, blockD])); refine hK _ _ _ ?_; clear hK K)
    (refine wpD_ret ?_; (try simp only [thenD, blockD]); refine EndQ.ret rfl (.inl ?_); simp [tmOf, Out.fgt, D.fgt, D.fgts])
  by_cases g6 : 1000 < fr
  · (refine wpD_seqk fun K hK => ?_; refine wpD_region tyOK ?_; ((try simp only [wpAft_ret, wpAft_pan, putS, updS, setS]); (repeat (rw [wpS_cons]; simp [g1, g2, g3, g4, g5, g6])); (try simp only [wpS_nil, thenD, blockD])))
    refine CallX.pure globPure (hgr) ?_ (by simp [D.fgts, D.fgt]) (by simp [D.pures, D.pure, Cp.free, D.pures_map]) (by simp [Out.pure, D.pure, D.pures, Cp.free, D.pures_map])
    ((try simp only [wpAft_ret, wpAft_pan, putS, updS, setS]); (repeat (rw [wpS_cons]; simp [g1, g2, g3, g4, g5, g6])); (try simp only [wpS_nil, thenD, blockD]))
    refine CallX.pure globPure (hta) ?_ (by simp [D.fgts, D.fgt]) (by simp [D.pures, D.pure, Cp.free, D.pures_map]) (by simp [Out.pure, D.pure, D.pures, Cp.free, D.pures_map])
    ((try simp only [wpAft_ret, wpAft_pan, putS, updS, setS]); (repeat (rw [wpS_cons]; simp [g1, g2, g3, g4, g5, g6])); (try simp only [wpS_nil, thenD, blockD]))
    (refine hK _ _ _ ?_; clear hK K)
    refine wpD_part rfl (fun _ => ?_) (fun h => by simp at h)
    (refine wpD_seqk fun K hK => ?_; refine wpD_region tyOK ?_; ((try simp only [wpAft_ret, wpAft_pan, putS, updS, setS]); (repeat (rw [wpS_cons]; simp)); (try simp only [wpS_nil, thenD, blockD])); refine hK _ _ _ ?_; clear hK K)
    (refine wpD_ret ?_; (try simp only [thenD, blockD]); refine EndQ.ret rfl (.inl ?_); simp [tmOf, Out.fgt, D.fgt, D.fgts])
  by_cases g7 : 20 < (bys.length : Int)
  · (refine wpD_seqk fun K hK => ?_; refine wpD_region tyOK ?_; ((try simp only [wpAft_ret, wpAft_pan, putS, updS, setS]); (repeat (rw [wpS_cons]; simp [g1, g2, g3, g4, g5, g6, g7])); (try simp only [wpS_nil, thenD, blockD])))
    refine CallX.pure globPure (hgr) ?_ (by simp [D.fgts, D.fgt]) (by simp [D.pures, D.pure, Cp.free, D.pures_map]) (by simp [Out.pure, D.pure, D.pures, Cp.free, D.pures_map])
    ((try simp only [wpAft_ret, wpAft_pan, putS, updS, setS]); (repeat (rw [wpS_cons]; simp [g1, g2, g3, g4, g5, g6, g7])); (try simp only [wpS_nil, thenD, blockD]))
    refine CallX.pure globPure (hta) ?_ (by simp [D.fgts, D.fgt]) (by simp [D.pures, D.pure, Cp.free, D.pures_map]) (by simp [Out.pure, D.pure, D.pures, Cp.free, D.pures_map])
    ((try simp only [wpAft_ret, wpAft_pan, putS, updS, setS]); (repeat (rw [wpS_cons]; simp [g1, g2, g3, g4, g5, g6, g7])); (try simp only [wpS_nil, thenD, blockD]))
    (refine hK _ _ _ ?_; clear hK K)
    refine wpD_part rfl (fun _ => ?_) (fun h => by simp at h)
    (refine wpD_seqk fun K hK => ?_; refine wpD_region tyOK ?_; ((try simp only [wpAft_ret, wpAft_pan, putS, updS, setS]); (repeat (rw [wpS_cons]; simp)); (try simp only [wpS_nil, thenD, blockD])); refine hK _ _ _ ?_; clear hK K)
    (refine wpD_ret ?_; (try simp only [thenD, blockD]); refine EndQ.ret rfl (.inl ?_); simp [tmOf, Out.fgt, D.fgt, D.fgts])
  · (refine wpD_seqk fun K hK => ?_; refine wpD_region tyOK ?_; ((try simp only [wpAft_ret, wpAft_pan, putS, updS, setS]); (repeat (rw [wpS_cons]; simp [g1, g2, g3, g4, g5, g6, g7])); (try simp only [wpS_nil, thenD, blockD])))
    refine CallX.pure globPure (hgr) ?_ (by simp [D.fgts, D.fgt]) (by simp [D.pures, D.pure, Cp.free, D.pures_map]) (by simp [Out.pure, D.pure, D.pures, Cp.free, D.pures_map])
    ((try simp only [wpAft_ret, wpAft_pan, putS, updS, setS]); (repeat (rw [wpS_cons]; simp [g1, g2, g3, g4, g5, g6, g7])); (try simp only [wpS_nil, thenD, blockD]))
    refine CallX.pure globPure (hta) ?_ (by simp [D.fgts, D.fgt]) (by simp [D.pures, D.pure, Cp.free, D.pures_map]) (by simp [Out.pure, D.pure, D.pures, Cp.free, D.pures_map])
    ((try simp only [wpAft_ret, wpAft_pan, putS, updS, setS]); (repeat (rw [wpS_cons]; simp [g1, g2, g3, g4, g5, g6, g7])); (try simp only [wpS_nil, thenD, blockD]))
    (refine hK _ _ _ ?_; clear hK K)
    refine wpD_part rfl (fun h => by simp at h) (fun _ => ?_)
    refine wpD_skip (hK1 _ _ _ ?_)
    clear hK1 K1
    have htame := rest ⟨by omega, by omega⟩ ⟨by omega, by omega⟩ ⟨by omega, by omega⟩ hMM
    clear rest hgr hta hM
    have hft : Fits 0 t := ⟨by omega, by unfold DM at dt ⊢; omega⟩
    have w1 : IntKind.i64.wrap (n + m) = n + m := i64w (by omega) (by omega)
    have w2 : IntKind.i64.wrap (fr + n) = fr + n := i64w (by omega) (by omega)
    have okx := lift_ok n fr 0 ht
    have dx : (t.lift n fr 0).deep ≤ DM := Nat.le_trans (deep_lift n fr t 0) dt
    have L1 := lift_spec t n fr dt ht
    have L2 := lift_spec (t.lift n fr 0) m fr dx okx
    have L3 := lift_spec t (n + m) fr dt ht
    have e1 : (t.lift n fr 0).lift m fr 0 = t.lift (n + m) fr 0 := lift_lift n m fr ⟨by omega, by omega⟩ ⟨by omega, by omega⟩ t 0 htame hft
    rw [e1] at L2
    have oky := lift_ok (n + m) fr 0 ht
    have S1 := same2_spec _ _ oky oky
    rw [(T.eqB_iff _ _).2 rfl] at S1
    have Z1 := size_spec _ okx
    rw [show (t.lift n fr 0).sz = t.sz from sz_lift n fr t 0] at Z1
    have Z2 := size_spec t ht
    have F1 := free_spec (t.lift n fr 0) fr (fr + n) okx
    rw [free_gap n fr ⟨by omega, by omega⟩ ⟨by omega, by omega⟩ t htame hft] at F1
    have F2 := free_spec t fr 5000 ht
    have F3 := free_spec (t.lift n fr 0) (fr + n) 6000 okx
    rw [free_above n fr ⟨by omega, by omega⟩ ⟨by omega, by omega⟩ t htame hft] at F3
    have F4 := free_spec t 0 fr ht
    have F5 := free_spec (t.lift n fr 0) 0 fr okx
    rw [free_below n fr ⟨by omega, by omega⟩ ⟨by omega, by omega⟩ t htame hft] at F5
    have SA := sameT_spec t u ht hu
    have L4 := lift_spec u n fr du hu
    have SB : t.sameB u = true → Spec Tryd.prog glob 33 [encT (t.lift n fr 0), encT (u.lift n fr 0)] [] (fun o _ => o.fgt = .ret (.bool true)) := fun h => by
      have := sameT_spec _ _ okx (lift_ok n fr 0 hu)
      rw [same_lift n fr h] at this
      exact this
    have hba : ∀ b, b ∈ [a] → okT b ∧ b.deep ≤ DM := fun b hb => by
      simp only [List.mem_cons, List.not_mem_nil, or_false] at hb
      subst hb
      exact ⟨ha, da⟩
    have P1 := putT_spec t [a] (by unfold LMax; simp) hba dt ht
    have P2 := putT_spec u [a] (by unfold LMax; simp) hba du hu
    unfold Ts at P1 P2
    simp only [List.map_cons, List.map_nil] at P1 P2
    have SC : t.sameB u = true → Spec Tryd.prog glob 33 [encT (t.put [a] 0), encT (u.put [a] 0)] [] (fun o _ => o.fgt = .ret (.bool true)) := fun h => by
      have := sameT_spec _ _ (put_ok (fun b hb => (hba b hb).1) 0 ht) (put_ok (fun b hb => (hba b hb).1) 0 hu)
      rw [same_put [a] h] at this
      exact this
    have V1 := levels_spec t bys hb hbo dt ht
    have V2 := levels_spec u bys hb hbo du hu
    have SD : t.sameB u = true → Spec Tryd.prog glob 33 [encT (t.levels bys 0), encT (u.levels bys 0)] [] (fun o _ => o.fgt = .ret (.bool true)) := fun h => by
      have := sameT_spec _ _ (levels_ok bys 0 ht) (levels_ok bys 0 hu)
      rw [same_levels bys h] at this
      exact this
    have Z3 := size_spec u hu
    have hz : t.sameB u = true → t.sz = u.sz := sz_same t u
    have SE := sameT_spec t t ht ht
    rw [T.same_refl] at SE
    have SF := same2_spec t u ht hu
    have hne : t.sameB u = false → t.eqB u = false := fun h => by
      rw [Bool.eq_false_iff]
      intro he
      rw [(T.eqB_iff _ _).1 he, T.same_refl] at h
      cases h
    have L5 := lift_spec t 0 0 dt ht
    rw [lift_zero ht 0] at L5
    have R1 := right_spec t ht
    generalize t.lift (n + m) fr 0 = y at L2 L3 S1
    generalize hX : t.lift n fr 0 = x at L1 L2 Z1 F1 F3 F5 SB
    generalize u.lift n fr 0 = x' at L4 SB
    generalize t.put [a] 0 = q1 at P1 SC
    generalize u.put [a] 0 = q2 at P2 SC
    generalize t.levels bys 0 = v1 at V1 SD
    generalize u.levels bys 0 = v2 at V2 SD
    generalize t.freeB fr 5000 0 = b1 at F2 F3
    generalize t.freeB 0 fr 0 = b2 at F4 F5
    generalize t.sz = z1 at Z1 Z2 hz
    generalize u.sz = z2 at Z3 hz
    generalize t.right = rr at R1
    generalize t.eqB u = eb at SF hne
    generalize hsb : t.sameB u = sb at SA SB SC SD hz hne
    have hEx := encT_eq x
    have L5' := L5
    have R1' := R1
    rw [hEt] at L1 L3 Z2 F2 F4 SA P1 V1 SE SF L5 R1
    rw [hEu] at SA L4 P2 V2 Z3 SF
    rw [hEa] at P1 P2
    rw [hEx] at L2 Z1 F1 F3 F5 SB
    unfold Lvs at V1 V2
    (refine wpD_seqk fun K hK => ?_; refine wpD_region tyOK ?_; ((try simp only [wpAft_ret, wpAft_pan, putS, updS, setS]); (repeat (rw [wpS_cons]; simp)); (try simp only [wpS_nil, thenD, blockD])))
    refine CallX.pure globPure (L1) ?_ (by simp [D.fgts, D.fgt]) (by simp [D.pures, D.pure, Cp.free, D.pures_map]) (by simp [Out.pure, D.pure, D.pures, Cp.free, D.pures_map])
    ((try simp only [wpAft_ret, wpAft_pan, putS, updS, setS]); (repeat (rw [wpS_cons]; simp)); (try simp only [wpS_nil, thenD, blockD]))
    (refine hK _ _ _ ?_; clear hK K)
    refine wpD_seqk fun K1 hK1 => ?_
    (refine wpD_seqk fun K hK => ?_; refine wpD_drawk tyOK (by kernel_rfl) (by kernel_rfl) fun KT hKT => ?_; ((try simp only [wpAftT_ret, wpAftT_pan, putS, updS, setS]); (repeat (rw [wpT_cons]; simp [w1, w2])); (try simp only [wpT_nil])))
    refine CallY.pure globPure (L2) ?_ (by simp [D.fgts, D.fgt]) (by simp [D.pures, D.pure, Cp.free, D.pures_map]) (by simp [Out.pure, D.pure, D.pures, Cp.free, D.pures_map])
    ((try simp only [wpAftT_ret, wpAftT_pan, putS, updS, setS]); (repeat (rw [wpT_cons]; simp [w1, w2, pairX])); (try simp only [wpT_nil]))
    refine CallY.pure globPure (L3) ?_ (by simp [D.fgts, D.fgt]) (by simp [D.pures, D.pure, Cp.free, D.pures_map]) (by simp [Out.pure, D.pure, D.pures, Cp.free, D.pures_map])
    ((try simp only [wpAftT_ret, wpAftT_pan, putS, updS, setS]); (repeat (rw [wpT_cons]; simp [w1, w2, pairX])); (try simp only [wpT_nil]))
    refine CallY.pure globPure (S1) ?_ (by simp [D.fgts, D.fgt]) (by simp [D.pures, D.pure, Cp.free, D.pures_map]) (by simp [Out.pure, D.pure, D.pures, Cp.free, D.pures_map])
    ((try simp only [wpAftT_ret, wpAftT_pan, putS, updS, setS]); (repeat (rw [wpT_cons]; simp [w1, w2, pairX])); (try simp only [wpT_nil]))
    refine CallY.pure globPure (Z1) ?_ (by simp [D.fgts, D.fgt]) (by simp [D.pures, D.pure, Cp.free, D.pures_map]) (by simp [Out.pure, D.pure, D.pures, Cp.free, D.pures_map])
    ((try simp only [wpAftT_ret, wpAftT_pan, putS, updS, setS]); (repeat (rw [wpT_cons]; simp [w1, w2, pairX])); (try simp only [wpT_nil]))
    refine CallY.pure globPure (Z2) ?_ (by simp [D.fgts, D.fgt]) (by simp [D.pures, D.pure, Cp.free, D.pures_map]) (by simp [Out.pure, D.pure, D.pures, Cp.free, D.pures_map])
    ((try simp only [wpAftT_ret, wpAftT_pan, putS, updS, setS]); (repeat (rw [wpT_cons]; simp [w1, w2, pairX])); (try simp only [wpT_nil]))
    refine CallY.pure globPure (F1) ?_ (by simp [D.fgts, D.fgt]) (by simp [D.pures, D.pure, Cp.free, D.pures_map]) (by simp [Out.pure, D.pure, D.pures, Cp.free, D.pures_map])
    ((try simp only [wpAftT_ret, wpAftT_pan, putS, updS, setS]); (repeat (rw [wpT_cons]; simp [w1, w2, pairX])); (try simp only [wpT_nil]))
    refine CallY.pure globPure (F2) ?_ (by simp [D.fgts, D.fgt]) (by simp [D.pures, D.pure, Cp.free, D.pures_map]) (by simp [Out.pure, D.pure, D.pures, Cp.free, D.pures_map])
    ((try simp only [wpAftT_ret, wpAftT_pan, putS, updS, setS]); (repeat (rw [wpT_cons]; simp [w1, w2, pairX])); (try simp only [wpT_nil]))
    refine CallY.pure globPure (F3) ?_ (by simp [D.fgts, D.fgt]) (by simp [D.pures, D.pure, Cp.free, D.pures_map]) (by simp [Out.pure, D.pure, D.pures, Cp.free, D.pures_map])
    ((try simp only [wpAftT_ret, wpAftT_pan, putS, updS, setS]); (repeat (rw [wpT_cons]; simp [w1, w2, pairX])); (try simp only [wpT_nil]))
    refine CallY.pure globPure (F4) ?_ (by simp [D.fgts, D.fgt]) (by simp [D.pures, D.pure, Cp.free, D.pures_map]) (by simp [Out.pure, D.pure, D.pures, Cp.free, D.pures_map])
    ((try simp only [wpAftT_ret, wpAftT_pan, putS, updS, setS]); (repeat (rw [wpT_cons]; simp [w1, w2, pairX])); (try simp only [wpT_nil]))
    refine CallY.pure globPure (F5) ?_ (by simp [D.fgts, D.fgt]) (by simp [D.pures, D.pure, Cp.free, D.pures_map]) (by simp [Out.pure, D.pure, D.pures, Cp.free, D.pures_map])
    ((try simp only [wpAftT_ret, wpAftT_pan, putS, updS, setS]); (repeat (rw [wpT_cons]; simp [w1, w2, pairX])); (try simp only [wpT_nil]))
    (refine hKT _ _ _ _ (by kernel_rfl) ?_; clear hKT KT; (try simp only [thenD, blockD]))
    (refine hK _ _ _ ?_; clear hK K)
    refine wpD_part rfl (fun h => by simp at h) (fun _ => ?_)
    refine wpD_skip (hK1 _ _ _ ?_)
    clear hK1 K1
    refine wpD_seqk fun K1 hK1 => ?_
    cases sb with
    | true =>
      have SB := SB rfl
      have SC := SC rfl
      have SD := SD rfl
      have hz := hz rfl
      subst hz
      (refine wpD_seqk fun K hK => ?_; refine wpD_region tyOK ?_; ((try simp only [wpAft_ret, wpAft_pan, putS, updS, setS]); (repeat (rw [wpS_cons]; simp)); (try simp only [wpS_nil, thenD, blockD])))
      refine CallX.pure globPure (SA) ?_ (by simp [D.fgts, D.fgt]) (by simp [D.pures, D.pure, Cp.free, D.pures_map]) (by simp [Out.pure, D.pure, D.pures, Cp.free, D.pures_map])
      ((try simp only [wpAft_ret, wpAft_pan, putS, updS, setS]); (repeat (rw [wpS_cons]; simp)); (try simp only [wpS_nil, thenD, blockD]))
      (refine hK _ _ _ ?_; clear hK K)
      refine wpD_part rfl (fun _ => ?_) (fun h => by simp at h)
      (refine wpD_seqk fun K hK => ?_; refine wpD_drawk tyOK (by kernel_rfl) (by kernel_rfl) fun KT hKT => ?_; ((try simp only [wpAftT_ret, wpAftT_pan, putS, updS, setS]); (repeat (rw [wpT_cons]; simp)); (try simp only [wpT_nil])))
      refine CallY.pure globPure (L4) ?_ (by simp [D.fgts, D.fgt]) (by simp [D.pures, D.pure, Cp.free, D.pures_map]) (by simp [Out.pure, D.pure, D.pures, Cp.free, D.pures_map])
      ((try simp only [wpAftT_ret, wpAftT_pan, putS, updS, setS]); (repeat (rw [wpT_cons]; simp)); (try simp only [wpT_nil]))
      refine CallY.pure globPure (SB) ?_ (by simp [D.fgts, D.fgt]) (by simp [D.pures, D.pure, Cp.free, D.pures_map]) (by simp [Out.pure, D.pure, D.pures, Cp.free, D.pures_map])
      ((try simp only [wpAftT_ret, wpAftT_pan, putS, updS, setS]); (repeat (rw [wpT_cons]; simp)); (try simp only [wpT_nil]))
      refine CallY.pure globPure (P1) ?_ (by simp [D.fgts, D.fgt]) (by simp [D.pures, D.pure, Cp.free, D.pures_map]) (by simp [Out.pure, D.pure, D.pures, Cp.free, D.pures_map])
      ((try simp only [wpAftT_ret, wpAftT_pan, putS, updS, setS]); (repeat (rw [wpT_cons]; simp)); (try simp only [wpT_nil]))
      refine CallY.pure globPure (P2) ?_ (by simp [D.fgts, D.fgt]) (by simp [D.pures, D.pure, Cp.free, D.pures_map]) (by simp [Out.pure, D.pure, D.pures, Cp.free, D.pures_map])
      ((try simp only [wpAftT_ret, wpAftT_pan, putS, updS, setS]); (repeat (rw [wpT_cons]; simp)); (try simp only [wpT_nil]))
      refine CallY.pure globPure (SC) ?_ (by simp [D.fgts, D.fgt]) (by simp [D.pures, D.pure, Cp.free, D.pures_map]) (by simp [Out.pure, D.pure, D.pures, Cp.free, D.pures_map])
      ((try simp only [wpAftT_ret, wpAftT_pan, putS, updS, setS]); (repeat (rw [wpT_cons]; simp)); (try simp only [wpT_nil]))
      refine CallY.pure globPure (V1) ?_ (by simp [D.fgts, D.fgt]) (by simp [D.pures, D.pure, Cp.free, D.pures_map]) (by simp [Out.pure, D.pure, D.pures, Cp.free, D.pures_map])
      ((try simp only [wpAftT_ret, wpAftT_pan, putS, updS, setS]); (repeat (rw [wpT_cons]; simp)); (try simp only [wpT_nil]))
      refine CallY.pure globPure (V2) ?_ (by simp [D.fgts, D.fgt]) (by simp [D.pures, D.pure, Cp.free, D.pures_map]) (by simp [Out.pure, D.pure, D.pures, Cp.free, D.pures_map])
      ((try simp only [wpAftT_ret, wpAftT_pan, putS, updS, setS]); (repeat (rw [wpT_cons]; simp)); (try simp only [wpT_nil]))
      refine CallY.pure globPure (SD) ?_ (by simp [D.fgts, D.fgt]) (by simp [D.pures, D.pure, Cp.free, D.pures_map]) (by simp [Out.pure, D.pure, D.pures, Cp.free, D.pures_map])
      ((try simp only [wpAftT_ret, wpAftT_pan, putS, updS, setS]); (repeat (rw [wpT_cons]; simp)); (try simp only [wpT_nil]))
      refine CallY.pure globPure (Z2) ?_ (by simp [D.fgts, D.fgt]) (by simp [D.pures, D.pure, Cp.free, D.pures_map]) (by simp [Out.pure, D.pure, D.pures, Cp.free, D.pures_map])
      ((try simp only [wpAftT_ret, wpAftT_pan, putS, updS, setS]); (repeat (rw [wpT_cons]; simp)); (try simp only [wpT_nil]))
      refine CallY.pure globPure (Z3) ?_ (by simp [D.fgts, D.fgt]) (by simp [D.pures, D.pure, Cp.free, D.pures_map]) (by simp [Out.pure, D.pure, D.pures, Cp.free, D.pures_map])
      ((try simp only [wpAftT_ret, wpAftT_pan, putS, updS, setS]); (repeat (rw [wpT_cons]; simp)); (try simp only [wpT_nil]))
      (refine hKT _ _ _ _ (by kernel_rfl) ?_; clear hKT KT; (try simp only [thenD, blockD]))
      (refine hK _ _ _ ?_; clear hK K)
      (refine wpD_ret ?_; (try simp only [thenD, blockD]); refine EndQ.ret rfl (.inl ?_); simp [tmOf, Out.fgt, D.fgt, D.fgts])
    | false =>
      have hne := hne rfl
      subst hne
      (refine wpD_seqk fun K hK => ?_; refine wpD_region tyOK ?_; ((try simp only [wpAft_ret, wpAft_pan, putS, updS, setS]); (repeat (rw [wpS_cons]; simp)); (try simp only [wpS_nil, thenD, blockD])))
      refine CallX.pure globPure (SA) ?_ (by simp [D.fgts, D.fgt]) (by simp [D.pures, D.pure, Cp.free, D.pures_map]) (by simp [Out.pure, D.pure, D.pures, Cp.free, D.pures_map])
      ((try simp only [wpAft_ret, wpAft_pan, putS, updS, setS]); (repeat (rw [wpS_cons]; simp)); (try simp only [wpS_nil, thenD, blockD]))
      (refine hK _ _ _ ?_; clear hK K)
      refine wpD_part rfl (fun h => by simp at h) (fun _ => ?_)
      refine wpD_skip (hK1 _ _ _ ?_)
      (refine wpD_seqk fun K hK => ?_; refine wpD_drawk tyOK (by kernel_rfl) (by kernel_rfl) fun KT hKT => ?_; ((try simp only [wpAftT_ret, wpAftT_pan, putS, updS, setS]); (repeat (rw [wpT_cons]; simp)); (try simp only [wpT_nil])))
      refine CallY.pure globPure (SE) ?_ (by simp [D.fgts, D.fgt]) (by simp [D.pures, D.pure, Cp.free, D.pures_map]) (by simp [Out.pure, D.pure, D.pures, Cp.free, D.pures_map])
      ((try simp only [wpAftT_ret, wpAftT_pan, putS, updS, setS]); (repeat (rw [wpT_cons]; simp [pairX])); (try simp only [wpT_nil]))
      refine CallY.pure globPure (SF) ?_ (by simp [D.fgts, D.fgt]) (by simp [D.pures, D.pure, Cp.free, D.pures_map]) (by simp [Out.pure, D.pure, D.pures, Cp.free, D.pures_map])
      ((try simp only [wpAftT_ret, wpAftT_pan, putS, updS, setS]); (repeat (rw [wpT_cons]; simp [pairX])); (try simp only [wpT_nil]))
      refine CallY.pure globPure (R1) ?_ (by simp [D.fgts, D.fgt]) (by simp [D.pures, D.pure, Cp.free, D.pures_map]) (by simp [Out.pure, D.pure, D.pures, Cp.free, D.pures_map])
      ((try simp only [wpAftT_ret, wpAftT_pan, putS, updS, setS]); (repeat (rw [wpT_cons]; simp [pairX])); (try simp only [wpT_nil]))
      refine CallY.pure globPure (L5) ?_ (by simp [D.fgts, D.fgt]) (by simp [D.pures, D.pure, Cp.free, D.pures_map]) (by simp [Out.pure, D.pure, D.pures, Cp.free, D.pures_map])
      ((try simp only [wpAftT_ret, wpAftT_pan, putS, updS, setS]); (repeat (rw [wpT_cons]; simp [pairX])); (try simp only [wpT_nil]))
      refine CallY.pure globPure (R1) ?_ (by simp [D.fgts, D.fgt, hEt]) (by simp [D.pures, D.pure, Cp.free, D.pures_map, hEt]) (by simp [Out.pure, D.pure, D.pures, Cp.free, D.pures_map, hEt])
      ((try simp only [wpAftT_ret, wpAftT_pan, putS, updS, setS]); (repeat (rw [wpT_cons]; simp [pairX])); (try simp only [wpT_nil]))
      (refine hKT _ _ _ _ (by kernel_rfl) ?_; clear hKT KT; (try simp only [thenD, blockD]))
      (refine hK _ _ _ ?_; clear hK K)
      (refine wpD_ret ?_; (try simp only [thenD, blockD]); refine EndQ.ret rfl (.inl ?_); simp [tmOf, Out.fgt, D.fgt, D.fgts])
end Go.Proofs.YtebmlojhdnldgaaDoor

namespace Go.Proofs.YtebmlojhdnldgaaDoor
set_option linter.unusedSimpArgs false
set_option linter.unusedVariables false
open Go.RowKit
theorem bulk_one {H : Type} (d : DataW H) : 1 ≤ Rows.uptoBulk d := by
  cases d with
  | lit l => cases l <;> simp [Rows.uptoBulk]
  | nil => simp [Rows.uptoBulk]
  | ptr d => simp [Rows.uptoBulk]
  | slice elems spare => simp [Rows.uptoBulk]
  | agg parts => simp [Rows.uptoBulk]
  | iface t d => simp [Rows.uptoBulk]
  | map entries => simp [Rows.uptoBulk]
  | held h => simp [Rows.uptoBulk]
theorem bulk_part {H : Type} {d : DataW H} {l : List (DataW H)} (h : d ∈ l) : Rows.uptoBulk d ≤ Rows.uptoBulkAll l := by
  induction l with
  | nil => cases h
  | cons x r ih =>
    simp only [Rows.uptoBulkAll]
    cases List.mem_cons.1 h with
    | inl e => subst e; omega
    | inr e => have := ih e; omega
theorem bulk_len {H : Type} (l : List (DataW H)) : l.length ≤ Rows.uptoBulkAll l := by
  induction l with
  | nil => simp [Rows.uptoBulkAll]
  | cons x r ih => have := bulk_one x; simp only [Rows.uptoBulkAll, List.length_cons]; omega
theorem mapM_some {α β : Type} {f : α → Option β} : ∀ {l : List α} {xs : List β}, l.mapM f = some xs → xs.length = l.length ∧ ∀ i (h : i < l.length) (h' : i < xs.length), f l[i] = some xs[i] := by
  intro l
  induction l with
  | nil => intro xs h; simp at h; subst h; exact ⟨rfl, fun i h => absurd h (by simp)⟩
  | cons a r ih =>
    intro xs h
    rw [List.mapM_cons] at h
    cases ha : f a with
    | none => rw [ha] at h; simp at h
    | some b =>
      rw [ha] at h
      cases hr : r.mapM f with
      | none => rw [hr] at h; simp at h
      | some ys =>
        rw [hr] at h
        simp at h
        subst h
        obtain ⟨h1, h2⟩ := ih hr
        refine ⟨by simp [h1], fun i hi hi' => ?_⟩
        cases i with
        | zero => simpa using ha
        | succ i => simpa using h2 i (by simpa using hi) (by simpa using hi')
section
variable {H : Type} {enc : TypeId × Value → H} {P : Program} {w : World} {base : Nat} {sp : Nat → Bool} {held : Bool}
theorem trod_int {fuel : Nat} {t : TypeId} {cs : List Value} {d : DataW H} {ps : List MemPlace} (ht : P.underlying t = some (.int .i64)) (h : DataW.trod enc P w base sp held fuel t cs = some (d, ps)) : ∃ n, cs = [.int .i64 n] ∧ IntKind.i64.min ≤ n ∧ n ≤ IntKind.i64.max := by
  cases fuel with
  | zero => simp [DataW.trod] at h
  | succ fuel =>
    unfold DataW.trod at h
    rw [ht] at h
    rcases cs with _ | ⟨v, _ | ⟨v2, r⟩⟩
    · simp at h
    · cases v <;> simp at h
      rename_i k n
      obtain ⟨⟨rfl, hw⟩, -⟩ := h
      refine ⟨n, rfl, ?_⟩
      simp only [Lit.wf, Bool.and_eq_true, decide_eq_true_eq] at hw
      exact hw
    · simp at h
theorem cells_at {n : Nat} {a : Addr} {cs : List Value} (h : w.cells? base a n = some cs) (hn : 0 < n) : ∃ b o, a = ⟨b, o, none⟩ ∧ b < w.heap.size ∧ cs.length = n ∧ ∀ i u, cs[i]? = some u → w.cell? ⟨b, o + i, none⟩ = some u := by
  unfold World.cells? at h
  split at h
  · obtain ⟨h1, h2⟩ := mapM_some h
    simp only [List.length_range] at h1
    have hall : ∀ i, i < n → w.cell? (a.add i) = some (cs.getD i undef) := fun i hi => by
      have := h2 i (by simpa using hi) (by omega)
      simp only [List.getElem_range] at this
      rw [this]; simp [show i < cs.length by omega]
    have h0 := hall 0 hn
    rw [show a.add 0 = a from by simp [Addr.add]] at h0
    have hs : a.spot = none := by
      cases hsp : a.spot with
      | none => rfl
      | some x =>
        unfold World.cell? at h0
        rw [hsp] at h0
        split at h0 <;> simp at h0
    obtain ⟨b, o, s⟩ := a
    simp only at hs
    subst hs
    refine ⟨b, o, rfl, World.block_lt_of_cell? w _ h0, h1, fun i u hu => ?_⟩
    have hi : i < cs.length := (List.getElem?_eq_some_iff.1 hu).1
    have := hall i (by omega)
    have hadd : (⟨b, o, none⟩ : Addr).add i = ⟨b, o + i, none⟩ := by unfold Addr.add; split <;> simp_all
    rw [hadd] at this
    rw [this]
    simp [List.getD_eq_getElem?_getD, hu]
  · cases h
theorem trod_slice {fuel : Nat} {t e : TypeId} {cs : List Value} {d : DataW H} {ps : List MemPlace} (ht : P.underlying t = some (.slice e)) (h : DataW.trod enc P w base sp held fuel t cs = some (d, ps)) :
    cs = [.slice none 0 0] ∨ ∃ fuel' a len cap elems rest, fuel = fuel' + 1 ∧ cs = [.slice (some a) len cap] ∧ len ≤ cap ∧ cap ≤ maxLen ∧ d = .slice elems rest ∧ elems.length = len ∧
      ∀ i (hi : i < elems.length), ∃ ecs p, w.cells? base (a.add (i * P.cellsOf e)) (P.cellsOf e) = some ecs ∧ DataW.trod enc P w base sp held fuel' e ecs = some (elems[i], p) := by
  cases fuel with
  | zero => simp [DataW.trod] at h
  | succ fuel =>
    unfold DataW.trod at h
    rw [ht] at h
    rcases cs with _ | ⟨v, _ | ⟨v2, r⟩⟩
    · simp at h
    rotate_left
    · simp at h
    cases v <;> try (simp at h; done)
    rename_i ao len cap
    cases ao with
    | none =>
      left
      rcases len with _ | len
      · rcases cap with _ | cap
        · rfl
        · simp at h
      · simp at h
    | some a =>
    right
    dsimp only at h
    split at h
    · rename_i hc
      cases hm : (List.range len).mapM fun i => (w.cells? base (a.add (i * P.cellsOf e)) (P.cellsOf e)).bind (DataW.trod enc P w base sp held fuel e) with
      | none => rw [hm] at h; simp at h
      | some xs =>
        rw [hm] at h
        simp only [Option.bind_some] at h
        obtain ⟨h2, h3⟩ := mapM_some hm
        simp only [List.length_range] at h2
        rw [Option.map_eq_some_iff] at h
        obtain ⟨rest, -, h4⟩ := h
        simp only [Prod.mk.injEq] at h4
        refine ⟨fuel, a, len, cap, xs.map (·.1), rest.map (·.1), rfl, rfl, hc.2.1, hc.2.2, h4.1.symm, by simpa using h2, fun i hi => ?_⟩
        have hi' : i < xs.length := by simpa using hi
        have := h3 i (by simp; omega) hi'
        simp only [List.getElem_range] at this
        rw [Option.bind_eq_some_iff] at this
        obtain ⟨ecs, e1, e2⟩ := this
        exact ⟨ecs, (xs[i]).2, e1, by simpa using e2⟩
    · cases h
theorem trod_struct {fuel : Nat} {t : TypeId} {fs : Array Field} {cs : List Value} {d : DataW H} {ps : List MemPlace} (ht : P.underlying t = some (.struct fs)) (h : DataW.trod enc P w base sp held fuel t cs = some (d, ps)) :
    ∃ fuel' ds, fuel = fuel' + 1 ∧ cs.length = P.cellsOf t ∧ d = .agg ds ∧ ds.length = fs.toList.length ∧ ∀ i (hi : i < fs.toList.length) (hi' : i < ds.length), ∃ p, DataW.trod enc P w base sp held fuel' (fs.toList[i]).type ((cs.drop (fs.toList[i]).offset).take (P.cellsOf (fs.toList[i]).type)) = some (ds[i], p) := by
  cases fuel with
  | zero => simp [DataW.trod] at h
  | succ fuel =>
    unfold DataW.trod at h
    rw [ht] at h
    dsimp only at h
    split at h
    · rename_i hl
      rw [Option.map_eq_some_iff] at h
      obtain ⟨xs, hm, h4⟩ := h
      simp only [Prod.mk.injEq] at h4
      obtain ⟨h2, h3⟩ := mapM_some hm
      refine ⟨fuel, xs.map (·.1), rfl, hl, h4.1.symm, by simpa using h2, fun i hi hi' => ?_⟩
      have hi2 : i < xs.length := by simpa using hi'
      exact ⟨(xs[i]).2, by simpa using h3 i hi hi2⟩
    · cases h
end
theorem len1 {l : List Value} (h : l.length = 1) : ∃ a, l = [a] := by
  rcases l with _ | ⟨a, _ | ⟨b, r⟩⟩
  · cases h
  · exact ⟨a, rfl⟩
  · simp at h
theorem len2 {l : List Value} (h : l.length = 2) : ∃ a b, l = [a, b] := by
  rcases l with _ | ⟨a, r⟩
  · cases h
  · obtain ⟨b, rfl⟩ := len1 (l := r) (by simpa using h)
    exact ⟨a, b, rfl⟩
theorem len5 {l : List Value} (h : l.length = 5) : ∃ a b c d e, l = [a, b, c, d, e] := by
  rcases l with _ | ⟨a, _ | ⟨b, _ | ⟨c, r⟩⟩⟩
  · cases h
  · simp at h
  · simp at h
  · obtain ⟨d, e, rfl⟩ := len2 (l := r) (by simpa using h)
    exact ⟨a, b, c, d, e, rfl⟩
theorem trod_fields {H : Type} {enc : TypeId × Value → H} {P : Program} {w : World} {base : Nat} {sp : Nat → Bool} {held : Bool} {fuel : Nat} {t : TypeId} {fs : Array Field} {cs : List Value} {d : DataW H} {ps : List MemPlace} {l : List (TypeId × Nat)} (ht : P.underlying t = some (.struct fs)) (hl : fs.toList.map (fun f => (f.type, f.offset)) = l)
    (h : DataW.trod enc P w base sp held fuel t cs = some (d, ps)) :
    cs.length = P.cellsOf t ∧ ∀ (i : Nat) ti oi, l[i]? = some (ti, oi) → ∃ f di p, f < fuel ∧ Rows.uptoBulk di < Rows.uptoBulk d ∧ DataW.trod enc P w base sp held f ti ((cs.drop oi).take (P.cellsOf ti)) = some (di, p) := by
  obtain ⟨fuel', ds, rfl, h1, rfl, h3, h4⟩ := trod_struct ht h
  refine ⟨h1, fun i ti oi hi => ?_⟩
  rw [← hl, List.getElem?_map, Option.map_eq_some_iff] at hi
  obtain ⟨f, hf, he⟩ := hi
  obtain ⟨hlt, rfl⟩ := List.getElem?_eq_some_iff.1 hf
  simp only [Prod.mk.injEq] at he
  obtain ⟨rfl, rfl⟩ := he
  obtain ⟨p, hp⟩ := h4 i hlt (by omega)
  refine ⟨fuel', _, p, by omega, ?_, hp⟩
  have := bulk_part (List.getElem_mem (l := ds) (n := i) (by omega))
  simp only [Rows.uptoBulk]; omega
/-- before the call: all stays -/
def rho0 : Rho := ⟨fun _ => none, fun _ => none⟩
theorem cellAt0 {w : World} {b o : Nat} {v : Value} (h : w.cell? ⟨b, o, none⟩ = some v) (h1 : v.oneCell' = true) : cellAt rho0 w b o v := ⟨(fun k hk => nomatch hk), h, h1⟩
theorem RpC_mk {w : World} : ∀ {ds : List D} {cs : List Value} {b o : Nat}, RpL rho0 w ds cs → ds.all D.one = true → (∀ i u, cs[i]? = some u → w.cell? ⟨b, o + i, none⟩ = some u) → RpC rho0 w ds b o
  | [], _, _, _, _, _, _ => by rw [RpC]; trivial
  | d :: r, cs, b, o, h, h1, h2 => by
    rw [RpL] at h
    obtain ⟨v, us, rfl, hv, hr⟩ := h
    rw [List.all_cons, Bool.and_eq_true] at h1
    rw [RpC]
    refine ⟨⟨v, cellAt0 (h2 0 v rfl) (D.one_cell h1.1 hv), hv⟩, RpC_mk hr h1.2 fun i u hu => ?_⟩
    have := h2 (i + 1) u (by simpa using hu)
    rwa [show o + 1 + i = o + (i + 1) by omega]
theorem RpE_mk {w : World} {sz : Nat} : ∀ {els : List D} {b o : Nat}, (∀ e, e ∈ els → e.size = sz ∧ e.cells.all D.one = true) → (∀ i (hi : i < els.length), ∃ cs, RpL rho0 w els[i].cells cs ∧ ∀ j u, cs[j]? = some u → w.cell? ⟨b, o + i * sz + j, none⟩ = some u) → RpE rho0 w els b o
  | [], _, _, _, _ => by rw [RpE]; trivial
  | e :: r, b, o, h, hi => by
    obtain ⟨he, ho⟩ := h e (List.mem_cons_self ..)
    obtain ⟨cs, hc, ha⟩ := hi 0 (by simp)
    have hr : RpE rho0 w r b (o + sz) := RpE_mk (fun x hx => h x (List.mem_cons_of_mem _ hx)) fun i hlt => by
      obtain ⟨cs, h1, h2⟩ := hi (i + 1) (by simpa using hlt)
      refine ⟨cs, by simpa using h1, fun j u hu => ?_⟩
      have := h2 j u hu
      rwa [show o + (i + 1) * sz + j = o + sz + i * sz + j by rw [Nat.add_mul]; omega] at this
    have ha' : ∀ j u, cs[j]? = some u → w.cell? ⟨b, o + j, none⟩ = some u := fun j u hu => by
      have := ha j u hu
      rwa [Nat.zero_mul, Nat.add_zero] at this
    have key : RpC rho0 w e.cells b o := RpC_mk (by simpa using hc) ho ha'
    cases e with
    | agg ds =>
      rw [RpE]
      rw [show o + ds.length = o + sz by rw [← he]; rfl]
      exact ⟨key, hr⟩
    | _ =>
      rw [RpE]
      · have h1 : sz = 1 := he.symm
        rw [h1] at hr
        simp only [D.cells] at key
        rw [RpC] at key
        exact ⟨key.1, hr⟩
      · intro ds hds; cases hds
section
variable {H : Type} {enc : TypeId × Value → H} {w : World} {base : Nat} {sp : Nat → Bool} {held : Bool}
/-- how a slice reads whose elements can be read -/
theorem open_sl {α : Type} (en : α → D) {t e : TypeId} {sz : Nat} (ht : Tryd.prog.underlying t = some (.slice e)) (he : Tryd.prog.cellsOf e = sz) (hsz : 0 < sz) (hes : ∀ x, (en x).size = sz ∧ (en x).cells.all D.one = true) (M : Nat → α → Prop) {fuel : Nat} {cs : List Value} {d : DataW H} {ps : List MemPlace} (hb : Rows.uptoBulk d ≤ 1048576)
    (hE : ∀ f ecs de p, f < fuel → Rows.uptoBulk de < Rows.uptoBulk d → DataW.trod enc Tryd.prog w base sp held f e ecs = some (de, p) → ∃ x, RpL rho0 w (en x).cells ecs ∧ M (Rows.uptoBulk de) x) (hM : ∀ x m n, m ≤ n → M m x → M n x)
    (h : DataW.trod enc Tryd.prog w base sp held fuel t cs = some (d, ps)) : ∃ (v : Value) (xs : List α), cs = [v] ∧ Rp rho0 w (.slice (xs.map en) .any) v ∧ xs.length < Rows.uptoBulk d + 1 ∧ ∀ x, x ∈ xs → M (Rows.uptoBulk d - 1) x := by
  rcases trod_slice ht h with rfl | ⟨fuel', a, len, cap, elems, rest, rfl, rfl, h1, h2, rfl, h3, h4⟩
  · refine ⟨_, [], rfl, ?_, by simp, (fun x hx => nomatch hx)⟩
    rw [Rp]
    exact ⟨none, 0, sz, rfl, by simp, by simp, by simp, (fun e he => nomatch he), trivial, fun h => absurd rfl h⟩
  · have hlen : elems.length + 1 ≤ Rows.uptoBulk (.slice elems rest) := by
      have := bulk_len elems
      simp only [Rows.uptoBulk]; omega
    have key : ∀ i (hi : i < elems.length), ∃ x ecs, w.cells? base (a.add (i * sz)) sz = some ecs ∧ RpL rho0 w (en x).cells ecs ∧ M (Rows.uptoBulk (DataW.slice elems rest) - 1) x := fun i hi => by
      obtain ⟨ecs, p, h5, h6⟩ := h4 i hi
      have hlt : Rows.uptoBulk elems[i] < Rows.uptoBulk (.slice elems rest) := by
        have := bulk_part (List.getElem_mem (l := elems) hi)
        simp only [Rows.uptoBulk]; omega
      obtain ⟨x, h7, h8⟩ := hE fuel' ecs elems[i] p (by omega) hlt h6
      exact ⟨x, ecs, by rw [← he]; exact h5, h7, hM _ _ _ (by omega) h8⟩
    let xs : List α := List.ofFn (n := elems.length) fun i => (key i.1 i.2).choose
    have hxl : xs.length = elems.length := by simp [xs]
    have hget : ∀ i (hi : i < elems.length), xs[i]? = some (key i hi).choose := fun i hi => by simp [xs, List.getElem?_ofFn, hi]
    refine ⟨_, xs, rfl, ?_, by omega, ?_⟩
    · rw [Rp]
      refine ⟨some a, cap, sz, by rw [List.length_map, hxl, h3], by rw [List.length_map]; omega, h2, by rw [List.length_map]; unfold LMax; omega, fun e he => ?_, trivial, fun hne => ?_⟩
      · obtain ⟨x, -, rfl⟩ := List.mem_map.1 he
        exact (hes x).1
      · have h0 : 0 < elems.length := by
          rcases Nat.eq_zero_or_pos elems.length with h | h
          · exact absurd (List.eq_nil_of_length_eq_zero (by rw [List.length_map]; omega)) hne
          · exact h
        obtain ⟨ecs0, c0, -⟩ := (key 0 h0).choose_spec
        rw [show a.add (0 * sz) = a from by simp [Addr.add]] at c0
        obtain ⟨b, o, rfl, hlt, -, -⟩ := cells_at c0 hsz
        refine ⟨b, o, rfl, RpE_mk (sz := sz) (fun e he => ?_) fun i hi => ?_⟩
        · obtain ⟨x, -, rfl⟩ := List.mem_map.1 he
          exact hes x
        · have hi' : i < elems.length := by rw [List.length_map] at hi; omega
          have hx := hget i hi'
          have hx' : (xs.map en)[i] = en (key i hi').choose := by
            rw [List.getElem_map]
            have := List.getElem?_eq_some_iff.1 hx
            exact congrArg en this.2
          rw [hx']
          obtain ⟨ecs, c1, c2, -⟩ := (key i hi').choose_spec
          have hadd : (⟨b, o, none⟩ : Addr).add (i * sz) = ⟨b, o + i * sz, none⟩ := by unfold Addr.add; split <;> simp_all
          rw [hadd] at c1
          obtain ⟨b', o', e, -, c3, c4⟩ := cells_at c1 hsz
          simp only [Addr.mk.injEq, and_true] at e
          obtain ⟨rfl, rfl⟩ := e
          exact ⟨ecs, c2, c4⟩
    · intro x hx
      obtain ⟨i, hi, rfl⟩ := List.getElem_of_mem hx
      have hi' : i < elems.length := by rw [← hxl]; exact hi
      have := hget i hi'
      rw [List.getElem?_eq_getElem hi] at this
      simp only [Option.some.injEq] at this
      rw [this]
      obtain ⟨-, -, -, c⟩ := (key i hi').choose_spec
      exact c
theorem part_under : Tryd.prog.underlying 74 = some (.struct (Tryd.prog.fieldsOf 74)) := by kernel_rfl
theorem level_under : Tryd.prog.underlying 30 = some (.struct (Tryd.prog.fieldsOf 30)) := by kernel_rfl
theorem open_part {fuel : Nat} {cs : List Value} {d : DataW H} {ps : List MemPlace} (h : DataW.trod enc Tryd.prog w base sp held fuel 74 cs = some (d, ps)) : ∃ p : Int × Int, RpL rho0 w (encP p).cells cs := by
  obtain ⟨h1, h2⟩ := trod_fields (l := [(3, 0), (3, 1)]) part_under (by kernel_rfl) h
  rw [show Tryd.prog.cellsOf 74 = 2 from by kernel_rfl] at h1
  obtain ⟨f0, d0, p0, -, -, e0⟩ := h2 0 _ _ rfl
  obtain ⟨f1, d1, p1, -, -, e1⟩ := h2 1 _ _ rfl
  rw [show Tryd.prog.cellsOf 3 = 1 from by kernel_rfl] at e0 e1
  obtain ⟨c0, c1, rfl⟩ := len2 h1
  obtain ⟨n0, k0, b0⟩ := trod_int Tryd.underlying3 e0
  obtain ⟨n1, k1, b1⟩ := trod_int Tryd.underlying3 e1
  simp at k0 k1
  subst k0; subst k1
  refine ⟨(n0, n1), ?_⟩
  show RpL rho0 w [.int .i64 n0, .int .i64 n1] _
  simp only [RpL, Rp]
  exact ⟨_, _, rfl, ⟨rfl, b0⟩, _, _, rfl, ⟨rfl, b1⟩, rfl⟩
theorem open_level {fuel : Nat} {cs : List Value} {d : DataW H} {ps : List MemPlace} (hb : Rows.uptoBulk d ≤ 1048576) (h : DataW.trod enc Tryd.prog w base sp held fuel 30 cs = some (d, ps)) : ∃ l : LV, RpL rho0 w (encL l).cells cs ∧ l.length ≤ Rows.uptoBulk d := by
  obtain ⟨h1, h2⟩ := trod_fields (l := [(28, 0)]) level_under (by kernel_rfl) h
  rw [show Tryd.prog.cellsOf 30 = 1 from by kernel_rfl] at h1
  obtain ⟨f0, d0, p0, -, hb0, e0⟩ := h2 0 _ _ rfl
  rw [show Tryd.prog.cellsOf 28 = 1 from by kernel_rfl] at e0
  obtain ⟨c0, rfl⟩ := len1 h1
  obtain ⟨v, xs, k0, hs, hl, -⟩ := open_sl encP (sz := 2) Tryd.underlying28 (by kernel_rfl) (by omega) (fun x => ⟨rfl, rfl⟩) (fun _ _ => True) (by omega) (fun f ecs de p _ _ he => (open_part he).imp fun _ h => ⟨h, trivial⟩) (fun _ _ _ _ h => h) e0
  simp at k0
  subst k0
  refine ⟨xs, ?_, by omega⟩
  show RpL rho0 w [.slice (xs.map encP) .any] _
  rw [RpL]
  exact ⟨_, [], rfl, hs, by rw [RpL]⟩
theorem open_levels {fuel : Nat} {cs : List Value} {d : DataW H} {ps : List MemPlace} (hb : Rows.uptoBulk d ≤ 1048576) (h : DataW.trod enc Tryd.prog w base sp held fuel 24 cs = some (d, ps)) : ∃ v ls, cs = [v] ∧ Rp rho0 w (Lvs ls) v ∧ ls.length ≤ 1048576 ∧ ∀ l, l ∈ ls → l.length ≤ 1048576 := by
  obtain ⟨v, xs, k0, hs, hl, hm⟩ := open_sl encL (sz := 1) Tryd.underlying24 (by kernel_rfl) (by omega) (fun x => ⟨rfl, rfl⟩) (fun m l => l.length ≤ m) hb (fun f ecs de p _ hlt he => open_level (by omega) he) (fun _ _ _ h1 h2 => Nat.le_trans h2 h1) h
  exact ⟨v, xs, k0, hs, by omega, fun l hl => by have := hm l hl; omega⟩
theorem open_ints {fuel : Nat} {cs : List Value} {d : DataW H} {ps : List MemPlace} (hb : Rows.uptoBulk d ≤ 1048576) (h : DataW.trod enc Tryd.prog w base sp held fuel 66 cs = some (d, ps)) : ∃ v ns, cs = [v] ∧ Rp rho0 w (Ints ns) v ∧ ns.length ≤ 1048576 := by
  obtain ⟨v, xs, k0, hs, hl, hm⟩ := open_sl (D.int .i64) (sz := 1) Tryd.underlying66 (by kernel_rfl) (by omega) (fun x => ⟨rfl, rfl⟩) (fun _ _ => True) hb (fun f ecs de p _ hlt he => by
    obtain ⟨n, rfl, hn⟩ := trod_int Tryd.underlying3 he
    refine ⟨n, ?_, trivial⟩
    show RpL rho0 w [.int .i64 n] _
    simp only [RpL, Rp]
    exact ⟨_, _, rfl, ⟨rfl, hn⟩, rfl⟩) (fun _ _ _ _ h => h) h
  exact ⟨v, xs, k0, hs, by omega⟩
end
end Go.Proofs.YtebmlojhdnldgaaDoor

namespace Go.Proofs.YtebmlojhdnldgaaDoor
set_option linter.unusedSimpArgs false
set_option linter.unusedVariables false
open Go.RowKit Go.WideShapes Go.ChangeShapes
theorem ex_below {w w' : World} {ρ' : Rho} {H : Nat → HO} (h : Ex rho0 w (hOf []) ρ' w' H) : Below w.heap.size w w' :=
  ⟨h.grow.os, h.grow.tape, h.grow.output, h.grow.size, fun k hk => (h.grow.whole k hk rfl).2⟩
theorem laidOut : laidOutB Tryd.prog = true := by kernel_rfl
section
variable {H : Type} {enc : TypeId × Value → H} {P : Program}
theorem trodAll_stays (hl : laidOutB P = true) {W W' : World} {sp : Nat → Bool} (hb : Below W.heap.size W W') : ∀ (ts : List TypeId) (vs : List Value) (ds : List (DataW H)) (ps : List MemPlace), (∀ t, t ∈ ts → P.readableRec t = true ∧ t < P.types.size) →
    DataW.TrodAll enc P W 0 (fun _ => true) true ts vs ds ps → (∀ x ∈ ps, x.block < W.heap.size) → (∀ x ∈ ps, sp x.block = true) → DataW.TrodAll enc P W' 0 sp true ts vs ds ps
  | [], [], [], ps, _, h, _, _ => h
  | t :: ts, v :: vs, d :: ds, ps, ht, h, hlt, hsp => by
    obtain ⟨p, q, h1, h2, rfl⟩ := h
    obtain ⟨r1, r2⟩ := ht t List.mem_cons_self
    exact ⟨p, q, WideElems.Trod_stays hl r1 r2 h1 (fun x hx => hb.same (hlt x (List.mem_append_left _ hx))) (fun x hx => hsp x (List.mem_append_left _ hx)),
      trodAll_stays hl hb ts vs ds q (fun t h => ht t (List.mem_cons_of_mem _ h)) h2 (fun x hx => hlt x (List.mem_append_right _ hx)) (fun x hx => hsp x (List.mem_append_right _ hx)), rfl⟩
  | [], [], _ :: _, _, _, h, _, _ => h.elim
  | [], _ :: _, _, _, _, h, _, _ => h.elim
  | _ :: _, [], _, _, _, h, _, _ => h.elim
  | _ :: _, _ :: _, [], _, _, h, _, _ => h.elim
theorem post_of_below {f : Func} {s : ChangeSpec} {apart fresh handsOn again : Bool} {W W' : World} {args : Array Value} {v : Value} {ds gs : List (DataW H)} {before pa pv : List MemPlace}
    (hW : DataW.Whole enc P f.params.toList s.vars apart W args.toList ds gs before)
    (hres : ∀ (b : Nat) (sp : Nat → Bool) (hd : Bool), DataW.TrodAll enc P W' b sp hd f.resultTypes.toList (v.resultList f.resultTypes.size) (s.fn H (ds ++ gs)).results [])
    (hargs : ∀ sp : Nat → Bool, (∀ p ∈ before, sp p.block = true) → DataW.TrodAll enc P W' 0 sp true f.params.toList args.toList (s.fn H (ds ++ gs)).args pa)
    (hvars : ∀ sp : Nat → Bool, (∀ p ∈ before, sp p.block = true) → DataW.TrodVars enc P W' sp s.vars (s.fn H (ds ++ gs)).vars pv)
    (hps : before = pa ++ pv) (hb : Below W.heap.size W W')
    (hok : ∀ (j : Nat) (t : TypeId) (r : Value), f.resultTypes[j]? = some t → (v.resultList f.resultTypes.size)[j]? = some r → Value.okWide P W' .any 0 t r) :
    s.post enc P f apart fresh handsOn again W args v W' := by
  have hlt : ∀ p ∈ before, p.block < W.heap.size := fun p hp => hW.lt p hp
  have hold : ∀ p ∈ before, (fun b => decide (b < W.heap.size)) p.block = true := fun p hp => by simpa using hlt p hp
  refine ⟨ds, gs, before, [], pa, pv, hW, hres _ _ _, hargs _ hold, hvars _ hold, World.keptBut_mono (fun p hp => ⟨hp, ?_⟩) (hb.frame (· ∈ before)), fun _ => ?_⟩
  · rw [hps, List.mem_append] at hp
    exact Or.inr hp
  · obtain ⟨_, _, _, _, _, hz, hn⟩ := hW
    refine ⟨hok, _, _, ([] ++ pa) ++ pv, ⟨[] ++ pa, pv, trodAll_append (hargs _ (fun _ _ => rfl)) (hres _ _ _), hvars _ (fun _ _ => rfl), rfl, ?_, ?_⟩, ?_⟩
    · intro b off hp
      have hin : MemPlace.cell b off ∈ before := by rw [hps]; simpa using hp
      rw [hb.frozen (hlt _ hin)]
      exact hz b off hin
    · intro ha
      have := hn ha
      rw [hps] at this
      simpa using this
    · intro p hp _
      rw [hps]
      simpa using hp
/-- the row's end: true is told, memory has grown -/
theorem post_law {f : Func} {s : ChangeSpec} {apart fresh handsOn again : Bool} {W W' : World} {args : Array Value} {ds gs : List (DataW H)} {before : List MemPlace} {tb : TypeId} (hl : laidOutB P = true) (htb : P.underlying tb = some .bool) (hrt : f.resultTypes = #[tb]) (hsv : s.vars = [])
    (hts : ∀ t, t ∈ f.params.toList → P.readableRec t = true ∧ t < P.types.size) (hW : DataW.Whole enc P f.params.toList s.vars apart W args.toList ds gs before) (hs : gs = [] → s.fn H (ds ++ gs) = { results := [.lit (.bool true)], args := ds }) (hb : Below W.heap.size W W') :
    s.post enc P f apart fresh handsOn again W args (.bool true) W' := by
  have hW' := hW
  obtain ⟨p, q, hA, hV, hbf, -, -⟩ := hW
  rw [hsv] at hV
  obtain ⟨rfl, rfl⟩ := trodVars_none hV
  have hs' := hs rfl
  have hlt : ∀ x ∈ p, x.block < W.heap.size := fun x hx => hW'.lt x (by rw [hbf]; simpa using hx)
  refine post_of_below (pa := p) (pv := []) hW' (fun b sp hd => ?_) (fun sp hsp => ?_) (fun sp hsp => ?_) (by rw [hbf]) hb ?_
  · rw [hrt, hs']
    exact trodAll_cons_mk (shut_bool htb _) trodAll_mk0
  · rw [hs']
    exact trodAll_stays hl hb _ _ _ _ hts hA hlt (fun x hx => hsp x (by rw [hbf]; simpa using hx))
  · rw [hs', hsv]; rfl
  · exact ok_one hrt rfl (okWide_bool_mk htb _)
/-! an argument -/
theorem arg_agg {W : World} {base : Nat} {t : TypeId} {v : Value} {fs : Array Field} (ht : P.underlying t = some (.struct fs)) (h : Value.okWide P W .any base t v) : ∃ cs : Array Value, v = .agg cs := by
  unfold Value.okWide at h
  rw [ht] at h
  obtain ⟨cs, h, -⟩ := h
  exact ⟨cs, h⟩
end
section
variable {H : Type} {enc : TypeId × Value → H} {W : World} {base b0 : Nat} {sp : Nat → Bool} {held : Bool} {v : Value} {d : DataW H} {p : List MemPlace}
set_option maxRecDepth 100000 in
theorem arg_level (hk : Rows.uptoBulk d ≤ 1048576) (hv : Value.okWide Tryd.prog W .any base 30 v) (h : DataW.Trod enc Tryd.prog W b0 sp held 30 v d p) : ∃ l : LV, Rp rho0 W (encL l) v ∧ l.length ≤ 1048576 := by
  obtain ⟨cs, rfl⟩ := arg_agg level_under hv
  obtain ⟨fuel, hf⟩ := h
  obtain ⟨l, hl, hn⟩ := open_level hk hf
  refine ⟨l, ?_, by omega⟩
  unfold encL at hl ⊢
  rw [Rp]
  exact ⟨_, (by cases cs; rfl), hl⟩
set_option maxRecDepth 100000 in
theorem arg_levels (hk : Rows.uptoBulk d ≤ 1048576) (hv : Value.okWide Tryd.prog W .any base 24 v) (h : DataW.Trod enc Tryd.prog W b0 sp held 24 v d p) : ∃ ls : List LV, Rp rho0 W (Lvs ls) v ∧ ls.length ≤ 1048576 ∧ ∀ l, l ∈ ls → l.length ≤ 1048576 := by
  obtain ⟨a, len, cap, rfl⟩ := okWide_slice Tryd.underlying24 hv
  obtain ⟨fuel, hf⟩ := h
  obtain ⟨v', ls, he, hr, hl, hm⟩ := open_levels hk hf
  have : v' = .slice a len cap := by
    have : ([Value.slice a len cap] : List Value) = [v'] := he
    simpa using this.symm
  subst this
  exact ⟨ls, hr, hl, hm⟩
set_option maxRecDepth 100000 in
theorem arg_ints (hk : Rows.uptoBulk d ≤ 1048576) (hv : Value.okWide Tryd.prog W .any base 66 v) (h : DataW.Trod enc Tryd.prog W b0 sp held 66 v d p) : ∃ ns : List Int, Rp rho0 W (Ints ns) v ∧ ns.length ≤ 1048576 := by
  obtain ⟨a, len, cap, rfl⟩ := okWide_slice Tryd.underlying66 hv
  obtain ⟨fuel, hf⟩ := h
  obtain ⟨v', ns, he, hr, hl⟩ := open_ints hk hf
  have : v' = .slice a len cap := by
    have : ([Value.slice a len cap] : List Value) = [v'] := he
    simpa using this.symm
  subst this
  exact ⟨ns, hr, hl⟩
end
end Go.Proofs.YtebmlojhdnldgaaDoor

namespace Go.Proofs.YtebmlojhdnldgaaDoor
set_option linter.unusedSimpArgs false
set_option linter.unusedVariables false
open Go.RowKit
/-- a constant: how many levels, its type, its body if it has one -/
structure C where
  lv : Int
  ty : T
  has : Bool
  bo : T
def zeroT : T := .mk 0 0 0 [] []
def T.kid (t : T) (i : Nat) : T := t.ks.getD i zeroT
def withK (ks : List T) (x : T) (i many : Nat) : List T := (List.range many).map fun j => if j = i then x else ks.getD j zeroT
def T.withT (t x : T) (i many : Nat) : T := .mk t.k t.n t.a t.ls (withK t.ks x i many)
def ofT (k : Int) (ks : List T) : T := .mk k 0 0 [] ks
/-- the place that decides, how many kids -/
def spot (t : T) : Option (Nat × Nat) :=
  if t.k = 6 then some (0, 2) else if t.k = 14 ∨ t.k = 15 then some (0, 1) else if t.k = 18 then some (4, 5) else if t.k = 21 then some (5, 6)
  else if t.k = 24 ∧ 0 ≤ t.a ∧ (t.ks.length : Int) - 2 = t.a then some (t.a.toNat + 1, t.a.toNat + 2) else none
mutual
/-- how many nodes -/
def T.nsz : T → Nat
  | .mk _ _ _ _ ks => 1 + T.nszs ks
def T.nszs : List T → Nat
  | [] => 0
  | t :: r => T.nsz t + T.nszs r
end
mutual
/-- how many nodes, one of so many put for a variable -/
def T.sd (many : Nat) : T → Int → Nat
  | .mk k n _ _ ks, b => if k = 1 ∧ n = b then many else 1 + T.sds many k ks 0 b
def T.sds (many : Nat) (k : Int) : List T → Nat → Int → Nat
  | [], _, _ => 0
  | t :: r, i, b => T.sd many t (belowD b k i) + T.sds many k r (i + 1) b
end
def bodyC (l : List C) (num : Int) (lv : List LV) : Option T :=
  if h : 0 ≤ num ∧ num.toNat < l.length then if (l[num.toNat]'h.2).lv = lv.length ∧ (l[num.toNat]'h.2).has = true then some ((l[num.toNat]'h.2).bo.levels lv 0) else none else none
def treeT (t s : T) : T :=
  let a := s.kid 0
  let f := s.kid 1
  let rest := ofT 18 [(t.kid 0).lift 1 0 0, (t.kid 1).lift 1 1 0, (t.kid 2).lift 1 0 0, (t.kid 3).lift 1 0 0, ofT 6 [f.lift 1 0 0, ofT 1 []]]
  ofT 6 [ofT 6 [ofT 6 [t.kid 3, a], f], ofT 5 [(t.kid 1).put [a] 0, rest]]
def treeN (t s : T) : Nat :=
  let a := s.kid 0
  let f := s.kid 1
  7 + (a.nsz + f.nsz + f.nsz + (t.kid 3).nsz + (t.kid 3).nsz + (t.kid 0).nsz + (t.kid 1).nsz + (t.kid 2).nsz) + (t.kid 1).sd a.nsz 0
/-- a term's own step, its place at its head -/
def ownS (l : List C) (t x : T) : Option (T × Nat) :=
  if t.k = 6 then if x.k = 5 then some ((x.kid 1).put [t.kid 1] 0, (x.kid 1).sd (t.kid 1).nsz 0) else none
  else if t.k = 14 ∨ t.k = 15 then if x.k = 13 then some (x.kid (if t.k = 15 then 1 else 0), (x.kid (if t.k = 15 then 1 else 0)).nsz) else none
  else if t.k = 7 then some ((t.kid 2).put [t.kid 1] 0, (t.kid 2).sd (t.kid 1).nsz 0)
  else if t.k = 3 then (bodyC l t.n t.ls).map fun b => (b, b.nsz)
  else if t.k = 18 then if x.k = 17 then some (treeT t x, treeN t x) else none
  else if t.k = 21 then if x.k = 20 then some (t.kid 3, (t.kid 3).nsz) else none
  else if t.k = 24 ∧ (spot t).isSome then if x.k = 23 ∧ 0 ≤ x.n ∧ x.n < t.a then some (t.kid (x.n.toNat + 1), (t.kid (x.n.toNat + 1)).nsz) else none
  else none
/-- what is left of a term that does not step -/
def T.trunc (t : T) : T :=
  match spot t with
  | none => t
  | some (i, many) => if h : i < t.ks.length then t.withT (T.trunc t.ks[i]) i many else t.withT zeroT i many
termination_by t.deep
decreasing_by
  cases t with
  | mk k n a ls ks => exact T.deep_kid (List.getElem_mem h)
/-- the first step of a term's head, what it costs -/
def hstep (l : List C) (t : T) : Option (T × Nat) :=
  match spot t with
  | none => ownS l t zeroT
  | some (i, many) => if h : i < t.ks.length then (match hstep l t.ks[i] with
      | some u => some (t.withT u.1 i many, u.2)
      | none => ownS l (t.withT (T.trunc t.ks[i]) i many) (T.trunc t.ks[i])) else ownS l (t.withT zeroT i many) zeroT
termination_by t.deep
decreasing_by
  cases t with
  | mk k n a ls ks => exact T.deep_kid (List.getElem_mem h)
/-- comes to its head, at a cost -/
inductive Hd (l : List C) : T → Nat → T → Prop where
  | stop {t : T} (h : hstep l t = none) : Hd l t 0 t.trunc
  | step {t u v : T} {c n : Nat} (h : hstep l t = some (u, c)) (r : Hd l u n v) : Hd l t (c + n) v
/-- the fuel is gone ahead of that -/
inductive Gone (l : List C) : T → Int → Prop where
  | now {t u : T} {c : Nat} {f : Int} (h : hstep l t = some (u, c)) (hf : f < c) : Gone l t f
  | later {t u : T} {c : Nat} {f : Int} (h : hstep l t = some (u, c)) (hf : (c : Int) ≤ f) (r : Gone l u (f - c)) : Gone l t f
theorem Hd.det {l : List C} {t v w : T} {n m : Nat} (h : Hd l t n v) : Hd l t m w → n = m ∧ v = w := by
  induction h generalizing m w with
  | stop h => intro h2; cases h2 with
    | stop _ => exact ⟨rfl, rfl⟩
    | step h3 _ => rw [h] at h3; cases h3
  | step h r ih => intro h2; cases h2 with
    | stop h3 => rw [h] at h3; cases h3
    | step h3 r3 =>
      rw [h] at h3
      cases h3
      obtain ⟨rfl, rfl⟩ := ih r3
      exact ⟨rfl, rfl⟩
theorem Hd.not_gone {l : List C} {t v : T} {n : Nat} (h : Hd l t n v) : ∀ {f : Int}, (n : Int) ≤ f → ¬ Gone l t f := by
  induction h with
  | stop h => intro f _ hg; cases hg with
    | now h3 _ => rw [h] at h3; cases h3
    | later h3 _ _ => rw [h] at h3; cases h3
  | step h r ih => intro f hf hg; cases hg with
    | now h3 h4 => rw [h] at h3; cases h3; omega
    | later h3 h4 r3 => rw [h] at h3; cases h3; exact ih (by omega) r3
theorem Hd.gone {l : List C} {t v : T} {n : Nat} (h : Hd l t n v) : ∀ {f : Int}, f < (n : Int) → 0 ≤ f → Gone l t f := by
  induction h with
  | stop h => intro f hf h0; omega
  | @step t u v c n h r ih =>
    intro f hf h0
    by_cases hc : (c : Int) ≤ f
    · exact .later h hc (ih (by omega) (by omega))
    · exact .now h (by omega)
theorem spot_of (t : T) : spot t = none ∨ ∃ i many, spot t = some (i, many) := by
  cases h : spot t with
  | none => exact .inl rfl
  | some p => exact .inr ⟨p.1, p.2, rfl⟩
theorem withK_len (ks : List T) (x : T) (i many : Nat) : (withK ks x i many).length = many := by simp [withK]
theorem withK_get {ks : List T} {x : T} {i many j : Nat} (h : j < many) : (withK ks x i many).getD j zeroT = if j = i then x else ks.getD j zeroT := by
  rw [List.getD_eq_getElem?_getD, List.getElem?_eq_getElem (by rw [withK_len]; exact h)]
  simp [withK]
theorem spot_lt {t : T} {i many : Nat} (h : spot t = some (i, many)) : i < many := by
  unfold spot at h
  repeat' split at h
  all_goals first | (cases h; omega) | cases h
theorem spot_with {t x : T} {i many : Nat} (h : spot t = some (i, many)) : spot (t.withT x i many) = some (i, many) := by
  unfold spot at h ⊢
  unfold T.withT
  simp only [T.k_mk, T.a_mk, T.ks_mk, withK_len]
  by_cases h1 : t.k = 6
  · rw [if_pos h1] at h ⊢; exact h
  rw [if_neg h1] at h ⊢
  by_cases h1 : t.k = 14 ∨ t.k = 15
  · rw [if_pos h1] at h ⊢; exact h
  rw [if_neg h1] at h ⊢
  by_cases h1 : t.k = 18
  · rw [if_pos h1] at h ⊢; exact h
  rw [if_neg h1] at h ⊢
  by_cases h1 : t.k = 21
  · rw [if_pos h1] at h ⊢; exact h
  rw [if_neg h1] at h ⊢
  by_cases h1 : t.k = 24 ∧ 0 ≤ t.a ∧ (t.ks.length : Int) - 2 = t.a
  · rw [if_pos h1] at h
    obtain ⟨h1, h2, h3⟩ := h1
    cases h
    rw [if_pos ⟨h1, h2, by omega⟩]
  · rw [if_neg h1] at h; cases h
theorem with_with (t x y : T) (i many : Nat) : (t.withT x i many).withT y i many = t.withT y i many := by
  unfold T.withT
  simp only [T.k_mk, T.n_mk, T.a_mk, T.ls_mk, T.ks_mk]
  congr 1
  unfold withK
  apply List.map_congr_left
  intro j hj
  have hj' : j < many := by simpa using hj
  split
  · rfl
  · rename_i hne
    have := withK_get (ks := t.ks) (x := x) (i := i) hj'
    unfold withK at this
    rw [this, if_neg hne]
theorem with_get {t x : T} {i many : Nat} (h : i < many) (h2 : i < (t.withT x i many).ks.length) : (t.withT x i many).ks[i] = x := by
  unfold T.withT at h2 ⊢
  simp [withK]
theorem trunc_none {t : T} (h : spot t = none) : t.trunc = t := by rw [T.trunc, h]
theorem trunc_in {t : T} {i many : Nat} (h : spot t = some (i, many)) (hi : i < t.ks.length) : t.trunc = t.withT (T.trunc t.ks[i]) i many := by rw [T.trunc, h]; simp only; rw [dif_pos hi]
theorem trunc_out {t : T} {i many : Nat} (h : spot t = some (i, many)) (hi : ¬ i < t.ks.length) : t.trunc = t.withT zeroT i many := by rw [T.trunc, h]; simp only; rw [dif_neg hi]
theorem hstep_none {l : List C} {t : T} (h : spot t = none) : hstep l t = ownS l t zeroT := by rw [hstep, h]
theorem hstep_in {l : List C} {t : T} {i many : Nat} (h : spot t = some (i, many)) (hi : i < t.ks.length) {u : T} {c : Nat} (hu : hstep l t.ks[i] = some (u, c)) : hstep l t = some (t.withT u i many, c) := by rw [hstep, h]; simp only; rw [dif_pos hi, hu]
theorem hstep_at {l : List C} {t : T} {i many : Nat} (h : spot t = some (i, many)) (hi : i < t.ks.length) (hu : hstep l t.ks[i] = none) : hstep l t = ownS l (t.withT (T.trunc t.ks[i]) i many) (T.trunc t.ks[i]) := by rw [hstep, h]; simp only; rw [dif_pos hi, hu]
theorem hstep_out {l : List C} {t : T} {i many : Nat} (h : spot t = some (i, many)) (hi : ¬ i < t.ks.length) : hstep l t = ownS l (t.withT zeroT i many) zeroT := by rw [hstep, h]; simp only; rw [dif_neg hi]
theorem zero_spot : spot zeroT = none := rfl
theorem zero_step (l : List C) : hstep l zeroT = none := by rw [hstep_none zero_spot]; rfl
/-- what does not step, does not step when what is too much is gone -/
theorem trunc_stuck {l : List C} (t : T) : hstep l t = none → hstep l t.trunc = none ∧ t.trunc.trunc = t.trunc := by
  induction t using T.ind with
  | h k n a ls ks ih =>
    intro h
    rcases spot_of (.mk k n a ls ks) with hs | ⟨i, many, hs⟩
    · rw [trunc_none hs]; exact ⟨h, trunc_none hs⟩
    · have hlt := spot_lt hs
      by_cases hi : i < ks.length
      · have hi' : i < (T.mk k n a ls ks).ks.length := hi
        cases hu : hstep l ks[i] with
        | some u => rw [hstep_in hs hi' (u := u.1) (c := u.2) hu] at h; cases h
        | none =>
          obtain ⟨h1, h2⟩ := ih _ (List.getElem_mem hi) hu
          rw [hstep_at hs hi' hu] at h
          rw [trunc_in hs hi']
          have hs2 := spot_with (x := T.trunc (T.mk k n a ls ks).ks[i]) hs
          have hi2 : i < ((T.mk k n a ls ks).withT (T.trunc (T.mk k n a ls ks).ks[i]) i many).ks.length := by unfold T.withT; rw [T.ks_mk, withK_len]; exact hlt
          have hg := with_get hlt hi2
          constructor
          · rw [hstep_at hs2 hi2 (by rw [hg]; exact h1), hg, with_with, show T.trunc (T.trunc (T.mk k n a ls ks).ks[i]) = T.trunc (T.mk k n a ls ks).ks[i] from h2]
            exact h
          · rw [trunc_in hs2 hi2, hg, with_with, show T.trunc (T.trunc (T.mk k n a ls ks).ks[i]) = T.trunc (T.mk k n a ls ks).ks[i] from h2]
      · have hi' : ¬ i < (T.mk k n a ls ks).ks.length := hi
        rw [hstep_out hs hi'] at h
        rw [trunc_out hs hi']
        have hs2 := spot_with (x := zeroT) hs
        have hi2 : i < ((T.mk k n a ls ks).withT zeroT i many).ks.length := by unfold T.withT; rw [T.ks_mk, withK_len]; exact hlt
        have hg := with_get hlt hi2
        constructor
        · rw [hstep_at hs2 hi2 (by rw [hg]; exact zero_step l), hg, trunc_none zero_spot, with_with]
          exact h
        · rw [trunc_in hs2 hi2, hg, trunc_none zero_spot, with_with]
/-! sizes -/
theorem T.nsz_pos (t : T) : 1 ≤ t.nsz := by cases t; rw [T.nsz]; omega
theorem T.nszs_mem {t : T} {ks : List T} (h : t ∈ ks) : t.nsz ≤ T.nszs ks := by
  induction ks with
  | nil => cases h
  | cons x r ih =>
    rw [T.nszs]
    cases h with
    | head => omega
    | tail _ hm => have := ih hm; omega
theorem T.deep_nsz (t : T) : t.deep ≤ t.nsz := by
  induction t using T.ind with
  | h k n a ls ks ih =>
    rw [T.deep, T.nsz]
    have : ∀ l : List T, (∀ x, x ∈ l → x.deep ≤ x.nsz) → T.deeps l ≤ T.nszs l := by
      intro l
      induction l with
      | nil => intro _; simp [T.deeps, T.nszs]
      | cons x r ihl =>
        intro hl
        have h1 := hl x List.mem_cons_self
        have h2 := ihl (fun y hy => hl y (List.mem_cons_of_mem _ hy))
        rw [T.deeps, T.nszs]
        omega
    have := this ks ih
    omega
mutual
theorem T.sd_pos (many : Nat) (hm : 1 ≤ many) : ∀ (t : T) (b : Int), 1 ≤ t.sd many b
  | .mk k n a ls ks, b => by
    rw [T.sd]
    split <;> omega
end
mutual
theorem T.sd_le (many : Nat) (hm : 1 ≤ many) : ∀ (t : T) (b : Int), t.sd many b ≤ t.nsz * many
  | .mk k n a ls ks, b => by
    rw [T.sd, T.nsz]
    split
    · exact Nat.le_mul_of_pos_left _ (by omega)
    · have := T.sds_le many hm k ks 0 b
      rw [Nat.add_mul]
      omega
theorem T.sds_le (many : Nat) (hm : 1 ≤ many) (k : Int) : ∀ (ks : List T) (i : Nat) (b : Int), T.sds many k ks i b ≤ T.nszs ks * many
  | [], _, _ => by rw [T.sds]; omega
  | t :: r, i, b => by
    have h1 := T.sd_le many hm t (belowD b k i)
    have h2 := T.sds_le many hm k r (i + 1) b
    rw [T.sds, T.nszs, Nat.add_mul]
    omega
end
mutual
theorem nsz_lift (n fr : Int) : ∀ (t : T) (d : Int), (T.walk (liftTurn n fr) t d).nsz = t.nsz
  | .mk k m a ls ks, d => by rw [walk_lift, T.nsz, T.nsz, nszs_lift n fr k ks 0 d]
theorem nszs_lift (n fr k : Int) : ∀ (ks : List T) (i : Nat) (d : Int), T.nszs (T.walks (liftTurn n fr) k ks i d) = T.nszs ks
  | [], _, _ => by rw [T.walks]
  | t :: r, i, d => by rw [T.walks, T.nszs, T.nszs, nsz_lift n fr t, nszs_lift n fr k r]
end
mutual
theorem nsz_levels (bys : List LV) : ∀ (t : T) (d : Int), (T.walk (levTurn bys) t d).nsz = t.nsz
  | .mk k m a ls ks, d => by rw [walk_inr (f := levTurn bys) (x := (m, ls.map fun l => normOf (putL l bys))) rfl, T.nsz, T.nsz, nszs_levels bys k ks 0 d]
theorem nszs_levels (bys : List LV) (k : Int) : ∀ (ks : List T) (i : Nat) (d : Int), T.nszs (T.walks (levTurn bys) k ks i d) = T.nszs ks
  | [], _, _ => by rw [T.walks]
  | t :: r, i, d => by rw [T.walks, T.nszs, T.nszs, nsz_levels bys t, nszs_levels bys k r]
end
/-- what is put costs its size -/
theorem nsz_put (x : T) (t : T) : ∀ d, (T.walk (putTurn [x]) t d).nsz = t.sd x.nsz d := by
  induction t using T.ind with
  | h k m a ls ks ih =>
    intro d
    have hks : ∀ (l : List T), (∀ y, y ∈ l → y ∈ ks) → ∀ i, T.nszs (T.walks (putTurn [x]) k l i d) = T.sds x.nsz k l i d := by
      intro l
      induction l with
      | nil => intro _ i; simp [T.walks, T.nszs, T.sds]
      | cons y r ihl =>
        intro hl i
        rw [T.walks, T.nszs, T.sds, ih y (hl y List.mem_cons_self), ihl (fun z hz => hl z (List.mem_cons_of_mem _ hz))]
    have hks0 := hks ks (fun _ h => h) 0
    rw [T.sd]
    by_cases hh : k = 1 ∧ d ≤ m
    · by_cases hl : (m - d).toNat < [x].length
      · rw [walk_inl (putTurn_in (t := .mk k m a ls ks) hh hl), if_pos ⟨hh.1, by simp only [List.length_cons, List.length_nil] at hl; omega⟩]
        unfold T.lift
        rw [nsz_lift]
        simp
      · rw [walk_inr (putTurn_over (t := .mk k m a ls ks) hh hl), T.nsz, hks0, if_neg]
        rintro ⟨-, h2⟩
        apply hl
        simp only [List.length_cons, List.length_nil]; omega
    · rw [walk_inr (putTurn_low (t := .mk k m a ls ks) hh), T.nsz]
      rw [hks0, if_neg]
      rintro ⟨h1, h2⟩
      exact hh ⟨h1, by omega⟩
end Go.Proofs.YtebmlojhdnldgaaDoor

