/-
  Ma10: the texts Ccd Ccm Ccw Ccr Ccl C5 C5p, one behind the other.
-/
import Derived.Test.YtebmlojhdnldgaaDoorMa9
namespace Go.Proofs.YtebmlojhdnldgaaDoor
set_option linter.unusedSimpArgs false
set_option linter.unusedVariables false
open Go.RowKit
def bareB (t : T) : Bool := decide (t.n = 0) && decide (t.a = 0) && decide (t.ls = [])
def variableB (sc : Int) (t : T) : Bool := decide (0 ≤ t.n) && decide (t.n < sc) && decide (t.a = 0) && decide (t.ls = [])
def finB (t : T) : Bool := decide (0 ≤ t.n) && decide (t.a = 0) && decide (t.ls = [])
def elemB (t : T) : Bool := decide (0 ≤ t.n) && decide (t.n < t.a) && decide (t.ls = [])
def branchesB (t : T) : Bool := decide (t.n = 0) && decide (0 ≤ t.a) && decide (t.ls = [])
def sortB (n : Int) (t : T) : Bool := decide (t.n = 0) && decide (t.a = 0) && decide (t.ls.length = 1) && (t.ls.all fun l => levelRight l n)
def constB (n : Int) (cs : List Int) (t : T) : Bool := decide (0 ≤ t.n) && decide (t.n < cs.length) && decide (t.a = 0) && decide ((t.ls.length : Int) = cs.getD t.n.toNat 0) && (t.ls.all fun l => levelRight l n)
/-- what a kind asks of its term; how many kids -/
def askC (n sc : Int) (cs : List Int) (t : T) : Bool :=
  if t.k = 1 then variableB sc t else if t.k = 2 then sortB n t else if t.k = 3 then constB n cs t else if t.k = 22 then finB t else if t.k = 23 then elemB t else if t.k = 24 then branchesB t else bareB t
def askN (k a : Int) : Int :=
  if k = 7 ∨ k = 19 then 3 else if k = 14 ∨ k = 15 then 1 else if k = 18 then 5 else if k = 21 then 6 else if k = 24 then IntKind.i64.wrap (a + 2) else if k = 1 ∨ k = 2 ∨ k = 3 ∨ k = 20 ∨ k = 22 ∨ k = 23 then 0 else 2
def inCore (k : Int) : Bool := (decide (1 ≤ k) && decide (k ≤ 7)) || (decide (12 ≤ k) && decide (k ≤ 24))
/-- a node, but for its kids -/
def nodeB (n sc : Int) (cs : List Int) (t : T) : Bool := inCore t.k && askC n sc cs t && decide ((t.ks.length : Int) = askN t.k t.a)
mutual
def coreB (n : Int) (cs : List Int) : T → Int → Bool
  | .mk k m a ls ks, sc => nodeB n sc cs (.mk k m a ls ks) && coreKs n cs ks k 0 sc
def coreKs (n : Int) (cs : List Int) : List T → Int → Nat → Int → Bool
  | [], _, _, _ => true
  | t :: r, k, i, sc => coreB n cs t (belowD sc k i) && coreKs n cs r k (i + 1) sc
end
/-- core.Right -/
def rightB (n sc : Int) (cs : List Int) (t : T) : Bool := decide (0 ≤ n) && decide (0 ≤ sc) && coreB n cs t sc
end Go.Proofs.YtebmlojhdnldgaaDoor

namespace Go.Proofs.YtebmlojhdnldgaaDoor
set_option linter.unusedSimpArgs false
set_option linter.unusedVariables false
set_option maxHeartbeats 10000000
set_option maxRecDepth 20000
open Go.RowKit
attribute [local simp] wpAft_ret wpAft_pan wantD evOp opD tmOf putS updS setS hOf isFree isTok fillD TK.isAgg TK.known partD thenD blockD putAll D.ofV inB nilTest isNilS binX binD binE isCst bndD capB IntKind.min IntKind.max IntKind.signed IntKind.bits dstOf late
def idxOf (b : Bool) : List Bool → Int → Int
  | [], _ => -1
  | x :: r, i => if b = x then i else idxOf b r (i + 1)
theorem idxOf_at {b : Bool} {l : List Bool} {k : Nat} (h : k < l.length) : idxOf b (l.drop k) k = if b = l[k] then (k : Int) else idxOf b (l.drop (k + 1)) ((k + 1 : Nat) : Int) := by
  rw [List.drop_eq_getElem_cons h, idxOf]; simp
theorem indexB_spec (l : List Bool) (b : Bool) (hl : l.length ≤ LMax) : Spec Tryd.prog glob 180 [Bools l, .bool b] [] (fun o _ => o.fgt = .ret (.int .i64 (idxOf b l 0))) := by
  obtain ⟨R, hR⟩ : ∃ R, R = idxOf b l 0 := ⟨_, rfl⟩
  rw [← hR]
  refine Spec.movd globPure (wpD_spec tyOK Tryd.func180 rfl (enters _ _ Tryd.func180 rfl (by decide)) rfl rfl ?_)
  unfold Bools
  (refine wpD_seqk fun K hK => ?_; refine wpD_region tyOK ?_; ((try simp only [wpAft_ret, wpAft_pan, putS, updS, setS]); (repeat (rw [wpS_cons]; simp)); (try simp only [wpS_nil, thenD, blockD])); refine hK _ _ _ ?_; clear hK K)
  refine wpD_seqk fun K1 hK1 => ?_
  (refine wpD_seqk fun K hK => ?_; refine wpD_region tyOK ?_; ((try simp only [wpAft_ret, wpAft_pan, putS, updS, setS]); (repeat (rw [wpS_cons]; simp)); (try simp only [wpS_nil, thenD, blockD])); refine hK _ _ _ ?_; clear hK K)
  refine wpD_rangeJ tyOK globPure (ti := 3) (tk := 8) (tn := 7) (td := 9) (ts := 18) [4, 5, 8, 9, 10, 11, 12, 13, 14, 15, 16, 17, 18] [] (l.length) (fun k ys hl => ys = [] ∧ R = idxOf b (l.drop k) k ∧ hl = []) rfl rfl rfl rfl rfl rfl rfl rfl rfl rfl rfl rfl (by simp) (by decide) rfl (by first | assumption | omega | (unfold LMax; omega)) rfl (by kernel_rfl) (by decide) ?_ ?_ ?_
  · exact ⟨rfl, hR, rfl⟩
  · rintro i ys hl A hi ⟨rfl, hF, rfl⟩ hA hA2
    simp only [putAll, List.set, List.map_cons, List.map_nil, List.cons_append, List.nil_append]
    have hi' : (i : Int) < l.length := by omega
    rw [idxOf_at hi] at hF
    obtain ⟨x, hx⟩ : ∃ x, l[i] = x := ⟨_, rfl⟩
    rw [hx] at hF
    (refine wpD_seqk fun K hK => ?_; refine wpD_region tyOK ?_; ((try simp only [wpAft_ret, wpAft_pan, putS, updS, setS]); (repeat (rw [wpS_cons]; simp)); (try simp only [wpS_nil, thenD, blockD])); refine hK _ _ _ ?_; clear hK K)
    (refine wpD_seqk fun K hK => ?_; refine wpD_region tyOK ?_; ((try simp only [wpAft_ret, wpAft_pan, putS, updS, setS]); (repeat (rw [wpS_cons]; simp [hi, hi', hx, pairX])); (try simp only [wpS_nil, thenD, blockD])); refine hK _ _ _ ?_; clear hK K)
    by_cases hb : b = x
    · rw [if_pos hb] at hF
      subst hb
      refine wpD_part rfl (fun _ => ?_) (fun h => by simp at h)
      (refine wpD_seqk fun K hK => ?_; refine wpD_region tyOK ?_; ((try simp only [wpAft_ret, wpAft_pan, putS, updS, setS]); (repeat (rw [wpS_cons]; simp)); (try simp only [wpS_nil, thenD, blockD])); refine hK _ _ _ ?_; clear hK K)
      (refine wpD_ret ?_; (try simp only [thenD, blockD]); refine EndQ.ret rfl (.inl ?_); simp [tmOf, Out.fgt, D.fgt, D.fgts])
      exact hF.symm
    · rw [if_neg hb] at hF
      refine wpD_part rfl (fun h => absurd (by simpa using h) hb) (fun _ => ?_)
      refine wpD_skip ?_
      (refine hA2 ([]) _ _ _ (LeT.refl _) (by decide) (by simp) (by simp [movT, movH, movD, D.mov, HO.mov, okM, renM, getW, D.ren, D.rens, D.okN, D.okNs, Cp.ren, Cp.okN, HO.ren, HO.okN, okA, renA, renO, hOf, handed, D.fgt, D.fgts, List.range_succ, List.idxOf_cons, putAll]) ?_ rfl; simp [movT, movH, movD, D.mov, HO.mov, okM, renM, getW, D.ren, D.rens, D.okN, D.okNs, Cp.ren, Cp.okN, HO.ren, HO.okN, okA, renA, renO, hOf, handed, D.fgt, D.fgts, List.range_succ, List.idxOf_cons])
      exact hF
  · rintro ys hl tl' ⟨rfl, hF, rfl⟩ htl
    refine hK1 _ _ _ (wpD_weakL htl ?_)
    simp only [putAll, List.set, List.map_cons, List.map_nil, List.cons_append, List.nil_append]
    rw [List.drop_length, idxOf] at hF
    subst hF
    (refine wpD_seqk fun K hK => ?_; refine wpD_region tyOK ?_; ((try simp only [wpAft_ret, wpAft_pan, putS, updS, setS]); (repeat (rw [wpS_cons]; simp)); (try simp only [wpS_nil, thenD, blockD])); refine hK _ _ _ ?_; clear hK K)
    (refine wpD_ret ?_; (try simp only [thenD, blockD]); refine EndQ.ret rfl (.inl ?_); simp [tmOf, Out.fgt, D.fgt, D.fgts])
theorem idx_mem : ∀ (l : List Bool) (b : Bool) (i : Int), 0 ≤ i → (0 ≤ idxOf b l i ↔ b ∈ l)
  | [], b, i, h => by simp [idxOf]
  | x :: r, b, i, h => by
    rw [idxOf]
    by_cases hx : b = x
    · simp [hx, h]
    · rw [if_neg hx, idx_mem r b (i + 1) (by omega)]; simp [hx]
theorem containsB_spec (l : List Bool) (b : Bool) (hl : l.length ≤ LMax) : Spec Tryd.prog glob 133 [Bools l, .bool b] [] (fun o _ => o.fgt = .ret (.bool (decide (b ∈ l)))) := by
  refine Spec.movd globPure (wpD_spec tyOK Tryd.func133 rfl (enters _ _ Tryd.func133 rfl (by decide)) rfl rfl ?_)
  unfold Bools
  (refine wpD_seqk fun K hK => ?_; refine wpD_region tyOK ?_; ((try simp only [wpAft_ret, wpAft_pan, putS, updS, setS]); (repeat (rw [wpS_cons]; simp)); (try simp only [wpS_nil, thenD, blockD])); refine hK _ _ _ ?_; clear hK K)
  (refine wpD_seqk fun K hK => ?_; refine wpD_region tyOK ?_; ((try simp only [wpAft_ret, wpAft_pan, putS, updS, setS]); (repeat (rw [wpS_cons]; simp)); (try simp only [wpS_nil, thenD, blockD])))
  refine CallX.pure globPure (indexB_spec l b hl) ?_ (by simp [D.fgts, D.fgt, Bools]) (by simp [D.pures, D.pure, Cp.free, D.pures_map, Bools]) (by simp [Out.pure, D.pure, D.pures, Cp.free, D.pures_map, Bools])
  ((try simp only [wpAft_ret, wpAft_pan, putS, updS, setS]); (repeat (rw [wpS_cons]; simp)); (try simp only [wpS_nil, thenD, blockD]))
  (refine hK _ _ _ ?_; clear hK K)
  (refine wpD_ret ?_; (try simp only [thenD, blockD]); refine EndQ.ret rfl (.inl ?_); simp [tmOf, Out.fgt, D.fgt, D.fgts])
  exact idx_mem l b 0 (by omega)
def wrongD : D := .iface 138 (.agg [])
theorem must_spec (l : List Bool) (hl : l.length ≤ LMax) : Spec Tryd.prog glob 95 [Bools l] [] (fun o _ => o.fgt = if false ∈ l then .pan wrongD else .ret (.tuple [])) := by
  refine Spec.movd globPure (wpD_spec tyOK Tryd.func95 rfl (enters _ _ Tryd.func95 rfl (by decide)) rfl rfl ?_)
  unfold Bools
  (refine wpD_seqk fun K hK => ?_; refine wpD_region tyOK ?_; ((try simp only [wpAft_ret, wpAft_pan, putS, updS, setS]); (repeat (rw [wpS_cons]; simp)); (try simp only [wpS_nil, thenD, blockD])))
  refine CallX.pure globPure (containsB_spec l false hl) ?_ (by simp [D.fgts, D.fgt, Bools]) (by simp [D.pures, D.pure, Cp.free, D.pures_map, Bools]) (by simp [Out.pure, D.pure, D.pures, Cp.free, D.pures_map, Bools])
  ((try simp only [wpAft_ret, wpAft_pan, putS, updS, setS]); (repeat (rw [wpS_cons]; simp)); (try simp only [wpS_nil, thenD, blockD]))
  (refine hK _ _ _ ?_; clear hK K)
  refine wpD_part rfl (fun h => ?_) (fun h => ?_)
  · replace h : false ∈ l := by simpa using h
    (refine wpD_region tyOK ?_; ((try simp only [wpAft_ret, wpAft_pan, putS, updS, setS]); (repeat (rw [wpS_cons]; simp)); (try simp only [wpS_nil, thenD, blockD])))
    ((try simp only [thenD, blockD]); refine EndQ.pan (.inl ?_); simp [Out.fgt, D.fgt, D.fgts])
    simp [h, wrongD]
  · replace h : ¬ false ∈ l := by simpa using h
    refine wpD_skip ?_
    ((try simp only [thenD, blockD]); refine EndQ.nrm rfl (.inl ?_); simp [tmOf, Out.fgt, D.fgt, D.fgts])
    simp [h]
theorem must_ok (l : List Bool) (h : l.all id = true) (hl : l.length ≤ LMax := by simp [LMax]) : Spec Tryd.prog glob 95 [Bools l] [] (fun o _ => o.fgt = .ret (.tuple [])) := by
  have := must_spec l hl
  rw [if_neg (by simpa using h)] at this
  exact this
theorem must_no (l : List Bool) (h : l.all id = false) (hl : l.length ≤ LMax := by simp [LMax]) : Spec Tryd.prog glob 95 [Bools l] [] (fun o _ => o.fgt = .pan wrongD) := by
  have := must_spec l hl
  rw [if_pos (by simpa using h)] at this
  exact this
def askOut (b : Bool) (d : D) : Out := if b then .ret d else .pan wrongD
theorem bare_spec (t : T) : Spec Tryd.prog glob 189 [encT t] [] (fun o _ => o.fgt = askOut (bareB t) (.tuple [])) := by
  refine Spec.movd globPure (wpD_spec tyOK Tryd.func189 rfl (enters _ _ Tryd.func189 rfl (by decide)) rfl rfl ?_)
  (refine wpD_seqk fun K hK => ?_; refine wpD_region tyOK ?_; ((try simp only [wpAft_ret, wpAft_pan, putS, updS, setS]); (repeat (rw [wpS_cons]; simp)); (try simp only [wpS_nil, thenD, blockD])); refine hK _ _ _ ?_; clear hK K)
  cases hb : bareB t with
  | true =>
    (refine wpD_region tyOK ?_; ((try simp only [wpAft_ret, wpAft_pan, putS, updS, setS]); (repeat (rw [wpS_cons]; simp)); (try simp only [wpS_nil, thenD, blockD])))
    refine CallX.pure globPure (must_ok [decide (t.n = 0), decide (t.a = 0), decide (t.ls = [])] (by simpa [bareB, and_assoc] using hb)) ?_ (by simp [D.fgts, D.fgt, Bools]) (by simp [D.pures, D.pure, Cp.free, D.pures_map, Bools]) (by simp [Out.pure, D.pure, D.pures, Cp.free, D.pures_map, Bools])
    ((try simp only [wpAft_ret, wpAft_pan, putS, updS, setS]); (repeat (rw [wpS_cons]; simp)); (try simp only [wpS_nil, thenD, blockD]))
    ((try simp only [thenD, blockD]); refine EndQ.nrm rfl (.inl ?_); simp [tmOf, Out.fgt, D.fgt, D.fgts])
    rfl
  | false =>
    (refine wpD_region tyOK ?_; ((try simp only [wpAft_ret, wpAft_pan, putS, updS, setS]); (repeat (rw [wpS_cons]; simp)); (try simp only [wpS_nil, thenD, blockD])))
    refine CallX.pure globPure (must_no [decide (t.n = 0), decide (t.a = 0), decide (t.ls = [])] (by simpa [bareB, -Bool.and_eq_false_imp, Bool.and_assoc] using hb)) ?_ (by simp [D.fgts, D.fgt, Bools, wrongD]) (by simp [D.pures, D.pure, Cp.free, D.pures_map, Bools, wrongD]) (by simp [Out.pure, D.pure, D.pures, Cp.free, D.pures_map, Bools, wrongD])
    ((try simp only [wpAft_ret, wpAft_pan, putS, updS, setS]); (repeat (rw [wpS_cons]; simp)); (try simp only [wpS_nil, thenD, blockD]))
    ((try simp only [thenD, blockD]); refine EndQ.pan (.inl ?_); simp [Out.fgt, D.fgt, D.fgts])
    rfl
def scopeD (n sc : Int) : D := .agg [.int .i64 n, .int .i64 sc]
theorem sbelow_spec (n sc m : Int) : Spec Tryd.prog glob 158 [scopeD n sc, .int .i64 m] [] (fun o _ => o.fgt = .ret (scopeD n (IntKind.i64.wrap (sc + m)))) := by
  refine Spec.movd globPure (wpD_spec tyOK Tryd.func158 rfl (enters _ _ Tryd.func158 rfl (by decide)) rfl rfl ?_)
  unfold scopeD
  (refine wpD_seqk fun K hK => ?_; refine wpD_region tyOK ?_; ((try simp only [wpAft_ret, wpAft_pan, putS, updS, setS]); (repeat (rw [wpS_cons]; simp)); (try simp only [wpS_nil, thenD, blockD])); refine hK _ _ _ ?_; clear hK K)
  (refine wpD_seqk fun K hK => ?_; refine wpD_region tyOK ?_; ((try simp only [wpAft_ret, wpAft_pan, putS, updS, setS]); (repeat (rw [wpS_cons]; simp)); (try simp only [wpS_nil, thenD, blockD])); refine hK _ _ _ ?_; clear hK K)
  (refine wpD_ret ?_; (try simp only [thenD, blockD]); refine EndQ.ret rfl (.inl ?_); simp [tmOf, Out.fgt, D.fgt, D.fgts])
/-- which function asks for which kind -/
def coreAsk : List (Int × FuncId) := [(1, 146), (2, 147), (3, 148), (4, 149), (5, 149), (6, 149), (7, 150),
  (12, 149), (13, 149), (14, 151), (15, 151), (16, 149), (17, 149), (18, 152), (19, 150),
  (20, 153), (21, 154), (22, 155), (23, 156), (24, 157)]
def coreKeys : List D := coreAsk.map fun p => .int .i64 p.1
def coreVals : List D := coreAsk.map fun p => .fn (.func p.2) [] []
def coreMap : D := .mapc coreKeys coreVals
@[simp high] theorem coreMap_fgt : coreMap.fgt = coreMap := rfl
@[simp high] theorem coreMap_pure : coreMap.pure = true := by kernel_rfl
@[simp high] theorem coreMap_one : coreMap.one = true := rfl
@[simp high] theorem coreMap_cells : coreMap.cells = [coreMap] := rfl
@[simp high] theorem coreMap_size : coreMap.size = 1 := rfl
@[simp high] theorem coreMap_frz (bx : FK) (i : Nat) (x : D) : D.frz bx i x coreMap = coreMap := D.frz_pure bx i x _ coreMap_pure
@[simp high] theorem coreMap_low (m : Nat) : coreMap.low m = true := D.low_pure m _ coreMap_pure
@[simp high] theorem coreKeys_pure : D.pures coreKeys = true := by kernel_rfl
@[simp high] theorem coreVals_pure : D.pures coreVals = true := by kernel_rfl
@[simp high] theorem coreKeys_okN (p : Nat → Bool) : D.okNs p coreKeys = true := D.okNs_pure p _ coreKeys_pure
@[simp high] theorem coreVals_okN (p : Nat → Bool) : D.okNs p coreVals = true := D.okNs_pure p _ coreVals_pure
@[simp high] theorem coreKeys_ren (σ : Nat → Nat) : D.rens σ coreKeys = coreKeys := D.rens_pure σ _ coreKeys_pure
@[simp high] theorem coreVals_ren (σ : Nat → Nat) : D.rens σ coreVals = coreVals := D.rens_pure σ _ coreVals_pure
@[simp high] theorem coreMap_okN (p : Nat → Bool) : D.okN p coreMap = true := D.okN_pure p _ coreMap_pure
@[simp high] theorem coreMap_ren (σ : Nat → Nat) : D.ren σ coreMap = coreMap := D.ren_pure σ _ coreMap_pure
def walkD (n sc : Int) (cs : List Int) : D := .agg [.int .i64 n, .int .i64 sc, Ints cs, coreMap]
theorem two_spec (n sc : Int) (cs : List Int) (t : T) : Spec Tryd.prog glob 149 [walkD n sc cs, encT t] [] (fun o _ => o.fgt = askOut (bareB t) (.int .i64 2)) := by
  refine Spec.movd globPure (wpD_spec tyOK Tryd.func149 rfl (enters _ _ Tryd.func149 rfl (by decide)) rfl rfl ?_)
  unfold walkD Ints
  (refine wpD_seqk fun K hK => ?_; refine wpD_region tyOK ?_; ((try simp only [wpAft_ret, wpAft_pan, putS, updS, setS]); (repeat (rw [wpS_cons]; simp)); (try simp only [wpS_nil, thenD, blockD])); refine hK _ _ _ ?_; clear hK K)
  have hb := bare_spec t
  cases h : bareB t with
  | true =>
    simp only [h, askOut, if_true, if_false, Bool.false_eq_true] at hb
    (refine wpD_seqk fun K hK => ?_; refine wpD_region tyOK ?_; ((try simp only [wpAft_ret, wpAft_pan, putS, updS, setS]); (repeat (rw [wpS_cons]; simp)); (try simp only [wpS_nil, thenD, blockD])))
    refine CallX.pure globPure (hb) ?_ (by simp [D.fgts, D.fgt, encT_eq t]) (by simp [D.pures, D.pure, Cp.free, D.pures_map, encT_eq t]) (by simp [Out.pure, D.pure, D.pures, Cp.free, D.pures_map, encT_eq t])
    ((try simp only [wpAft_ret, wpAft_pan, putS, updS, setS]); (repeat (rw [wpS_cons]; simp)); (try simp only [wpS_nil, thenD, blockD]))
    (refine hK _ _ _ ?_; clear hK K)
    (refine wpD_seqk fun K hK => ?_; refine wpD_region tyOK ?_; ((try simp only [wpAft_ret, wpAft_pan, putS, updS, setS]); (repeat (rw [wpS_cons]; simp)); (try simp only [wpS_nil, thenD, blockD])); refine hK _ _ _ ?_; clear hK K)
    (refine wpD_ret ?_; (try simp only [thenD, blockD]); refine EndQ.ret rfl (.inl ?_); simp [tmOf, Out.fgt, D.fgt, D.fgts])
    rfl
  | false =>
    simp only [h, askOut, if_true, if_false, Bool.false_eq_true] at hb
    (refine wpD_seqk fun K hK => ?_; refine wpD_region tyOK ?_; ((try simp only [wpAft_ret, wpAft_pan, putS, updS, setS]); (repeat (rw [wpS_cons]; simp)); (try simp only [wpS_nil, thenD, blockD])))
    refine CallX.pure globPure (hb) ?_ (by simp [D.fgts, D.fgt, encT_eq t, wrongD]) (by simp [D.pures, D.pure, Cp.free, D.pures_map, encT_eq t, wrongD]) (by simp [Out.pure, D.pure, D.pures, Cp.free, D.pures_map, encT_eq t, wrongD])
    ((try simp only [wpAft_ret, wpAft_pan, putS, updS, setS]); (repeat (rw [wpS_cons]; simp)); (try simp only [wpS_nil, thenD, blockD]))
    ((try simp only [thenD, blockD]); refine EndQ.pan (.inl ?_); simp [Out.fgt, D.fgt, D.fgts])
    rfl
theorem three_spec (n sc : Int) (cs : List Int) (t : T) : Spec Tryd.prog glob 150 [walkD n sc cs, encT t] [] (fun o _ => o.fgt = askOut (bareB t) (.int .i64 3)) := by
  refine Spec.movd globPure (wpD_spec tyOK Tryd.func150 rfl (enters _ _ Tryd.func150 rfl (by decide)) rfl rfl ?_)
  unfold walkD Ints
  (refine wpD_seqk fun K hK => ?_; refine wpD_region tyOK ?_; ((try simp only [wpAft_ret, wpAft_pan, putS, updS, setS]); (repeat (rw [wpS_cons]; simp)); (try simp only [wpS_nil, thenD, blockD])); refine hK _ _ _ ?_; clear hK K)
  have hb := bare_spec t
  cases h : bareB t with
  | true =>
    simp only [h, askOut, if_true, if_false, Bool.false_eq_true] at hb
    (refine wpD_seqk fun K hK => ?_; refine wpD_region tyOK ?_; ((try simp only [wpAft_ret, wpAft_pan, putS, updS, setS]); (repeat (rw [wpS_cons]; simp)); (try simp only [wpS_nil, thenD, blockD])))
    refine CallX.pure globPure (hb) ?_ (by simp [D.fgts, D.fgt, encT_eq t]) (by simp [D.pures, D.pure, Cp.free, D.pures_map, encT_eq t]) (by simp [Out.pure, D.pure, D.pures, Cp.free, D.pures_map, encT_eq t])
    ((try simp only [wpAft_ret, wpAft_pan, putS, updS, setS]); (repeat (rw [wpS_cons]; simp)); (try simp only [wpS_nil, thenD, blockD]))
    (refine hK _ _ _ ?_; clear hK K)
    (refine wpD_seqk fun K hK => ?_; refine wpD_region tyOK ?_; ((try simp only [wpAft_ret, wpAft_pan, putS, updS, setS]); (repeat (rw [wpS_cons]; simp)); (try simp only [wpS_nil, thenD, blockD])); refine hK _ _ _ ?_; clear hK K)
    (refine wpD_ret ?_; (try simp only [thenD, blockD]); refine EndQ.ret rfl (.inl ?_); simp [tmOf, Out.fgt, D.fgt, D.fgts])
    rfl
  | false =>
    simp only [h, askOut, if_true, if_false, Bool.false_eq_true] at hb
    (refine wpD_seqk fun K hK => ?_; refine wpD_region tyOK ?_; ((try simp only [wpAft_ret, wpAft_pan, putS, updS, setS]); (repeat (rw [wpS_cons]; simp)); (try simp only [wpS_nil, thenD, blockD])))
    refine CallX.pure globPure (hb) ?_ (by simp [D.fgts, D.fgt, encT_eq t, wrongD]) (by simp [D.pures, D.pure, Cp.free, D.pures_map, encT_eq t, wrongD]) (by simp [Out.pure, D.pure, D.pures, Cp.free, D.pures_map, encT_eq t, wrongD])
    ((try simp only [wpAft_ret, wpAft_pan, putS, updS, setS]); (repeat (rw [wpS_cons]; simp)); (try simp only [wpS_nil, thenD, blockD]))
    ((try simp only [thenD, blockD]); refine EndQ.pan (.inl ?_); simp [Out.fgt, D.fgt, D.fgts])
    rfl
theorem one_spec (n sc : Int) (cs : List Int) (t : T) : Spec Tryd.prog glob 151 [walkD n sc cs, encT t] [] (fun o _ => o.fgt = askOut (bareB t) (.int .i64 1)) := by
  refine Spec.movd globPure (wpD_spec tyOK Tryd.func151 rfl (enters _ _ Tryd.func151 rfl (by decide)) rfl rfl ?_)
  unfold walkD Ints
  (refine wpD_seqk fun K hK => ?_; refine wpD_region tyOK ?_; ((try simp only [wpAft_ret, wpAft_pan, putS, updS, setS]); (repeat (rw [wpS_cons]; simp)); (try simp only [wpS_nil, thenD, blockD])); refine hK _ _ _ ?_; clear hK K)
  have hb := bare_spec t
  cases h : bareB t with
  | true =>
    simp only [h, askOut, if_true, if_false, Bool.false_eq_true] at hb
    (refine wpD_seqk fun K hK => ?_; refine wpD_region tyOK ?_; ((try simp only [wpAft_ret, wpAft_pan, putS, updS, setS]); (repeat (rw [wpS_cons]; simp)); (try simp only [wpS_nil, thenD, blockD])))
    refine CallX.pure globPure (hb) ?_ (by simp [D.fgts, D.fgt, encT_eq t]) (by simp [D.pures, D.pure, Cp.free, D.pures_map, encT_eq t]) (by simp [Out.pure, D.pure, D.pures, Cp.free, D.pures_map, encT_eq t])
    ((try simp only [wpAft_ret, wpAft_pan, putS, updS, setS]); (repeat (rw [wpS_cons]; simp)); (try simp only [wpS_nil, thenD, blockD]))
    (refine hK _ _ _ ?_; clear hK K)
    (refine wpD_seqk fun K hK => ?_; refine wpD_region tyOK ?_; ((try simp only [wpAft_ret, wpAft_pan, putS, updS, setS]); (repeat (rw [wpS_cons]; simp)); (try simp only [wpS_nil, thenD, blockD])); refine hK _ _ _ ?_; clear hK K)
    (refine wpD_ret ?_; (try simp only [thenD, blockD]); refine EndQ.ret rfl (.inl ?_); simp [tmOf, Out.fgt, D.fgt, D.fgts])
    rfl
  | false =>
    simp only [h, askOut, if_true, if_false, Bool.false_eq_true] at hb
    (refine wpD_seqk fun K hK => ?_; refine wpD_region tyOK ?_; ((try simp only [wpAft_ret, wpAft_pan, putS, updS, setS]); (repeat (rw [wpS_cons]; simp)); (try simp only [wpS_nil, thenD, blockD])))
    refine CallX.pure globPure (hb) ?_ (by simp [D.fgts, D.fgt, encT_eq t, wrongD]) (by simp [D.pures, D.pure, Cp.free, D.pures_map, encT_eq t, wrongD]) (by simp [Out.pure, D.pure, D.pures, Cp.free, D.pures_map, encT_eq t, wrongD])
    ((try simp only [wpAft_ret, wpAft_pan, putS, updS, setS]); (repeat (rw [wpS_cons]; simp)); (try simp only [wpS_nil, thenD, blockD]))
    ((try simp only [thenD, blockD]); refine EndQ.pan (.inl ?_); simp [Out.fgt, D.fgt, D.fgts])
    rfl
theorem five_spec (n sc : Int) (cs : List Int) (t : T) : Spec Tryd.prog glob 152 [walkD n sc cs, encT t] [] (fun o _ => o.fgt = askOut (bareB t) (.int .i64 5)) := by
  refine Spec.movd globPure (wpD_spec tyOK Tryd.func152 rfl (enters _ _ Tryd.func152 rfl (by decide)) rfl rfl ?_)
  unfold walkD Ints
  (refine wpD_seqk fun K hK => ?_; refine wpD_region tyOK ?_; ((try simp only [wpAft_ret, wpAft_pan, putS, updS, setS]); (repeat (rw [wpS_cons]; simp)); (try simp only [wpS_nil, thenD, blockD])); refine hK _ _ _ ?_; clear hK K)
  have hb := bare_spec t
  cases h : bareB t with
  | true =>
    simp only [h, askOut, if_true, if_false, Bool.false_eq_true] at hb
    (refine wpD_seqk fun K hK => ?_; refine wpD_region tyOK ?_; ((try simp only [wpAft_ret, wpAft_pan, putS, updS, setS]); (repeat (rw [wpS_cons]; simp)); (try simp only [wpS_nil, thenD, blockD])))
    refine CallX.pure globPure (hb) ?_ (by simp [D.fgts, D.fgt, encT_eq t]) (by simp [D.pures, D.pure, Cp.free, D.pures_map, encT_eq t]) (by simp [Out.pure, D.pure, D.pures, Cp.free, D.pures_map, encT_eq t])
    ((try simp only [wpAft_ret, wpAft_pan, putS, updS, setS]); (repeat (rw [wpS_cons]; simp)); (try simp only [wpS_nil, thenD, blockD]))
    (refine hK _ _ _ ?_; clear hK K)
    (refine wpD_seqk fun K hK => ?_; refine wpD_region tyOK ?_; ((try simp only [wpAft_ret, wpAft_pan, putS, updS, setS]); (repeat (rw [wpS_cons]; simp)); (try simp only [wpS_nil, thenD, blockD])); refine hK _ _ _ ?_; clear hK K)
    (refine wpD_ret ?_; (try simp only [thenD, blockD]); refine EndQ.ret rfl (.inl ?_); simp [tmOf, Out.fgt, D.fgt, D.fgts])
    rfl
  | false =>
    simp only [h, askOut, if_true, if_false, Bool.false_eq_true] at hb
    (refine wpD_seqk fun K hK => ?_; refine wpD_region tyOK ?_; ((try simp only [wpAft_ret, wpAft_pan, putS, updS, setS]); (repeat (rw [wpS_cons]; simp)); (try simp only [wpS_nil, thenD, blockD])))
    refine CallX.pure globPure (hb) ?_ (by simp [D.fgts, D.fgt, encT_eq t, wrongD]) (by simp [D.pures, D.pure, Cp.free, D.pures_map, encT_eq t, wrongD]) (by simp [Out.pure, D.pure, D.pures, Cp.free, D.pures_map, encT_eq t, wrongD])
    ((try simp only [wpAft_ret, wpAft_pan, putS, updS, setS]); (repeat (rw [wpS_cons]; simp)); (try simp only [wpS_nil, thenD, blockD]))
    ((try simp only [thenD, blockD]); refine EndQ.pan (.inl ?_); simp [Out.fgt, D.fgt, D.fgts])
    rfl
theorem leaf_spec (n sc : Int) (cs : List Int) (t : T) : Spec Tryd.prog glob 153 [walkD n sc cs, encT t] [] (fun o _ => o.fgt = askOut (bareB t) (.int .i64 0)) := by
  refine Spec.movd globPure (wpD_spec tyOK Tryd.func153 rfl (enters _ _ Tryd.func153 rfl (by decide)) rfl rfl ?_)
  unfold walkD Ints
  (refine wpD_seqk fun K hK => ?_; refine wpD_region tyOK ?_; ((try simp only [wpAft_ret, wpAft_pan, putS, updS, setS]); (repeat (rw [wpS_cons]; simp)); (try simp only [wpS_nil, thenD, blockD])); refine hK _ _ _ ?_; clear hK K)
  have hb := bare_spec t
  cases h : bareB t with
  | true =>
    simp only [h, askOut, if_true, if_false, Bool.false_eq_true] at hb
    (refine wpD_seqk fun K hK => ?_; refine wpD_region tyOK ?_; ((try simp only [wpAft_ret, wpAft_pan, putS, updS, setS]); (repeat (rw [wpS_cons]; simp)); (try simp only [wpS_nil, thenD, blockD])))
    refine CallX.pure globPure (hb) ?_ (by simp [D.fgts, D.fgt, encT_eq t]) (by simp [D.pures, D.pure, Cp.free, D.pures_map, encT_eq t]) (by simp [Out.pure, D.pure, D.pures, Cp.free, D.pures_map, encT_eq t])
    ((try simp only [wpAft_ret, wpAft_pan, putS, updS, setS]); (repeat (rw [wpS_cons]; simp)); (try simp only [wpS_nil, thenD, blockD]))
    (refine hK _ _ _ ?_; clear hK K)
    (refine wpD_seqk fun K hK => ?_; refine wpD_region tyOK ?_; ((try simp only [wpAft_ret, wpAft_pan, putS, updS, setS]); (repeat (rw [wpS_cons]; simp)); (try simp only [wpS_nil, thenD, blockD])); refine hK _ _ _ ?_; clear hK K)
    (refine wpD_ret ?_; (try simp only [thenD, blockD]); refine EndQ.ret rfl (.inl ?_); simp [tmOf, Out.fgt, D.fgt, D.fgts])
    rfl
  | false =>
    simp only [h, askOut, if_true, if_false, Bool.false_eq_true] at hb
    (refine wpD_seqk fun K hK => ?_; refine wpD_region tyOK ?_; ((try simp only [wpAft_ret, wpAft_pan, putS, updS, setS]); (repeat (rw [wpS_cons]; simp)); (try simp only [wpS_nil, thenD, blockD])))
    refine CallX.pure globPure (hb) ?_ (by simp [D.fgts, D.fgt, encT_eq t, wrongD]) (by simp [D.pures, D.pure, Cp.free, D.pures_map, encT_eq t, wrongD]) (by simp [Out.pure, D.pure, D.pures, Cp.free, D.pures_map, encT_eq t, wrongD])
    ((try simp only [wpAft_ret, wpAft_pan, putS, updS, setS]); (repeat (rw [wpS_cons]; simp)); (try simp only [wpS_nil, thenD, blockD]))
    ((try simp only [thenD, blockD]); refine EndQ.pan (.inl ?_); simp [Out.fgt, D.fgt, D.fgts])
    rfl
theorem six_spec (n sc : Int) (cs : List Int) (t : T) : Spec Tryd.prog glob 154 [walkD n sc cs, encT t] [] (fun o _ => o.fgt = askOut (bareB t) (.int .i64 6)) := by
  refine Spec.movd globPure (wpD_spec tyOK Tryd.func154 rfl (enters _ _ Tryd.func154 rfl (by decide)) rfl rfl ?_)
  unfold walkD Ints
  (refine wpD_seqk fun K hK => ?_; refine wpD_region tyOK ?_; ((try simp only [wpAft_ret, wpAft_pan, putS, updS, setS]); (repeat (rw [wpS_cons]; simp)); (try simp only [wpS_nil, thenD, blockD])); refine hK _ _ _ ?_; clear hK K)
  have hb := bare_spec t
  cases h : bareB t with
  | true =>
    simp only [h, askOut, if_true, if_false, Bool.false_eq_true] at hb
    (refine wpD_seqk fun K hK => ?_; refine wpD_region tyOK ?_; ((try simp only [wpAft_ret, wpAft_pan, putS, updS, setS]); (repeat (rw [wpS_cons]; simp)); (try simp only [wpS_nil, thenD, blockD])))
    refine CallX.pure globPure (hb) ?_ (by simp [D.fgts, D.fgt, encT_eq t]) (by simp [D.pures, D.pure, Cp.free, D.pures_map, encT_eq t]) (by simp [Out.pure, D.pure, D.pures, Cp.free, D.pures_map, encT_eq t])
    ((try simp only [wpAft_ret, wpAft_pan, putS, updS, setS]); (repeat (rw [wpS_cons]; simp)); (try simp only [wpS_nil, thenD, blockD]))
    (refine hK _ _ _ ?_; clear hK K)
    (refine wpD_seqk fun K hK => ?_; refine wpD_region tyOK ?_; ((try simp only [wpAft_ret, wpAft_pan, putS, updS, setS]); (repeat (rw [wpS_cons]; simp)); (try simp only [wpS_nil, thenD, blockD])); refine hK _ _ _ ?_; clear hK K)
    (refine wpD_ret ?_; (try simp only [thenD, blockD]); refine EndQ.ret rfl (.inl ?_); simp [tmOf, Out.fgt, D.fgt, D.fgts])
    rfl
  | false =>
    simp only [h, askOut, if_true, if_false, Bool.false_eq_true] at hb
    (refine wpD_seqk fun K hK => ?_; refine wpD_region tyOK ?_; ((try simp only [wpAft_ret, wpAft_pan, putS, updS, setS]); (repeat (rw [wpS_cons]; simp)); (try simp only [wpS_nil, thenD, blockD])))
    refine CallX.pure globPure (hb) ?_ (by simp [D.fgts, D.fgt, encT_eq t, wrongD]) (by simp [D.pures, D.pure, Cp.free, D.pures_map, encT_eq t, wrongD]) (by simp [Out.pure, D.pure, D.pures, Cp.free, D.pures_map, encT_eq t, wrongD])
    ((try simp only [wpAft_ret, wpAft_pan, putS, updS, setS]); (repeat (rw [wpS_cons]; simp)); (try simp only [wpS_nil, thenD, blockD]))
    ((try simp only [thenD, blockD]); refine EndQ.pan (.inl ?_); simp [Out.fgt, D.fgt, D.fgts])
    rfl
theorem variable_spec (n sc : Int) (cs : List Int) (t : T) : Spec Tryd.prog glob 146 [walkD n sc cs, encT t] [] (fun o _ => o.fgt = askOut (variableB sc t) (.int .i64 0)) := by
  refine Spec.movd globPure (wpD_spec tyOK Tryd.func146 rfl (enters _ _ Tryd.func146 rfl (by decide)) rfl rfl ?_)
  unfold walkD Ints
  (refine wpD_seqk fun K hK => ?_; refine wpD_region tyOK ?_; ((try simp only [wpAft_ret, wpAft_pan, putS, updS, setS]); (repeat (rw [wpS_cons]; simp)); (try simp only [wpS_nil, thenD, blockD])); refine hK _ _ _ ?_; clear hK K)
  cases h : variableB sc t with
  | true =>
    (refine wpD_seqk fun K hK => ?_; refine wpD_region tyOK ?_; ((try simp only [wpAft_ret, wpAft_pan, putS, updS, setS]); (repeat (rw [wpS_cons]; simp)); (try simp only [wpS_nil, thenD, blockD])))
    refine CallX.pure globPure (must_ok [decide (0 ≤ t.n), decide (t.n < sc), decide (t.a = 0), decide (t.ls = [])] (by simpa [variableB, and_assoc] using h)) ?_ (by simp [D.fgts, D.fgt, Bools]) (by simp [D.pures, D.pure, Cp.free, D.pures_map, Bools]) (by simp [Out.pure, D.pure, D.pures, Cp.free, D.pures_map, Bools])
    ((try simp only [wpAft_ret, wpAft_pan, putS, updS, setS]); (repeat (rw [wpS_cons]; simp)); (try simp only [wpS_nil, thenD, blockD]))
    (refine hK _ _ _ ?_; clear hK K)
    (refine wpD_seqk fun K hK => ?_; refine wpD_region tyOK ?_; ((try simp only [wpAft_ret, wpAft_pan, putS, updS, setS]); (repeat (rw [wpS_cons]; simp)); (try simp only [wpS_nil, thenD, blockD])); refine hK _ _ _ ?_; clear hK K)
    (refine wpD_ret ?_; (try simp only [thenD, blockD]); refine EndQ.ret rfl (.inl ?_); simp [tmOf, Out.fgt, D.fgt, D.fgts])
    rfl
  | false =>
    (refine wpD_seqk fun K hK => ?_; refine wpD_region tyOK ?_; ((try simp only [wpAft_ret, wpAft_pan, putS, updS, setS]); (repeat (rw [wpS_cons]; simp)); (try simp only [wpS_nil, thenD, blockD])))
    refine CallX.pure globPure (must_no [decide (0 ≤ t.n), decide (t.n < sc), decide (t.a = 0), decide (t.ls = [])] (by simpa [variableB, -Bool.and_eq_false_imp, Bool.and_assoc] using h)) ?_ (by simp [D.fgts, D.fgt, Bools, wrongD]) (by simp [D.pures, D.pure, Cp.free, D.pures_map, Bools, wrongD]) (by simp [Out.pure, D.pure, D.pures, Cp.free, D.pures_map, Bools, wrongD])
    ((try simp only [wpAft_ret, wpAft_pan, putS, updS, setS]); (repeat (rw [wpS_cons]; simp)); (try simp only [wpS_nil, thenD, blockD]))
    ((try simp only [thenD, blockD]); refine EndQ.pan (.inl ?_); simp [Out.fgt, D.fgt, D.fgts])
    rfl
theorem fin_spec (n sc : Int) (cs : List Int) (t : T) : Spec Tryd.prog glob 155 [walkD n sc cs, encT t] [] (fun o _ => o.fgt = askOut (finB t) (.int .i64 0)) := by
  refine Spec.movd globPure (wpD_spec tyOK Tryd.func155 rfl (enters _ _ Tryd.func155 rfl (by decide)) rfl rfl ?_)
  unfold walkD Ints
  (refine wpD_seqk fun K hK => ?_; refine wpD_region tyOK ?_; ((try simp only [wpAft_ret, wpAft_pan, putS, updS, setS]); (repeat (rw [wpS_cons]; simp)); (try simp only [wpS_nil, thenD, blockD])); refine hK _ _ _ ?_; clear hK K)
  cases h : finB t with
  | true =>
    (refine wpD_seqk fun K hK => ?_; refine wpD_region tyOK ?_; ((try simp only [wpAft_ret, wpAft_pan, putS, updS, setS]); (repeat (rw [wpS_cons]; simp)); (try simp only [wpS_nil, thenD, blockD])))
    refine CallX.pure globPure (must_ok [decide (0 ≤ t.n), decide (t.a = 0), decide (t.ls = [])] (by simpa [finB, and_assoc] using h)) ?_ (by simp [D.fgts, D.fgt, Bools]) (by simp [D.pures, D.pure, Cp.free, D.pures_map, Bools]) (by simp [Out.pure, D.pure, D.pures, Cp.free, D.pures_map, Bools])
    ((try simp only [wpAft_ret, wpAft_pan, putS, updS, setS]); (repeat (rw [wpS_cons]; simp)); (try simp only [wpS_nil, thenD, blockD]))
    (refine hK _ _ _ ?_; clear hK K)
    (refine wpD_seqk fun K hK => ?_; refine wpD_region tyOK ?_; ((try simp only [wpAft_ret, wpAft_pan, putS, updS, setS]); (repeat (rw [wpS_cons]; simp)); (try simp only [wpS_nil, thenD, blockD])); refine hK _ _ _ ?_; clear hK K)
    (refine wpD_ret ?_; (try simp only [thenD, blockD]); refine EndQ.ret rfl (.inl ?_); simp [tmOf, Out.fgt, D.fgt, D.fgts])
    rfl
  | false =>
    (refine wpD_seqk fun K hK => ?_; refine wpD_region tyOK ?_; ((try simp only [wpAft_ret, wpAft_pan, putS, updS, setS]); (repeat (rw [wpS_cons]; simp)); (try simp only [wpS_nil, thenD, blockD])))
    refine CallX.pure globPure (must_no [decide (0 ≤ t.n), decide (t.a = 0), decide (t.ls = [])] (by simpa [finB, -Bool.and_eq_false_imp, Bool.and_assoc] using h)) ?_ (by simp [D.fgts, D.fgt, Bools, wrongD]) (by simp [D.pures, D.pure, Cp.free, D.pures_map, Bools, wrongD]) (by simp [Out.pure, D.pure, D.pures, Cp.free, D.pures_map, Bools, wrongD])
    ((try simp only [wpAft_ret, wpAft_pan, putS, updS, setS]); (repeat (rw [wpS_cons]; simp)); (try simp only [wpS_nil, thenD, blockD]))
    ((try simp only [thenD, blockD]); refine EndQ.pan (.inl ?_); simp [Out.fgt, D.fgt, D.fgts])
    rfl
theorem elem_spec (n sc : Int) (cs : List Int) (t : T) : Spec Tryd.prog glob 156 [walkD n sc cs, encT t] [] (fun o _ => o.fgt = askOut (elemB t) (.int .i64 0)) := by
  refine Spec.movd globPure (wpD_spec tyOK Tryd.func156 rfl (enters _ _ Tryd.func156 rfl (by decide)) rfl rfl ?_)
  unfold walkD Ints
  (refine wpD_seqk fun K hK => ?_; refine wpD_region tyOK ?_; ((try simp only [wpAft_ret, wpAft_pan, putS, updS, setS]); (repeat (rw [wpS_cons]; simp)); (try simp only [wpS_nil, thenD, blockD])); refine hK _ _ _ ?_; clear hK K)
  cases h : elemB t with
  | true =>
    (refine wpD_seqk fun K hK => ?_; refine wpD_region tyOK ?_; ((try simp only [wpAft_ret, wpAft_pan, putS, updS, setS]); (repeat (rw [wpS_cons]; simp)); (try simp only [wpS_nil, thenD, blockD])))
    refine CallX.pure globPure (must_ok [decide (0 ≤ t.n), decide (t.n < t.a), decide (t.ls = [])] (by simpa [elemB, and_assoc] using h)) ?_ (by simp [D.fgts, D.fgt, Bools]) (by simp [D.pures, D.pure, Cp.free, D.pures_map, Bools]) (by simp [Out.pure, D.pure, D.pures, Cp.free, D.pures_map, Bools])
    ((try simp only [wpAft_ret, wpAft_pan, putS, updS, setS]); (repeat (rw [wpS_cons]; simp)); (try simp only [wpS_nil, thenD, blockD]))
    (refine hK _ _ _ ?_; clear hK K)
    (refine wpD_seqk fun K hK => ?_; refine wpD_region tyOK ?_; ((try simp only [wpAft_ret, wpAft_pan, putS, updS, setS]); (repeat (rw [wpS_cons]; simp)); (try simp only [wpS_nil, thenD, blockD])); refine hK _ _ _ ?_; clear hK K)
    (refine wpD_ret ?_; (try simp only [thenD, blockD]); refine EndQ.ret rfl (.inl ?_); simp [tmOf, Out.fgt, D.fgt, D.fgts])
    rfl
  | false =>
    (refine wpD_seqk fun K hK => ?_; refine wpD_region tyOK ?_; ((try simp only [wpAft_ret, wpAft_pan, putS, updS, setS]); (repeat (rw [wpS_cons]; simp)); (try simp only [wpS_nil, thenD, blockD])))
    refine CallX.pure globPure (must_no [decide (0 ≤ t.n), decide (t.n < t.a), decide (t.ls = [])] (by simpa [elemB, -Bool.and_eq_false_imp, Bool.and_assoc] using h)) ?_ (by simp [D.fgts, D.fgt, Bools, wrongD]) (by simp [D.pures, D.pure, Cp.free, D.pures_map, Bools, wrongD]) (by simp [Out.pure, D.pure, D.pures, Cp.free, D.pures_map, Bools, wrongD])
    ((try simp only [wpAft_ret, wpAft_pan, putS, updS, setS]); (repeat (rw [wpS_cons]; simp)); (try simp only [wpS_nil, thenD, blockD]))
    ((try simp only [thenD, blockD]); refine EndQ.pan (.inl ?_); simp [Out.fgt, D.fgt, D.fgts])
    rfl
theorem branches_spec (n sc : Int) (cs : List Int) (t : T) : Spec Tryd.prog glob 157 [walkD n sc cs, encT t] [] (fun o _ => o.fgt = askOut (branchesB t) (.int .i64 (IntKind.i64.wrap (t.a + 2)))) := by
  refine Spec.movd globPure (wpD_spec tyOK Tryd.func157 rfl (enters _ _ Tryd.func157 rfl (by decide)) rfl rfl ?_)
  unfold walkD Ints
  (refine wpD_seqk fun K hK => ?_; refine wpD_region tyOK ?_; ((try simp only [wpAft_ret, wpAft_pan, putS, updS, setS]); (repeat (rw [wpS_cons]; simp)); (try simp only [wpS_nil, thenD, blockD])); refine hK _ _ _ ?_; clear hK K)
  cases h : branchesB t with
  | true =>
    (refine wpD_seqk fun K hK => ?_; refine wpD_region tyOK ?_; ((try simp only [wpAft_ret, wpAft_pan, putS, updS, setS]); (repeat (rw [wpS_cons]; simp)); (try simp only [wpS_nil, thenD, blockD])))
    refine CallX.pure globPure (must_ok [decide (t.n = 0), decide (0 ≤ t.a), decide (t.ls = [])] (by simpa [branchesB, and_assoc] using h)) ?_ (by simp [D.fgts, D.fgt, Bools]) (by simp [D.pures, D.pure, Cp.free, D.pures_map, Bools]) (by simp [Out.pure, D.pure, D.pures, Cp.free, D.pures_map, Bools])
    ((try simp only [wpAft_ret, wpAft_pan, putS, updS, setS]); (repeat (rw [wpS_cons]; simp)); (try simp only [wpS_nil, thenD, blockD]))
    (refine hK _ _ _ ?_; clear hK K)
    (refine wpD_seqk fun K hK => ?_; refine wpD_region tyOK ?_; ((try simp only [wpAft_ret, wpAft_pan, putS, updS, setS]); (repeat (rw [wpS_cons]; simp)); (try simp only [wpS_nil, thenD, blockD])); refine hK _ _ _ ?_; clear hK K)
    (refine wpD_ret ?_; (try simp only [thenD, blockD]); refine EndQ.ret rfl (.inl ?_); simp [tmOf, Out.fgt, D.fgt, D.fgts])
    rfl
  | false =>
    (refine wpD_seqk fun K hK => ?_; refine wpD_region tyOK ?_; ((try simp only [wpAft_ret, wpAft_pan, putS, updS, setS]); (repeat (rw [wpS_cons]; simp)); (try simp only [wpS_nil, thenD, blockD])))
    refine CallX.pure globPure (must_no [decide (t.n = 0), decide (0 ≤ t.a), decide (t.ls = [])] (by simpa [branchesB, -Bool.and_eq_false_imp, Bool.and_assoc] using h)) ?_ (by simp [D.fgts, D.fgt, Bools, wrongD]) (by simp [D.pures, D.pure, Cp.free, D.pures_map, Bools, wrongD]) (by simp [Out.pure, D.pure, D.pures, Cp.free, D.pures_map, Bools, wrongD])
    ((try simp only [wpAft_ret, wpAft_pan, putS, updS, setS]); (repeat (rw [wpS_cons]; simp)); (try simp only [wpS_nil, thenD, blockD]))
    ((try simp only [thenD, blockD]); refine EndQ.pan (.inl ?_); simp [Out.fgt, D.fgt, D.fgts])
    rfl
theorem scopeRight_spec (n sc : Int) (ls : List LV) (hl : ls.length ≤ LMax) (hls : ∀ l, l ∈ ls → l.length ≤ LMax) : Spec Tryd.prog glob 188 [scopeD n sc, Lvs ls] [] (fun o _ => o.fgt = askOut (ls.all fun l => levelRight l n) (.tuple [])) := by
  obtain ⟨R, hR⟩ : ∃ R, R = ls.all fun l => levelRight l n := ⟨_, rfl⟩
  rw [← hR]
  refine Spec.movd globPure (wpD_spec tyOK Tryd.func188 rfl (enters _ _ Tryd.func188 rfl (by decide)) rfl rfl ?_)
  unfold scopeD Lvs
  (refine wpD_seqk fun K hK => ?_; refine wpD_region tyOK ?_; ((try simp only [wpAft_ret, wpAft_pan, putS, updS, setS]); (repeat (rw [wpS_cons]; simp)); (try simp only [wpS_nil, thenD, blockD])); refine hK _ _ _ ?_; clear hK K)
  (refine wpD_seqk fun K hK => ?_; refine wpD_region tyOK ?_; ((try simp only [wpAft_ret, wpAft_pan, putS, updS, setS]); (repeat (rw [wpS_cons]; simp)); (try simp only [wpS_nil, thenD, blockD])); refine hK _ _ _ ?_; clear hK K)
  refine wpD_rangeJ tyOK globPure (ti := 3) (tk := 8) (tn := 7) (td := 9) (ts := 18) [5, 8, 9, 10, 11, 12, 13, 14, 15, 16, 17, 18] [] (ls.length) (fun k ys hl => ys = [] ∧ R = ((ls.drop k).all fun l => levelRight l n) ∧ hl = [.cells 141 [.int .i64 n, .int .i64 sc]]) rfl rfl rfl rfl rfl rfl rfl rfl rfl rfl rfl rfl (by simp) (by decide) rfl (by first | assumption | omega | (unfold LMax; omega)) rfl (by kernel_rfl) (by decide) ?_ ?_ ?_
  · exact ⟨rfl, hR, rfl⟩
  · rintro i ys hl A hi ⟨rfl, hF, rfl⟩ hA hA2
    simp only [putAll, List.set, List.map_cons, List.map_nil, List.cons_append, List.nil_append]
    have hi' : (i : Int) < ls.length := by omega
    rw [List.drop_eq_getElem_cons hi, List.all_cons] at hF
    have hlr := levelRight_spec ls[i] n (hls _ (List.getElem_mem hi))
    obtain ⟨x, hx⟩ : ∃ x, ls[i] = x := ⟨_, rfl⟩
    rw [hx] at hF hlr
    unfold encL at hlr
    generalize levelRight x n = B at hF hlr
    (refine wpD_seqk fun K hK => ?_; refine wpD_region tyOK ?_; ((try simp only [wpAft_ret, wpAft_pan, putS, updS, setS]); (repeat (rw [wpS_cons]; simp [hi, hi', hx, encL])); (try simp only [wpS_nil, thenD, blockD])); refine hK _ _ _ ?_; clear hK K)
    cases B with
    | true =>
      (refine wpD_region tyOK ?_; ((try simp only [wpAft_ret, wpAft_pan, putS, updS, setS]); (repeat (rw [wpS_cons]; simp)); (try simp only [wpS_nil, thenD, blockD])))
      refine CallX.pure globPure (hlr) ?_ (by simp [D.fgts, D.fgt]) (by simp [D.pures, D.pure, Cp.free, D.pures_map]) (by simp [Out.pure, D.pure, D.pures, Cp.free, D.pures_map])
      ((try simp only [wpAft_ret, wpAft_pan, putS, updS, setS]); (repeat (rw [wpS_cons]; simp)); (try simp only [wpS_nil, thenD, blockD]))
      refine CallX.pure globPure (must_ok [true] rfl) ?_ (by simp [D.fgts, D.fgt, Bools]) (by simp [D.pures, D.pure, Cp.free, D.pures_map, Bools]) (by simp [Out.pure, D.pure, D.pures, Cp.free, D.pures_map, Bools])
      ((try simp only [wpAft_ret, wpAft_pan, putS, updS, setS]); (repeat (rw [wpS_cons]; simp)); (try simp only [wpS_nil, thenD, blockD]))
      (refine hA2 ([0]) _ _ _ (LeT.refl _) (by decide) (by simp) (by simp [movT, movH, movD, D.mov, HO.mov, okM, renM, getW, D.ren, D.rens, D.okN, D.okNs, Cp.ren, Cp.okN, HO.ren, HO.okN, okA, renA, renO, hOf, handed, D.fgt, D.fgts, List.range_succ, List.idxOf_cons, putAll]) ?_ rfl; simp [movT, movH, movD, D.mov, HO.mov, okM, renM, getW, D.ren, D.rens, D.okN, D.okNs, Cp.ren, Cp.okN, HO.ren, HO.okN, okA, renA, renO, hOf, handed, D.fgt, D.fgts, List.range_succ, List.idxOf_cons])
      simpa using hF
    | false =>
      (refine wpD_region tyOK ?_; ((try simp only [wpAft_ret, wpAft_pan, putS, updS, setS]); (repeat (rw [wpS_cons]; simp)); (try simp only [wpS_nil, thenD, blockD])))
      refine CallX.pure globPure (hlr) ?_ (by simp [D.fgts, D.fgt]) (by simp [D.pures, D.pure, Cp.free, D.pures_map]) (by simp [Out.pure, D.pure, D.pures, Cp.free, D.pures_map])
      ((try simp only [wpAft_ret, wpAft_pan, putS, updS, setS]); (repeat (rw [wpS_cons]; simp)); (try simp only [wpS_nil, thenD, blockD]))
      refine CallX.pure globPure (must_no [false] rfl) ?_ (by simp [D.fgts, D.fgt, Bools, wrongD]) (by simp [D.pures, D.pure, Cp.free, D.pures_map, Bools, wrongD]) (by simp [Out.pure, D.pure, D.pures, Cp.free, D.pures_map, Bools, wrongD])
      ((try simp only [wpAft_ret, wpAft_pan, putS, updS, setS]); (repeat (rw [wpS_cons]; simp)); (try simp only [wpS_nil, thenD, blockD]))
      ((try simp only [thenD, blockD]); refine EndQ.pan (.inl ?_); simp [Out.fgt, D.fgt, D.fgts])
      rw [hF]; rfl
  · rintro ys hl tl' ⟨rfl, hF, rfl⟩ htl
    rw [List.drop_length] at hF
    subst hF
    ((try simp only [thenD, blockD]); refine EndQ.nrm rfl (.inl ?_); simp [tmOf, Out.fgt, D.fgt, D.fgts])
    rfl
theorem scopeRight_ok (n sc : Int) (ls : List LV) (hl : ls.length ≤ LMax) (hls : ∀ l, l ∈ ls → l.length ≤ LMax) (h : (ls.all fun l => levelRight l n) = true) : Spec Tryd.prog glob 188 [scopeD n sc, Lvs ls] [] (fun o _ => o.fgt = .ret (.tuple [])) := by
  have := scopeRight_spec n sc ls hl hls
  rw [h] at this
  exact this
theorem scopeRight_no (n sc : Int) (ls : List LV) (hl : ls.length ≤ LMax) (hls : ∀ l, l ∈ ls → l.length ≤ LMax) (h : (ls.all fun l => levelRight l n) = false) : Spec Tryd.prog glob 188 [scopeD n sc, Lvs ls] [] (fun o _ => o.fgt = .pan wrongD) := by
  have := scopeRight_spec n sc ls hl hls
  rw [h] at this
  exact this
theorem sort_spec (n sc : Int) (cs : List Int) (t : T) (hl : t.ls.length ≤ LMax) (hls : ∀ l, l ∈ t.ls → l.length ≤ LMax) : Spec Tryd.prog glob 147 [walkD n sc cs, encT t] [] (fun o _ => o.fgt = askOut (sortB n t) (.int .i64 0)) := by
  refine Spec.movd globPure (wpD_spec tyOK Tryd.func147 rfl (enters _ _ Tryd.func147 rfl (by decide)) rfl rfl ?_)
  unfold walkD Ints
  (refine wpD_seqk fun K hK => ?_; refine wpD_region tyOK ?_; ((try simp only [wpAft_ret, wpAft_pan, putS, updS, setS]); (repeat (rw [wpS_cons]; simp)); (try simp only [wpS_nil, thenD, blockD])); refine hK _ _ _ ?_; clear hK K)
  have e1 : decide ((t.ls.length : Int) = 1) = decide (t.ls.length = 1) := by congr 1; exact propext (by omega)
  cases h : decide (t.n = 0) && decide (t.a = 0) && decide (t.ls.length = 1) with
  | false =>
    (refine wpD_seqk fun K hK => ?_; refine wpD_region tyOK ?_; ((try simp only [wpAft_ret, wpAft_pan, putS, updS, setS]); (repeat (rw [wpS_cons]; simp [e1])); (try simp only [wpS_nil, thenD, blockD])))
    refine CallX.pure globPure (must_no [decide (t.n = 0), decide (t.a = 0), decide (t.ls.length = 1)] (by simpa [-Bool.and_eq_false_imp, Bool.and_assoc] using h)) ?_ (by simp [D.fgts, D.fgt, Bools, wrongD, e1]) (by simp [D.pures, D.pure, Cp.free, D.pures_map, Bools, wrongD, e1]) (by simp [Out.pure, D.pure, D.pures, Cp.free, D.pures_map, Bools, wrongD, e1])
    ((try simp only [wpAft_ret, wpAft_pan, putS, updS, setS]); (repeat (rw [wpS_cons]; simp)); (try simp only [wpS_nil, thenD, blockD]))
    ((try simp only [thenD, blockD]); refine EndQ.pan (.inl ?_); simp [Out.fgt, D.fgt, D.fgts])
    simp [sortB, h, askOut, wrongD]; rfl
  | true =>
    (refine wpD_seqk fun K hK => ?_; refine wpD_region tyOK ?_; ((try simp only [wpAft_ret, wpAft_pan, putS, updS, setS]); (repeat (rw [wpS_cons]; simp [e1])); (try simp only [wpS_nil, thenD, blockD])))
    refine CallX.pure globPure (must_ok [decide (t.n = 0), decide (t.a = 0), decide (t.ls.length = 1)] (by simpa [and_assoc] using h)) ?_ (by simp [D.fgts, D.fgt, Bools, e1]) (by simp [D.pures, D.pure, Cp.free, D.pures_map, Bools, e1]) (by simp [Out.pure, D.pure, D.pures, Cp.free, D.pures_map, Bools, e1])
    ((try simp only [wpAft_ret, wpAft_pan, putS, updS, setS]); (repeat (rw [wpS_cons]; simp)); (try simp only [wpS_nil, thenD, blockD]))
    (refine hK _ _ _ ?_; clear hK K)
    cases h2 : t.ls.all fun l => levelRight l n with
    | false =>
      (refine wpD_seqk fun K hK => ?_; refine wpD_region tyOK ?_; ((try simp only [wpAft_ret, wpAft_pan, putS, updS, setS]); (repeat (rw [wpS_cons]; simp)); (try simp only [wpS_nil, thenD, blockD])))
      refine CallX.pure globPure (scopeRight_no n sc t.ls hl hls h2) ?_ (by simp [D.fgts, D.fgt, scopeD, Lvs, wrongD]) (by simp [D.pures, D.pure, Cp.free, D.pures_map, scopeD, Lvs, wrongD]) (by simp [Out.pure, D.pure, D.pures, Cp.free, D.pures_map, scopeD, Lvs, wrongD])
      ((try simp only [wpAft_ret, wpAft_pan, putS, updS, setS]); (repeat (rw [wpS_cons]; simp)); (try simp only [wpS_nil, thenD, blockD]))
      ((try simp only [thenD, blockD]); refine EndQ.pan (.inl ?_); simp [Out.fgt, D.fgt, D.fgts])
      simp [sortB, h, h2, askOut, wrongD]; rfl
    | true =>
      (refine wpD_seqk fun K hK => ?_; refine wpD_region tyOK ?_; ((try simp only [wpAft_ret, wpAft_pan, putS, updS, setS]); (repeat (rw [wpS_cons]; simp)); (try simp only [wpS_nil, thenD, blockD])))
      refine CallX.pure globPure (scopeRight_ok n sc t.ls hl hls h2) ?_ (by simp [D.fgts, D.fgt, scopeD, Lvs]) (by simp [D.pures, D.pure, Cp.free, D.pures_map, scopeD, Lvs]) (by simp [Out.pure, D.pure, D.pures, Cp.free, D.pures_map, scopeD, Lvs])
      ((try simp only [wpAft_ret, wpAft_pan, putS, updS, setS]); (repeat (rw [wpS_cons]; simp)); (try simp only [wpS_nil, thenD, blockD]))
      (refine hK _ _ _ ?_; clear hK K)
      (refine wpD_seqk fun K hK => ?_; refine wpD_region tyOK ?_; ((try simp only [wpAft_ret, wpAft_pan, putS, updS, setS]); (repeat (rw [wpS_cons]; simp)); (try simp only [wpS_nil, thenD, blockD])); refine hK _ _ _ ?_; clear hK K)
      (refine wpD_ret ?_; (try simp only [thenD, blockD]); refine EndQ.ret rfl (.inl ?_); simp [tmOf, Out.fgt, D.fgt, D.fgts])
      simp only [sortB, h, h2]; rfl
theorem constant_spec (n sc : Int) (cs : List Int) (t : T) (hcs : cs.length ≤ LMax) (hl : t.ls.length ≤ LMax) (hls : ∀ l, l ∈ t.ls → l.length ≤ LMax) : Spec Tryd.prog glob 148 [walkD n sc cs, encT t] [] (fun o _ => o.fgt = askOut (constB n cs t) (.int .i64 0)) := by
  refine Spec.movd globPure (wpD_spec tyOK Tryd.func148 rfl (enters _ _ Tryd.func148 rfl (by decide)) rfl rfl ?_)
  unfold walkD Ints
  (refine wpD_seqk fun K hK => ?_; refine wpD_region tyOK ?_; ((try simp only [wpAft_ret, wpAft_pan, putS, updS, setS]); (repeat (rw [wpS_cons]; simp)); (try simp only [wpS_nil, thenD, blockD])); refine hK _ _ _ ?_; clear hK K)
  cases h : decide (0 ≤ t.n) && decide (t.n < cs.length) && decide (t.a = 0) with
  | false =>
    (refine wpD_seqk fun K hK => ?_; refine wpD_region tyOK ?_; ((try simp only [wpAft_ret, wpAft_pan, putS, updS, setS]); (repeat (rw [wpS_cons]; simp)); (try simp only [wpS_nil, thenD, blockD])))
    refine CallX.pure globPure (must_no [decide (0 ≤ t.n), decide (t.n < cs.length), decide (t.a = 0)] (by simpa [-Bool.and_eq_false_imp, Bool.and_assoc] using h)) ?_ (by simp [D.fgts, D.fgt, Bools, wrongD]) (by simp [D.pures, D.pure, Cp.free, D.pures_map, Bools, wrongD]) (by simp [Out.pure, D.pure, D.pures, Cp.free, D.pures_map, Bools, wrongD])
    ((try simp only [wpAft_ret, wpAft_pan, putS, updS, setS]); (repeat (rw [wpS_cons]; simp)); (try simp only [wpS_nil, thenD, blockD]))
    ((try simp only [thenD, blockD]); refine EndQ.pan (.inl ?_); simp [Out.fgt, D.fgt, D.fgts])
    simp [constB, h, askOut, wrongD]; rfl
  | true =>
    (refine wpD_seqk fun K hK => ?_; refine wpD_region tyOK ?_; ((try simp only [wpAft_ret, wpAft_pan, putS, updS, setS]); (repeat (rw [wpS_cons]; simp)); (try simp only [wpS_nil, thenD, blockD])))
    refine CallX.pure globPure (must_ok [decide (0 ≤ t.n), decide (t.n < cs.length), decide (t.a = 0)] (by simpa [and_assoc] using h)) ?_ (by simp [D.fgts, D.fgt, Bools]) (by simp [D.pures, D.pure, Cp.free, D.pures_map, Bools]) (by simp [Out.pure, D.pure, D.pures, Cp.free, D.pures_map, Bools])
    ((try simp only [wpAft_ret, wpAft_pan, putS, updS, setS]); (repeat (rw [wpS_cons]; simp)); (try simp only [wpS_nil, thenD, blockD]))
    (refine hK _ _ _ ?_; clear hK K)
    have h0 := h
    simp only [Bool.and_eq_true, decide_eq_true_eq] at h0
    obtain ⟨⟨k1, k2⟩, k3⟩ := h0
    have k4 : t.n.toNat < cs.length := by omega
    have k5 : cs.getD t.n.toNat 0 = cs[t.n.toNat] := by rw [List.getD_eq_getElem?_getD, List.getElem?_eq_getElem k4]; rfl
    cases h1 : decide ((t.ls.length : Int) = cs[t.n.toNat]) with
    | false =>
      (refine wpD_seqk fun K hK => ?_; refine wpD_drawk tyOK (by kernel_rfl) (by kernel_rfl) fun KT hKT => ?_; ((try simp only [wpAftT_ret, wpAftT_pan, putS, updS, setS]); (repeat (rw [wpT_cons]; simp [k1, k4])); (try simp only [wpT_nil])))
      refine CallY.pure globPure (must_no [decide ((t.ls.length : Int) = cs[t.n.toNat])] (by simp [h1])) ?_ (by simp [D.fgts, D.fgt, Bools, wrongD]) (by simp [D.pures, D.pure, Cp.free, D.pures_map, Bools, wrongD]) (by simp [Out.pure, D.pure, D.pures, Cp.free, D.pures_map, Bools, wrongD])
      ((try simp only [wpAftT_ret, wpAftT_pan, putS, updS, setS]); (repeat (rw [wpT_cons]; simp)); (try simp only [wpT_nil]))
      (refine hKT _ _ _ _ (by kernel_rfl) ?_; clear hKT KT; (try simp only [thenD, blockD]))
      simp
      ((try simp only [thenD, blockD]); refine EndQ.pan (.inl ?_); simp [Out.fgt, D.fgt, D.fgts])
      simp only [constB, h, k5, h1]; rfl
    | true =>
      (refine wpD_seqk fun K hK => ?_; refine wpD_drawk tyOK (by kernel_rfl) (by kernel_rfl) fun KT hKT => ?_; ((try simp only [wpAftT_ret, wpAftT_pan, putS, updS, setS]); (repeat (rw [wpT_cons]; simp [k1, k4])); (try simp only [wpT_nil])))
      refine CallY.pure globPure (must_ok [decide ((t.ls.length : Int) = cs[t.n.toNat])] (by simp [h1])) ?_ (by simp [D.fgts, D.fgt, Bools]) (by simp [D.pures, D.pure, Cp.free, D.pures_map, Bools]) (by simp [Out.pure, D.pure, D.pures, Cp.free, D.pures_map, Bools])
      ((try simp only [wpAftT_ret, wpAftT_pan, putS, updS, setS]); (repeat (rw [wpT_cons]; simp)); (try simp only [wpT_nil]))
      (refine hKT _ _ _ _ (by kernel_rfl) ?_; clear hKT KT; (try simp only [thenD, blockD]))
      (refine hK _ _ _ ?_; clear hK K)
      cases h2 : t.ls.all fun l => levelRight l n with
      | false =>
        (refine wpD_seqk fun K hK => ?_; refine wpD_region tyOK ?_; ((try simp only [wpAft_ret, wpAft_pan, putS, updS, setS]); (repeat (rw [wpS_cons]; simp)); (try simp only [wpS_nil, thenD, blockD])))
        refine CallX.pure globPure (scopeRight_no n sc t.ls hl hls h2) ?_ (by simp [D.fgts, D.fgt, scopeD, Lvs, wrongD]) (by simp [D.pures, D.pure, Cp.free, D.pures_map, scopeD, Lvs, wrongD]) (by simp [Out.pure, D.pure, D.pures, Cp.free, D.pures_map, scopeD, Lvs, wrongD])
        ((try simp only [wpAft_ret, wpAft_pan, putS, updS, setS]); (repeat (rw [wpS_cons]; simp)); (try simp only [wpS_nil, thenD, blockD]))
        ((try simp only [thenD, blockD]); refine EndQ.pan (.inl ?_); simp [Out.fgt, D.fgt, D.fgts])
        simp only [constB, h, k5, h1, h2]; rfl
      | true =>
        (refine wpD_seqk fun K hK => ?_; refine wpD_region tyOK ?_; ((try simp only [wpAft_ret, wpAft_pan, putS, updS, setS]); (repeat (rw [wpS_cons]; simp)); (try simp only [wpS_nil, thenD, blockD])))
        refine CallX.pure globPure (scopeRight_ok n sc t.ls hl hls h2) ?_ (by simp [D.fgts, D.fgt, scopeD, Lvs]) (by simp [D.pures, D.pure, Cp.free, D.pures_map, scopeD, Lvs]) (by simp [Out.pure, D.pure, D.pures, Cp.free, D.pures_map, scopeD, Lvs])
        ((try simp only [wpAft_ret, wpAft_pan, putS, updS, setS]); (repeat (rw [wpS_cons]; simp)); (try simp only [wpS_nil, thenD, blockD]))
        (refine hK _ _ _ ?_; clear hK K)
        (refine wpD_seqk fun K hK => ?_; refine wpD_region tyOK ?_; ((try simp only [wpAft_ret, wpAft_pan, putS, updS, setS]); (repeat (rw [wpS_cons]; simp)); (try simp only [wpS_nil, thenD, blockD])); refine hK _ _ _ ?_; clear hK K)
        (refine wpD_ret ?_; (try simp only [thenD, blockD]); refine EndQ.ret rfl (.inl ?_); simp [tmOf, Out.fgt, D.fgt, D.fgts])
        simp only [constB, h, k5, h1, h2]; rfl
end Go.Proofs.YtebmlojhdnldgaaDoor

namespace Go.Proofs.YtebmlojhdnldgaaDoor
set_option linter.unusedSimpArgs false
set_option linter.unusedVariables false
set_option maxHeartbeats 10000000
set_option maxRecDepth 20000
open Go.RowKit
attribute [local simp] wpAft_ret wpAft_pan wantD evOp opD tmOf putS updS setS hOf isFree isTok fillD TK.isAgg TK.known partD thenD blockD putAll D.ofV inB nilTest isNilS binX binD binE isCst bndD capB IntKind.min IntKind.max IntKind.signed IntKind.bits dstOf late
theorem kinds_spec : Spec Tryd.prog glob 96 [] [] (fun o _ => o.fgt = .ret coreMap) := by
  refine Spec.movd globPure (wpD_spec tyOK Tryd.func96 rfl (enters _ _ Tryd.func96 rfl (by decide)) rfl rfl ?_)
  (refine wpD_seqk fun K hK => ?_; refine wpD_region tyOK ?_; ((try simp only [wpAft_ret, wpAft_pan, putS, updS, setS]); (repeat (rw [wpS_cons]; simp)); (try simp only [wpS_nil, thenD, blockD])); refine hK _ _ _ ?_; clear hK K)
  (refine wpD_seqk fun K hK => ?_; refine wpD_region tyOK ?_; ((try simp only [wpAft_ret, wpAft_pan, putS, updS, setS]); (repeat (rw [wpS_cons]; simp)); (try simp only [wpS_nil, thenD, blockD])); refine hK _ _ _ ?_; clear hK K)
  refine wpD_staym 0 (es := coreAsk.map fun p => (.int .i64 p.1, .fn (.func p.2) [] [])) rfl ?_
  simp [D.frzs, D.frz, HO.frz, dfFrz]
  (refine wpD_ret ?_; (try simp only [thenD, blockD]); refine EndQ.ret rfl (.inl ?_); simp [tmOf, Out.fgt, D.fgt, D.fgts])
  rfl
def lookAsk (k : Int) : Option FuncId := (coreAsk.find? fun p => decide (k = p.1)).map (·.2)
theorem look_small : ∀ j : Fin 25, (lookAsk (j.1 : Int)).isSome = inCore (j.1 : Int) := by decide
theorem look_in (k : Int) : (lookAsk k).isSome = inCore k := by
  by_cases h : 0 ≤ k ∧ k < 25
  · obtain ⟨j, rfl⟩ : ∃ j : Nat, k = j := ⟨k.toNat, by omega⟩
    exact look_small ⟨j, by omega⟩
  · have h1 : inCore k = false := by unfold inCore; simp; omega
    rw [h1]
    unfold lookAsk
    rw [Option.isSome_map, Option.isSome_eq_false_iff, Option.isNone_iff_eq_none, List.find?_eq_none]
    intro p hp
    simp only [coreAsk, List.mem_cons, List.not_mem_nil, or_false] at hp
    rcases hp with rfl | rfl | rfl | rfl | rfl | rfl | rfl | rfl | rfl | rfl | rfl | rfl | rfl | rfl | rfl | rfl | rfl | rfl | rfl | rfl <;> simp <;> omega
theorem ask_spec (n sc : Int) (cs : List Int) (t : T) (hcs : cs.length ≤ LMax) (ht : okT t) (f : FuncId) (hf : lookAsk t.k = some f) :
    Spec Tryd.prog glob f [walkD n sc cs, encT t] [] (fun o _ => o.fgt = askOut (askC n sc cs t) (.int .i64 (askN t.k t.a))) := by
  have hl := ht.ll
  have hls : ∀ l, l ∈ t.ls → l.length ≤ LMax := fun l h => (ht.ls l h).1
  have key : (t.k, f) ∈ coreAsk := by
    unfold lookAsk at hf
    cases h : coreAsk.find? (fun p => decide (t.k = p.1)) with
    | none => rw [h] at hf; cases hf
    | some p =>
      rw [h] at hf
      cases hf
      have h1 := List.find?_some h
      have h2 := List.mem_of_find?_eq_some h
      simp only [decide_eq_true_eq] at h1
      rw [h1]; exact h2
  simp only [coreAsk, List.mem_cons, Prod.mk.injEq, List.not_mem_nil, or_false] at key
  rcases key with ⟨h, rfl⟩ | ⟨h, rfl⟩ | ⟨h, rfl⟩ | ⟨h, rfl⟩ | ⟨h, rfl⟩ | ⟨h, rfl⟩ | ⟨h, rfl⟩ | ⟨h, rfl⟩ | ⟨h, rfl⟩ | ⟨h, rfl⟩ | ⟨h, rfl⟩ | ⟨h, rfl⟩ | ⟨h, rfl⟩ | ⟨h, rfl⟩ | ⟨h, rfl⟩ | ⟨h, rfl⟩ | ⟨h, rfl⟩ | ⟨h, rfl⟩ | ⟨h, rfl⟩ | ⟨h, rfl⟩ <;> simp only [askC, askN, h] <;> simp
  · exact variable_spec n sc cs t
  · exact sort_spec n sc cs t hl hls
  · exact constant_spec n sc cs t hcs hl hls
  all_goals first | exact two_spec n sc cs t | exact three_spec n sc cs t | exact one_spec n sc cs t | exact five_spec n sc cs t | exact leaf_spec n sc cs t | exact six_spec n sc cs t | exact fin_spec n sc cs t | exact elem_spec n sc cs t | exact branches_spec n sc cs t
theorem core_len : coreKeys.length = coreVals.length := by kernel_rfl
theorem core_all : ((coreKeys.zip coreVals).all fun p => isIntK IntKind.i64 p.1) = true := by kernel_rfl
theorem find_ask (a : Int) : ∀ l : List (Int × FuncId), findD (.int .i64 a) ((l.map fun p => (.int .i64 p.1 : D)).zip (l.map fun p => (.fn (.func p.2) [] [] : D))) = ((l.find? fun p => decide (a = p.1)).map (·.2)).map fun f => .fn (.func f) [] []
  | [] => rfl
  | p :: r => by
    rw [List.map_cons, List.map_cons, List.zip_cons_cons, findD, List.find?_cons]
    by_cases h : a = p.1
    · simp [keyEq, h]
    · simp [keyEq, h]; simpa using find_ask a r
theorem core_find (a : Int) : findD (.int .i64 a) (coreKeys.zip coreVals) = (lookAsk a).map fun f => .fn (.func f) [] [] := find_ask a coreAsk
def ksC (n : Int) (cs : List Int) (k sc : Int) (ks : List T) (j : Nat) : Bool := coreKs n cs (ks.drop j) k j sc
theorem ksC_at {n : Int} {cs : List Int} {k sc : Int} {ks : List T} {j : Nat} (h : j < ks.length) : ksC n cs k sc ks j = (coreB n cs ks[j] (belowD sc k j) && ksC n cs k sc ks (j + 1)) := by
  unfold ksC
  rw [List.drop_eq_getElem_cons h, coreKs]
theorem ksC_end {n : Int} {cs : List Int} {k sc : Int} {ks : List T} : ksC n cs k sc ks ks.length = true := by
  unfold ksC
  rw [List.drop_length, coreKs]
theorem cwalk_spec (n : Int) (cs : List Int) (hcs : cs.length ≤ LMax) (t : T) : ∀ sc, okT t → Spec Tryd.prog glob 97 [walkD n sc cs, encT t] [] (fun o _ => o.fgt = askOut (coreB n cs t sc) (.tuple [])) := by
  induction t using T.ind with
  | h kk m a ls ks ih =>
    intro sc ht
    have hkl : ks.length ≤ LMax := ht.kl
    have hks := ht.ks
    simp only [T.ks_mk] at hks
    have ha0 := fun f hf => ask_spec n sc cs _ hcs ht f hf
    simp only [T.k_mk, T.a_mk] at ha0
    have hC : coreB n cs (.mk kk m a ls ks) sc = (inCore kk && askC n sc cs (.mk kk m a ls ks) && decide ((ks.length : Int) = askN kk a) && ksC n cs kk sc ks 0) := by
      rw [coreB]; rfl
    generalize coreB n cs (.mk kk m a ls ks) sc = R at hC ⊢
    generalize askC n sc cs (.mk kk m a ls ks) = B at hC ha0
    generalize askN kk a = q at hC ha0
    have hin := look_in kk
    generalize inCore kk = I at hin hC
    rw [encT_eq] at ha0 ⊢
    simp only [T.k_mk, T.n_mk, T.a_mk, T.ls_mk, T.ks_mk] at ha0 ⊢
    unfold walkD Ints at ha0 ⊢
    refine Spec.movd globPure (wpD_spec tyOK Tryd.func97 rfl (enters _ _ Tryd.func97 rfl (by decide)) rfl rfl ?_)
    (refine wpD_seqk fun K hK => ?_; refine wpD_region tyOK ?_; ((try simp only [wpAft_ret, wpAft_pan, putS, updS, setS]); (repeat (rw [wpS_cons]; simp)); (try simp only [wpS_nil, thenD, blockD])); refine hK _ _ _ ?_; clear hK K)
    cases hf : lookAsk kk with
    | none =>
      rw [hf] at hin
      have hI : I = false := hin.symm
      subst hI
      (refine wpD_seqk fun K hK => ?_; refine wpD_region tyOK ?_; ((try simp only [wpAft_ret, wpAft_pan, putS, updS, setS]); (repeat (rw [wpS_cons]; simp [coreMap, core_len, core_all, core_find, hf])); (try simp only [wpS_nil, thenD, blockD])); refine hK _ _ _ ?_; clear hK K)
      (refine wpD_seqk fun K hK => ?_; refine wpD_region tyOK ?_; ((try simp only [wpAft_ret, wpAft_pan, putS, updS, setS]); (repeat (rw [wpS_cons]; simp)); (try simp only [wpS_nil, thenD, blockD])))
      refine CallX.pure globPure (must_no [false] rfl) ?_ (by simp [D.fgts, D.fgt, Bools, wrongD]) (by simp [D.pures, D.pure, Cp.free, D.pures_map, Bools, wrongD]) (by simp [Out.pure, D.pure, D.pures, Cp.free, D.pures_map, Bools, wrongD])
      ((try simp only [wpAft_ret, wpAft_pan, putS, updS, setS]); (repeat (rw [wpS_cons]; simp)); (try simp only [wpS_nil, thenD, blockD]))
      ((try simp only [thenD, blockD]); refine EndQ.pan (.inl ?_); simp [Out.fgt, D.fgt, D.fgts])
      rw [hC]; simp [askOut, wrongD, D.fgt, D.fgts]
    | some f =>
      rw [hf] at hin
      have hI : I = true := hin.symm
      subst hI
      have ha := ha0 f hf
      clear ha0
      (refine wpD_seqk fun K hK => ?_; refine wpD_region tyOK ?_; ((try simp only [wpAft_ret, wpAft_pan, putS, updS, setS]); (repeat (rw [wpS_cons]; simp [coreMap, core_len, core_all, core_find, hf])); (try simp only [wpS_nil, thenD, blockD])); refine hK _ _ _ ?_; clear hK K)
      (refine wpD_seqk fun K hK => ?_; refine wpD_region tyOK ?_; ((try simp only [wpAft_ret, wpAft_pan, putS, updS, setS]); (repeat (rw [wpS_cons]; simp)); (try simp only [wpS_nil, thenD, blockD])))
      refine CallX.pure globPure (must_ok [true] rfl) ?_ (by simp [D.fgts, D.fgt, Bools]) (by simp [D.pures, D.pure, Cp.free, D.pures_map, Bools]) (by simp [Out.pure, D.pure, D.pures, Cp.free, D.pures_map, Bools])
      ((try simp only [wpAft_ret, wpAft_pan, putS, updS, setS]); (repeat (rw [wpS_cons]; simp)); (try simp only [wpS_nil, thenD, blockD]))
      (refine hK _ _ _ ?_; clear hK K)
      cases B with
      | false =>
        simp only [askOut, if_false, Bool.false_eq_true] at ha
        (refine wpD_seqk fun K hK => ?_; refine wpD_drawk tyOK (by kernel_rfl) (by kernel_rfl) fun KT hKT => ?_; ((try simp only [wpAftT_ret, wpAftT_pan, putS, updS, setS]); (repeat (rw [wpT_cons]; simp)); (try simp only [wpT_nil])))
        refine CallY.pure globPure ha ?_ (by simp [D.fgts, D.fgt, coreMap]) (by simp [D.pures, D.pure, Cp.free, D.pures_map]) (by simp [Out.pure, D.pure, D.pures, wrongD])
        (try simp only [wpAftT_ret, wpAftT_pan, putS, updS, setS])
        ((try simp only [wpAftT_ret, wpAftT_pan, putS, updS, setS]); (repeat (refine wpT_late _ _ _ _ (by kernel_rfl) ?_; simp only [putS, List.set, List.nil_append, List.cons_append, Nat.reduceAdd])); (try simp only [wpT_nil]))
        (refine hKT _ _ _ _ (by kernel_rfl) ?_; clear hKT KT; (try simp only [thenD, blockD]))
        simp
        ((try simp only [thenD, blockD]); refine EndQ.pan (.inl ?_); simp [Out.fgt, D.fgt, D.fgts])
        rw [hC]; simp [askOut, wrongD, D.fgt, D.fgts]
      | true =>
        simp only [askOut, if_true] at ha
        cases hm : decide ((ks.length : Int) = q) with
        | false =>
          (refine wpD_seqk fun K hK => ?_; refine wpD_drawk tyOK (by kernel_rfl) (by kernel_rfl) fun KT hKT => ?_; ((try simp only [wpAftT_ret, wpAftT_pan, putS, updS, setS]); (repeat (rw [wpT_cons]; simp)); (try simp only [wpT_nil])))
          refine CallY.pure globPure ha ?_ (by simp [D.fgts, D.fgt, coreMap]) (by simp [D.pures, D.pure, Cp.free, D.pures_map]) (by simp [Out.pure, D.pure, D.pures])
          ((try simp only [wpAftT_ret, wpAftT_pan, putS, updS, setS]); (repeat (rw [wpT_cons]; simp)); (try simp only [wpT_nil]))
          refine CallY.pure globPure (must_no [decide ((ks.length : Int) = q)] (by simp [hm])) ?_ (by simp [D.fgts, D.fgt, Bools, wrongD]) (by simp [D.pures, D.pure, Cp.free, D.pures_map, Bools, wrongD]) (by simp [Out.pure, D.pure, D.pures, Cp.free, D.pures_map, Bools, wrongD])
          ((try simp only [wpAftT_ret, wpAftT_pan, putS, updS, setS]); (repeat (refine wpT_late _ _ _ _ (by kernel_rfl) ?_; simp only [putS, List.set, List.nil_append, List.cons_append, Nat.reduceAdd])); (try simp only [wpT_nil]))
          (refine hKT _ _ _ _ (by kernel_rfl) ?_; clear hKT KT; (try simp only [thenD, blockD]))
          simp
          ((try simp only [thenD, blockD]); refine EndQ.pan (.inl ?_); simp [Out.fgt, D.fgt, D.fgts])
          rw [hC, hm]; simp [askOut, wrongD, D.fgt, D.fgts]
        | true =>
          rw [hm] at hC
          simp only [Bool.true_and] at hC
          (refine wpD_seqk fun K hK => ?_; refine wpD_drawk tyOK (by kernel_rfl) (by kernel_rfl) fun KT hKT => ?_; ((try simp only [wpAftT_ret, wpAftT_pan, putS, updS, setS]); (repeat (rw [wpT_cons]; simp)); (try simp only [wpT_nil])))
          refine CallY.pure globPure ha ?_ (by simp [D.fgts, D.fgt, coreMap]) (by simp [D.pures, D.pure, Cp.free, D.pures_map]) (by simp [Out.pure, D.pure, D.pures])
          ((try simp only [wpAftT_ret, wpAftT_pan, putS, updS, setS]); (repeat (rw [wpT_cons]; simp)); (try simp only [wpT_nil]))
          refine CallY.pure globPure (must_ok [decide ((ks.length : Int) = q)] (by simp [hm])) ?_ (by simp [D.fgts, D.fgt, Bools]) (by simp [D.pures, D.pure, Cp.free, D.pures_map, Bools]) (by simp [Out.pure, D.pure, D.pures, Cp.free, D.pures_map, Bools])
          ((try simp only [wpAftT_ret, wpAftT_pan, putS, updS, setS]); (repeat (rw [wpT_cons]; simp)); (try simp only [wpT_nil]))
          (refine hKT _ _ _ _ (by kernel_rfl) ?_; clear hKT KT; (try simp only [thenD, blockD]))
          (refine hK _ _ _ ?_; clear hK K)
          clear ha hm
          (refine wpD_seqk fun K hK => ?_; refine wpD_region tyOK ?_; ((try simp only [wpAft_ret, wpAft_pan, putS, updS, setS]); (repeat (rw [wpS_cons]; simp)); (try simp only [wpS_nil, thenD, blockD])); refine hK _ _ _ ?_; clear hK K)
          refine wpD_rangeJ tyOK globPure (ti := 3) (tk := 33) (tn := 32) (td := 34) (ts := 50) [6, 7, 8, 33, 34, 35, 36, 37, 38, 39, 40, 41, 42, 43, 44, 45, 46, 47, 48, 49, 50] [] (ks.length) (fun k ys hl => ys = [] ∧ R = ksC n cs kk sc ks k ∧ hl = [.cells 145 [.int .i64 n, .int .i64 sc, .slice (cs.map (.int .i64)) .any, coreMap], .cells 27 [.int .i64 kk, .int .i64 m, .int .i64 a, .slice (ls.map encL) .any, .slice (ks.map encT) .any]]) rfl rfl rfl rfl rfl rfl rfl rfl rfl rfl rfl rfl (by simp) (by decide) rfl (by first | assumption | omega | (unfold LMax; omega)) rfl (by kernel_rfl) (by decide) ?_ ?_ ?_
          · exact ⟨rfl, hC, rfl⟩
          · rintro i ys hl A hi ⟨rfl, hF, rfl⟩ hA hA2
            simp only [putAll, List.set, List.map_cons, List.map_nil, List.cons_append, List.nil_append]
            have hi' : (i : Int) < ks.length := by omega
            rw [ksC_at hi] at hF
            have hrec := ih ks[i] (List.getElem_mem hi) (belowD sc kk i) (hks _ (List.getElem_mem hi))
            have hbi := binds_spec kk i
            have hbl := sbelow_spec n sc 1
            have hbd : belowD sc kk i = if bindsB kk i then IntKind.i64.wrap (sc + 1) else sc := rfl
            unfold walkD Ints at hrec
            unfold scopeD at hbl
            obtain ⟨x, hx⟩ : ∃ x, ks[i] = x := ⟨_, rfl⟩
            have hEx := encT_eq x
            rw [hx] at hrec hF
            rw [hEx] at hrec
            generalize coreB n cs x (belowD sc kk i) = Bx at hrec hF
            generalize belowD sc kk i = sc' at hrec hbd
            generalize bindsB kk i = bb at hbi hbd
            (refine wpD_seqk fun K hK => ?_; refine wpD_region tyOK ?_; ((try simp only [wpAft_ret, wpAft_pan, putS, updS, setS]); (repeat (rw [wpS_cons]; simp [hi, hi', hx, hEx])); (try simp only [wpS_nil, thenD, blockD])); refine hK _ _ _ ?_; clear hK K)
            (refine wpD_seqk fun K hK => ?_; refine wpD_region tyOK ?_; ((try simp only [wpAft_ret, wpAft_pan, putS, updS, setS]); (repeat (rw [wpS_cons]; simp)); (try simp only [wpS_nil, thenD, blockD])); refine hK _ _ _ ?_; clear hK K)
            refine wpD_seqk fun K2 hK2 => ?_
            cases bb with
            | true =>
              rw [if_pos rfl] at hbd
              subst hbd
              (refine wpD_seqk fun K hK => ?_; refine wpD_region tyOK ?_; ((try simp only [wpAft_ret, wpAft_pan, putS, updS, setS]); (repeat (rw [wpS_cons]; simp)); (try simp only [wpS_nil, thenD, blockD])))
              refine CallX.pure globPure (hbi) ?_ (by simp [D.fgts, D.fgt]) (by simp [D.pures, D.pure, Cp.free, D.pures_map]) (by simp [Out.pure, D.pure, D.pures, Cp.free, D.pures_map])
              ((try simp only [wpAft_ret, wpAft_pan, putS, updS, setS]); (repeat (rw [wpS_cons]; simp)); (try simp only [wpS_nil, thenD, blockD]))
              (refine hK _ _ _ ?_; clear hK K)
              refine wpD_part rfl (fun _ => ?_) (fun h => by simp at h)
              (refine wpD_region tyOK ?_; ((try simp only [wpAft_ret, wpAft_pan, putS, updS, setS]); (repeat (rw [wpS_cons]; simp)); (try simp only [wpS_nil, thenD, blockD])))
              refine CallX.pure globPure (hbl) ?_ (by simp [D.fgts, D.fgt]) (by simp [D.pures, D.pure, Cp.free, D.pures_map]) (by simp [Out.pure, D.pure, D.pures, Cp.free, D.pures_map])
              ((try simp only [wpAft_ret, wpAft_pan, putS, updS, setS]); (repeat (rw [wpS_cons]; simp)); (try simp only [wpS_nil, thenD, blockD]))
              refine hK2 _ _ _ ?_
              cases Bx with
              | true =>
                simp only [askOut, if_true] at hrec
                (refine wpD_region tyOK ?_; ((try simp only [wpAft_ret, wpAft_pan, putS, updS, setS]); (repeat (rw [wpS_cons]; simp)); (try simp only [wpS_nil, thenD, blockD])))
                refine CallX.pure globPure (hrec) ?_ (by simp [D.fgts, D.fgt]) (by simp [D.pures, D.pure, Cp.free, D.pures_map]) (by simp [Out.pure, D.pure, D.pures, Cp.free, D.pures_map])
                ((try simp only [wpAft_ret, wpAft_pan, putS, updS, setS]); (repeat (rw [wpS_cons]; simp)); (try simp only [wpS_nil, thenD, blockD]))
                (refine hA2 ([0, 1]) _ _ _ (LeT.refl _) (by decide) (by simp) (by simp [movT, movH, movD, D.mov, HO.mov, okM, renM, getW, D.ren, D.rens, D.okN, D.okNs, Cp.ren, Cp.okN, HO.ren, HO.okN, okA, renA, renO, hOf, handed, D.fgt, D.fgts, List.range_succ, List.idxOf_cons, putAll]) ?_ rfl; simp [movT, movH, movD, D.mov, HO.mov, okM, renM, getW, D.ren, D.rens, D.okN, D.okNs, Cp.ren, Cp.okN, HO.ren, HO.okN, okA, renA, renO, hOf, handed, D.fgt, D.fgts, List.range_succ, List.idxOf_cons])
                simpa using hF
              | false =>
                simp only [askOut, if_false, Bool.false_eq_true] at hrec
                (refine wpD_region tyOK ?_; ((try simp only [wpAft_ret, wpAft_pan, putS, updS, setS]); (repeat (rw [wpS_cons]; simp)); (try simp only [wpS_nil, thenD, blockD])))
                refine CallX.pure globPure (hrec) ?_ (by simp [D.fgts, D.fgt, wrongD]) (by simp [D.pures, D.pure, Cp.free, D.pures_map, wrongD]) (by simp [Out.pure, D.pure, D.pures, Cp.free, D.pures_map, wrongD])
                ((try simp only [wpAft_ret, wpAft_pan, putS, updS, setS]); (repeat (rw [wpS_cons]; simp)); (try simp only [wpS_nil, thenD, blockD]))
                ((try simp only [thenD, blockD]); refine EndQ.pan (.inl ?_); simp [Out.fgt, D.fgt, D.fgts])
                rw [hF]; simp [askOut, wrongD, D.fgt, D.fgts]
            | false =>
              rw [if_neg Bool.false_ne_true] at hbd
              subst hbd
              (refine wpD_seqk fun K hK => ?_; refine wpD_region tyOK ?_; ((try simp only [wpAft_ret, wpAft_pan, putS, updS, setS]); (repeat (rw [wpS_cons]; simp)); (try simp only [wpS_nil, thenD, blockD])))
              refine CallX.pure globPure (hbi) ?_ (by simp [D.fgts, D.fgt]) (by simp [D.pures, D.pure, Cp.free, D.pures_map]) (by simp [Out.pure, D.pure, D.pures, Cp.free, D.pures_map])
              ((try simp only [wpAft_ret, wpAft_pan, putS, updS, setS]); (repeat (rw [wpS_cons]; simp)); (try simp only [wpS_nil, thenD, blockD]))
              (refine hK _ _ _ ?_; clear hK K)
              refine wpD_part rfl (fun h => by simp at h) (fun _ => ?_)
              refine wpD_skip (hK2 _ _ _ ?_)
              cases Bx with
              | true =>
                simp only [askOut, if_true] at hrec
                (refine wpD_region tyOK ?_; ((try simp only [wpAft_ret, wpAft_pan, putS, updS, setS]); (repeat (rw [wpS_cons]; simp)); (try simp only [wpS_nil, thenD, blockD])))
                refine CallX.pure globPure (hrec) ?_ (by simp [D.fgts, D.fgt]) (by simp [D.pures, D.pure, Cp.free, D.pures_map]) (by simp [Out.pure, D.pure, D.pures, Cp.free, D.pures_map])
                ((try simp only [wpAft_ret, wpAft_pan, putS, updS, setS]); (repeat (rw [wpS_cons]; simp)); (try simp only [wpS_nil, thenD, blockD]))
                (refine hA2 ([0, 1]) _ _ _ (LeT.refl _) (by decide) (by simp) (by simp [movT, movH, movD, D.mov, HO.mov, okM, renM, getW, D.ren, D.rens, D.okN, D.okNs, Cp.ren, Cp.okN, HO.ren, HO.okN, okA, renA, renO, hOf, handed, D.fgt, D.fgts, List.range_succ, List.idxOf_cons, putAll]) ?_ rfl; simp [movT, movH, movD, D.mov, HO.mov, okM, renM, getW, D.ren, D.rens, D.okN, D.okNs, Cp.ren, Cp.okN, HO.ren, HO.okN, okA, renA, renO, hOf, handed, D.fgt, D.fgts, List.range_succ, List.idxOf_cons])
                simpa using hF
              | false =>
                simp only [askOut, if_false, Bool.false_eq_true] at hrec
                (refine wpD_region tyOK ?_; ((try simp only [wpAft_ret, wpAft_pan, putS, updS, setS]); (repeat (rw [wpS_cons]; simp)); (try simp only [wpS_nil, thenD, blockD])))
                refine CallX.pure globPure (hrec) ?_ (by simp [D.fgts, D.fgt, wrongD]) (by simp [D.pures, D.pure, Cp.free, D.pures_map, wrongD]) (by simp [Out.pure, D.pure, D.pures, Cp.free, D.pures_map, wrongD])
                ((try simp only [wpAft_ret, wpAft_pan, putS, updS, setS]); (repeat (rw [wpS_cons]; simp)); (try simp only [wpS_nil, thenD, blockD]))
                ((try simp only [thenD, blockD]); refine EndQ.pan (.inl ?_); simp [Out.fgt, D.fgt, D.fgts])
                rw [hF]; simp [askOut, wrongD, D.fgt, D.fgts]
          · rintro ys hl tl' ⟨rfl, hF, rfl⟩ htl
            rw [ksC_end] at hF
            subst hF
            ((try simp only [thenD, blockD]); refine EndQ.nrm rfl (.inl ?_); simp [tmOf, Out.fgt, D.fgt, D.fgts])
            simp [askOut]
end Go.Proofs.YtebmlojhdnldgaaDoor

namespace Go.Proofs.YtebmlojhdnldgaaDoor
set_option linter.unusedSimpArgs false
set_option linter.unusedVariables false
set_option maxHeartbeats 10000000
set_option maxRecDepth 20000
open Go.RowKit
attribute [local simp] wpAft_ret wpAft_pan wantD evOp opD tmOf putS updS setS hOf isFree isTok fillD TK.isAgg TK.known partD thenD blockD putAll D.ofV inB nilTest isNilS binX binD binE isCst bndD capB IntKind.min IntKind.max IntKind.signed IntKind.bits dstOf late
theorem catchR_idle (b : Bool) : SpecD Tryd.prog glob 94 [.box 0 0] [.cells 4 [.bool b]] none (fun hc => hc = [.cells 4 [.bool b]]) := by
  refine wpD_specd tyOK Tryd.func94 rfl rfl (fun a w => rfl) rfl (enters _ _ Tryd.func94 rfl (by decide)) rfl rfl ?_
  ((try simp only [wpAft_ret, wpAft_pan, putS, updS, setS]); (repeat (rw [wpS_cons]; simp)); (try simp only [wpS_nil, thenD, blockD]))
  (refine wpD_seqk fun K hK => ?_; refine wpD_region tyOK ?_; ((try simp only [wpAft_ret, wpAft_pan, putS, updS, setS]); (repeat (rw [wpS_cons]; simp)); (try simp only [wpS_nil, thenD, blockD])); refine hK _ _ _ ?_; clear hK K)
  refine wpD_part rfl (fun h => by simp at h) (fun _ => ?_)
  refine wpD_skip ?_
  refine EndQ.nrm rfl ?_
  simp [updS]
theorem catchR_wrong (b : Bool) : SpecD Tryd.prog glob 94 [.box 0 0] [.cells 4 [.bool b]] (some wrongD) (fun hc => hc = [.cells 4 [.bool false], .cells 138 []]) := by
  refine wpD_specd tyOK Tryd.func94 rfl rfl (fun a w => rfl) rfl (enters _ _ Tryd.func94 rfl (by decide)) rfl rfl ?_
  unfold wrongD
  ((try simp only [wpAft_ret, wpAft_pan, putS, updS, setS]); (repeat (rw [wpS_cons]; simp)); (try simp only [wpS_nil, thenD, blockD]))
  (refine wpD_seqk fun K hK => ?_; refine wpD_region tyOK ?_; ((try simp only [wpAft_ret, wpAft_pan, putS, updS, setS]); (repeat (rw [wpS_cons]; simp)); (try simp only [wpS_nil, thenD, blockD])); refine hK _ _ _ ?_; clear hK K)
  refine wpD_part rfl (fun _ => ?_) (fun h => by simp at h)
  refine wpD_seqk fun K1 hK1 => ?_
  (refine wpD_seqk fun K hK => ?_; refine wpD_region tyOK ?_; ((try simp only [wpAft_ret, wpAft_pan, putS, updS, setS]); (repeat (rw [wpS_cons]; simp)); (try simp only [wpS_nil, thenD, blockD])); refine hK _ _ _ ?_; clear hK K)
  (refine wpD_seqk fun K hK => ?_; refine wpD_region tyOK ?_; ((try simp only [wpAft_ret, wpAft_pan, putS, updS, setS]); (repeat (rw [wpS_cons]; simp)); (try simp only [wpS_nil, thenD, blockD])); refine hK _ _ _ ?_; clear hK K)
  refine wpD_part rfl (fun h => by simp at h) (fun _ => ?_)
  refine wpD_skip (hK1 _ _ _ ?_)
  (refine wpD_region tyOK ?_; ((try simp only [wpAft_ret, wpAft_pan, putS, updS, setS]); (repeat (rw [wpS_cons]; simp)); (try simp only [wpS_nil, thenD, blockD])))
  refine EndQ.nrm rfl ?_
  simp
theorem coreRight_spec (n sc : Int) (cs : List Int) (t : T) (hcs : cs.length ≤ LMax) (ht : okT t) : Spec Tryd.prog glob 39 [.int .i64 n, .int .i64 sc, Ints cs, encT t] [] (fun o _ => o.fgt = .ret (.bool (rightB n sc cs t))) := by
  have hw := cwalk_spec n cs hcs t sc ht
  have hR : rightB n sc cs t = (decide (0 ≤ n) && decide (0 ≤ sc) && coreB n cs t sc) := rfl
  generalize rightB n sc cs t = R at hR ⊢
  generalize coreB n cs t sc = B at hR hw
  unfold walkD at hw
  rw [encT_eq t] at hw ⊢
  unfold Ints at hw ⊢
  have hk := kinds_spec
  refine Spec.movd globPure (wpD_specD tyOK Tryd.func39 rfl (enters _ _ Tryd.func39 rfl (by decide)) rfl rfl ?_)
  (refine wpD_seqk fun K hK => ?_; refine wpD_region tyOK ?_; ((try simp only [wpAft_ret, wpAft_pan, putS, updS, setS]); (repeat (rw [wpS_cons]; simp)); (try simp only [wpS_nil, thenD, blockD])); refine hK _ _ _ ?_; clear hK K)
  (refine wpD_seqk fun K hK => ?_; refine wpD_region tyOK ?_; ((try simp only [wpAft_ret, wpAft_pan, putS, updS, setS]); (repeat (rw [wpS_cons]; simp)); (try simp only [wpS_nil, thenD, blockD])); refine hK _ _ _ ?_; clear hK K)
  cases hm : decide (0 ≤ n) && decide (0 ≤ sc) with
  | false =>
    rw [hm, Bool.false_and] at hR
    subst hR
    (refine wpD_seqk fun K hK => ?_; refine wpD_region tyOK ?_; ((try simp only [wpAft_ret, wpAft_pan, putS, updS, setS]); (repeat (rw [wpS_cons]; simp)); (try simp only [wpS_nil, thenD, blockD])))
    refine CallX.pure globPure (must_no [decide (0 ≤ n), decide (0 ≤ sc)] (by simpa [-Bool.and_eq_false_imp] using hm)) ?_ (by simp [D.fgts, D.fgt, Bools, wrongD]) (by simp [D.pures, D.pure, Cp.free, D.pures_map, Bools, wrongD]) (by simp [Out.pure, D.pure, D.pures, Cp.free, D.pures_map, Bools, wrongD])
    ((try simp only [wpAft_ret, wpAft_pan, putS, updS, setS]); (repeat (rw [wpS_cons]; simp)); (try simp only [wpS_nil, thenD, blockD]))
    (try simp only [thenD, blockD])
    refine DefX.objs globPure [1] (catchR_wrong false) ?_ ?_ (fun d h => by cases h; rfl) (by decide) (by simp) (by simp [D.ren, D.rens, D.okN, D.okNs, Cp.ren, Cp.okN, HO.ren, HO.okN, okA, renA, renO, hOf, handed, D.fgt, D.fgts, List.range_succ, List.idxOf_cons]) (by simp [D.ren, D.rens, D.okN, D.okNs, Cp.ren, Cp.okN, HO.ren, HO.okN, okA, renA, renO, hOf, handed, D.fgt, D.fgts, List.range_succ, List.idxOf_cons]) (by simp [D.ren, D.rens, D.okN, D.okNs, Cp.ren, Cp.okN, HO.ren, HO.okN, okA, renA, renO, hOf, handed, D.fgt, D.fgts, List.range_succ, List.idxOf_cons]) (by simp [D.ren, D.rens, D.okN, D.okNs, Cp.ren, Cp.okN, HO.ren, HO.okN, okA, renA, renO, hOf, handed, D.fgt, D.fgts, List.range_succ, List.idxOf_cons, wrongD])
    · rintro hc rfl
      simp [D.ren, D.rens, D.okN, D.okNs, Cp.ren, Cp.okN, HO.ren, HO.okN, okA, renA, renO, hOf, handed, D.fgt, D.fgts, List.range_succ, List.idxOf_cons, upO, updS, setS]
      refine endD.intro rfl (.inr ⟨[], by decide, by simp, ?_⟩)
      simp [Out.mov, movT, movH, movD, D.mov, HO.mov, okM, renM, getW, D.ren, D.rens, D.okN, D.okNs, Cp.ren, Cp.okN, HO.ren, HO.okN, okA, renA, renO, hOf, handed, D.fgt, D.fgts, List.range_succ, List.idxOf_cons, Out.fgt, D.fgt]
    · rintro hc rfl
      simp
  | true =>
    rw [hm, Bool.true_and] at hR
    subst hR
    (refine wpD_seqk fun K hK => ?_; refine wpD_region tyOK ?_; ((try simp only [wpAft_ret, wpAft_pan, putS, updS, setS]); (repeat (rw [wpS_cons]; simp)); (try simp only [wpS_nil, thenD, blockD])))
    refine CallX.pure globPure (must_ok [decide (0 ≤ n), decide (0 ≤ sc)] (by simpa using hm)) ?_ (by simp [D.fgts, D.fgt, Bools]) (by simp [D.pures, D.pure, Cp.free, D.pures_map, Bools]) (by simp [Out.pure, D.pure, D.pures, Cp.free, D.pures_map, Bools])
    ((try simp only [wpAft_ret, wpAft_pan, putS, updS, setS]); (repeat (rw [wpS_cons]; simp)); (try simp only [wpS_nil, thenD, blockD]))
    (refine hK _ _ _ ?_; clear hK K)
    cases R with
    | true =>
      simp only [askOut, if_true] at hw
      (refine wpD_seqk fun K hK => ?_; refine wpD_drawk tyOK (by kernel_rfl) (by kernel_rfl) fun KT hKT => ?_; ((try simp only [wpAftT_ret, wpAftT_pan, putS, updS, setS]); (repeat (rw [wpT_cons]; simp)); (try simp only [wpT_nil])))
      refine CallY.pure globPure (hk) ?_ (by simp [D.fgts, D.fgt]) (by simp [D.pures, D.pure, Cp.free, D.pures_map]) (by simp [Out.pure, D.pure, D.pures, Cp.free, D.pures_map])
      ((try simp only [wpAftT_ret, wpAftT_pan, putS, updS, setS]); (repeat (rw [wpT_cons]; simp)); (try simp only [wpT_nil]))
      refine CallY.pure globPure (hw) ?_ (by simp [D.fgts, D.fgt]) (by simp [D.pures, D.pure, Cp.free, D.pures_map]) (by simp [Out.pure, D.pure, D.pures, Cp.free, D.pures_map])
      ((try simp only [wpAftT_ret, wpAftT_pan, putS, updS, setS]); (repeat (rw [wpT_cons]; simp)); (try simp only [wpT_nil]))
      (refine hKT _ _ _ _ (by kernel_rfl) ?_; clear hKT KT; (try simp only [thenD, blockD]))
      (refine hK _ _ _ ?_; clear hK K)
      (refine wpD_seqk fun K hK => ?_; refine wpD_region tyOK ?_; ((try simp only [wpAft_ret, wpAft_pan, putS, updS, setS]); (repeat (rw [wpS_cons]; simp)); (try simp only [wpS_nil, thenD, blockD])); refine hK _ _ _ ?_; clear hK K)
      refine wpD_ret ?_
      refine DefX.objs globPure [1] (catchR_idle true) ?_ ?_ (fun d h => by cases h) (by decide) (by simp) (by simp [D.ren, D.rens, D.okN, D.okNs, Cp.ren, Cp.okN, HO.ren, HO.okN, okA, renA, renO, hOf, handed, D.fgt, D.fgts, List.range_succ, List.idxOf_cons]) (by simp [D.ren, D.rens, D.okN, D.okNs, Cp.ren, Cp.okN, HO.ren, HO.okN, okA, renA, renO, hOf, handed, D.fgt, D.fgts, List.range_succ, List.idxOf_cons]) (by simp [D.ren, D.rens, D.okN, D.okNs, Cp.ren, Cp.okN, HO.ren, HO.okN, okA, renA, renO, hOf, handed, D.fgt, D.fgts, List.range_succ, List.idxOf_cons]) (by simp [D.ren, D.rens, D.okN, D.okNs, Cp.ren, Cp.okN, HO.ren, HO.okN, okA, renA, renO, hOf, handed, D.fgt, D.fgts, List.range_succ, List.idxOf_cons])
      · rintro hc rfl
        simp [D.ren, D.rens, D.okN, D.okNs, Cp.ren, Cp.okN, HO.ren, HO.okN, okA, renA, renO, hOf, handed, D.fgt, D.fgts, List.range_succ, List.idxOf_cons, upO, updS, setS]
        refine endD.intro rfl (.inr ⟨[], by decide, by simp, ?_⟩)
        simp [Out.mov, movT, movH, movD, D.mov, HO.mov, okM, renM, getW, D.ren, D.rens, D.okN, D.okNs, Cp.ren, Cp.okN, HO.ren, HO.okN, okA, renA, renO, hOf, handed, D.fgt, D.fgts, List.range_succ, List.idxOf_cons, Out.fgt, D.fgt]
      · rintro hc rfl
        simp
    | false =>
      simp only [askOut, if_false, Bool.false_eq_true] at hw
      (refine wpD_seqk fun K hK => ?_; refine wpD_drawk tyOK (by kernel_rfl) (by kernel_rfl) fun KT hKT => ?_; ((try simp only [wpAftT_ret, wpAftT_pan, putS, updS, setS]); (repeat (rw [wpT_cons]; simp)); (try simp only [wpT_nil])))
      refine CallY.pure globPure (hk) ?_ (by simp [D.fgts, D.fgt]) (by simp [D.pures, D.pure, Cp.free, D.pures_map]) (by simp [Out.pure, D.pure, D.pures, Cp.free, D.pures_map])
      ((try simp only [wpAftT_ret, wpAftT_pan, putS, updS, setS]); (repeat (rw [wpT_cons]; simp)); (try simp only [wpT_nil]))
      refine CallY.pure globPure (hw) ?_ (by simp [D.fgts, D.fgt, wrongD]) (by simp [D.pures, D.pure, Cp.free, D.pures_map, wrongD]) (by simp [Out.pure, D.pure, D.pures, Cp.free, D.pures_map, wrongD])
      ((try simp only [wpAftT_ret, wpAftT_pan, putS, updS, setS]); (repeat (refine wpT_late _ _ _ _ (by kernel_rfl) ?_; simp only [putS, List.set, List.nil_append, List.cons_append, Nat.reduceAdd])); (try simp only [wpT_nil]))
      (refine hKT _ _ _ _ (by kernel_rfl) ?_; clear hKT KT; (try simp only [thenD, blockD]))
      simp
      refine DefX.objs globPure [1] (catchR_wrong false) ?_ ?_ (fun d h => by cases h; rfl) (by decide) (by simp [killHl]) (by simp [D.ren, D.rens, D.okN, D.okNs, Cp.ren, Cp.okN, HO.ren, HO.okN, okA, renA, renO, hOf, handed, D.fgt, D.fgts, List.range_succ, List.idxOf_cons, killHl]) (by simp [D.ren, D.rens, D.okN, D.okNs, Cp.ren, Cp.okN, HO.ren, HO.okN, okA, renA, renO, hOf, handed, D.fgt, D.fgts, List.range_succ, List.idxOf_cons, killHl]) (by simp [D.ren, D.rens, D.okN, D.okNs, Cp.ren, Cp.okN, HO.ren, HO.okN, okA, renA, renO, hOf, handed, D.fgt, D.fgts, List.range_succ, List.idxOf_cons]) (by simp [D.ren, D.rens, D.okN, D.okNs, Cp.ren, Cp.okN, HO.ren, HO.okN, okA, renA, renO, hOf, handed, D.fgt, D.fgts, List.range_succ, List.idxOf_cons, wrongD])
      · rintro hc rfl
        simp [D.ren, D.rens, D.okN, D.okNs, Cp.ren, Cp.okN, HO.ren, HO.okN, okA, renA, renO, hOf, handed, D.fgt, D.fgts, List.range_succ, List.idxOf_cons, upO, updS, setS, killHl, killTl]
        refine endD.intro rfl (.inr ⟨[], by decide, by simp, ?_⟩)
        simp [Out.mov, movT, movH, movD, D.mov, HO.mov, okM, renM, getW, D.ren, D.rens, D.okN, D.okNs, Cp.ren, Cp.okN, HO.ren, HO.okN, okA, renA, renO, hOf, handed, D.fgt, D.fgts, List.range_succ, List.idxOf_cons, Out.fgt, D.fgt]
      · rintro hc rfl
        simp
end Go.Proofs.YtebmlojhdnldgaaDoor

namespace Go.Proofs.YtebmlojhdnldgaaDoor
set_option linter.unusedSimpArgs false
set_option linter.unusedVariables false
open Go.RowKit
theorem coreKs_iff {n : Int} {cs : List Int} {k sc : Int} : ∀ {ks : List T} {i : Nat}, coreKs n cs ks k i sc = true ↔ ∀ j (h : j < ks.length), coreB n cs ks[j] (belowD sc k ((i + j : Nat) : Int)) = true
  | [], i => by rw [coreKs]; simp
  | t :: r, i => by
    rw [coreKs, Bool.and_eq_true, coreKs_iff (ks := r)]
    constructor
    · rintro ⟨h1, h2⟩ j hj
      cases j with
      | zero => exact h1
      | succ j =>
        have := h2 j (by simpa using hj)
        rw [show i + 1 + j = i + (j + 1) by omega] at this
        exact this
    · intro h
      refine ⟨h 0 (by simp), fun j hj => ?_⟩
      have := h (j + 1) (by simpa using hj)
      rw [show i + (j + 1) = i + 1 + j by omega] at this
      exact this
theorem core_mk {n : Int} {cs : List Int} {k m a : Int} {ls : List LV} {ks : List T} {sc : Int} : coreB n cs (.mk k m a ls ks) sc = true ↔ nodeB n sc cs (.mk k m a ls ks) = true ∧ ∀ j (h : j < ks.length), coreB n cs ks[j] (belowD sc k (j : Int)) = true := by
  rw [coreB, Bool.and_eq_true, coreKs_iff]
  simp only [Nat.zero_add]
theorem belowD_in {d k i : Int} (h : -1000000000000000 ≤ d) (h2 : d ≤ 1000000000000000) : belowD d k i = if bindsB k i then d + 1 else d := by
  unfold belowD
  split
  · rw [i64w (by omega) (by omega)]
  · rfl
theorem belowD_le {d k i : Int} (h : -1000000000000000 ≤ d) (h2 : d ≤ 1000000000000000) : d ≤ belowD d k i ∧ belowD d k i ≤ d + 1 := by
  rw [belowD_in h h2]; split <;> omega
theorem belowD_add {d c k i : Int} (h1 : 0 ≤ d) (h2 : 0 ≤ c) (h : d + c ≤ 1000000000000000) : belowD (d + c) k i = belowD d k i + c := by
  rw [belowD_in (by omega) (by omega), belowD_in (by omega) (by omega)]
  split <;> omega
theorem ask_ks {n sc : Int} {cs : List Int} {k m a : Int} {ls : List LV} (ks ks' : List T) : askC n sc cs (.mk k m a ls ks) = askC n sc cs (.mk k m a ls ks') := rfl
theorem node_iff {n sc : Int} {cs : List Int} {t : T} : nodeB n sc cs t = true ↔ inCore t.k = true ∧ askC n sc cs t = true ∧ (t.ks.length : Int) = askN t.k t.a := by
  unfold nodeB
  simp only [Bool.and_eq_true, decide_eq_true_eq, and_assoc]
theorem variableB_iff {sc : Int} {t : T} : variableB sc t = true ↔ 0 ≤ t.n ∧ t.n < sc ∧ t.a = 0 ∧ t.ls = [] := by
  unfold variableB
  simp only [Bool.and_eq_true, decide_eq_true_eq, and_assoc]
theorem node_var {n sc : Int} {cs : List Int} {m a : Int} {ls : List LV} {ks : List T} : nodeB n sc cs (.mk 1 m a ls ks) = true ↔ 0 ≤ m ∧ m < sc ∧ a = 0 ∧ ls = [] ∧ ks = [] := by
  rw [node_iff, askC, if_pos (show (T.mk 1 m a ls ks).k = 1 from rfl), variableB_iff]
  simp only [T.k_mk, T.n_mk, T.a_mk, T.ls_mk, T.ks_mk]
  have e : askN 1 a = 0 := rfl
  rw [e]
  constructor
  · rintro ⟨-, ⟨h1, h2, h3, h4⟩, h5⟩
    exact ⟨h1, h2, h3, h4, List.length_eq_zero_iff.1 (by omega)⟩
  · rintro ⟨h1, h2, h3, h4, rfl⟩
    exact ⟨rfl, ⟨h1, h2, h3, h4⟩, rfl⟩
theorem node_sc {n sc sc' : Int} {cs : List Int} {t : T} (hk : t.k ≠ 1) : nodeB n sc cs t = nodeB n sc' cs t := by
  have : askC n sc cs t = askC n sc' cs t := by unfold askC; rw [if_neg hk, if_neg hk]
  unfold nodeB
  rw [this]
/-- only how many kids there are matters -/
theorem node_ks {n sc : Int} {cs : List Int} {k m a : Int} {ls : List LV} {ks ks' : List T} (h : ks.length = ks'.length) : nodeB n sc cs (.mk k m a ls ks) = nodeB n sc cs (.mk k m a ls ks') := by
  rw [Bool.eq_iff_iff, node_iff, node_iff, ask_ks ks ks']
  simp only [T.k_mk, T.ks_mk, T.a_mk, h]
theorem node_len {n sc : Int} {cs : List Int} {k m a : Int} {ls : List LV} {ks ks' : List T} (h : nodeB n sc cs (.mk k m a ls ks) = true) (hl : ks.length ≠ ks'.length) : nodeB n sc cs (.mk k m a ls ks') = false := by
  rw [Bool.eq_false_iff]
  intro h'
  rw [node_iff] at h h'
  have h1 := h.2.2
  have h2 := h'.2.2
  simp only [T.ks_mk, T.k_mk, T.a_mk] at h1 h2
  omega
theorem node_neg {n sc : Int} {cs : List Int} {t : T} (h : t.n = -1) : nodeB n sc cs t = false := by
  rw [Bool.eq_false_iff]
  intro h'
  have h2 := (node_iff.1 h').2.1
  unfold askC at h2
  repeat' split at h2
  all_goals simp only [variableB, sortB, constB, bareB, finB, elemB, branchesB, Bool.and_eq_true, decide_eq_true_eq] at h2
  all_goals omega
theorem levelRight_mono {l : LV} {n n' : Int} (h : n ≤ n') (hr : levelRight l n = true) : levelRight l n' = true := by
  unfold levelRight at hr ⊢
  simp only [Bool.and_eq_true, Bool.not_eq_true', List.any_eq_false] at hr ⊢
  refine ⟨hr.1, fun p hp => ?_⟩
  have := hr.2 p hp
  unfold partBad at this ⊢
  simp at this ⊢
  omega
theorem all_right_mono {ls : List LV} {n n' : Int} (h : n ≤ n') (hr : (ls.all fun l => levelRight l n) = true) : (ls.all fun l => levelRight l n') = true := by
  rw [List.all_eq_true] at hr ⊢
  exact fun l hl => levelRight_mono h (hr l hl)
/-- more constants: each as it was -/
def ConstsLe (cs cs' : List Int) : Prop := cs.length ≤ cs'.length ∧ ∀ i, i < cs.length → cs'.getD i 0 = cs.getD i 0
theorem ConstsLe.refl (cs : List Int) : ConstsLe cs cs := ⟨Nat.le_refl _, fun _ _ => rfl⟩
theorem ConstsLe.append (cs more : List Int) : ConstsLe cs (cs ++ more) := by
  refine ⟨by simp, fun i hi => ?_⟩
  rw [List.getD_eq_getElem?_getD, List.getD_eq_getElem?_getD, List.getElem?_append_left hi]
theorem node_mono {n n' sc sc' : Int} {cs cs' : List Int} {t : T} (hn : n ≤ n') (hs : sc ≤ sc') (hc : ConstsLe cs cs') (h : nodeB n sc cs t = true) : nodeB n' sc' cs' t = true := by
  rw [node_iff] at h ⊢
  obtain ⟨h1, h2, h3⟩ := h
  refine ⟨h1, ?_, h3⟩
  unfold askC at h2 ⊢
  split
  · rename_i hk; rw [if_pos hk] at h2
    rw [variableB_iff] at h2 ⊢
    exact ⟨h2.1, by omega, h2.2.2⟩
  · rename_i hk; rw [if_neg hk] at h2
    split
    · rename_i hk2; rw [if_pos hk2] at h2
      simp only [sortB, Bool.and_eq_true] at h2 ⊢
      exact ⟨h2.1, all_right_mono hn h2.2⟩
    · rename_i hk2; rw [if_neg hk2] at h2
      split
      · rename_i hk3; rw [if_pos hk3] at h2
        simp only [constB, Bool.and_eq_true, decide_eq_true_eq] at h2 ⊢
        obtain ⟨⟨⟨⟨e1, e2⟩, e3⟩, e4⟩, e5⟩ := h2
        have := hc.1
        exact ⟨⟨⟨⟨e1, by omega⟩, e3⟩, by rw [hc.2 _ (by omega)]; exact e4⟩, all_right_mono hn e5⟩
      · rename_i hk3; rw [if_neg hk3] at h2
        exact h2
def ScOk (sc : Int) (t : T) : Prop := 0 ≤ sc ∧ sc + t.deep ≤ 1000000000000000
theorem ScOk.kid {sc k m a : Int} {ls : List LV} {ks : List T} (h : ScOk sc (.mk k m a ls ks)) {t : T} (ht : t ∈ ks) (i : Int) : ScOk (belowD sc k i) t := by
  have h1 := T.deep_kid (k := k) (n := m) (a := a) (ls := ls) ht
  obtain ⟨h2, h3⟩ := h
  have := belowD_le (d := sc) (k := k) (i := i) (by omega) (by omega)
  unfold ScOk
  omega
theorem core_mono {n n' : Int} {cs cs' : List Int} (hn : n ≤ n') (hc : ConstsLe cs cs') (t : T) : ∀ sc sc', sc ≤ sc' → 0 ≤ sc → ScOk sc' t → coreB n cs t sc = true → coreB n' cs' t sc' = true := by
  induction t using T.ind with
  | h k m a ls ks ih =>
    intro sc sc' hs h0 hf h
    rw [core_mk] at h ⊢
    refine ⟨node_mono hn hs hc h.1, fun j hj => ?_⟩
    have hm := List.getElem_mem hj
    have h1 := hf.1
    have h2 := hf.2
    refine ih _ hm _ _ ?_ ?_ (hf.kid hm _) (h.2 j hj)
    · rw [belowD_in (by omega) (by omega), belowD_in (by omega) (by omega)]
      split <;> omega
    · have := belowD_le (d := sc) (k := k) (i := (j : Int)) (by omega) (by omega)
      omega
/-! lifting -/
theorem walks_get {f : Turn} {k d : Int} {ks : List T} {i : Nat} : ∀ {j : Nat} (h : j < (T.walks f k ks i d).length) (h' : j < ks.length), (T.walks f k ks i d)[j] = T.walk f ks[j] (belowD d k ((i + j : Nat) : Int)) := by
  induction ks generalizing i with
  | nil => intro j h h'; simp at h'
  | cons t r ih =>
    intro j h h'
    cases j with
    | zero => simp only [T.walks, List.getElem_cons_zero]; rfl
    | succ j =>
      have hr : j < r.length := by simpa using h'
      simp only [T.walks, List.getElem_cons_succ]
      rw [ih (by rw [T.walks_length]; exact hr) hr, show i + 1 + j = i + (j + 1) by omega]
theorem walks_get0 {f : Turn} {k d : Int} {ks : List T} {j : Nat} (h : j < (T.walks f k ks 0 d).length) : (T.walks f k ks 0 d)[j] = T.walk f (ks[j]'(by rw [T.walks_length] at h; exact h)) (belowD d k (j : Int)) := by
  rw [walks_get h (by rw [T.walks_length] at h; exact h), Nat.zero_add]
theorem core_lift {n : Int} {cs : List Int} {lift fr : Int} (hl : 0 ≤ lift ∧ lift ≤ 2000000000000) (t : T) : ∀ sc d, 0 ≤ d → d ≤ sc → ScOk (sc + lift) t → coreB n cs t sc = true → coreB n cs (T.walk (liftTurn lift fr) t d) (sc + lift) = true := by
  induction t using T.ind with
  | h k m a ls ks ih =>
    intro sc d hd hds hf h
    have hf1 := hf.1
    have hf2 := hf.2
    rw [walk_lift]
    rw [core_mk] at h ⊢
    refine ⟨?_, fun j hj => ?_⟩
    · by_cases hk : k = 1
      · subst hk
        obtain ⟨h1, h2, rfl, rfl, rfl⟩ := node_var.1 h.1
        rw [node_var]
        have hnum : liftNum lift fr d 1 m = m ∨ liftNum lift fr d 1 m = m + lift := by
          unfold liftNum
          split
          · right; exact i64w (by omega) (by omega)
          · left; rfl
        refine ⟨by omega, by omega, rfl, rfl, by simp [T.walks]⟩
      · have e : liftNum lift fr d k m = m := by unfold liftNum; rw [if_neg (fun h => hk h.1)]
        rw [e, node_ks (ks' := ks) (T.walks_length _ _ _ _ _), node_sc (t := .mk k m a ls ks) (sc' := sc) hk]
        exact h.1
    · have hj' : j < ks.length := by rw [T.walks_length] at hj; exact hj
      have hm := List.getElem_mem hj'
      rw [walks_get0 hj]
      have hsc := h.2 j hj'
      have e : belowD (sc + lift) k (j : Int) = belowD sc k (j : Int) + lift := belowD_add (by omega) (by omega) (by omega)
      rw [e]
      have b1 := belowD_le (d := sc) (k := k) (i := (j : Int)) (by omega) (by omega)
      refine ih _ hm _ _ ?_ ?_ ?_ hsc
      · have := belowD_le (d := d) (k := k) (i := (j : Int)) (by omega) (by omega); omega
      · rw [belowD_in (by omega) (by omega), belowD_in (by omega) (by omega)]; split <;> omega
      · rw [← e]; exact hf.kid hm _
/-! putting -/
theorem core_put {n : Int} {cs : List Int} {bys : List T} {s0 : Int} (h0 : 0 ≤ s0) (hb : ∀ b, b ∈ bys → coreB n cs b s0 = true ∧ b.deep ≤ DM) (hbl : bys.length ≤ LMax) (t : T) : ∀ d, 0 ≤ d → ScOk (s0 + bys.length + d) t → ScOk s0 t → s0 ≤ 90000000000000 → d + t.deep ≤ DM → coreB n cs t (s0 + bys.length + d) = true → coreB n cs (T.walk (putTurn bys) t d) (s0 + d) = true := by
  induction t using T.ind with
  | h k m a ls ks ih =>
    intro d hd hf hf0 hdm hdd h
    have hf1 := hf.1
    have hf2 := hf.2
    unfold LMax at hbl
    rw [core_mk] at h
    have hkids : ∀ m', (∀ ms : List T, ms.length = ks.length → nodeB n (s0 + d) cs (.mk k m' a ls ms) = true) → coreB n cs (.mk k m' a ls (T.walks (putTurn bys) k ks 0 d)) (s0 + d) = true := by
      intro m' hm'
      rw [core_mk]
      refine ⟨hm' _ (T.walks_length _ _ _ _ _), fun j hj => ?_⟩
      have hj' : j < ks.length := by rw [T.walks_length] at hj; exact hj
      have hm := List.getElem_mem hj'
      rw [walks_get0 hj]
      have hsc := h.2 j hj'
      have hdk := T.deep_kid (k := k) (n := m) (a := a) (ls := ls) hm
      have b1 := belowD_le (d := d) (k := k) (i := (j : Int)) (by omega) (by omega)
      have e1 : belowD (s0 + bys.length + d) k (j : Int) = s0 + bys.length + belowD d k (j : Int) := by
        rw [Int.add_comm, belowD_add hd (by omega) (by omega)]; omega
      have e2 : belowD (s0 + d) k (j : Int) = s0 + belowD d k (j : Int) := by
        rw [Int.add_comm, belowD_add hd (by omega) (by omega)]; omega
      rw [e2]
      rw [e1] at hsc
      have hbk : belowD d k (j : Int) + ks[j].deep ≤ DM := by omega
      refine ih _ hm _ (by omega) ?_ ?_ ?_ hbk hsc
      · rw [← e1]; exact hf.kid hm _
      · exact ⟨hf0.1, by have := hf0.2; omega⟩
      · exact hdm
    by_cases hk : k = 1
    · subst hk
      obtain ⟨h1, h2, rfl, rfl, rfl⟩ := node_var.1 h.1
      by_cases hh : d ≤ m
      · by_cases hl : (m - d).toNat < bys.length
        · rw [walk_inl (putTurn_in (t := .mk 1 m 0 [] []) ⟨rfl, hh⟩ hl)]
          obtain ⟨hb1, hb2⟩ := hb (bys[bys.length - 1 - (m - d).toNat]'(by omega)) (List.getElem_mem _)
          have hdd' : d ≤ DM := by have := hdd; omega
          unfold DM at hb2 hdd'
          exact core_lift (lift := d) (fr := 0) ⟨hd, by omega⟩ _ s0 0 (by omega) h0 ⟨by omega, by simp only [T.n_mk]; omega⟩ hb1
        · rw [walk_inr (putTurn_over (t := .mk 1 m 0 [] []) ⟨rfl, hh⟩ hl)]
          refine hkids _ fun ms hms => ?_
          obtain rfl : ms = [] := by simpa using hms
          rw [node_var]
          simp only [T.n_mk]
          rw [i64w (by omega) (by omega)]
          refine ⟨by omega, by omega, ?_, ?_, ?_⟩ <;> first | rfl | trivial
      · rw [walk_inr (putTurn_low (t := .mk 1 m 0 [] []) (fun h => hh h.2))]
        refine hkids _ fun ms hms => ?_
        obtain rfl : ms = [] := by simpa using hms
        rw [node_var]
        refine ⟨by simp only [T.n_mk]; omega, by simp only [T.n_mk]; omega, ?_, ?_, ?_⟩ <;> first | rfl | trivial
    · rw [walk_inr (putTurn_low (t := .mk k m a ls ks) (fun h => hk h.1))]
      refine hkids _ fun ms hms => ?_
      have e := node_ks (n := n) (sc := s0 + d) (cs := cs) (k := k) (m := m) (a := a) (ls := ls) hms
      rw [node_sc (t := .mk k m a ls ks) (sc' := s0 + bys.length + d) hk, h.1] at e
      exact e
/-! levels -/
/-- no Plus above one -/
def lowL (most : Int) (l : LV) : Bool := l.all fun p => decide (p.2 ≤ most)
mutual
def T.lowB (most : Int) : T → Bool
  | .mk _ _ _ ls ks => ls.all (lowL most) && T.lowsB most ks
def T.lowsB (most : Int) : List T → Bool
  | [] => true
  | t :: r => T.lowB most t && T.lowsB most r
end
theorem T.lowsB_mem {most : Int} {ks : List T} (h : T.lowsB most ks = true) {t : T} (ht : t ∈ ks) : t.lowB most = true := by
  induction ks with
  | nil => cases ht
  | cons x r ih =>
    rw [T.lowsB, Bool.and_eq_true] at h
    cases ht with
    | head => exact h.1
    | tail _ hm => exact ih h.2 hm
theorem right_mem {l : LV} {n : Int} (h : levelRight l n = true) {p : Int × Int} (hp : p ∈ l) : 0 ≤ p.1 ∧ p.1 ≤ n ∧ 0 ≤ p.2 ∧ p.2 ≤ 1000 := by
  unfold levelRight at h
  simp only [Bool.and_eq_true, Bool.not_eq_true', List.any_eq_false] at h
  have := h.2 p hp
  unfold partBad at this
  simp at this
  omega
theorem right_okV {l : LV} {n : Int} (hn : n ≤ 1048576) (h : levelRight l n = true) : okV l := fun p hp => by
  have := right_mem h hp
  unfold badP
  simp
  omega
theorem sorted_of {l : LV} (h : l.Pairwise (fun p q => p.1 < q.1)) : sortedB l = true := by
  rw [sortedB_iff]
  intro i hi
  exact List.pairwise_iff_getElem.1 h i (i + 1) (by omega) hi (by omega)
theorem up_len : ∀ (l : LV) (a b : Int), a ≤ b → l.Pairwise (fun p q => p.1 < q.1) → (∀ p, p ∈ l → a ≤ p.1 ∧ p.1 < b) → (l.length : Int) ≤ b - a
  | [], a, b, h, _, _ => by simp; omega
  | p :: r, a, b, h, hu, hp => by
    rw [List.pairwise_cons] at hu
    have h1 := hp p List.mem_cons_self
    have h2 := up_len r (p.1 + 1) b (by omega) hu.2 (fun q hq => ⟨by have := hu.1 q hq; omega, (hp q (List.mem_cons_of_mem _ hq)).2⟩)
    rw [List.length_cons]
    omega
/-- a normal form of few variables, with small numbers -/
theorem right_norm {l : LV} {n : Int} (hn : 0 ≤ n ∧ n ≤ 8) (h : ∀ p, p ∈ l → 0 ≤ p.1 ∧ p.1 ≤ n ∧ 0 ≤ p.2 ∧ p.2 ≤ 1000) : levelRight (normOf l) n = true := by
  have hok : okV l := fun p hp => by
    have := h p hp
    unfold badP
    simp
    omega
  have hnf := normOf_nf l
  have hm : ∀ p, p ∈ normOf l → 0 ≤ p.1 ∧ p.1 ≤ n ∧ 0 ≤ p.2 ∧ p.2 ≤ 1000 := fun p hp => h p (norm_mem hok hp)
  have hlen := up_len (normOf l) 0 (n + 1) (by omega) hnf.up (fun p hp => by have := hm p hp; omega)
  unfold levelRight
  simp only [Bool.and_eq_true, Bool.not_eq_true', List.any_eq_false, decide_eq_true_eq]
  refine ⟨⟨sorted_of hnf.up, by omega⟩, fun p hp => ?_⟩
  have := hm p hp
  unfold partBad
  simp
  omega
theorem lowL_mem {most : Int} {l : LV} (h : lowL most l = true) {p : Int × Int} (hp : p ∈ l) : p.2 ≤ most := by
  unfold lowL at h
  rw [List.all_eq_true] at h
  simpa using h p hp
/-- what a level becomes: its parts are sums -/
theorem putL_mem {l : LV} {bys : List LV} {n A B : Int} (hn : n ≤ bys.length) (hn2 : n ≤ 1048576) (hr : levelRight l n = true) (hlow : lowL A l = true) (hb : ∀ x, x ∈ bys → levelRight x 8 = true ∧ lowL B x = true) (hB : 0 ≤ B) : ∀ q, q ∈ putL l bys → 0 ≤ q.1 ∧ q.1 ≤ 8 ∧ 0 ≤ q.2 ∧ q.2 ≤ A + B := by
  intro q hq
  unfold putL at hq
  rw [List.mem_flatten] at hq
  obtain ⟨row, hrow, hq⟩ := hq
  rw [List.mem_map] at hrow
  obtain ⟨p, hp, rfl⟩ := hrow
  have hpl := norm_mem (right_okV hn2 hr) hp
  have hp1 := right_mem hr hpl
  have hp2 := lowL_mem hlow hpl
  unfold rowP at hq
  rw [List.mem_map] at hq
  obtain ⟨x, hx, rfl⟩ := hq
  unfold xsP at hx
  unfold addP
  rcases orZero_mem hx with rfl | hx
  · simp only; omega
  · obtain ⟨y, hy, hxy⟩ := levOf_mem hx
    have hb1 := hb y hy
    have hxm := norm_mem (right_okV (by omega) hb1.1) hxy
    have h3 := right_mem hb1.1 hxm
    have h4 := lowL_mem hb1.2 hxm
    simp only
    omega
theorem all_map_right {ls : List LV} {bys : List LV} {n A B : Int} (hn : n ≤ bys.length) (hn2 : n ≤ 1048576) (hAB : A + B ≤ 1000) (hB : 0 ≤ B) (hb : ∀ x, x ∈ bys → levelRight x 8 = true ∧ lowL B x = true) (hlow : ls.all (lowL A) = true) (h : (ls.all fun l => levelRight l n) = true) : ((ls.map fun l => normOf (putL l bys)).all fun l => levelRight l 8) = true := by
  rw [List.all_eq_true] at h hlow ⊢
  intro l hl
  rw [List.mem_map] at hl
  obtain ⟨x, hx, rfl⟩ := hl
  exact right_norm (by omega) fun p hp => by
    have := putL_mem hn hn2 (h x hx) (hlow x hx) hb hB p hp
    omega
theorem node_levels {n sc : Int} {cs : List Int} {k m a : Int} {ls : List LV} {ks ks' : List T} {bys : List LV} {A B : Int} (hn : n ≤ bys.length) (hn2 : n ≤ 1048576) (hAB : A + B ≤ 1000) (hB : 0 ≤ B) (hb : ∀ x, x ∈ bys → levelRight x 8 = true ∧ lowL B x = true) (hlow : ls.all (lowL A) = true) (hks : ks'.length = ks.length) (h : nodeB n sc cs (.mk k m a ls ks) = true) : nodeB 8 sc cs (.mk k m a (ls.map fun l => normOf (putL l bys)) ks') = true := by
  have hmap := all_map_right hn hn2 hAB hB hb hlow
  rw [node_iff] at h ⊢
  obtain ⟨h1, h2, h3⟩ := h
  simp only [T.k_mk, T.ks_mk, T.a_mk] at h1 h3
  refine ⟨h1, ?_, by simp only [T.k_mk, T.ks_mk, T.a_mk]; rw [hks]; exact h3⟩
  generalize hls' : (ls.map fun l => normOf (putL l bys)) = ls' at hmap ⊢
  have hlen : ls'.length = ls.length := by rw [← hls', List.length_map]
  have hnil : (ls' = []) ↔ (ls = []) := by rw [← List.length_eq_zero_iff, hlen, List.length_eq_zero_iff]
  unfold askC at h2 ⊢
  by_cases hk : k = 1
  · rw [if_pos (show (T.mk k m a ls ks).k = 1 from hk)] at h2
    rw [if_pos (show (T.mk k m a ls' ks').k = 1 from hk)]
    rw [variableB_iff] at h2 ⊢
    exact ⟨h2.1, h2.2.1, h2.2.2.1, hnil.2 h2.2.2.2⟩
  rw [if_neg (show ¬ (T.mk k m a ls ks).k = 1 from hk)] at h2
  rw [if_neg (show ¬ (T.mk k m a ls' ks').k = 1 from hk)]
  by_cases hk : k = 2
  · rw [if_pos (show (T.mk k m a ls ks).k = 2 from hk)] at h2
    rw [if_pos (show (T.mk k m a ls' ks').k = 2 from hk)]
    simp only [sortB, Bool.and_eq_true, decide_eq_true_eq] at h2 ⊢
    exact ⟨⟨h2.1.1, hlen.trans h2.1.2⟩, hmap h2.2⟩
  rw [if_neg (show ¬ (T.mk k m a ls ks).k = 2 from hk)] at h2
  rw [if_neg (show ¬ (T.mk k m a ls' ks').k = 2 from hk)]
  by_cases hk : k = 3
  · rw [if_pos (show (T.mk k m a ls ks).k = 3 from hk)] at h2
    rw [if_pos (show (T.mk k m a ls' ks').k = 3 from hk)]
    simp only [constB, Bool.and_eq_true, decide_eq_true_eq] at h2 ⊢
    exact ⟨⟨h2.1.1, (congrArg Int.ofNat hlen).trans h2.1.2⟩, hmap h2.2⟩
  rw [if_neg (show ¬ (T.mk k m a ls ks).k = 3 from hk)] at h2
  rw [if_neg (show ¬ (T.mk k m a ls' ks').k = 3 from hk)]
  by_cases hk : k = 22
  · rw [if_pos (show (T.mk k m a ls ks).k = 22 from hk)] at h2
    rw [if_pos (show (T.mk k m a ls' ks').k = 22 from hk)]
    simp only [finB, Bool.and_eq_true, decide_eq_true_eq] at h2 ⊢
    exact ⟨h2.1, hnil.2 h2.2⟩
  rw [if_neg (show ¬ (T.mk k m a ls ks).k = 22 from hk)] at h2
  rw [if_neg (show ¬ (T.mk k m a ls' ks').k = 22 from hk)]
  by_cases hk : k = 23
  · rw [if_pos (show (T.mk k m a ls ks).k = 23 from hk)] at h2
    rw [if_pos (show (T.mk k m a ls' ks').k = 23 from hk)]
    simp only [elemB, Bool.and_eq_true, decide_eq_true_eq] at h2 ⊢
    exact ⟨h2.1, hnil.2 h2.2⟩
  rw [if_neg (show ¬ (T.mk k m a ls ks).k = 23 from hk)] at h2
  rw [if_neg (show ¬ (T.mk k m a ls' ks').k = 23 from hk)]
  by_cases hk : k = 24
  · rw [if_pos (show (T.mk k m a ls ks).k = 24 from hk)] at h2
    rw [if_pos (show (T.mk k m a ls' ks').k = 24 from hk)]
    simp only [branchesB, Bool.and_eq_true, decide_eq_true_eq] at h2 ⊢
    exact ⟨h2.1, hnil.2 h2.2⟩
  rw [if_neg (show ¬ (T.mk k m a ls ks).k = 24 from hk)] at h2
  rw [if_neg (show ¬ (T.mk k m a ls' ks').k = 24 from hk)]
  simp only [bareB, Bool.and_eq_true, decide_eq_true_eq] at h2 ⊢
  exact ⟨h2.1, hnil.2 h2.2⟩
theorem core_levels {n : Int} {cs : List Int} {bys : List LV} {A B : Int} (hn : n ≤ bys.length) (hn2 : n ≤ 1048576) (hAB : A + B ≤ 1000) (hB : 0 ≤ B) (hb : ∀ x, x ∈ bys → levelRight x 8 = true ∧ lowL B x = true) (t : T) : ∀ sc d, t.lowB A = true → coreB n cs t sc = true → coreB 8 cs (T.walk (levTurn bys) t d) sc = true := by
  induction t using T.ind with
  | h k m a ls ks ih =>
    intro sc d hl h
    rw [T.lowB, Bool.and_eq_true] at hl
    rw [walk_inr (f := levTurn bys) (x := (m, ls.map fun l => normOf (putL l bys))) rfl]
    rw [core_mk] at h ⊢
    refine ⟨node_levels hn hn2 hAB hB hb hl.1 (T.walks_length _ _ _ _ _) h.1, fun j hj => ?_⟩
    have hj' : j < ks.length := by rw [T.walks_length] at hj; exact hj
    have hm := List.getElem_mem hj'
    rw [walks_get0 hj]
    exact ih _ hm _ _ (T.lowsB_mem hl.2 hm) (h.2 j hj')
/-! what the statements say -/
theorem rightB_iff {n sc : Int} {cs : List Int} {t : T} : rightB n sc cs t = true ↔ 0 ≤ n ∧ 0 ≤ sc ∧ coreB n cs t sc = true := by
  unfold rightB; simp [and_assoc]
theorem right_more {n sc : Int} {cs : List Int} {t : T} {more : Int} (h : rightB n sc cs t = true) (hm : 0 ≤ more ∧ more ≤ 1000) (hs : sc ≤ 1000) (hd : t.deep ≤ DM) : rightB (n + more) (sc + more) (cs ++ [more]) t = true := by
  rw [rightB_iff] at h ⊢
  exact ⟨by omega, by omega, core_mono (by omega) (ConstsLe.append _ _) t sc _ (by omega) h.2.1 ⟨by omega, by unfold DM at hd; omega⟩ h.2.2⟩
theorem right_kid {n sc : Int} {cs : List Int} {t : T} (h : rightB n sc cs t = true) (hs : sc ≤ 1000) {i : Nat} (hi : i < t.ks.length) : rightB n (if bindsB t.k i then sc + 1 else sc) cs t.ks[i] = true := by
  rw [rightB_iff] at h ⊢
  obtain ⟨h1, h2, h3⟩ := h
  cases t with
  | mk k m a ls ks =>
    rw [core_mk] at h3
    have := h3.2 i hi
    rw [belowD_in (by omega) (by omega)] at this
    exact ⟨h1, by split <;> omega, this⟩
theorem right_len {n sc : Int} {cs : List Int} {k m a : Int} {ls : List LV} {ks ks' : List T} (h : rightB n sc cs (.mk k m a ls ks) = true) (hl : ks.length ≠ ks'.length) : rightB n sc cs (.mk k m a ls ks') = false := by
  rw [Bool.eq_false_iff]
  intro h'
  rw [rightB_iff, core_mk] at h h'
  have := node_len h.2.2.1 hl
  rw [h'.2.2.1] at this
  cases this
theorem right_neg {n sc : Int} {cs : List Int} {k a : Int} {ls : List LV} {ks : List T} : rightB n sc cs (.mk k (-1) a ls ks) = false := by
  rw [Bool.eq_false_iff]
  intro h'
  rw [rightB_iff, core_mk] at h'
  have := node_neg (n := n) (sc := sc) (cs := cs) (t := .mk k (-1) a ls ks) rfl
  rw [h'.2.2.1] at this
  cases this
theorem right_lift {n sc : Int} {cs : List Int} {t : T} {lift fr : Int} (h : rightB n sc cs t = true) (hl : 0 ≤ lift ∧ lift ≤ 1000) (hs : sc ≤ 1000) (hd : t.deep ≤ DM) : rightB n (sc + lift) cs (t.lift lift fr 0) = true := by
  rw [rightB_iff] at h ⊢
  exact ⟨h.1, by omega, core_lift ⟨hl.1, by omega⟩ t sc 0 (by omega) h.2.1 ⟨by omega, by unfold DM at hd; omega⟩ h.2.2⟩
theorem right_put {n sc : Int} {cs : List Int} {t : T} {bys : List T} (h : rightB n sc cs t = true) (hs : sc ≤ 1000) (hl : (bys.length : Int) ≤ sc) (hb : ∀ b, b ∈ bys → rightB n (sc - bys.length) cs b = true ∧ b.deep ≤ DM) (hd : t.deep ≤ DM) : rightB n (sc - bys.length) cs (t.put bys 0) = true := by
  rw [rightB_iff] at h ⊢
  refine ⟨h.1, by omega, ?_⟩
  have e : sc - (bys.length : Int) + bys.length + 0 = sc := by omega
  have := core_put (n := n) (cs := cs) (bys := bys) (s0 := sc - bys.length) (by omega) (fun b hbm => ⟨(rightB_iff.1 (hb b hbm).1).2.2, (hb b hbm).2⟩) (by unfold LMax; omega) t 0 (by omega) (by rw [e]; exact ⟨h.2.1, by unfold DM at hd; omega⟩) ⟨by omega, by unfold DM at hd; omega⟩ (by omega) (by omega) (by rw [e]; exact h.2.2)
  rw [Int.add_zero] at this
  exact this
theorem right_levels {n sc : Int} {cs : List Int} {t : T} {bys : List LV} (h : rightB n sc cs t = true) (hn : n ≤ bys.length) (hn2 : n ≤ 1048576) (hlow : t.lowB 400 = true) (hb : ∀ x, x ∈ bys → levelRight x 8 = true ∧ lowL 400 x = true) : rightB 8 sc cs (t.levels bys 0) = true := by
  rw [rightB_iff] at h ⊢
  exact ⟨by omega, h.2.1, core_levels hn hn2 (by omega) (by omega) hb t sc 0 hlow h.2.2⟩
end Go.Proofs.YtebmlojhdnldgaaDoor

namespace Go.Proofs.YtebmlojhdnldgaaDoor
set_option linter.unusedSimpArgs false
set_option linter.unusedVariables false
set_option maxHeartbeats 10000000
set_option maxRecDepth 20000
open Go.RowKit
attribute [local simp] wpAft_ret wpAft_pan wantD evOp opD tmOf putS updS setS hOf isFree isTok fillD TK.isAgg TK.known partD thenD blockD putAll D.ofV inB nilTest isNilS binX binD binE isCst bndD capB IntKind.min IntKind.max IntKind.signed IntKind.bits dstOf late
mutual
def T.dp : T → Int → Int
  | .mk _ _ _ _ ks, q => IntKind.i64.wrap ((if 0 < q then T.dps ks (IntKind.i64.wrap (q - 1)) 0 else 0) + 1)
def T.dps : List T → Int → Int → Int
  | [], _, s => s
  | t :: r, q, s => T.dps r q (max s (T.dp t q))
end
theorem deep_spec (t : T) : ∀ q, okT t → Spec Tryd.prog glob 49 [encT t, .int .i64 q] [] (fun o _ => o.fgt = .ret (.int .i64 (t.dp q))) := by
  induction t using T.ind with
  | h kk m a ls ks ih =>
  intro q ht
  have hkl : ks.length ≤ LMax := ht.kl
  have hks := ht.ks
  simp only [T.ks_mk] at hks
  unfold LMax at hkl
  have hR0 : T.dp (.mk kk m a ls ks) q = IntKind.i64.wrap ((if 0 < q then T.dps ks (IntKind.i64.wrap (q - 1)) 0 else 0) + 1) := by rw [T.dp]
  rw [hR0]
  rw [encT_eq]
  simp only [T.k_mk, T.n_mk, T.a_mk, T.ls_mk, T.ks_mk]
  refine Spec.movd globPure (wpD_spec tyOK Tryd.func49 rfl (enters _ _ Tryd.func49 rfl (by decide)) rfl rfl ?_)
  (refine wpD_seqk fun K hK => ?_; refine wpD_region tyOK ?_; ((try simp only [wpAft_ret, wpAft_pan, putS, updS, setS]); (repeat (rw [wpS_cons]; simp)); (try simp only [wpS_nil, thenD, blockD])); refine hK _ _ _ ?_; clear hK K)
  (refine wpD_seqk fun K hK => ?_; refine wpD_region tyOK ?_; ((try simp only [wpAft_ret, wpAft_pan, putS, updS, setS]); (repeat (rw [wpS_cons]; simp)); (try simp only [wpS_nil, thenD, blockD])); refine hK _ _ _ ?_; clear hK K)
  by_cases hq : 0 < q
  rotate_left
  · rw [if_neg hq]
    refine wpD_seqk fun K1 hK1 => ?_
    (refine wpD_seqk fun K hK => ?_; refine wpD_region tyOK ?_; ((try simp only [wpAft_ret, wpAft_pan, putS, updS, setS]); (repeat (rw [wpS_cons]; simp)); (try simp only [wpS_nil, thenD, blockD])); refine hK _ _ _ ?_; clear hK K)
    refine wpD_block ?_
    refine wpD_loopWJ [7, 8, 9, 10, 11, 12, 13, 14, 15, 16, 17, 18, 19, 20, 21, 22, 23, 24, 25, 26, 27] [5, 6] (fun n ys hl => ys = [.int .i64 0, .int .i64 0] ∧ n = 0 ∧ hl = [.cells 27 [.int .i64 kk, .int .i64 m, .int .i64 a, .slice (ls.map encL) .any, .slice (ks.map encT) .any]]) (0) (by kernel_rfl) ?_ ?_
    · exact ⟨rfl, rfl, rfl⟩
    · rintro n ys hl A hA ⟨rfl, -, rfl⟩
      simp only [putAll, List.set, List.map_cons, List.map_nil, List.cons_append, List.nil_append]
      refine wpD_seqk fun K2 hK2 => ?_
      by_cases h0 : 0 < ks.length
      · have h0' : (0 : Int) < ks.length := by omega
        (refine wpD_seqk fun K hK => ?_; refine wpD_region tyOK ?_; ((try simp only [wpAft_ret, wpAft_pan, putS, updS, setS]); (repeat (rw [wpS_cons]; simp [h0, h0', hq])); (try simp only [wpS_nil, thenD, blockD])); refine hK _ _ _ ?_; clear hK K)
        refine wpD_part rfl (fun h => by simp at h) (fun _ => ?_)
        refine wpD_exit ?_
        refine hK1 _ _ _ ?_
        (refine wpD_seqk fun K hK => ?_; refine wpD_region tyOK ?_; ((try simp only [wpAft_ret, wpAft_pan, putS, updS, setS]); (repeat (rw [wpS_cons]; simp)); (try simp only [wpS_nil, thenD, blockD])); refine hK _ _ _ ?_; clear hK K)
        (refine wpD_ret ?_; (try simp only [thenD, blockD]); refine EndQ.ret rfl (.inl ?_); simp [tmOf, Out.fgt, D.fgt, D.fgts])
      · have h0' : ¬ (0 : Int) < ks.length := by omega
        (refine wpD_seqk fun K hK => ?_; refine wpD_region tyOK ?_; ((try simp only [wpAft_ret, wpAft_pan, putS, updS, setS]); (repeat (rw [wpS_cons]; simp [h0, h0', hq])); (try simp only [wpS_nil, thenD, blockD])); refine hK _ _ _ ?_; clear hK K)
        refine wpD_part rfl (fun h => by simp at h) (fun _ => ?_)
        refine wpD_exit ?_
        refine hK1 _ _ _ ?_
        (refine wpD_seqk fun K hK => ?_; refine wpD_region tyOK ?_; ((try simp only [wpAft_ret, wpAft_pan, putS, updS, setS]); (repeat (rw [wpS_cons]; simp)); (try simp only [wpS_nil, thenD, blockD])); refine hK _ _ _ ?_; clear hK K)
        (refine wpD_ret ?_; (try simp only [thenD, blockD]); refine EndQ.ret rfl (.inl ?_); simp [tmOf, Out.fgt, D.fgt, D.fgts])
  rw [if_pos hq]
  obtain ⟨R, hR⟩ : ∃ R, R = T.dps ks (IntKind.i64.wrap (q - 1)) 0 := ⟨_, rfl⟩
  rw [← hR]
  refine wpD_seqk fun K1a hK1a => ?_
  (refine wpD_seqk fun K hK => ?_; refine wpD_region tyOK ?_; ((try simp only [wpAft_ret, wpAft_pan, putS, updS, setS]); (repeat (rw [wpS_cons]; simp)); (try simp only [wpS_nil, thenD, blockD])); refine hK _ _ _ ?_; clear hK K)
  refine wpD_block ?_
  refine wpD_loopWJ [7, 8, 9, 10, 11, 12, 13, 14, 15, 16, 17, 18, 19, 20, 21, 22, 23, 24, 25, 26, 27] [5, 6] (fun n ys hl => ∃ (k : Nat) (s : Int), ys = [.int .i64 s, .int .i64 k] ∧ n + k = ks.length ∧ R = T.dps (ks.drop k) (IntKind.i64.wrap (q - 1)) s ∧ hl = [.cells 27 [.int .i64 kk, .int .i64 m, .int .i64 a, .slice (ls.map encL) .any, .slice (ks.map encT) .any]]) (ks.length) (by kernel_rfl) ?_ ?_
  · exact ⟨0, 0, rfl, rfl, hR, rfl⟩
  · rintro n1 ys hl A1 hA1 ⟨i1, s, rfl, hn, hF, rfl⟩
    have hA := hA1
    simp only [putAll, List.set, List.map_cons, List.map_nil, List.cons_append, List.nil_append]
    refine wpD_seqk fun K1b hK1b => ?_
    by_cases hi1 : i1 < ks.length
    · have hi1' : (i1 : Int) < ks.length := by omega
      rw [List.drop_eq_getElem_cons hi1, T.dps] at hF
      have hrec := ih ks[i1] (List.getElem_mem hi1) (IntKind.i64.wrap (q - 1)) (hks _ (List.getElem_mem hi1))
      obtain ⟨x, hx⟩ : ∃ x, ks[i1] = x := ⟨_, rfl⟩
      rw [hx] at hrec hF
      have hEx := encT_eq x
      rw [hEx] at hrec
      generalize x.dp (IntKind.i64.wrap (q - 1)) = v at hrec hF
      (refine wpD_seqk fun K hK => ?_; refine wpD_region tyOK ?_; ((try simp only [wpAft_ret, wpAft_pan, putS, updS, setS]); (repeat (rw [wpS_cons]; simp [hi1, hi1', hq])); (try simp only [wpS_nil, thenD, blockD])); refine hK _ _ _ ?_; clear hK K)
      refine wpD_part rfl (fun _ => ?_) (fun h => by simp at h)
      refine wpD_skip (hK1b _ _ _ ?_)
      clear hK1b K1b
      refine wpD_seqk fun K1c hK1c => ?_
      refine wpD_block ?_
      (refine wpD_region tyOK ?_; ((try simp only [wpAft_ret, wpAft_pan, putS, updS, setS]); (repeat (rw [wpS_cons]; simp [hi1, hi1', hx, hEx])); (try simp only [wpS_nil, thenD, blockD])))
      refine CallX.pure globPure (hrec) ?_ (by simp [D.fgts, D.fgt]) (by simp [D.pures, D.pure, Cp.free, D.pures_map]) (by simp [Out.pure, D.pure, D.pures, Cp.free, D.pures_map])
      ((try simp only [wpAft_ret, wpAft_pan, putS, updS, setS]); (repeat (rw [wpS_cons]; simp)); (try simp only [wpS_nil, thenD, blockD]))
      refine hK1c _ _ _ ?_
      clear hK1c K1c
      have hw1 : IntKind.i64.wrap ((i1 : Int) + 1) = (i1 : Int) + 1 := i64w (by omega) (by omega)
      (refine wpD_region tyOK ?_; ((try simp only [wpAft_ret, wpAft_pan, putS, updS, setS]); (repeat (rw [wpS_cons]; simp [hw1])); (try simp only [wpS_nil, thenD, blockD])))
      refine hA (n1 - 1) _ _ _ (LeT.refl _) (by omega) (by kernel_rfl) ?_
      exact ⟨i1 + 1, _, rfl, by omega, hF, rfl⟩
    · have hi1' : ¬ (i1 : Int) < ks.length := by omega
      (refine wpD_seqk fun K hK => ?_; refine wpD_region tyOK ?_; ((try simp only [wpAft_ret, wpAft_pan, putS, updS, setS]); (repeat (rw [wpS_cons]; simp [hi1, hi1', hq])); (try simp only [wpS_nil, thenD, blockD])); refine hK _ _ _ ?_; clear hK K)
      refine wpD_part rfl (fun h => by simp at h) (fun _ => ?_)
      refine wpD_exit ?_
      refine hK1a _ _ _ ?_
      clear hK1b K1b
      rw [List.drop_of_length_le (by omega), T.dps] at hF
      subst hF
      (refine wpD_seqk fun K hK => ?_; refine wpD_region tyOK ?_; ((try simp only [wpAft_ret, wpAft_pan, putS, updS, setS]); (repeat (rw [wpS_cons]; simp)); (try simp only [wpS_nil, thenD, blockD])); refine hK _ _ _ ?_; clear hK K)
      (refine wpD_ret ?_; (try simp only [thenD, blockD]); refine EndQ.ret rfl (.inl ?_); simp [tmOf, Out.fgt, D.fgt, D.fgts])
theorem great5_spec (l : List T) (hl : l.length ≤ LMax) (hls : ∀ x, x ∈ l → okT x) : ∃ b, Spec Tryd.prog glob 38 [.slice (l.map encT) .any] [] (fun o _ => o.fgt = .ret (.bool b)) := by
  have h := tofs_spec l 3000 hl hls
  generalize T.tofs l 0 3000 = v at h
  refine ⟨(l.any fun t => decide (400 < t.dp 400)) || decide (3000 < v), ?_⟩
  obtain ⟨R, hR⟩ : ∃ R, R = ((l.any fun t => decide (400 < t.dp 400)) || decide (3000 < v)) := ⟨_, rfl⟩
  rw [← hR]
  have hl0 := hl
  unfold LMax at hl0
  refine Spec.movd globPure (wpD_spec tyOK Tryd.func38 rfl (enters _ _ Tryd.func38 rfl (by decide)) rfl rfl ?_)
  (refine wpD_seqk fun K hK => ?_; refine wpD_region tyOK ?_; ((try simp only [wpAft_ret, wpAft_pan, putS, updS, setS]); (repeat (rw [wpS_cons]; simp)); (try simp only [wpS_nil, thenD, blockD])); refine hK _ _ _ ?_; clear hK K)
  refine wpD_seqk fun K1a hK1a => ?_
  (refine wpD_seqk fun K hK => ?_; refine wpD_region tyOK ?_; ((try simp only [wpAft_ret, wpAft_pan, putS, updS, setS]); (repeat (rw [wpS_cons]; simp)); (try simp only [wpS_nil, thenD, blockD])); refine hK _ _ _ ?_; clear hK K)
  refine wpD_block ?_
  refine wpD_loopWJ [2, 4, 5, 6, 7, 8, 9, 10, 11, 12, 13, 14, 15] [3] (fun n ys hl => ∃ (k : Nat), ys = [.int .i64 k] ∧ n + k = l.length ∧ R = (((l.drop k).any fun t => decide (400 < t.dp 400)) || decide (3000 < v)) ∧ hl = []) (l.length) (by kernel_rfl) ?_ ?_
  · exact ⟨0, rfl, rfl, hR, rfl⟩
  · rintro n1 ys hl A1 hA1 ⟨i1, rfl, hn, hF, rfl⟩
    have hA := hA1
    simp only [putAll, List.set, List.map_cons, List.map_nil, List.cons_append, List.nil_append]
    refine wpD_seqk fun K1b hK1b => ?_
    by_cases hi1 : i1 < l.length
    · have hi1' : (i1 : Int) < l.length := by omega
      rw [List.drop_eq_getElem_cons hi1, List.any_cons] at hF
      have hrec := deep_spec l[i1] 400 (hls _ (List.getElem_mem hi1))
      obtain ⟨x, hx⟩ : ∃ x, l[i1] = x := ⟨_, rfl⟩
      rw [hx] at hrec hF
      have hEx := encT_eq x
      rw [hEx] at hrec
      generalize x.dp 400 = w at hrec hF
      (refine wpD_seqk fun K hK => ?_; refine wpD_region tyOK ?_; ((try simp only [wpAft_ret, wpAft_pan, putS, updS, setS]); (repeat (rw [wpS_cons]; simp [hi1, hi1'])); (try simp only [wpS_nil, thenD, blockD])); refine hK _ _ _ ?_; clear hK K)
      refine wpD_part rfl (fun _ => ?_) (fun h => by simp at h)
      refine wpD_skip (hK1b _ _ _ ?_)
      clear hK1b K1b
      refine wpD_seqk fun K1c hK1c => ?_
      refine wpD_block ?_
      by_cases hw : 400 < w
      · (refine wpD_seqk fun K hK => ?_; refine wpD_region tyOK ?_; ((try simp only [wpAft_ret, wpAft_pan, putS, updS, setS]); (repeat (rw [wpS_cons]; simp [hi1, hi1', hx, hEx])); (try simp only [wpS_nil, thenD, blockD])))
        refine CallX.pure globPure (hrec) ?_ (by simp [D.fgts, D.fgt]) (by simp [D.pures, D.pure, Cp.free, D.pures_map]) (by simp [Out.pure, D.pure, D.pures, Cp.free, D.pures_map])
        ((try simp only [wpAft_ret, wpAft_pan, putS, updS, setS]); (repeat (rw [wpS_cons]; simp [hw])); (try simp only [wpS_nil, thenD, blockD]))
        (refine hK _ _ _ ?_; clear hK K)
        refine wpD_part rfl (fun _ => ?_) (fun h => by simp at h)
        (refine wpD_seqk fun K hK => ?_; refine wpD_region tyOK ?_; ((try simp only [wpAft_ret, wpAft_pan, putS, updS, setS]); (repeat (rw [wpS_cons]; simp)); (try simp only [wpS_nil, thenD, blockD])); refine hK _ _ _ ?_; clear hK K)
        (refine wpD_ret ?_; (try simp only [thenD, blockD]); refine EndQ.ret rfl (.inl ?_); simp [tmOf, Out.fgt, D.fgt, D.fgts])
        rw [hF]; simp [hw]
      · (refine wpD_seqk fun K hK => ?_; refine wpD_region tyOK ?_; ((try simp only [wpAft_ret, wpAft_pan, putS, updS, setS]); (repeat (rw [wpS_cons]; simp [hi1, hi1', hx, hEx])); (try simp only [wpS_nil, thenD, blockD])))
        refine CallX.pure globPure (hrec) ?_ (by simp [D.fgts, D.fgt]) (by simp [D.pures, D.pure, Cp.free, D.pures_map]) (by simp [Out.pure, D.pure, D.pures, Cp.free, D.pures_map])
        ((try simp only [wpAft_ret, wpAft_pan, putS, updS, setS]); (repeat (rw [wpS_cons]; simp [hw])); (try simp only [wpS_nil, thenD, blockD]))
        (refine hK _ _ _ ?_; clear hK K)
        refine wpD_part rfl (fun h => by simp at h) (fun _ => ?_)
        refine wpD_skip (hK1c _ _ _ ?_)
        clear hK1c K1c
        have hw1 : IntKind.i64.wrap ((i1 : Int) + 1) = (i1 : Int) + 1 := i64w (by omega) (by omega)
        (refine wpD_region tyOK ?_; ((try simp only [wpAft_ret, wpAft_pan, putS, updS, setS]); (repeat (rw [wpS_cons]; simp [hw1])); (try simp only [wpS_nil, thenD, blockD])))
        refine hA (n1 - 1) _ _ _ (LeT.refl _) (by omega) (by kernel_rfl) ?_
        exact ⟨i1 + 1, rfl, by omega, by rw [hF]; simp [hw], rfl⟩
    · have hi1' : ¬ (i1 : Int) < l.length := by omega
      (refine wpD_seqk fun K hK => ?_; refine wpD_region tyOK ?_; ((try simp only [wpAft_ret, wpAft_pan, putS, updS, setS]); (repeat (rw [wpS_cons]; simp [hi1, hi1'])); (try simp only [wpS_nil, thenD, blockD])); refine hK _ _ _ ?_; clear hK K)
      refine wpD_part rfl (fun h => by simp at h) (fun _ => ?_)
      refine wpD_exit ?_
      refine hK1a _ _ _ ?_
      clear hK1b K1b
      rw [List.drop_of_length_le (by omega)] at hF
      (refine wpD_seqk fun K hK => ?_; refine wpD_region tyOK ?_; ((try simp only [wpAft_ret, wpAft_pan, putS, updS, setS]); (repeat (rw [wpS_cons]; simp)); (try simp only [wpS_nil, thenD, blockD])))
      refine CallX.pure globPure (h) ?_ (by simp [D.fgts, D.fgt]) (by simp [D.pures, D.pure, Cp.free, D.pures_map]) (by simp [Out.pure, D.pure, D.pures, Cp.free, D.pures_map])
      ((try simp only [wpAft_ret, wpAft_pan, putS, updS, setS]); (repeat (rw [wpS_cons]; simp)); (try simp only [wpS_nil, thenD, blockD]))
      (refine hK _ _ _ ?_; clear hK K)
      (refine wpD_ret ?_; (try simp only [thenD, blockD]); refine EndQ.ret rfl (.inl ?_); simp [tmOf, Out.fgt, D.fgt, D.fgts])
      rw [hF]; simp
theorem v5_spec (n : Int) : Spec Tryd.prog glob 41 [.int .i64 n] [] (fun o _ => o.fgt = .ret (encT (vT n))) := by
  unfold vT
  rw [encT_mk]
  refine Spec.movd globPure (wpD_spec tyOK Tryd.func41 rfl (enters _ _ Tryd.func41 rfl (by decide)) rfl rfl ?_)
  (refine wpD_seqk fun K hK => ?_; refine wpD_region tyOK ?_; ((try simp only [wpAft_ret, wpAft_pan, putS, updS, setS]); (repeat (rw [wpS_cons]; simp)); (try simp only [wpS_nil, thenD, blockD])); refine hK _ _ _ ?_; clear hK K)
  (refine wpD_seqk fun K hK => ?_; refine wpD_region tyOK ?_; ((try simp only [wpAft_ret, wpAft_pan, putS, updS, setS]); (repeat (rw [wpS_cons]; simp)); (try simp only [wpS_nil, thenD, blockD])); refine hK _ _ _ ?_; clear hK K)
  (refine wpD_ret ?_; (try simp only [thenD, blockD]); refine EndQ.ret rfl (.inl ?_); simp [tmOf, Out.fgt, D.fgt, D.fgts])
theorem of5_spec (k : Int) (ks : List T) : Spec Tryd.prog glob 93 [.int .i64 k, .slice (ks.map encT) .any] [] (fun o _ => o.fgt = .ret (encT (.mk k 0 0 [] ks))) := by
  rw [encT_mk]
  refine Spec.movd globPure (wpD_spec tyOK Tryd.func93 rfl (enters _ _ Tryd.func93 rfl (by decide)) rfl rfl ?_)
  (refine wpD_seqk fun K hK => ?_; refine wpD_region tyOK ?_; ((try simp only [wpAft_ret, wpAft_pan, putS, updS, setS]); (repeat (rw [wpS_cons]; simp)); (try simp only [wpS_nil, thenD, blockD])); refine hK _ _ _ ?_; clear hK K)
  (refine wpD_seqk fun K hK => ?_; refine wpD_region tyOK ?_; ((try simp only [wpAft_ret, wpAft_pan, putS, updS, setS]); (repeat (rw [wpS_cons]; simp)); (try simp only [wpS_nil, thenD, blockD])); refine hK _ _ _ ?_; clear hK K)
  (refine wpD_ret ?_; (try simp only [thenD, blockD]); refine EndQ.ret rfl (.inl ?_); simp [tmOf, Out.fgt, D.fgt, D.fgts])
def finT2 : T := .mk 22 2 0 [] []
theorem ok_fin2 : okT finT2 := ok_leaf i64c i64c i64c
def idT : T := .mk 5 0 0 [] [finT2, vT 0]
theorem ok_idT : okT idT := ok_two i64c i64c i64c ok_fin2 ok_v
theorem awake5_spec : Spec Tryd.prog glob 37 [] [] (fun o _ => o.fgt = .ret (.bool true)) := by
  have v0 := v5_spec 0
  have o1 := of5_spec 5 [finT2, vT 0]
  rw [show T.mk 5 0 0 [] [finT2, vT 0] = idT from rfl] at o1
  have r1 := coreRight_spec 0 0 [] idT (by unfold LMax; simp) ok_idT
  rw [show rightB 0 0 [] idT = true from by kernel_rfl] at r1
  have r2 := coreRight_spec 0 0 [] (vT 0) (by unfold LMax; simp) ok_v
  rw [show rightB 0 0 [] (vT 0) = false from by kernel_rfl] at r2
  have r3 := coreRight_spec 0 1 [] (vT 0) (by unfold LMax; simp) ok_v
  rw [show rightB 0 1 [] (vT 0) = true from by kernel_rfl] at r3
  unfold Ints at r1 r2 r3
  simp only [List.map_nil] at r1 r2 r3
  have hEf : encT finT2 = .agg [.int .i64 22, .int .i64 2, .int .i64 0, .slice [] .any, .slice [] .any] := encT_eq _
  simp only [List.map_cons, List.map_nil] at o1
  rw [hEf] at o1
  generalize hP : idT = P at o1 r1
  have hEP := encT_eq P
  rw [hEP] at r1
  refine Spec.movd globPure (wpD_spec tyOK Tryd.func37 rfl (enters _ _ Tryd.func37 rfl (by decide)) rfl rfl ?_)
  (refine wpD_seqk fun K hK => ?_; refine wpD_region tyOK ?_; ((try simp only [wpAft_ret, wpAft_pan, putS, updS, setS]); (repeat (rw [wpS_cons]; simp)); (try simp only [wpS_nil, thenD, blockD])); refine hK _ _ _ ?_; clear hK K)
  (refine wpD_seqk fun K hK => ?_; refine wpD_region tyOK ?_; ((try simp only [wpAft_ret, wpAft_pan, putS, updS, setS]); (repeat (rw [wpS_cons]; simp)); (try simp only [wpS_nil, thenD, blockD])))
  refine CallX.pure globPure (v0) ?_ (by simp [D.fgts, D.fgt]) (by simp [D.pures, D.pure, Cp.free, D.pures_map]) (by simp [Out.pure, D.pure, D.pures, Cp.free, D.pures_map])
  ((try simp only [wpAft_ret, wpAft_pan, putS, updS, setS]); (repeat (rw [wpS_cons]; simp)); (try simp only [wpS_nil, thenD, blockD]))
  refine CallX.pureD globPure (o1) ?_ (by simp [D.deeps, D.deep, D.fgts, D.fgt]) (by simp [D.pures, D.pure, Cp.free, D.pures_map]) (by simp [Out.pure, D.pure, D.pures, Cp.free, D.pures_map])
  ((try simp only [wpAft_ret, wpAft_pan, putS, updS, setS]); (repeat (rw [wpS_cons]; simp)); (try simp only [wpS_nil, thenD, blockD]))
  (refine hK _ _ _ ?_; clear hK K)
  (refine wpD_seqk fun K hK => ?_; refine wpD_region tyOK ?_; ((try simp only [wpAft_ret, wpAft_pan, putS, updS, setS]); (repeat (rw [wpS_cons]; simp)); (try simp only [wpS_nil, thenD, blockD])))
  refine CallX.pure globPure (r1) ?_ (by simp [D.fgts, D.fgt]) (by simp [D.pures, D.pure, Cp.free, D.pures_map]) (by simp [Out.pure, D.pure, D.pures, Cp.free, D.pures_map])
  ((try simp only [wpAft_ret, wpAft_pan, putS, updS, setS]); (repeat (rw [wpS_cons]; simp)); (try simp only [wpS_nil, thenD, blockD]))
  refine CallX.pure globPure (v0) ?_ (by simp [D.fgts, D.fgt]) (by simp [D.pures, D.pure, Cp.free, D.pures_map]) (by simp [Out.pure, D.pure, D.pures, Cp.free, D.pures_map])
  ((try simp only [wpAft_ret, wpAft_pan, putS, updS, setS]); (repeat (rw [wpS_cons]; simp)); (try simp only [wpS_nil, thenD, blockD]))
  refine CallX.pure globPure (r2) ?_ (by simp [D.fgts, D.fgt]) (by simp [D.pures, D.pure, Cp.free, D.pures_map]) (by simp [Out.pure, D.pure, D.pures, Cp.free, D.pures_map])
  ((try simp only [wpAft_ret, wpAft_pan, putS, updS, setS]); (repeat (rw [wpS_cons]; simp)); (try simp only [wpS_nil, thenD, blockD]))
  refine CallX.pure globPure (v0) ?_ (by simp [D.fgts, D.fgt]) (by simp [D.pures, D.pure, Cp.free, D.pures_map]) (by simp [Out.pure, D.pure, D.pures, Cp.free, D.pures_map])
  ((try simp only [wpAft_ret, wpAft_pan, putS, updS, setS]); (repeat (rw [wpS_cons]; simp)); (try simp only [wpS_nil, thenD, blockD]))
  refine CallX.pure globPure (r3) ?_ (by simp [D.fgts, D.fgt]) (by simp [D.pures, D.pure, Cp.free, D.pures_map]) (by simp [Out.pure, D.pure, D.pures, Cp.free, D.pures_map])
  ((try simp only [wpAft_ret, wpAft_pan, putS, updS, setS]); (repeat (rw [wpS_cons]; simp)); (try simp only [wpS_nil, thenD, blockD]))
  (refine hK _ _ _ ?_; clear hK K)
  (refine wpD_ret ?_; (try simp only [thenD, blockD]); refine EndQ.ret rfl (.inl ?_); simp [tmOf, Out.fgt, D.fgt, D.fgts])
end Go.Proofs.YtebmlojhdnldgaaDoor

namespace Go.Proofs.YtebmlojhdnldgaaDoor
set_option linter.unusedSimpArgs false
set_option linter.unusedVariables false
set_option maxHeartbeats 10000000
set_option maxRecDepth 20000
open Go.RowKit
attribute [local simp] wpAft_ret wpAft_pan wantD evOp opD tmOf putS updS setS hOf isFree isTok fillD TK.isAgg TK.known partD thenD blockD putAll D.ofV inB nilTest isNilS binX binD binE isCst bndD capB IntKind.min IntKind.max IntKind.signed IntKind.bits dstOf late
theorem ok_num {t : T} (h : okT t) {m : Int} (hm : I64 m) : okT (.mk t.k m t.a t.ls t.ks) := h.num hm
theorem ok_kids {t : T} (h : okT t) {ks : List T} (hl : ks.length ≤ LMax) (hk : ∀ x, x ∈ ks → okT x) : okT (.mk t.k t.n t.a t.ls ks) := by
  cases h with
  | mk h1 h2 h3 h4 h5 h6 h7 => exact .mk h1 h2 h3 h4 h5 hl hk
theorem parts_spec (n sc : Int) (cs : List Int) (t : T) (more : Int) (hcs : cs.length ≤ 1048576) (ht : okT t) (hd : t.deep ≤ DM) (hkn : t.ks.length ≤ 1048576) :
    Spec Tryd.prog glob 6 [.int .i64 n, .int .i64 sc, Ints cs, encT t, .int .i64 more] [] (fun o _ => o.fgt = .ret (.bool true)) := by
  obtain ⟨G, hgr⟩ := great5_spec [t] (by unfold LMax; simp) (fun x hx => by
    simp only [List.mem_cons, List.not_mem_nil, or_false] at hx
    subst hx; exact ht)
  have haw := awake5_spec
  have hv0 := v5_spec 0
  have hr0 := coreRight_spec n sc cs t (by unfold LMax; omega) ht
  have hEt := encT_eq t
  have hr1 := coreRight_spec (n + more) (sc + more) (cs ++ [more]) t (by rw [List.length_append]; unfold LMax; simp; omega) ht
  have hkid : ∀ (i : Nat) (h : i < t.ks.length) (q : Int), Spec Tryd.prog glob 39 [.int .i64 n, .int .i64 q, Ints cs, encT t.ks[i]] [] (fun o _ => o.fgt = .ret (.bool (rightB n q cs t.ks[i]))) := fun i h q => coreRight_spec n q cs _ (by unfold LMax; omega) (ht.ks _ (List.getElem_mem h))
  have hlong := coreRight_spec n sc cs (.mk t.k t.n t.a t.ls (t.ks ++ [vT 0])) (by unfold LMax; omega) (ok_kids ht (by rw [List.length_append]; unfold LMax; simp; omega) (fun x hx => by
    rcases List.mem_append.1 hx with h | h
    · exact ht.ks x h
    · simp only [List.mem_cons, List.not_mem_nil, or_false] at h
      subst h; exact ok_v))
  have hodd := coreRight_spec n sc cs (.mk t.k (-1) t.a t.ls t.ks) (by unfold LMax; omega) (ok_num ht (by unfold I64; omega))
  have hcut := coreRight_spec n sc cs (.mk t.k t.n t.a t.ls (t.ks.take (t.ks.length - 1))) (by unfold LMax; omega) (ok_kids ht (by rw [List.length_take]; unfold LMax; omega) (fun x hx => ht.ks x (List.mem_of_mem_take hx)))
  have htm : t = .mk t.k t.n t.a t.ls t.ks := t.eta
  simp only [List.map_cons, List.map_nil] at hgr
  rw [encT_mk] at hlong hodd hcut
  simp only [List.map_append, List.map_cons, List.map_nil] at hlong
  unfold Ints at hr0 hr1 hkid hlong hodd hcut
  rw [hEt] at hgr hr0 hr1
  simp only [List.map_append, List.map_cons, List.map_nil] at hr1
  unfold Ints
  refine Spec.movd globPure (wpD_spec tyOK Tryd.func6 rfl (enters _ _ Tryd.func6 rfl (by decide)) rfl rfl ?_)
  rw [hEt]
  (refine wpD_seqk fun K hK => ?_; refine wpD_region tyOK ?_; ((try simp only [wpAft_ret, wpAft_pan, putS, updS, setS]); (repeat (rw [wpS_cons]; simp)); (try simp only [wpS_nil, thenD, blockD])); refine hK _ _ _ ?_; clear hK K)
  refine wpD_seqk fun K1 hK1 => ?_
  (refine wpD_seqk fun K hK => ?_; refine wpD_region tyOK ?_; ((try simp only [wpAft_ret, wpAft_pan, putS, updS, setS]); (repeat (rw [wpS_cons]; simp)); (try simp only [wpS_nil, thenD, blockD])))
  refine CallX.pure globPure (haw) ?_ (by simp [D.fgts, D.fgt]) (by simp [D.pures, D.pure, Cp.free, D.pures_map]) (by simp [Out.pure, D.pure, D.pures, Cp.free, D.pures_map])
  ((try simp only [wpAft_ret, wpAft_pan, putS, updS, setS]); (repeat (rw [wpS_cons]; simp)); (try simp only [wpS_nil, thenD, blockD]))
  (refine hK _ _ _ ?_; clear hK K)
  refine wpD_part rfl (fun h => by simp at h) (fun _ => ?_)
  refine wpD_skip (hK1 _ _ _ ?_)
  clear hK1 K1
  refine wpD_seqk fun K1 hK1 => ?_
  cases G with
  | true =>
    (refine wpD_seqk fun K hK => ?_; refine wpD_region tyOK ?_; ((try simp only [wpAft_ret, wpAft_pan, putS, updS, setS]); (repeat (rw [wpS_cons]; simp)); (try simp only [wpS_nil, thenD, blockD])))
    refine CallX.pure globPure (hgr) ?_ (by simp [D.fgts, D.fgt]) (by simp [D.pures, D.pure, Cp.free, D.pures_map]) (by simp [Out.pure, D.pure, D.pures, Cp.free, D.pures_map])
    ((try simp only [wpAft_ret, wpAft_pan, putS, updS, setS]); (repeat (rw [wpS_cons]; simp)); (try simp only [wpS_nil, thenD, blockD]))
    (refine hK _ _ _ ?_; clear hK K)
    refine wpD_part rfl (fun _ => ?_) (fun h => by simp at h)
    (refine wpD_seqk fun K hK => ?_; refine wpD_region tyOK ?_; ((try simp only [wpAft_ret, wpAft_pan, putS, updS, setS]); (repeat (rw [wpS_cons]; simp)); (try simp only [wpS_nil, thenD, blockD])); refine hK _ _ _ ?_; clear hK K)
    (refine wpD_ret ?_; (try simp only [thenD, blockD]); refine EndQ.ret rfl (.inl ?_); simp [tmOf, Out.fgt, D.fgt, D.fgts])
  | false =>
  by_cases g1 : 3000 < (cs.length : Int)
  · (refine wpD_seqk fun K hK => ?_; refine wpD_region tyOK ?_; ((try simp only [wpAft_ret, wpAft_pan, putS, updS, setS]); (repeat (rw [wpS_cons]; simp [g1])); (try simp only [wpS_nil, thenD, blockD])))
    refine CallX.pure globPure (hgr) ?_ (by simp [D.fgts, D.fgt]) (by simp [D.pures, D.pure, Cp.free, D.pures_map]) (by simp [Out.pure, D.pure, D.pures, Cp.free, D.pures_map])
    ((try simp only [wpAft_ret, wpAft_pan, putS, updS, setS]); (repeat (rw [wpS_cons]; simp [g1])); (try simp only [wpS_nil, thenD, blockD]))
    (refine hK _ _ _ ?_; clear hK K)
    refine wpD_part rfl (fun _ => ?_) (fun h => by simp at h)
    (refine wpD_seqk fun K hK => ?_; refine wpD_region tyOK ?_; ((try simp only [wpAft_ret, wpAft_pan, putS, updS, setS]); (repeat (rw [wpS_cons]; simp)); (try simp only [wpS_nil, thenD, blockD])); refine hK _ _ _ ?_; clear hK K)
    (refine wpD_ret ?_; (try simp only [thenD, blockD]); refine EndQ.ret rfl (.inl ?_); simp [tmOf, Out.fgt, D.fgt, D.fgts])
  by_cases g2 : more < 0
  · (refine wpD_seqk fun K hK => ?_; refine wpD_region tyOK ?_; ((try simp only [wpAft_ret, wpAft_pan, putS, updS, setS]); (repeat (rw [wpS_cons]; simp [g1, g2])); (try simp only [wpS_nil, thenD, blockD])))
    refine CallX.pure globPure (hgr) ?_ (by simp [D.fgts, D.fgt]) (by simp [D.pures, D.pure, Cp.free, D.pures_map]) (by simp [Out.pure, D.pure, D.pures, Cp.free, D.pures_map])
    ((try simp only [wpAft_ret, wpAft_pan, putS, updS, setS]); (repeat (rw [wpS_cons]; simp [g1, g2])); (try simp only [wpS_nil, thenD, blockD]))
    (refine hK _ _ _ ?_; clear hK K)
    refine wpD_part rfl (fun _ => ?_) (fun h => by simp at h)
    (refine wpD_seqk fun K hK => ?_; refine wpD_region tyOK ?_; ((try simp only [wpAft_ret, wpAft_pan, putS, updS, setS]); (repeat (rw [wpS_cons]; simp)); (try simp only [wpS_nil, thenD, blockD])); refine hK _ _ _ ?_; clear hK K)
    (refine wpD_ret ?_; (try simp only [thenD, blockD]); refine EndQ.ret rfl (.inl ?_); simp [tmOf, Out.fgt, D.fgt, D.fgts])
  by_cases g3 : 1000 < more
  · (refine wpD_seqk fun K hK => ?_; refine wpD_region tyOK ?_; ((try simp only [wpAft_ret, wpAft_pan, putS, updS, setS]); (repeat (rw [wpS_cons]; simp [g1, g2, g3])); (try simp only [wpS_nil, thenD, blockD])))
    refine CallX.pure globPure (hgr) ?_ (by simp [D.fgts, D.fgt]) (by simp [D.pures, D.pure, Cp.free, D.pures_map]) (by simp [Out.pure, D.pure, D.pures, Cp.free, D.pures_map])
    ((try simp only [wpAft_ret, wpAft_pan, putS, updS, setS]); (repeat (rw [wpS_cons]; simp [g1, g2, g3])); (try simp only [wpS_nil, thenD, blockD]))
    (refine hK _ _ _ ?_; clear hK K)
    refine wpD_part rfl (fun _ => ?_) (fun h => by simp at h)
    (refine wpD_seqk fun K hK => ?_; refine wpD_region tyOK ?_; ((try simp only [wpAft_ret, wpAft_pan, putS, updS, setS]); (repeat (rw [wpS_cons]; simp)); (try simp only [wpS_nil, thenD, blockD])); refine hK _ _ _ ?_; clear hK K)
    (refine wpD_ret ?_; (try simp only [thenD, blockD]); refine EndQ.ret rfl (.inl ?_); simp [tmOf, Out.fgt, D.fgt, D.fgts])
  by_cases g4 : 1000 < n
  · (refine wpD_seqk fun K hK => ?_; refine wpD_region tyOK ?_; ((try simp only [wpAft_ret, wpAft_pan, putS, updS, setS]); (repeat (rw [wpS_cons]; simp [g1, g2, g3, g4])); (try simp only [wpS_nil, thenD, blockD])))
    refine CallX.pure globPure (hgr) ?_ (by simp [D.fgts, D.fgt]) (by simp [D.pures, D.pure, Cp.free, D.pures_map]) (by simp [Out.pure, D.pure, D.pures, Cp.free, D.pures_map])
    ((try simp only [wpAft_ret, wpAft_pan, putS, updS, setS]); (repeat (rw [wpS_cons]; simp [g1, g2, g3, g4])); (try simp only [wpS_nil, thenD, blockD]))
    (refine hK _ _ _ ?_; clear hK K)
    refine wpD_part rfl (fun _ => ?_) (fun h => by simp at h)
    (refine wpD_seqk fun K hK => ?_; refine wpD_region tyOK ?_; ((try simp only [wpAft_ret, wpAft_pan, putS, updS, setS]); (repeat (rw [wpS_cons]; simp)); (try simp only [wpS_nil, thenD, blockD])); refine hK _ _ _ ?_; clear hK K)
    (refine wpD_ret ?_; (try simp only [thenD, blockD]); refine EndQ.ret rfl (.inl ?_); simp [tmOf, Out.fgt, D.fgt, D.fgts])
  by_cases g5 : 1000 < sc
  · (refine wpD_seqk fun K hK => ?_; refine wpD_region tyOK ?_; ((try simp only [wpAft_ret, wpAft_pan, putS, updS, setS]); (repeat (rw [wpS_cons]; simp [g1, g2, g3, g4, g5])); (try simp only [wpS_nil, thenD, blockD])))
    refine CallX.pure globPure (hgr) ?_ (by simp [D.fgts, D.fgt]) (by simp [D.pures, D.pure, Cp.free, D.pures_map]) (by simp [Out.pure, D.pure, D.pures, Cp.free, D.pures_map])
    ((try simp only [wpAft_ret, wpAft_pan, putS, updS, setS]); (repeat (rw [wpS_cons]; simp [g1, g2, g3, g4, g5])); (try simp only [wpS_nil, thenD, blockD]))
    (refine hK _ _ _ ?_; clear hK K)
    refine wpD_part rfl (fun _ => ?_) (fun h => by simp at h)
    (refine wpD_seqk fun K hK => ?_; refine wpD_region tyOK ?_; ((try simp only [wpAft_ret, wpAft_pan, putS, updS, setS]); (repeat (rw [wpS_cons]; simp)); (try simp only [wpS_nil, thenD, blockD])); refine hK _ _ _ ?_; clear hK K)
    (refine wpD_ret ?_; (try simp only [thenD, blockD]); refine EndQ.ret rfl (.inl ?_); simp [tmOf, Out.fgt, D.fgt, D.fgts])
  cases hB : rightB n sc cs t with
  | false =>
    rw [hB] at hr0
    (refine wpD_seqk fun K hK => ?_; refine wpD_region tyOK ?_; ((try simp only [wpAft_ret, wpAft_pan, putS, updS, setS]); (repeat (rw [wpS_cons]; simp [g1, g2, g3, g4, g5])); (try simp only [wpS_nil, thenD, blockD])))
    refine CallX.pure globPure (hgr) ?_ (by simp [D.fgts, D.fgt]) (by simp [D.pures, D.pure, Cp.free, D.pures_map]) (by simp [Out.pure, D.pure, D.pures, Cp.free, D.pures_map])
    ((try simp only [wpAft_ret, wpAft_pan, putS, updS, setS]); (repeat (rw [wpS_cons]; simp [g1, g2, g3, g4, g5])); (try simp only [wpS_nil, thenD, blockD]))
    refine CallX.pure globPure (hr0) ?_ (by simp [D.fgts, D.fgt]) (by simp [D.pures, D.pure, Cp.free, D.pures_map]) (by simp [Out.pure, D.pure, D.pures, Cp.free, D.pures_map])
    ((try simp only [wpAft_ret, wpAft_pan, putS, updS, setS]); (repeat (rw [wpS_cons]; simp [g1, g2, g3, g4, g5])); (try simp only [wpS_nil, thenD, blockD]))
    (refine hK _ _ _ ?_; clear hK K)
    refine wpD_part rfl (fun _ => ?_) (fun h => by simp at h)
    (refine wpD_seqk fun K hK => ?_; refine wpD_region tyOK ?_; ((try simp only [wpAft_ret, wpAft_pan, putS, updS, setS]); (repeat (rw [wpS_cons]; simp)); (try simp only [wpS_nil, thenD, blockD])); refine hK _ _ _ ?_; clear hK K)
    (refine wpD_ret ?_; (try simp only [thenD, blockD]); refine EndQ.ret rfl (.inl ?_); simp [tmOf, Out.fgt, D.fgt, D.fgts])
  | true =>
  rw [hB] at hr0
  (refine wpD_seqk fun K hK => ?_; refine wpD_region tyOK ?_; ((try simp only [wpAft_ret, wpAft_pan, putS, updS, setS]); (repeat (rw [wpS_cons]; simp [g1, g2, g3, g4, g5])); (try simp only [wpS_nil, thenD, blockD])))
  refine CallX.pure globPure (hgr) ?_ (by simp [D.fgts, D.fgt]) (by simp [D.pures, D.pure, Cp.free, D.pures_map]) (by simp [Out.pure, D.pure, D.pures, Cp.free, D.pures_map])
  ((try simp only [wpAft_ret, wpAft_pan, putS, updS, setS]); (repeat (rw [wpS_cons]; simp [g1, g2, g3, g4, g5])); (try simp only [wpS_nil, thenD, blockD]))
  refine CallX.pure globPure (hr0) ?_ (by simp [D.fgts, D.fgt]) (by simp [D.pures, D.pure, Cp.free, D.pures_map]) (by simp [Out.pure, D.pure, D.pures, Cp.free, D.pures_map])
  ((try simp only [wpAft_ret, wpAft_pan, putS, updS, setS]); (repeat (rw [wpS_cons]; simp [g1, g2, g3, g4, g5])); (try simp only [wpS_nil, thenD, blockD]))
  (refine hK _ _ _ ?_; clear hK K)
  refine wpD_part rfl (fun h => by simp at h) (fun _ => ?_)
  refine wpD_skip (hK1 _ _ _ ?_)
  clear hK1 K1 hgr
  have w1 : IntKind.i64.wrap (n + more) = n + more := by
    have := (rightB_iff.1 hB).1
    exact i64w (by omega) (by omega)
  have w2 : IntKind.i64.wrap (sc + more) = sc + more := by
    have := (rightB_iff.1 hB).2.1
    exact i64w (by omega) (by omega)
  have hsc0 := (rightB_iff.1 hB).2.1
  rw [right_more hB ⟨by omega, by omega⟩ (by omega) hd] at hr1
  have hB' := hB
  rw [htm] at hB'
  rw [right_len (ks' := t.ks ++ [vT 0]) hB' (by simp)] at hlong
  rw [right_neg] at hodd
  have hll : cs.length + 1 ≤ LMax := by unfold LMax; omega
  have hll' : cs.length ≤ LMax := by unfold LMax; omega
  have hkl : t.ks.length + 1 ≤ LMax := by unfold LMax; omega
  have hkl' : t.ks.length ≤ LMax := by unfold LMax; omega
  have hpu : D.pures (cs.map (D.int .i64) ++ [D.int .i64 more]) = true := by rw [show cs.map (D.int .i64) ++ [D.int .i64 more] = (cs ++ [more]).map (D.int .i64) by simp, D.pures_map]; simp [D.pure]
  have hpu2 : D.pures (t.ks.map encT ++ [encT (vT 0)]) = true := by rw [show t.ks.map encT ++ [encT (vT 0)] = (t.ks ++ [vT 0]).map encT by simp, D.pures_map]; simp
  refine wpD_seqk fun K1 hK1 => ?_
  (refine wpD_seqk fun K hK => ?_; refine wpD_drawk tyOK (by kernel_rfl) (by kernel_rfl) fun KT hKT => ?_; ((try simp only [wpAftT_ret, wpAftT_pan, putS, updS, setS]); (repeat (rw [wpT_cons]; simp [w1, w2, hll, hll'])); (try simp only [wpT_nil])))
  refine CallY.pure globPure (hr1) ?_ (by simp [D.fgts, D.fgt, hpu]) (by simp [D.pures, D.pure, Cp.free, D.pures_map, hpu]) (by simp [Out.pure, D.pure, D.pures, Cp.free, D.pures_map, hpu])
  ((try simp only [wpAftT_ret, wpAftT_pan, putS, updS, setS]); (repeat (rw [wpT_cons]; simp)); (try simp only [wpT_nil]))
  (refine hKT _ _ _ _ (by kernel_rfl) ?_; clear hKT KT; (try simp only [thenD, blockD]))
  (refine hK _ _ _ ?_; clear hK K)
  refine wpD_part rfl (fun h => by simp at h) (fun _ => ?_)
  refine wpD_skip (hK1 _ _ _ ?_)
  clear hK1 K1
  refine wpD_seqk fun K1a hK1a => ?_
  (refine wpD_seqk fun K hK => ?_; refine wpD_region tyOK ?_; ((try simp only [wpAft_ret, wpAft_pan, putS, updS, setS]); (repeat (rw [wpS_cons]; simp)); (try simp only [wpS_nil, thenD, blockD])); refine hK _ _ _ ?_; clear hK K)
  refine wpD_block ?_
  refine wpD_loopWJ [10, 12, 64, 65, 66, 67, 68, 69, 70, 71, 72, 73, 74, 75, 76, 77, 78, 79, 80, 81, 82, 83, 84, 85, 86, 87] [11] (fun n ys hl => ∃ (k : Nat), ys = [.int .i64 k] ∧ n + k = t.ks.length ∧ hl = [.cells 27 [.int .i64 t.k, .int .i64 t.n, .int .i64 t.a, .slice (t.ls.map encL) .any, .slice (t.ks.map encT) .any], .dead, .tok]) (t.ks.length) (by kernel_rfl) ?_ ?_
  · exact ⟨0, rfl, rfl, rfl⟩
  · rintro n1 ys hl A1 hA1 ⟨i1, rfl, hn, rfl⟩
    have hA := hA1
    simp only [putAll, List.set, List.map_cons, List.map_nil, List.cons_append, List.nil_append]
    refine wpD_seqk fun K1b hK1b => ?_
    by_cases hi1 : i1 < t.ks.length
    · have hi1' : (i1 : Int) < t.ks.length := by omega
      
      (refine wpD_seqk fun K hK => ?_; refine wpD_region tyOK ?_; ((try simp only [wpAft_ret, wpAft_pan, putS, updS, setS]); (repeat (rw [wpS_cons]; simp [hi1, hi1'])); (try simp only [wpS_nil, thenD, blockD])); refine hK _ _ _ ?_; clear hK K)
      refine wpD_part rfl (fun _ => ?_) (fun h => by simp at h)
      refine wpD_skip (hK1b _ _ _ ?_)
      clear hK1b K1b
      refine wpD_seqk fun K1c hK1c => ?_
      refine wpD_block ?_
      have hrk := right_kid hB (by omega) hi1
      have hbi := binds_spec t.k i1
      have hrec := fun q => hkid i1 hi1 q
      obtain ⟨x, hx⟩ : ∃ x, t.ks[i1] = x := ⟨_, rfl⟩
      rw [hx] at hrk hrec
      have hEx := encT_eq x
      rw [hEx] at hrec
      have w3 : IntKind.i64.wrap (sc + 1) = sc + 1 := i64w (by omega) (by omega)
      (refine wpD_seqk fun K hK => ?_; refine wpD_region tyOK ?_; ((try simp only [wpAft_ret, wpAft_pan, putS, updS, setS]); (repeat (rw [wpS_cons]; simp)); (try simp only [wpS_nil, thenD, blockD])); refine hK _ _ _ ?_; clear hK K)
      refine wpD_seqk fun K2 hK2 => ?_
      cases hbb : bindsB t.k i1 with
      | true =>
        rw [hbb] at hbi hrk
        rw [if_pos rfl] at hrk
        have hrec := hrec (sc + 1)
        rw [hrk] at hrec
        (refine wpD_seqk fun K hK => ?_; refine wpD_region tyOK ?_; ((try simp only [wpAft_ret, wpAft_pan, putS, updS, setS]); (repeat (rw [wpS_cons]; simp)); (try simp only [wpS_nil, thenD, blockD])))
        refine CallX.pure globPure (hbi) ?_ (by simp [D.fgts, D.fgt]) (by simp [D.pures, D.pure, Cp.free, D.pures_map]) (by simp [Out.pure, D.pure, D.pures, Cp.free, D.pures_map])
        ((try simp only [wpAft_ret, wpAft_pan, putS, updS, setS]); (repeat (rw [wpS_cons]; simp)); (try simp only [wpS_nil, thenD, blockD]))
        (refine hK _ _ _ ?_; clear hK K)
        refine wpD_part rfl (fun _ => ?_) (fun h => by simp at h)
        (refine wpD_region tyOK ?_; ((try simp only [wpAft_ret, wpAft_pan, putS, updS, setS]); (repeat (rw [wpS_cons]; simp [w3])); (try simp only [wpS_nil, thenD, blockD])))
        refine hK2 _ _ _ ?_
        (refine wpD_seqk fun K hK => ?_; refine wpD_region tyOK ?_; ((try simp only [wpAft_ret, wpAft_pan, putS, updS, setS]); (repeat (rw [wpS_cons]; simp [hi1, hi1', hx, hEx])); (try simp only [wpS_nil, thenD, blockD])))
        refine CallX.pure globPure (hrec) ?_ (by simp [D.fgts, D.fgt]) (by simp [D.pures, D.pure, Cp.free, D.pures_map]) (by simp [Out.pure, D.pure, D.pures, Cp.free, D.pures_map])
        ((try simp only [wpAft_ret, wpAft_pan, putS, updS, setS]); (repeat (rw [wpS_cons]; simp)); (try simp only [wpS_nil, thenD, blockD]))
        (refine hK _ _ _ ?_; clear hK K)
        refine wpD_part rfl (fun h => by simp at h) (fun _ => ?_)
        refine wpD_skip (hK1c _ _ _ ?_)
        (try clear hK1c K1c)
        have hw1 : IntKind.i64.wrap ((i1 : Int) + 1) = (i1 : Int) + 1 := i64w (by omega) (by omega)
        (refine wpD_region tyOK ?_; ((try simp only [wpAft_ret, wpAft_pan, putS, updS, setS]); (repeat (rw [wpS_cons]; simp [hw1])); (try simp only [wpS_nil, thenD, blockD])))
        refine hA (n1 - 1) _ _ _ (LeT.refl _) (by omega) (by kernel_rfl) ?_
        exact ⟨i1 + 1, rfl, by omega, rfl⟩
      | false =>
        rw [hbb] at hbi hrk
        rw [if_neg Bool.false_ne_true] at hrk
        have hrec := hrec sc
        rw [hrk] at hrec
        (refine wpD_seqk fun K hK => ?_; refine wpD_region tyOK ?_; ((try simp only [wpAft_ret, wpAft_pan, putS, updS, setS]); (repeat (rw [wpS_cons]; simp)); (try simp only [wpS_nil, thenD, blockD])))
        refine CallX.pure globPure (hbi) ?_ (by simp [D.fgts, D.fgt]) (by simp [D.pures, D.pure, Cp.free, D.pures_map]) (by simp [Out.pure, D.pure, D.pures, Cp.free, D.pures_map])
        ((try simp only [wpAft_ret, wpAft_pan, putS, updS, setS]); (repeat (rw [wpS_cons]; simp)); (try simp only [wpS_nil, thenD, blockD]))
        (refine hK _ _ _ ?_; clear hK K)
        refine wpD_part rfl (fun h => by simp at h) (fun _ => ?_)
        refine wpD_skip (hK2 _ _ _ ?_)
        (refine wpD_seqk fun K hK => ?_; refine wpD_region tyOK ?_; ((try simp only [wpAft_ret, wpAft_pan, putS, updS, setS]); (repeat (rw [wpS_cons]; simp [hi1, hi1', hx, hEx])); (try simp only [wpS_nil, thenD, blockD])))
        refine CallX.pure globPure (hrec) ?_ (by simp [D.fgts, D.fgt]) (by simp [D.pures, D.pure, Cp.free, D.pures_map]) (by simp [Out.pure, D.pure, D.pures, Cp.free, D.pures_map])
        ((try simp only [wpAft_ret, wpAft_pan, putS, updS, setS]); (repeat (rw [wpS_cons]; simp)); (try simp only [wpS_nil, thenD, blockD]))
        (refine hK _ _ _ ?_; clear hK K)
        refine wpD_part rfl (fun h => by simp at h) (fun _ => ?_)
        refine wpD_skip (hK1c _ _ _ ?_)
        (try clear hK1c K1c)
        have hw1 : IntKind.i64.wrap ((i1 : Int) + 1) = (i1 : Int) + 1 := i64w (by omega) (by omega)
        (refine wpD_region tyOK ?_; ((try simp only [wpAft_ret, wpAft_pan, putS, updS, setS]); (repeat (rw [wpS_cons]; simp [hw1])); (try simp only [wpS_nil, thenD, blockD])))
        refine hA (n1 - 1) _ _ _ (LeT.refl _) (by omega) (by kernel_rfl) ?_
        exact ⟨i1 + 1, rfl, by omega, rfl⟩
    · have hi1' : ¬ (i1 : Int) < t.ks.length := by omega
      (refine wpD_seqk fun K hK => ?_; refine wpD_region tyOK ?_; ((try simp only [wpAft_ret, wpAft_pan, putS, updS, setS]); (repeat (rw [wpS_cons]; simp [hi1, hi1'])); (try simp only [wpS_nil, thenD, blockD])); refine hK _ _ _ ?_; clear hK K)
      refine wpD_part rfl (fun h => by simp at h) (fun _ => ?_)
      refine wpD_exit ?_
      refine hK1a _ _ _ ?_
      clear hK1b K1b
      (refine wpD_seqk fun K hK => ?_; refine wpD_drawk tyOK (by kernel_rfl) (by kernel_rfl) fun KT hKT => ?_; ((try simp only [wpAftT_ret, wpAftT_pan, putS, updS, setS]); (repeat (rw [wpT_cons]; simp)); (try simp only [wpT_nil])))
      (refine hKT _ _ _ _ (by kernel_rfl) ?_; clear hKT KT; (try simp only [thenD, blockD]))
      (refine hK _ _ _ ?_; clear hK K)
      refine wpD_fgtT 57 ?_
      simp [D.fgt]
      refine wpD_fgtT 60 ?_
      simp [D.fgt]
      (refine wpD_seqk fun K hK => ?_; refine wpD_region tyOK ?_; ((try simp only [wpAft_ret, wpAft_pan, putS, updS, setS]); (repeat (rw [wpS_cons]; simp [hkl, hkl'])); (try simp only [wpS_nil, thenD, blockD])))
      refine CallX.pure globPure (hv0) ?_ (by simp [D.fgts, D.fgt]) (by simp [D.pures, D.pure, Cp.free, D.pures_map]) (by simp [Out.pure, D.pure, D.pures, Cp.free, D.pures_map])
      ((try simp only [wpAft_ret, wpAft_pan, putS, updS, setS]); (repeat (rw [wpS_cons]; simp [hkl, hkl'])); (try simp only [wpS_nil, thenD, blockD]))
      (refine hK _ _ _ ?_; clear hK K)
      (refine wpD_seqk fun K hK => ?_; refine wpD_region tyOK ?_; ((try simp only [wpAft_ret, wpAft_pan, putS, updS, setS]); (repeat (rw [wpS_cons]; simp)); (try simp only [wpS_nil, thenD, blockD])); refine hK _ _ _ ?_; clear hK K)
      refine wpD_seqk fun K2 hK2 => ?_
      (refine wpD_seqk fun K hK => ?_; refine wpD_region tyOK ?_; ((try simp only [wpAft_ret, wpAft_pan, putS, updS, setS]); (repeat (rw [wpS_cons]; simp)); (try simp only [wpS_nil, thenD, blockD])))
      refine CallX.pure globPure (hlong) ?_ (by simp [D.fgts, D.fgt, hpu2]) (by simp [D.pures, D.pure, Cp.free, D.pures_map, hpu2]) (by simp [Out.pure, D.pure, D.pures, Cp.free, D.pures_map, hpu2])
      ((try simp only [wpAft_ret, wpAft_pan, putS, updS, setS]); (repeat (rw [wpS_cons]; simp)); (try simp only [wpS_nil, thenD, blockD]))
      refine CallX.pure globPure (hodd) ?_ (by simp [D.fgts, D.fgt]) (by simp [D.pures, D.pure, Cp.free, D.pures_map]) (by simp [Out.pure, D.pure, D.pures, Cp.free, D.pures_map])
      ((try simp only [wpAft_ret, wpAft_pan, putS, updS, setS]); (repeat (rw [wpS_cons]; simp)); (try simp only [wpS_nil, thenD, blockD]))
      (refine hK _ _ _ ?_; clear hK K)
      refine wpD_part rfl (fun h => by simp at h) (fun _ => ?_)
      refine wpD_skip (hK2 _ _ _ ?_)
      clear hK2 K2
      refine wpD_seqk fun K2 hK2 => ?_
      by_cases h0 : 0 < t.ks.length
      · have h0' : (0 : Int) < t.ks.length := by omega
        obtain ⟨j, hj⟩ : ∃ j : Nat, j = t.ks.length - 1 := ⟨_, rfl⟩
        have w4 : IntKind.i64.wrap ((t.ks.length : Int) - 1) = (j : Int) := by rw [i64w (by omega) (by omega)]; omega
        have hjl : j ≤ t.ks.length := by omega
        have hjl' : j ≤ t.ks.length + 1 := by omega
        have htk : (t.ks.map encT ++ [encT (vT 0)]).take j = (t.ks.take j).map encT := by
          rw [List.take_append_of_le_length (by rw [List.length_map]; omega), List.map_take]
        rw [← hj] at hcut
        rw [right_len (ks' := t.ks.take j) hB' (by rw [List.length_take]; omega)] at hcut
        (refine wpD_seqk fun K hK => ?_; refine wpD_region tyOK ?_; ((try simp only [wpAft_ret, wpAft_pan, putS, updS, setS]); (repeat (rw [wpS_cons]; simp [h0, h0'])); (try simp only [wpS_nil, thenD, blockD])); refine hK _ _ _ ?_; clear hK K)
        refine wpD_part rfl (fun _ => ?_) (fun h => by simp at h)
        (refine wpD_seqk fun K hK => ?_; refine wpD_region tyOK ?_; ((try simp only [wpAft_ret, wpAft_pan, putS, updS, setS]); (repeat (rw [wpS_cons]; simp [w4, hjl, hjl', htk])); (try simp only [wpS_nil, thenD, blockD])); refine hK _ _ _ ?_; clear hK K)
        have hpu3 : D.pures ((t.ks.map encT).take j) = true := by rw [← List.map_take, D.pures_map]; simp
        (refine wpD_seqk fun K hK => ?_; refine wpD_region tyOK ?_; ((try simp only [wpAft_ret, wpAft_pan, putS, updS, setS]); (repeat (rw [wpS_cons]; simp)); (try simp only [wpS_nil, thenD, blockD])))
        refine CallX.pure globPure (hcut) ?_ (by simp [D.fgts, D.fgt, hpu3]) (by simp [D.pures, D.pure, Cp.free, D.pures_map, hpu3]) (by simp [Out.pure, D.pure, D.pures, Cp.free, D.pures_map, hpu3])
        ((try simp only [wpAft_ret, wpAft_pan, putS, updS, setS]); (repeat (rw [wpS_cons]; simp)); (try simp only [wpS_nil, thenD, blockD]))
        (refine hK _ _ _ ?_; clear hK K)
        (refine wpD_ret ?_; (try simp only [thenD, blockD]); refine EndQ.ret rfl (.inl ?_); simp [tmOf, Out.fgt, D.fgt, D.fgts])
      · have h0' : ¬ (0 : Int) < t.ks.length := by omega
        (refine wpD_seqk fun K hK => ?_; refine wpD_region tyOK ?_; ((try simp only [wpAft_ret, wpAft_pan, putS, updS, setS]); (repeat (rw [wpS_cons]; simp [h0, h0'])); (try simp only [wpS_nil, thenD, blockD])); refine hK _ _ _ ?_; clear hK K)
        refine wpD_part rfl (fun h => by simp at h) (fun _ => ?_)
        refine wpD_skip (hK2 _ _ _ ?_)
        (refine wpD_seqk fun K hK => ?_; refine wpD_region tyOK ?_; ((try simp only [wpAft_ret, wpAft_pan, putS, updS, setS]); (repeat (rw [wpS_cons]; simp)); (try simp only [wpS_nil, thenD, blockD])); refine hK _ _ _ ?_; clear hK K)
        (refine wpD_ret ?_; (try simp only [thenD, blockD]); refine EndQ.ret rfl (.inl ?_); simp [tmOf, Out.fgt, D.fgt, D.fgts])
end Go.Proofs.YtebmlojhdnldgaaDoor

