/-
  level: rows at work (maps of numbers).
-/
import Derived.Test.YtbjgdeednmhpfaaDglob
set_option linter.unusedSimpArgs false
set_option linter.unusedVariables false
set_option maxHeartbeats 10000000
set_option maxRecDepth 20000
namespace Go.Proofs.Ytbjgdeednmhpfaa
open Go.RowKit

abbrev MP := List (Int × Int)
def encE (p : Int × Int) : D × D := (.int .i64 p.1, .int .i64 p.2)
def encM (m : MP) : List (D × D) := m.map encE

def findM (m : MP) (v : Int) : Option Int := (m.find? fun p => decide (v = p.1)).map (·.2)
def updM (v x : Int) : MP → MP
  | [] => []
  | p :: r => if v = p.1 then (p.1, x) :: r else p :: updM v x r
/-- a part put into a row -/
def putM (m : MP) (p : Int × Int) : MP := match findM m p.1 with
  | some k => updM p.1 (max k p.2) m
  | none => m ++ [(p.1, max 0 p.2)]
def badP (p : Int × Int) : Bool := decide (p.1 < 0) || decide (p.2 < 0) || decide (1048576 < p.1) || decide (1048576 < p.2)

/-- what a row at work is: each variable once, all within bounds -/
structure MOK (m : MP) : Prop where
  nd : (m.map (·.1)).Nodup
  v : ∀ p, p ∈ m → 0 ≤ p.1 ∧ p.1 ≤ 1048576
  n : ∀ p, p ∈ m → 0 ≤ p.2 ∧ p.2 ≤ 1048576

theorem nodup_bound : ∀ (k : Nat) (l : List Int), l.Nodup → (∀ x, x ∈ l → 0 ≤ x ∧ x < k) → l.length ≤ k
  | 0, l, _, h => by
    cases l with
    | nil => simp
    | cons x r => have := h x (List.mem_cons_self ..); omega
  | k + 1, l, hn, h => by
    by_cases hk : (k : Int) ∈ l
    · have h1 := nodup_bound k (l.erase (k : Int)) (hn.erase _) (fun x hx => by
        rw [hn.mem_erase_iff] at hx
        have := h x hx.2
        have := hx.1
        omega)
      rw [List.length_erase_of_mem hk] at h1
      have := List.length_pos_of_mem hk
      omega
    · have h1 := nodup_bound k l hn (fun x hx => by
        have := h x hx
        have : x ≠ (k : Int) := fun e => hk (e ▸ hx)
        omega)
      omega

theorem MOK.len {m : MP} (h : MOK m) : m.length ≤ 1048577 := by
  have := nodup_bound 1048577 (m.map (·.1)) h.nd (fun x hx => by
    obtain ⟨p, hp, rfl⟩ := List.mem_map.1 hx
    have := h.v p hp
    omega)
  simpa using this

theorem findM_none {v : Int} : ∀ {m : MP}, findM m v = none → ¬ v ∈ m.map (·.1)
  | [], _ => by simp
  | p :: r, h => by
    unfold findM at h
    rw [List.find?_cons] at h
    by_cases hv : v = p.1
    · simp [hv] at h
    · have h' : findM r v = none := by unfold findM; simpa [hv] using h
      rw [List.map_cons, List.mem_cons]
      exact fun h => h.elim hv (findM_none h')
theorem findM_some {v x : Int} : ∀ {m : MP}, findM m v = some x → (v, x) ∈ m
  | [], h => by cases h
  | p :: r, h => by
    unfold findM at h
    rw [List.find?_cons] at h
    by_cases hv : v = p.1
    · simp [hv] at h
      subst hv; subst h; exact List.mem_cons_self ..
    · have h' : findM r v = some x := by unfold findM; simpa [hv] using h
      exact List.mem_cons_of_mem _ (findM_some h')
theorem updM_keys (v x : Int) : ∀ m : MP, (updM v x m).map (·.1) = m.map (·.1)
  | [] => rfl
  | p :: r => by
    rw [updM]
    split
    · rfl
    · rw [List.map_cons, updM_keys v x r]; rfl
theorem updM_mem {v x : Int} {p : Int × Int} : ∀ {m : MP}, p ∈ updM v x m → p ∈ m ∨ p = (v, x)
  | [], h => .inl h
  | q :: r, h => by
    rw [updM] at h
    split at h
    · rename_i hv
      rcases List.mem_cons.1 h with h | h
      · right; rw [h, hv]
      · left; exact List.mem_cons_of_mem _ h
    · rcases List.mem_cons.1 h with h | h
      · left; rw [h]; exact List.mem_cons_self ..
      · rcases updM_mem h with h | h
        · left; exact List.mem_cons_of_mem _ h
        · right; exact h

theorem putM_ok {m : MP} {p : Int × Int} (h : MOK m) (hp : badP p = false) : MOK (putM m p) := by
  simp only [badP, Bool.or_eq_false_iff, decide_eq_false_iff_not] at hp
  obtain ⟨⟨⟨h1, h2⟩, h3⟩, h4⟩ := hp
  unfold putM
  cases hf : findM m p.1 with
  | some k =>
    have hk := h.n _ (findM_some hf)
    dsimp only at hk ⊢
    refine ⟨by rw [updM_keys]; exact h.nd, fun q hq => ?_, fun q hq => ?_⟩
    · rcases updM_mem hq with hq | rfl
      · exact h.v q hq
      · dsimp only; omega
    · rcases updM_mem hq with hq | rfl
      · exact h.n q hq
      · dsimp only; omega
  | none =>
    refine ⟨?_, fun q hq => ?_, fun q hq => ?_⟩
    · rw [List.map_append]
      refine List.nodup_append.2 ⟨h.nd, by simp, fun a ha b hb => ?_⟩
      simp only [List.map_cons, List.map_nil, List.mem_singleton] at hb
      subst hb
      exact fun e => findM_none hf (e ▸ ha)
    · rcases List.mem_append.1 hq with hq | hq
      · exact h.v q hq
      · rw [List.mem_singleton.1 hq]; dsimp only; omega
    · rcases List.mem_append.1 hq with hq | hq
      · exact h.n q hq
      · rw [List.mem_singleton.1 hq]; dsimp only; omega
theorem MOK.nil : MOK [] := ⟨by simp, (fun p h => by cases h), (fun p h => by cases h)⟩
theorem foldM_ok : ∀ {l : List (Int × Int)} {m : MP}, MOK m → (∀ p, p ∈ l → badP p = false) → MOK (l.foldl putM m)
  | [], m, h, _ => h
  | p :: r, m, h, hb => foldM_ok (l := r) (m := putM m p) (putM_ok h (hb p (List.mem_cons_self ..))) (fun q hq => hb q (List.mem_cons_of_mem _ hq))

def anyBad (l : List (Int × Int)) : Bool := l.any badP

theorem encM_all (m : MP) : ((encM m).all fun p => isIntK .i64 p.1) = true := by simp [encM, encE, isIntK]
theorem encM_find (v : Int) : ∀ m : MP, findD (.int .i64 v) (encM m) = (findM m v).map (.int .i64)
  | [] => rfl
  | p :: r => by
    unfold encM findM
    rw [List.map_cons, findD, List.find?_cons]
    by_cases h : v = p.1
    · simp [keyEq, encE, h]
    · have := encM_find v r
      unfold encM findM at this
      simp [keyEq, encE, h, this]
theorem encM_upd (v x : Int) : ∀ m : MP, updE (.int .i64 v) (.int .i64 x) (encM m) = encM (updM v x m)
  | [] => rfl
  | p :: r => by
    unfold encM
    rw [List.map_cons, updE, updM]
    by_cases h : v = p.1
    · simp [keyEq, encE, h]
    · have := encM_upd v x r
      unfold encM at this
      simp [keyEq, encE, h, this]
theorem encM_push (m : MP) (v x : Int) : encM m ++ [((.int .i64 v : D), (.int .i64 x : D))] = encM (m ++ [(v, x)]) := by simp [encM, encE]
theorem encM_length (m : MP) : (encM m).length = m.length := by simp [encM]
theorem updM_length (v x : Int) : ∀ m : MP, (updM v x m).length = m.length
  | [] => rfl
  | p :: r => by rw [updM]; split <;> simp [updM_length v x r]
theorem putM_length (m : MP) (p : Int × Int) : (putM m p).length ≤ m.length + 1 := by
  unfold putM
  split
  · rw [updM_length]; omega
  · simp
theorem putAllM_length (l : List (Int × Int)) : ∀ m : MP, (l.foldl putM m).length ≤ m.length + l.length := by
  induction l with
  | nil => intro m; simp
  | cons p r ih => intro m; rw [List.foldl_cons]; have := ih (putM m p); have := putM_length m p; simp; omega

@[simp high] theorem encM_okN1 (p : Nat → Bool) (m : MP) : D.okNs p ((encM m).map (·.1)) = true := by
  induction m with
  | nil => rfl
  | cons x r ih => simp only [encM, List.map_cons, D.okNs, encE, D.okN] at ih ⊢; simpa using ih
@[simp high] theorem encM_okN2 (p : Nat → Bool) (m : MP) : D.okNs p ((encM m).map (·.2)) = true := by
  induction m with
  | nil => rfl
  | cons x r ih => simp only [encM, List.map_cons, D.okNs, encE, D.okN] at ih ⊢; simpa using ih
@[simp high] theorem encM_ren (σ : Nat → Nat) (m : MP) : (encM m).map (fun e => (D.ren σ e.1, D.ren σ e.2)) = encM m := by
  induction m with
  | nil => rfl
  | cons x r ih => simp only [encM, List.map_cons, encE, D.ren] at ih ⊢; rw [ih]

def noneD : D := .iface 58 (.agg [])

theorem rowPut_spec (l : List (Int × Int)) (m : MP) (hl : l.length ≤ LMax) (hm : MOK m) : Spec Try.prog glob 31 [.agg [.map 0], Ps l] [.mp (encM m)]
    (fun o hc => if anyBad l then o = .pan noneD ∧ ∃ m', hc = [.mp (encM m')] else o.fgt = .ret (.tuple []) ∧ hc = [.mp (encM (l.foldl putM m))]) := by
  refine Spec.movd globPure (wpD_spec tyOK Try.func31 rfl (enters _ _ Try.func31 rfl (by decide)) rfl rfl ?_)
  unfold Ps
  (refine wpD_seqk fun K hK => ?_; refine wpD_region tyOK ?_; ((try simp only [wpAft_ret, wpAft_pan, putS, updS, setS]); (repeat (rw [wpS_cons]; simp [wpAft_ret, wpAft_pan, wantD, evOp, opD, tmOf, putS, updS, setS, hOf, isFree, isTok, fillD, TK.isAgg, TK.known, partD, thenD, blockD, putAll, D.ofV, inB, binX, binD, binE, isCst, bndD, capB, IntKind.min, IntKind.max, IntKind.signed, IntKind.bits, dstOf])); (try simp only [wpS_nil, thenD, blockD])); refine hK _ _ _ ?_; clear hK K)
  (refine wpD_seqk fun K hK => ?_; refine wpD_region tyOK ?_; ((try simp only [wpAft_ret, wpAft_pan, putS, updS, setS]); (repeat (rw [wpS_cons]; simp [wpAft_ret, wpAft_pan, wantD, evOp, opD, tmOf, putS, updS, setS, hOf, isFree, isTok, fillD, TK.isAgg, TK.known, partD, thenD, blockD, putAll, D.ofV, inB, binX, binD, binE, isCst, bndD, capB, IntKind.min, IntKind.max, IntKind.signed, IntKind.bits, dstOf])); (try simp only [wpS_nil, thenD, blockD])); refine hK _ _ _ ?_; clear hK K)
  refine wpD_range tyOK globPure (ti := 3) (tk := 8) (tn := 7) (td := 9) (ts := 44) [5, 8, 9, 10, 11, 12, 13, 14, 15, 16, 17, 18, 19, 20, 21, 22, 23, 24, 25, 26, 27, 28, 29, 30, 31, 32, 33, 34, 35, 36, 37, 38, 39, 40, 41, 42, 43, 44] (l.length) (fun k ys hl => ∃ (m' : MP) (x5 x8 x9 x10 x11 x12 x13 x14 x15 x16 x17 x18 x19 x20 x21 x22 x23 x24 x25 x26 x27 x28 x29 x30 x31 x32 x33 x34 x35 x36 x37 x38 x39 x40 x41 x42 x43 x44 : D), ys = [x5, x8, x9, x10, x11, x12, x13, x14, x15, x16, x17, x18, x19, x20, x21, x22, x23, x24, x25, x26, x27, x28, x29, x30, x31, x32, x33, x34, x35, x36, x37, x38, x39, x40, x41, x42, x43, x44] ∧ anyBad l = anyBad (l.drop k) ∧ (l.drop k).foldl putM m' = l.foldl putM m ∧ MOK m' ∧ hl = [.mp (encM m'), .cells 48 [.map 0]]) rfl rfl rfl rfl rfl rfl rfl rfl rfl rfl rfl rfl (by simp) (by decide) rfl (by first | assumption | omega | (unfold LMax; omega)) rfl (by kernel_rfl) (by decide) ?_ ?_ ?_
  · exact ⟨m, _, _, _, _, _, _, _, _, _, _, _, _, _, _, _, _, _, _, _, _, _, _, _, _, _, _, _, _, _, _, _, _, _, _, _, _, _, _, rfl, rfl, rfl, hm, rfl⟩
  · rintro k ys hl A hk ⟨m', x5, x8, x9, x10, x11, x12, x13, x14, x15, x16, x17, x18, x19, x20, x21, x22, x23, x24, x25, x26, x27, x28, x29, x30, x31, x32, x33, x34, x35, x36, x37, x38, x39, x40, x41, x42, x43, x44, rfl, hb, hf, hml, rfl⟩ hA hA2
    simp only [putAll, List.set]
    (refine wpD_seqk fun K hK => ?_; refine wpD_region tyOK ?_; ((try simp only [wpAft_ret, wpAft_pan, putS, updS, setS]); (repeat (rw [wpS_cons]; simp [wpAft_ret, wpAft_pan, wantD, evOp, opD, tmOf, putS, updS, setS, hOf, isFree, isTok, fillD, TK.isAgg, TK.known, partD, thenD, blockD, putAll, D.ofV, inB, binX, binD, binE, isCst, bndD, capB, IntKind.min, IntKind.max, IntKind.signed, IntKind.bits, dstOf, hk, encP])); (try simp only [wpS_nil, thenD, blockD])); refine hK _ _ _ ?_; clear hK K)
    refine wpD_seqk fun K1 hK1 => ?_
    have hd : l.drop k = l[k] :: l.drop (k + 1) := List.drop_eq_getElem_cons hk
    cases hbad : badP l[k] with
    | true =>
      have hall : anyBad l = true := by rw [hb, hd, anyBad, List.any_cons, hbad]; rfl
      rw [hall]
      simp only [if_true]
      have fin : True := trivial
      by_cases h1 : l[k].1 < 0
      · (refine wpD_seqk fun K hK => ?_; refine wpD_region tyOK ?_; ((try simp only [wpAft_ret, wpAft_pan, putS, updS, setS]); (repeat (rw [wpS_cons]; simp [wpAft_ret, wpAft_pan, wantD, evOp, opD, tmOf, putS, updS, setS, hOf, isFree, isTok, fillD, TK.isAgg, TK.known, partD, thenD, blockD, putAll, D.ofV, inB, binX, binD, binE, isCst, bndD, capB, IntKind.min, IntKind.max, IntKind.signed, IntKind.bits, dstOf, h1])); (try simp only [wpS_nil, thenD, blockD])); refine hK _ _ _ ?_; clear hK K)
        refine wpD_part rfl (fun _ => ?_) (fun h => by simp at h)
        (refine wpD_region tyOK ?_; ((try simp only [wpAft_ret, wpAft_pan, putS, updS, setS]); (repeat (rw [wpS_cons]; simp [wpAft_ret, wpAft_pan, wantD, evOp, opD, tmOf, putS, updS, setS, hOf, isFree, isTok, fillD, TK.isAgg, TK.known, partD, thenD, blockD, putAll, D.ofV, inB, binX, binD, binE, isCst, bndD, capB, IntKind.min, IntKind.max, IntKind.signed, IntKind.bits, dstOf])); (try simp only [wpS_nil, thenD, blockD])))
        ((try simp only [thenD, blockD]); refine EndQ.pan (.inr ⟨[], by decide, by simp, ?_⟩); simp [Out.mov, movT, movH, movD, D.mov, HO.mov, okM, renM, getW, D.ren, D.rens, D.okN, D.okNs, Cp.ren, Cp.okN, HO.ren, HO.okN, okA, renA, renO, hOf, handed, D.fgt, D.fgts, List.range_succ, List.idxOf_cons, tmOf, Out.fgt, D.fgt, D.fgts])
        exact ⟨rfl, m', rfl⟩
      · by_cases h2 : l[k].2 < 0
        · (refine wpD_seqk fun K hK => ?_; refine wpD_region tyOK ?_; ((try simp only [wpAft_ret, wpAft_pan, putS, updS, setS]); (repeat (rw [wpS_cons]; simp [wpAft_ret, wpAft_pan, wantD, evOp, opD, tmOf, putS, updS, setS, hOf, isFree, isTok, fillD, TK.isAgg, TK.known, partD, thenD, blockD, putAll, D.ofV, inB, binX, binD, binE, isCst, bndD, capB, IntKind.min, IntKind.max, IntKind.signed, IntKind.bits, dstOf, h1, h2])); (try simp only [wpS_nil, thenD, blockD])); refine hK _ _ _ ?_; clear hK K)
          refine wpD_part rfl (fun _ => ?_) (fun h => by simp at h)
          (refine wpD_region tyOK ?_; ((try simp only [wpAft_ret, wpAft_pan, putS, updS, setS]); (repeat (rw [wpS_cons]; simp [wpAft_ret, wpAft_pan, wantD, evOp, opD, tmOf, putS, updS, setS, hOf, isFree, isTok, fillD, TK.isAgg, TK.known, partD, thenD, blockD, putAll, D.ofV, inB, binX, binD, binE, isCst, bndD, capB, IntKind.min, IntKind.max, IntKind.signed, IntKind.bits, dstOf])); (try simp only [wpS_nil, thenD, blockD])))
          ((try simp only [thenD, blockD]); refine EndQ.pan (.inr ⟨[], by decide, by simp, ?_⟩); simp [Out.mov, movT, movH, movD, D.mov, HO.mov, okM, renM, getW, D.ren, D.rens, D.okN, D.okNs, Cp.ren, Cp.okN, HO.ren, HO.okN, okA, renA, renO, hOf, handed, D.fgt, D.fgts, List.range_succ, List.idxOf_cons, tmOf, Out.fgt, D.fgt, D.fgts])
          exact ⟨rfl, m', rfl⟩
        · by_cases h3 : 1048576 < l[k].1
          · (refine wpD_seqk fun K hK => ?_; refine wpD_region tyOK ?_; ((try simp only [wpAft_ret, wpAft_pan, putS, updS, setS]); (repeat (rw [wpS_cons]; simp [wpAft_ret, wpAft_pan, wantD, evOp, opD, tmOf, putS, updS, setS, hOf, isFree, isTok, fillD, TK.isAgg, TK.known, partD, thenD, blockD, putAll, D.ofV, inB, binX, binD, binE, isCst, bndD, capB, IntKind.min, IntKind.max, IntKind.signed, IntKind.bits, dstOf, h1, h2, h3])); (try simp only [wpS_nil, thenD, blockD])); refine hK _ _ _ ?_; clear hK K)
            refine wpD_part rfl (fun _ => ?_) (fun h => by simp at h)
            (refine wpD_region tyOK ?_; ((try simp only [wpAft_ret, wpAft_pan, putS, updS, setS]); (repeat (rw [wpS_cons]; simp [wpAft_ret, wpAft_pan, wantD, evOp, opD, tmOf, putS, updS, setS, hOf, isFree, isTok, fillD, TK.isAgg, TK.known, partD, thenD, blockD, putAll, D.ofV, inB, binX, binD, binE, isCst, bndD, capB, IntKind.min, IntKind.max, IntKind.signed, IntKind.bits, dstOf])); (try simp only [wpS_nil, thenD, blockD])))
            ((try simp only [thenD, blockD]); refine EndQ.pan (.inr ⟨[], by decide, by simp, ?_⟩); simp [Out.mov, movT, movH, movD, D.mov, HO.mov, okM, renM, getW, D.ren, D.rens, D.okN, D.okNs, Cp.ren, Cp.okN, HO.ren, HO.okN, okA, renA, renO, hOf, handed, D.fgt, D.fgts, List.range_succ, List.idxOf_cons, tmOf, Out.fgt, D.fgt, D.fgts])
            exact ⟨rfl, m', rfl⟩
          · have h4 : 1048576 < l[k].2 := by simpa [badP, h1, h2, h3] using hbad
            (refine wpD_seqk fun K hK => ?_; refine wpD_region tyOK ?_; ((try simp only [wpAft_ret, wpAft_pan, putS, updS, setS]); (repeat (rw [wpS_cons]; simp [wpAft_ret, wpAft_pan, wantD, evOp, opD, tmOf, putS, updS, setS, hOf, isFree, isTok, fillD, TK.isAgg, TK.known, partD, thenD, blockD, putAll, D.ofV, inB, binX, binD, binE, isCst, bndD, capB, IntKind.min, IntKind.max, IntKind.signed, IntKind.bits, dstOf, h1, h2, h3, h4])); (try simp only [wpS_nil, thenD, blockD])); refine hK _ _ _ ?_; clear hK K)
            refine wpD_part rfl (fun _ => ?_) (fun h => by simp at h)
            (refine wpD_region tyOK ?_; ((try simp only [wpAft_ret, wpAft_pan, putS, updS, setS]); (repeat (rw [wpS_cons]; simp [wpAft_ret, wpAft_pan, wantD, evOp, opD, tmOf, putS, updS, setS, hOf, isFree, isTok, fillD, TK.isAgg, TK.known, partD, thenD, blockD, putAll, D.ofV, inB, binX, binD, binE, isCst, bndD, capB, IntKind.min, IntKind.max, IntKind.signed, IntKind.bits, dstOf])); (try simp only [wpS_nil, thenD, blockD])))
            ((try simp only [thenD, blockD]); refine EndQ.pan (.inr ⟨[], by decide, by simp, ?_⟩); simp [Out.mov, movT, movH, movD, D.mov, HO.mov, okM, renM, getW, D.ren, D.rens, D.okN, D.okNs, Cp.ren, Cp.okN, HO.ren, HO.okN, okA, renA, renO, hOf, handed, D.fgt, D.fgts, List.range_succ, List.idxOf_cons, tmOf, Out.fgt, D.fgt, D.fgts])
            exact ⟨rfl, m', rfl⟩
    | false =>
      have hbad' := hbad
      simp only [badP, Bool.or_eq_false_iff, decide_eq_false_iff_not] at hbad'
      obtain ⟨⟨⟨h1, h2⟩, h3⟩, h4⟩ := hbad'
      (refine wpD_seqk fun K hK => ?_; refine wpD_region tyOK ?_; ((try simp only [wpAft_ret, wpAft_pan, putS, updS, setS]); (repeat (rw [wpS_cons]; simp [wpAft_ret, wpAft_pan, wantD, evOp, opD, tmOf, putS, updS, setS, hOf, isFree, isTok, fillD, TK.isAgg, TK.known, partD, thenD, blockD, putAll, D.ofV, inB, binX, binD, binE, isCst, bndD, capB, IntKind.min, IntKind.max, IntKind.signed, IntKind.bits, dstOf, h1, h2, h3, h4])); (try simp only [wpS_nil, thenD, blockD])); refine hK _ _ _ ?_; clear hK K)
      refine wpD_part rfl (fun h => by simp at h) (fun _ => ?_)
      refine wpD_skip (hK1 _ _ _ ?_)
      clear hK1 K1
      have e1 := encM_all m'
      have e2 := encM_find l[k].1 m'
      have hlt : m'.length < LMax := by have := hml.len; unfold LMax; omega
      cases hf0 : findM m' l[k].1 with
      | none =>
        (refine wpD_region tyOK ?_; ((try simp only [wpAft_ret, wpAft_pan, putS, updS, setS]); (repeat (rw [wpS_cons]; simp [wpAft_ret, wpAft_pan, wantD, evOp, opD, tmOf, putS, updS, setS, hOf, isFree, isTok, fillD, TK.isAgg, TK.known, partD, thenD, blockD, putAll, D.ofV, inB, binX, binD, binE, isCst, bndD, capB, IntKind.min, IntKind.max, IntKind.signed, IntKind.bits, dstOf, e1, e2, hf0, encM_length, hlt])); (try simp only [wpS_nil, thenD, blockD])))
        rw [encM_push]
        (refine hA2 ([1]) _ _ (by decide) (by simp) (by simp [movT, movH, movD, D.mov, HO.mov, okM, renM, getW, D.ren, D.rens, D.okN, D.okNs, Cp.ren, Cp.okN, HO.ren, HO.okN, okA, renA, renO, hOf, handed, D.fgt, D.fgts, List.range_succ, List.idxOf_cons, putAll]) ?_ rfl; simp [movT, movH, movD, D.mov, HO.mov, okM, renM, getW, D.ren, D.rens, D.okN, D.okNs, Cp.ren, Cp.okN, HO.ren, HO.okN, okA, renA, renO, hOf, handed, D.fgt, D.fgts, List.range_succ, List.idxOf_cons])
        have hp : putM m' l[k] = m' ++ [(l[k].1, max 0 l[k].2)] := by unfold putM; rw [hf0]
        refine ⟨by rw [hb, hd, anyBad, List.any_cons, hbad]; rfl, _, ?_, ?_, by rw [← hp]⟩
        · rw [← hf, hd, List.foldl_cons]
        · exact putM_ok hml hbad
      | some x =>
        (refine wpD_region tyOK ?_; ((try simp only [wpAft_ret, wpAft_pan, putS, updS, setS]); (repeat (rw [wpS_cons]; simp [wpAft_ret, wpAft_pan, wantD, evOp, opD, tmOf, putS, updS, setS, hOf, isFree, isTok, fillD, TK.isAgg, TK.known, partD, thenD, blockD, putAll, D.ofV, inB, binX, binD, binE, isCst, bndD, capB, IntKind.min, IntKind.max, IntKind.signed, IntKind.bits, dstOf, e1, e2, hf0, encM_length, hlt])); (try simp only [wpS_nil, thenD, blockD])))
        rw [encM_upd]
        (refine hA2 ([1]) _ _ (by decide) (by simp) (by simp [movT, movH, movD, D.mov, HO.mov, okM, renM, getW, D.ren, D.rens, D.okN, D.okNs, Cp.ren, Cp.okN, HO.ren, HO.okN, okA, renA, renO, hOf, handed, D.fgt, D.fgts, List.range_succ, List.idxOf_cons, putAll]) ?_ rfl; simp [movT, movH, movD, D.mov, HO.mov, okM, renM, getW, D.ren, D.rens, D.okN, D.okNs, Cp.ren, Cp.okN, HO.ren, HO.okN, okA, renA, renO, hOf, handed, D.fgt, D.fgts, List.range_succ, List.idxOf_cons])
        have hp : putM m' l[k] = updM l[k].1 (max x l[k].2) m' := by unfold putM; rw [hf0]
        refine ⟨by rw [hb, hd, anyBad, List.any_cons, hbad]; rfl, _, ?_, ?_, by rw [← hp]⟩
        · rw [← hf, hd, List.foldl_cons]
        · exact putM_ok hml hbad
  · rintro ys hl ⟨m', x5, x8, x9, x10, x11, x12, x13, x14, x15, x16, x17, x18, x19, x20, x21, x22, x23, x24, x25, x26, x27, x28, x29, x30, x31, x32, x33, x34, x35, x36, x37, x38, x39, x40, x41, x42, x43, x44, rfl, hb, hf, hml, rfl⟩
    simp only [putAll, List.set]
    have hall : anyBad l = false := by rw [hb, List.drop_length]; rfl
    rw [List.drop_length, List.foldl_nil] at hf
    rw [hall, hf]
    ((try simp only [thenD, blockD]); refine EndQ.nrm rfl (.inr ⟨[], by decide, by simp, ?_⟩); simp [Out.mov, movT, movH, movD, D.mov, HO.mov, okM, renM, getW, D.ren, D.rens, D.okN, D.okNs, Cp.ren, Cp.okN, HO.ren, HO.okN, okA, renA, renO, hOf, handed, D.fgt, D.fgts, List.range_succ, List.idxOf_cons, tmOf, Out.fgt, D.fgt, D.fgts])
end Go.Proofs.Ytbjgdeednmhpfaa
