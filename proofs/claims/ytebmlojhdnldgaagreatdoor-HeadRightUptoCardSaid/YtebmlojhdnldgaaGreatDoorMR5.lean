/-
  MR5: the texts Tsm Tpla Ccl Hdd Tok Hrp Hdp Ddp Hen Hk Hdl Hs Ho Hw, one behind the other.
-/
import Derived.Test.YtebmlojhdnldgaaGreatDoorMR4
namespace Go.Proofs.YtebmlojhdnldgaaGreatDoor
set_option linter.unusedSimpArgs false
set_option linter.unusedVariables false
set_option maxHeartbeats 10000000
set_option maxRecDepth 20000
open Go.RowKit
attribute [local simp] wpAft_ret wpAft_pan wantD evOp opD tmOf putS updS setS hOf isFree isTok fillD TK.isAgg TK.known partD thenD blockD putAll D.ofV inB nilTest isNilS binX binD binE isCst bndD capB IntKind.min IntKind.max IntKind.signed IntKind.bits dstOf late
def eqAll {α : Type} (p : α → α → Bool) : List α → List α → Bool
  | [], [] => true
  | a :: r, b :: s => p a b && eqAll p r s
  | _, _ => false
theorem eqAll_len {α : Type} {p : α → α → Bool} : ∀ {l m : List α}, l.length ≠ m.length → eqAll p l m = false
  | [], [], h => absurd rfl h
  | [], _ :: _, _ => rfl
  | _ :: _, [], _ => rfl
  | a :: r, b :: s, h => by
    rw [eqAll, eqAll_len (l := r) (m := s) (by simpa using h), Bool.and_false]
theorem eqAll_drop {α : Type} {p : α → α → Bool} {l m : List α} {k : Nat} (h : k < l.length) (h' : k < m.length) : eqAll p (l.drop k) (m.drop k) = (p l[k] m[k] && eqAll p (l.drop (k + 1)) (m.drop (k + 1))) := by
  rw [List.drop_eq_getElem_cons h, List.drop_eq_getElem_cons h', eqAll]
def sameLs : List LV → List LV → Bool
  | [], [] => true
  | a :: r, b :: s => decide (normOf a = normOf b) && sameLs r s
  | _, _ => false
mutual
def T.sameB : T → T → Bool
  | .mk k n a ls ks, .mk k' n' a' ls' ks' => decide (k = k') && decide (n = n') && decide (a = a') && sameLs ls ls' && T.samesB ks ks'
def T.samesB : List T → List T → Bool
  | [], [] => true
  | a :: r, b :: s => T.sameB a b && T.samesB r s
  | [], _ :: _ => false
  | _ :: _, [] => false
end
end Go.Proofs.YtebmlojhdnldgaaGreatDoor

namespace Go.Proofs.YtebmlojhdnldgaaGreatDoor
set_option linter.unusedSimpArgs false
set_option linter.unusedVariables false
open Go.RowKit
mutual
/-- all variables from 0 to 1000 -/
def T.tameB : T → Bool
  | .mk k n _ _ ks => !(decide (k = 1) && (decide (n < 0) || decide (1000 < n))) && T.tamesB ks
def T.tamesB : List T → Bool
  | [] => true
  | t :: r => T.tameB t && T.tamesB r
end
theorem walk_inr {f : Turn} {k n a : Int} {ls : List LV} {ks : List T} {d : Int} {x : Int × List LV} (h : f d (.mk k n a ls ks) = .inr x) : T.walk f (.mk k n a ls ks) d = .mk k x.1 a x.2 (T.walks f k ks 0 d) := by rw [T.walk, h]
theorem walk_inl {f : Turn} {k n a : Int} {ls : List LV} {ks : List T} {d : Int} {u : T} (h : f d (.mk k n a ls ks) = .inl u) : T.walk f (.mk k n a ls ks) d = u := by rw [T.walk, h]
theorem walk_lift (m fr k n a : Int) (ls : List LV) (ks : List T) (d : Int) : T.walk (liftTurn m fr) (.mk k n a ls ks) d = .mk k (liftNum m fr d k n) a ls (T.walks (liftTurn m fr) k ks 0 d) := by rw [T.walk]; rfl
mutual
theorem T.lift_zero_aux (fr : Int) : ∀ (t : T) (d : Int), okT t → T.walk (liftTurn 0 fr) t d = t
  | .mk k n a ls ks, d, h => by
    rw [walk_lift, T.lifts_zero_aux fr k ks 0 d h.ks]
    have hn := h.n
    simp only [T.n_mk] at hn
    unfold I64 at hn
    have : liftNum 0 fr d k n = n := by
      unfold liftNum
      split
      · rw [Int.add_zero, i64w hn.1 hn.2]
      · rfl
    rw [this]
theorem T.lifts_zero_aux (fr k : Int) : ∀ (ks : List T) (i : Nat) (d : Int), (∀ t, t ∈ ks → okT t) → T.walks (liftTurn 0 fr) k ks i d = ks
  | [], _, _, _ => by rw [T.walks]
  | t :: r, i, d, h => by
    rw [T.walks, T.lift_zero_aux fr t _ (h t List.mem_cons_self), T.lifts_zero_aux fr k r (i + 1) d (fun t ht => h t (List.mem_cons_of_mem _ ht))]
end
theorem lift_zero {t : T} (h : okT t) (fr : Int) : t.lift 0 fr 0 = t := T.lift_zero_aux fr t 0 h
/-! sizes -/
mutual
theorem sz_lift (n fr : Int) : ∀ (t : T) (d : Int), (T.walk (liftTurn n fr) t d).sz = t.sz
  | .mk k m a ls ks, d => by rw [walk_lift, T.sz, T.sz, szs_lift n fr k ks 0 d 1]
theorem szs_lift (n fr k : Int) : ∀ (ks : List T) (i : Nat) (d s : Int), T.szs (T.walks (liftTurn n fr) k ks i d) s = T.szs ks s
  | [], _, _, _ => by rw [T.walks]
  | t :: r, i, d, s => by rw [T.walks, T.szs, T.szs, sz_lift n fr t, szs_lift n fr k r]
end
mutual
theorem free_none (lo : Int) : ∀ (t : T) (d : Int), t.freeB lo lo d = false
  | .mk k n a ls ks, d => by
    rw [T.freeB, frees_none lo k ks 0 d]
    simp [hitB]
theorem frees_none (lo k : Int) : ∀ (ks : List T) (i : Nat) (d : Int), T.freesB lo lo k ks i d = false
  | [], _, _ => by rw [T.freesB]
  | t :: r, i, d => by rw [T.freesB, free_none lo t, frees_none lo k r]; rfl
end
/-! what is the same -/
theorem sameLs_refl : ∀ l : List LV, sameLs l l = true
  | [] => rfl
  | a :: r => by rw [sameLs, sameLs_refl r]; simp
mutual
theorem T.same_refl : ∀ t : T, T.sameB t t = true
  | .mk k n a ls ks => by rw [T.sameB, sameLs_refl, T.sames_refl ks]; simp
theorem T.sames_refl : ∀ ks : List T, T.samesB ks ks = true
  | [] => by rw [T.samesB]
  | t :: r => by rw [T.samesB, T.same_refl t, T.sames_refl r]; rfl
end
theorem T.same_mk {k n a k' n' a' : Int} {ls ls' : List LV} {ks ks' : List T} : T.sameB (.mk k n a ls ks) (.mk k' n' a' ls' ks') = true ↔ k = k' ∧ n = n' ∧ a = a' ∧ sameLs ls ls' = true ∧ T.samesB ks ks' = true := by
  rw [T.sameB]; simp [and_assoc]
theorem putTurn_in {bys : List T} {d : Int} {t : T} (h1 : t.k = 1 ∧ d ≤ t.n) (h : (t.n - d).toNat < bys.length) : putTurn bys d t = .inl ((bys[bys.length - 1 - (t.n - d).toNat]'(by omega)).lift d 0 0) := by
  unfold putTurn; rw [if_pos h1, dif_pos h]
theorem putTurn_over {bys : List T} {d : Int} {t : T} (h1 : t.k = 1 ∧ d ≤ t.n) (h : ¬ (t.n - d).toNat < bys.length) : putTurn bys d t = .inr (IntKind.i64.wrap (t.n - bys.length), t.ls) := by
  unfold putTurn; rw [if_pos h1, dif_neg h]
theorem putTurn_low {bys : List T} {d : Int} {t : T} (h1 : ¬ (t.k = 1 ∧ d ≤ t.n)) : putTurn bys d t = .inr (t.n, t.ls) := by
  unfold putTurn; rw [if_neg h1]
mutual
theorem sz_same : ∀ (t u : T), T.sameB t u = true → t.sz = u.sz
  | .mk k n a ls ks, .mk k' n' a' ls' ks', h => by
    obtain ⟨_, _, _, _, h5⟩ := T.same_mk.1 h
    rw [T.sz, T.sz, szs_same ks ks' 1 h5]
theorem szs_same : ∀ (ks ks' : List T) (n : Int), T.samesB ks ks' = true → T.szs ks n = T.szs ks' n
  | [], [], n, _ => rfl
  | [], _ :: _, _, h => by simp [T.samesB] at h
  | _ :: _, [], _, h => by simp [T.samesB] at h
  | t :: r, u :: s, n, h => by
    rw [T.samesB, Bool.and_eq_true] at h
    rw [T.szs, T.szs, sz_same t u h.1, szs_same r s _ h.2]
end
end Go.Proofs.YtebmlojhdnldgaaGreatDoor

namespace Go.Proofs.YtebmlojhdnldgaaGreatDoor
set_option linter.unusedSimpArgs false
set_option linter.unusedVariables false
open Go.RowKit
theorem coreKs_iff {n : Int} {cs : List Int} {k sc : Int} : ∀ {ks : List T} {i : Nat}, coreKs n cs ks k i sc = true ↔ ∀ j (h : j < ks.length), coreB n cs ks[j] (belowD sc k ((i + j : Nat) : Int)) = true
  | [], i => by rw [coreKs]; simp
  | t :: r, i => by
    rw [coreKs, Bool.and_eq_true, coreKs_iff (ks := r)]
    constructor
    · rintro ⟨h1, h2⟩ j hj
      cases j with
      | zero => exact h1
      | succ j =>
        have := h2 j (by simpa using hj)
        rw [show i + 1 + j = i + (j + 1) by omega] at this
        exact this
    · intro h
      refine ⟨h 0 (by simp), fun j hj => ?_⟩
      have := h (j + 1) (by simpa using hj)
      rw [show i + (j + 1) = i + 1 + j by omega] at this
      exact this
theorem core_mk {n : Int} {cs : List Int} {k m a : Int} {ls : List LV} {ks : List T} {sc : Int} : coreB n cs (.mk k m a ls ks) sc = true ↔ nodeB n sc cs (.mk k m a ls ks) = true ∧ ∀ j (h : j < ks.length), coreB n cs ks[j] (belowD sc k (j : Int)) = true := by
  rw [coreB, Bool.and_eq_true, coreKs_iff]
  simp only [Nat.zero_add]
theorem belowD_in {d k i : Int} (h : -1000000000000000 ≤ d) (h2 : d ≤ 1000000000000000) : belowD d k i = if bindsB k i then d + 1 else d := by
  unfold belowD
  split
  · rw [i64w (by omega) (by omega)]
  · rfl
theorem belowD_le {d k i : Int} (h : -1000000000000000 ≤ d) (h2 : d ≤ 1000000000000000) : d ≤ belowD d k i ∧ belowD d k i ≤ d + 1 := by
  rw [belowD_in h h2]; split <;> omega
theorem belowD_add {d c k i : Int} (h1 : 0 ≤ d) (h2 : 0 ≤ c) (h : d + c ≤ 1000000000000000) : belowD (d + c) k i = belowD d k i + c := by
  rw [belowD_in (by omega) (by omega), belowD_in (by omega) (by omega)]
  split <;> omega
theorem ask_ks {n sc : Int} {cs : List Int} {k m a : Int} {ls : List LV} (ks ks' : List T) : askC n sc cs (.mk k m a ls ks) = askC n sc cs (.mk k m a ls ks') := rfl
theorem node_iff {n sc : Int} {cs : List Int} {t : T} : nodeB n sc cs t = true ↔ inCore t.k = true ∧ askC n sc cs t = true ∧ (t.ks.length : Int) = askN t.k t.a := by
  unfold nodeB
  simp only [Bool.and_eq_true, decide_eq_true_eq, and_assoc]
theorem variableB_iff {sc : Int} {t : T} : variableB sc t = true ↔ 0 ≤ t.n ∧ t.n < sc ∧ t.a = 0 ∧ t.ls = [] := by
  unfold variableB
  simp only [Bool.and_eq_true, decide_eq_true_eq, and_assoc]
theorem node_var {n sc : Int} {cs : List Int} {m a : Int} {ls : List LV} {ks : List T} : nodeB n sc cs (.mk 1 m a ls ks) = true ↔ 0 ≤ m ∧ m < sc ∧ a = 0 ∧ ls = [] ∧ ks = [] := by
  rw [node_iff, askC, if_pos (show (T.mk 1 m a ls ks).k = 1 from rfl), variableB_iff]
  simp only [T.k_mk, T.n_mk, T.a_mk, T.ls_mk, T.ks_mk]
  have e : askN 1 a = 0 := rfl
  rw [e]
  constructor
  · rintro ⟨-, ⟨h1, h2, h3, h4⟩, h5⟩
    exact ⟨h1, h2, h3, h4, List.length_eq_zero_iff.1 (by omega)⟩
  · rintro ⟨h1, h2, h3, h4, rfl⟩
    exact ⟨rfl, ⟨h1, h2, h3, h4⟩, rfl⟩
theorem node_sc {n sc sc' : Int} {cs : List Int} {t : T} (hk : t.k ≠ 1) : nodeB n sc cs t = nodeB n sc' cs t := by
  have : askC n sc cs t = askC n sc' cs t := by unfold askC; rw [if_neg hk, if_neg hk]
  unfold nodeB
  rw [this]
/-- only how many kids there are matters -/
theorem node_ks {n sc : Int} {cs : List Int} {k m a : Int} {ls : List LV} {ks ks' : List T} (h : ks.length = ks'.length) : nodeB n sc cs (.mk k m a ls ks) = nodeB n sc cs (.mk k m a ls ks') := by
  rw [Bool.eq_iff_iff, node_iff, node_iff, ask_ks ks ks']
  simp only [T.k_mk, T.ks_mk, T.a_mk, h]
theorem levelRight_mono {l : LV} {n n' : Int} (h : n ≤ n') (hr : levelRight l n = true) : levelRight l n' = true := by
  unfold levelRight at hr ⊢
  simp only [Bool.and_eq_true, Bool.not_eq_true', List.any_eq_false] at hr ⊢
  refine ⟨hr.1, fun p hp => ?_⟩
  have := hr.2 p hp
  unfold partBad at this ⊢
  simp at this ⊢
  omega
theorem all_right_mono {ls : List LV} {n n' : Int} (h : n ≤ n') (hr : (ls.all fun l => levelRight l n) = true) : (ls.all fun l => levelRight l n') = true := by
  rw [List.all_eq_true] at hr ⊢
  exact fun l hl => levelRight_mono h (hr l hl)
/-- more constants: each as it was -/
def ConstsLe (cs cs' : List Int) : Prop := cs.length ≤ cs'.length ∧ ∀ i, i < cs.length → cs'.getD i 0 = cs.getD i 0
theorem ConstsLe.refl (cs : List Int) : ConstsLe cs cs := ⟨Nat.le_refl _, fun _ _ => rfl⟩
theorem ConstsLe.append (cs more : List Int) : ConstsLe cs (cs ++ more) := by
  refine ⟨by simp, fun i hi => ?_⟩
  rw [List.getD_eq_getElem?_getD, List.getD_eq_getElem?_getD, List.getElem?_append_left hi]
theorem node_mono {n n' sc sc' : Int} {cs cs' : List Int} {t : T} (hn : n ≤ n') (hs : sc ≤ sc') (hc : ConstsLe cs cs') (h : nodeB n sc cs t = true) : nodeB n' sc' cs' t = true := by
  rw [node_iff] at h ⊢
  obtain ⟨h1, h2, h3⟩ := h
  refine ⟨h1, ?_, h3⟩
  unfold askC at h2 ⊢
  split
  · rename_i hk; rw [if_pos hk] at h2
    rw [variableB_iff] at h2 ⊢
    exact ⟨h2.1, by omega, h2.2.2⟩
  · rename_i hk; rw [if_neg hk] at h2
    split
    · rename_i hk2; rw [if_pos hk2] at h2
      simp only [sortB, Bool.and_eq_true] at h2 ⊢
      exact ⟨h2.1, all_right_mono hn h2.2⟩
    · rename_i hk2; rw [if_neg hk2] at h2
      split
      · rename_i hk3; rw [if_pos hk3] at h2
        simp only [constB, Bool.and_eq_true, decide_eq_true_eq] at h2 ⊢
        obtain ⟨⟨⟨⟨e1, e2⟩, e3⟩, e4⟩, e5⟩ := h2
        have := hc.1
        exact ⟨⟨⟨⟨e1, by omega⟩, e3⟩, by rw [hc.2 _ (by omega)]; exact e4⟩, all_right_mono hn e5⟩
      · rename_i hk3; rw [if_neg hk3] at h2
        exact h2
def ScOk (sc : Int) (t : T) : Prop := 0 ≤ sc ∧ sc + t.deep ≤ 1000000000000000
theorem ScOk.kid {sc k m a : Int} {ls : List LV} {ks : List T} (h : ScOk sc (.mk k m a ls ks)) {t : T} (ht : t ∈ ks) (i : Int) : ScOk (belowD sc k i) t := by
  have h1 := T.deep_kid (k := k) (n := m) (a := a) (ls := ls) ht
  obtain ⟨h2, h3⟩ := h
  have := belowD_le (d := sc) (k := k) (i := i) (by omega) (by omega)
  unfold ScOk
  omega
theorem core_mono {n n' : Int} {cs cs' : List Int} (hn : n ≤ n') (hc : ConstsLe cs cs') (t : T) : ∀ sc sc', sc ≤ sc' → 0 ≤ sc → ScOk sc' t → coreB n cs t sc = true → coreB n' cs' t sc' = true := by
  induction t using T.ind with
  | h k m a ls ks ih =>
    intro sc sc' hs h0 hf h
    rw [core_mk] at h ⊢
    refine ⟨node_mono hn hs hc h.1, fun j hj => ?_⟩
    have hm := List.getElem_mem hj
    have h1 := hf.1
    have h2 := hf.2
    refine ih _ hm _ _ ?_ ?_ (hf.kid hm _) (h.2 j hj)
    · rw [belowD_in (by omega) (by omega), belowD_in (by omega) (by omega)]
      split <;> omega
    · have := belowD_le (d := sc) (k := k) (i := (j : Int)) (by omega) (by omega)
      omega
/-! lifting -/
theorem walks_get {f : Turn} {k d : Int} {ks : List T} {i : Nat} : ∀ {j : Nat} (h : j < (T.walks f k ks i d).length) (h' : j < ks.length), (T.walks f k ks i d)[j] = T.walk f ks[j] (belowD d k ((i + j : Nat) : Int)) := by
  induction ks generalizing i with
  | nil => intro j h h'; simp at h'
  | cons t r ih =>
    intro j h h'
    cases j with
    | zero => simp only [T.walks, List.getElem_cons_zero]; rfl
    | succ j =>
      have hr : j < r.length := by simpa using h'
      simp only [T.walks, List.getElem_cons_succ]
      rw [ih (by rw [T.walks_length]; exact hr) hr, show i + 1 + j = i + (j + 1) by omega]
theorem walks_get0 {f : Turn} {k d : Int} {ks : List T} {j : Nat} (h : j < (T.walks f k ks 0 d).length) : (T.walks f k ks 0 d)[j] = T.walk f (ks[j]'(by rw [T.walks_length] at h; exact h)) (belowD d k (j : Int)) := by
  rw [walks_get h (by rw [T.walks_length] at h; exact h), Nat.zero_add]
theorem core_lift {n : Int} {cs : List Int} {lift fr : Int} (hl : 0 ≤ lift ∧ lift ≤ 2000000000000) (t : T) : ∀ sc d, 0 ≤ d → d ≤ sc → ScOk (sc + lift) t → coreB n cs t sc = true → coreB n cs (T.walk (liftTurn lift fr) t d) (sc + lift) = true := by
  induction t using T.ind with
  | h k m a ls ks ih =>
    intro sc d hd hds hf h
    have hf1 := hf.1
    have hf2 := hf.2
    rw [walk_lift]
    rw [core_mk] at h ⊢
    refine ⟨?_, fun j hj => ?_⟩
    · by_cases hk : k = 1
      · subst hk
        obtain ⟨h1, h2, rfl, rfl, rfl⟩ := node_var.1 h.1
        rw [node_var]
        have hnum : liftNum lift fr d 1 m = m ∨ liftNum lift fr d 1 m = m + lift := by
          unfold liftNum
          split
          · right; exact i64w (by omega) (by omega)
          · left; rfl
        refine ⟨by omega, by omega, rfl, rfl, by simp [T.walks]⟩
      · have e : liftNum lift fr d k m = m := by unfold liftNum; rw [if_neg (fun h => hk h.1)]
        rw [e, node_ks (ks' := ks) (T.walks_length _ _ _ _ _), node_sc (t := .mk k m a ls ks) (sc' := sc) hk]
        exact h.1
    · have hj' : j < ks.length := by rw [T.walks_length] at hj; exact hj
      have hm := List.getElem_mem hj'
      rw [walks_get0 hj]
      have hsc := h.2 j hj'
      have e : belowD (sc + lift) k (j : Int) = belowD sc k (j : Int) + lift := belowD_add (by omega) (by omega) (by omega)
      rw [e]
      have b1 := belowD_le (d := sc) (k := k) (i := (j : Int)) (by omega) (by omega)
      refine ih _ hm _ _ ?_ ?_ ?_ hsc
      · have := belowD_le (d := d) (k := k) (i := (j : Int)) (by omega) (by omega); omega
      · rw [belowD_in (by omega) (by omega), belowD_in (by omega) (by omega)]; split <;> omega
      · rw [← e]; exact hf.kid hm _
/-! putting -/
theorem core_put {n : Int} {cs : List Int} {bys : List T} {s0 : Int} (h0 : 0 ≤ s0) (hb : ∀ b, b ∈ bys → coreB n cs b s0 = true ∧ b.deep ≤ DM) (hbl : bys.length ≤ LMax) (t : T) : ∀ d, 0 ≤ d → ScOk (s0 + bys.length + d) t → ScOk s0 t → s0 ≤ 90000000000000 → d + t.deep ≤ DM → coreB n cs t (s0 + bys.length + d) = true → coreB n cs (T.walk (putTurn bys) t d) (s0 + d) = true := by
  induction t using T.ind with
  | h k m a ls ks ih =>
    intro d hd hf hf0 hdm hdd h
    have hf1 := hf.1
    have hf2 := hf.2
    unfold LMax at hbl
    rw [core_mk] at h
    have hkids : ∀ m', (∀ ms : List T, ms.length = ks.length → nodeB n (s0 + d) cs (.mk k m' a ls ms) = true) → coreB n cs (.mk k m' a ls (T.walks (putTurn bys) k ks 0 d)) (s0 + d) = true := by
      intro m' hm'
      rw [core_mk]
      refine ⟨hm' _ (T.walks_length _ _ _ _ _), fun j hj => ?_⟩
      have hj' : j < ks.length := by rw [T.walks_length] at hj; exact hj
      have hm := List.getElem_mem hj'
      rw [walks_get0 hj]
      have hsc := h.2 j hj'
      have hdk := T.deep_kid (k := k) (n := m) (a := a) (ls := ls) hm
      have b1 := belowD_le (d := d) (k := k) (i := (j : Int)) (by omega) (by omega)
      have e1 : belowD (s0 + bys.length + d) k (j : Int) = s0 + bys.length + belowD d k (j : Int) := by
        rw [Int.add_comm, belowD_add hd (by omega) (by omega)]; omega
      have e2 : belowD (s0 + d) k (j : Int) = s0 + belowD d k (j : Int) := by
        rw [Int.add_comm, belowD_add hd (by omega) (by omega)]; omega
      rw [e2]
      rw [e1] at hsc
      have hbk : belowD d k (j : Int) + ks[j].deep ≤ DM := by omega
      refine ih _ hm _ (by omega) ?_ ?_ ?_ hbk hsc
      · rw [← e1]; exact hf.kid hm _
      · exact ⟨hf0.1, by have := hf0.2; omega⟩
      · exact hdm
    by_cases hk : k = 1
    · subst hk
      obtain ⟨h1, h2, rfl, rfl, rfl⟩ := node_var.1 h.1
      by_cases hh : d ≤ m
      · by_cases hl : (m - d).toNat < bys.length
        · rw [walk_inl (putTurn_in (t := .mk 1 m 0 [] []) ⟨rfl, hh⟩ hl)]
          obtain ⟨hb1, hb2⟩ := hb (bys[bys.length - 1 - (m - d).toNat]'(by omega)) (List.getElem_mem _)
          have hdd' : d ≤ DM := by have := hdd; omega
          unfold DM at hb2 hdd'
          exact core_lift (lift := d) (fr := 0) ⟨hd, by omega⟩ _ s0 0 (by omega) h0 ⟨by omega, by simp only [T.n_mk]; omega⟩ hb1
        · rw [walk_inr (putTurn_over (t := .mk 1 m 0 [] []) ⟨rfl, hh⟩ hl)]
          refine hkids _ fun ms hms => ?_
          obtain rfl : ms = [] := by simpa using hms
          rw [node_var]
          simp only [T.n_mk]
          rw [i64w (by omega) (by omega)]
          refine ⟨by omega, by omega, ?_, ?_, ?_⟩ <;> first | rfl | trivial
      · rw [walk_inr (putTurn_low (t := .mk 1 m 0 [] []) (fun h => hh h.2))]
        refine hkids _ fun ms hms => ?_
        obtain rfl : ms = [] := by simpa using hms
        rw [node_var]
        refine ⟨by simp only [T.n_mk]; omega, by simp only [T.n_mk]; omega, ?_, ?_, ?_⟩ <;> first | rfl | trivial
    · rw [walk_inr (putTurn_low (t := .mk k m a ls ks) (fun h => hk h.1))]
      refine hkids _ fun ms hms => ?_
      have e := node_ks (n := n) (sc := s0 + d) (cs := cs) (k := k) (m := m) (a := a) (ls := ls) hms
      rw [node_sc (t := .mk k m a ls ks) (sc' := s0 + bys.length + d) hk, h.1] at e
      exact e
/-! levels -/
/-- no Plus above one -/
def lowL (most : Int) (l : LV) : Bool := l.all fun p => decide (p.2 ≤ most)
mutual
def T.lowB (most : Int) : T → Bool
  | .mk _ _ _ ls ks => ls.all (lowL most) && T.lowsB most ks
def T.lowsB (most : Int) : List T → Bool
  | [] => true
  | t :: r => T.lowB most t && T.lowsB most r
end
theorem T.lowsB_mem {most : Int} {ks : List T} (h : T.lowsB most ks = true) {t : T} (ht : t ∈ ks) : t.lowB most = true := by
  induction ks with
  | nil => cases ht
  | cons x r ih =>
    rw [T.lowsB, Bool.and_eq_true] at h
    cases ht with
    | head => exact h.1
    | tail _ hm => exact ih h.2 hm
theorem right_mem {l : LV} {n : Int} (h : levelRight l n = true) {p : Int × Int} (hp : p ∈ l) : 0 ≤ p.1 ∧ p.1 ≤ n ∧ 0 ≤ p.2 ∧ p.2 ≤ 1000 := by
  unfold levelRight at h
  simp only [Bool.and_eq_true, Bool.not_eq_true', List.any_eq_false] at h
  have := h.2 p hp
  unfold partBad at this
  simp at this
  omega
theorem right_okV {l : LV} {n : Int} (hn : n ≤ 1048576) (h : levelRight l n = true) : okV l := fun p hp => by
  have := right_mem h hp
  unfold badP
  simp
  omega
theorem sorted_of {l : LV} (h : l.Pairwise (fun p q => p.1 < q.1)) : sortedB l = true := by
  rw [sortedB_iff]
  intro i hi
  exact List.pairwise_iff_getElem.1 h i (i + 1) (by omega) hi (by omega)
theorem up_len : ∀ (l : LV) (a b : Int), a ≤ b → l.Pairwise (fun p q => p.1 < q.1) → (∀ p, p ∈ l → a ≤ p.1 ∧ p.1 < b) → (l.length : Int) ≤ b - a
  | [], a, b, h, _, _ => by simp; omega
  | p :: r, a, b, h, hu, hp => by
    rw [List.pairwise_cons] at hu
    have h1 := hp p List.mem_cons_self
    have h2 := up_len r (p.1 + 1) b (by omega) hu.2 (fun q hq => ⟨by have := hu.1 q hq; omega, (hp q (List.mem_cons_of_mem _ hq)).2⟩)
    rw [List.length_cons]
    omega
/-- a normal form of few variables, with small numbers -/
theorem right_norm {l : LV} {n : Int} (hn : 0 ≤ n ∧ n ≤ 8) (h : ∀ p, p ∈ l → 0 ≤ p.1 ∧ p.1 ≤ n ∧ 0 ≤ p.2 ∧ p.2 ≤ 1000) : levelRight (normOf l) n = true := by
  have hok : okV l := fun p hp => by
    have := h p hp
    unfold badP
    simp
    omega
  have hnf := normOf_nf l
  have hm : ∀ p, p ∈ normOf l → 0 ≤ p.1 ∧ p.1 ≤ n ∧ 0 ≤ p.2 ∧ p.2 ≤ 1000 := fun p hp => h p (norm_mem hok hp)
  have hlen := up_len (normOf l) 0 (n + 1) (by omega) hnf.up (fun p hp => by have := hm p hp; omega)
  unfold levelRight
  simp only [Bool.and_eq_true, Bool.not_eq_true', List.any_eq_false, decide_eq_true_eq]
  refine ⟨⟨sorted_of hnf.up, by omega⟩, fun p hp => ?_⟩
  have := hm p hp
  unfold partBad
  simp
  omega
theorem lowL_mem {most : Int} {l : LV} (h : lowL most l = true) {p : Int × Int} (hp : p ∈ l) : p.2 ≤ most := by
  unfold lowL at h
  rw [List.all_eq_true] at h
  simpa using h p hp
/-! what the statements say -/
theorem rightB_iff {n sc : Int} {cs : List Int} {t : T} : rightB n sc cs t = true ↔ 0 ≤ n ∧ 0 ≤ sc ∧ coreB n cs t sc = true := by
  unfold rightB; simp [and_assoc]
end Go.Proofs.YtebmlojhdnldgaaGreatDoor

namespace Go.Proofs.YtebmlojhdnldgaaGreatDoor
set_option linter.unusedSimpArgs false
set_option linter.unusedVariables false
open Go.RowKit
/-- a constant: how many levels, its type, its body if it has one -/
structure C where
  lv : Int
  ty : T
  has : Bool
  bo : T
def zeroT : T := .mk 0 0 0 [] []
def T.kid (t : T) (i : Nat) : T := t.ks.getD i zeroT
def withK (ks : List T) (x : T) (i many : Nat) : List T := (List.range many).map fun j => if j = i then x else ks.getD j zeroT
def T.withT (t x : T) (i many : Nat) : T := .mk t.k t.n t.a t.ls (withK t.ks x i many)
def ofT (k : Int) (ks : List T) : T := .mk k 0 0 [] ks
/-- the place that decides, how many kids -/
def spot (t : T) : Option (Nat × Nat) :=
  if t.k = 6 then some (0, 2) else if t.k = 14 ∨ t.k = 15 then some (0, 1) else if t.k = 18 then some (4, 5) else if t.k = 21 then some (5, 6)
  else if t.k = 24 ∧ 0 ≤ t.a ∧ (t.ks.length : Int) - 2 = t.a then some (t.a.toNat + 1, t.a.toNat + 2) else none
mutual
/-- how many nodes -/
def T.nsz : T → Nat
  | .mk _ _ _ _ ks => 1 + T.nszs ks
def T.nszs : List T → Nat
  | [] => 0
  | t :: r => T.nsz t + T.nszs r
end
mutual
/-- how many nodes, one of so many put for a variable -/
def T.sd (many : Nat) : T → Int → Nat
  | .mk k n _ _ ks, b => if k = 1 ∧ n = b then many else 1 + T.sds many k ks 0 b
def T.sds (many : Nat) (k : Int) : List T → Nat → Int → Nat
  | [], _, _ => 0
  | t :: r, i, b => T.sd many t (belowD b k i) + T.sds many k r (i + 1) b
end
def bodyC (l : List C) (num : Int) (lv : List LV) : Option T :=
  if h : 0 ≤ num ∧ num.toNat < l.length then if (l[num.toNat]'h.2).lv = lv.length ∧ (l[num.toNat]'h.2).has = true then some ((l[num.toNat]'h.2).bo.levels lv 0) else none else none
def treeT (t s : T) : T :=
  let a := s.kid 0
  let f := s.kid 1
  let rest := ofT 18 [(t.kid 0).lift 1 0 0, (t.kid 1).lift 1 1 0, (t.kid 2).lift 1 0 0, (t.kid 3).lift 1 0 0, ofT 6 [f.lift 1 0 0, ofT 1 []]]
  ofT 6 [ofT 6 [ofT 6 [t.kid 3, a], f], ofT 5 [(t.kid 1).put [a] 0, rest]]
def treeN (t s : T) : Nat :=
  let a := s.kid 0
  let f := s.kid 1
  7 + (a.nsz + f.nsz + f.nsz + (t.kid 3).nsz + (t.kid 3).nsz + (t.kid 0).nsz + (t.kid 1).nsz + (t.kid 2).nsz) + (t.kid 1).sd a.nsz 0
/-- a term's own step, its place at its head -/
def ownS (l : List C) (t x : T) : Option (T × Nat) :=
  if t.k = 6 then if x.k = 5 then some ((x.kid 1).put [t.kid 1] 0, (x.kid 1).sd (t.kid 1).nsz 0) else none
  else if t.k = 14 ∨ t.k = 15 then if x.k = 13 then some (x.kid (if t.k = 15 then 1 else 0), (x.kid (if t.k = 15 then 1 else 0)).nsz) else none
  else if t.k = 7 then some ((t.kid 2).put [t.kid 1] 0, (t.kid 2).sd (t.kid 1).nsz 0)
  else if t.k = 3 then (bodyC l t.n t.ls).map fun b => (b, b.nsz)
  else if t.k = 18 then if x.k = 17 then some (treeT t x, treeN t x) else none
  else if t.k = 21 then if x.k = 20 then some (t.kid 3, (t.kid 3).nsz) else none
  else if t.k = 24 ∧ (spot t).isSome then if x.k = 23 ∧ 0 ≤ x.n ∧ x.n < t.a then some (t.kid (x.n.toNat + 1), (t.kid (x.n.toNat + 1)).nsz) else none
  else none
/-- what is left of a term that does not step -/
def T.trunc (t : T) : T :=
  match spot t with
  | none => t
  | some (i, many) => if h : i < t.ks.length then t.withT (T.trunc t.ks[i]) i many else t.withT zeroT i many
termination_by t.deep
decreasing_by
  cases t with
  | mk k n a ls ks => exact T.deep_kid (List.getElem_mem h)
/-- the first step of a term's head, what it costs -/
def hstep (l : List C) (t : T) : Option (T × Nat) :=
  match spot t with
  | none => ownS l t zeroT
  | some (i, many) => if h : i < t.ks.length then (match hstep l t.ks[i] with
      | some u => some (t.withT u.1 i many, u.2)
      | none => ownS l (t.withT (T.trunc t.ks[i]) i many) (T.trunc t.ks[i])) else ownS l (t.withT zeroT i many) zeroT
termination_by t.deep
decreasing_by
  cases t with
  | mk k n a ls ks => exact T.deep_kid (List.getElem_mem h)
/-- comes to its head, at a cost -/
inductive Hd (l : List C) : T → Nat → T → Prop where
  | stop {t : T} (h : hstep l t = none) : Hd l t 0 t.trunc
  | step {t u v : T} {c n : Nat} (h : hstep l t = some (u, c)) (r : Hd l u n v) : Hd l t (c + n) v
/-- the fuel is gone ahead of that -/
inductive Gone (l : List C) : T → Int → Prop where
  | now {t u : T} {c : Nat} {f : Int} (h : hstep l t = some (u, c)) (hf : f < c) : Gone l t f
  | later {t u : T} {c : Nat} {f : Int} (h : hstep l t = some (u, c)) (hf : (c : Int) ≤ f) (r : Gone l u (f - c)) : Gone l t f
theorem Hd.gone {l : List C} {t v : T} {n : Nat} (h : Hd l t n v) : ∀ {f : Int}, f < (n : Int) → 0 ≤ f → Gone l t f := by
  induction h with
  | stop h => intro f hf h0; omega
  | @step t u v c n h r ih =>
    intro f hf h0
    by_cases hc : (c : Int) ≤ f
    · exact .later h hc (ih (by omega) (by omega))
    · exact .now h (by omega)
theorem spot_of (t : T) : spot t = none ∨ ∃ i many, spot t = some (i, many) := by
  cases h : spot t with
  | none => exact .inl rfl
  | some p => exact .inr ⟨p.1, p.2, rfl⟩
theorem withK_len (ks : List T) (x : T) (i many : Nat) : (withK ks x i many).length = many := by simp [withK]
theorem withK_get {ks : List T} {x : T} {i many j : Nat} (h : j < many) : (withK ks x i many).getD j zeroT = if j = i then x else ks.getD j zeroT := by
  rw [List.getD_eq_getElem?_getD, List.getElem?_eq_getElem (by rw [withK_len]; exact h)]
  simp [withK]
theorem spot_lt {t : T} {i many : Nat} (h : spot t = some (i, many)) : i < many := by
  unfold spot at h
  repeat' split at h
  all_goals first | (cases h; omega) | cases h
theorem spot_with {t x : T} {i many : Nat} (h : spot t = some (i, many)) : spot (t.withT x i many) = some (i, many) := by
  unfold spot at h ⊢
  unfold T.withT
  simp only [T.k_mk, T.a_mk, T.ks_mk, withK_len]
  by_cases h1 : t.k = 6
  · rw [if_pos h1] at h ⊢; exact h
  rw [if_neg h1] at h ⊢
  by_cases h1 : t.k = 14 ∨ t.k = 15
  · rw [if_pos h1] at h ⊢; exact h
  rw [if_neg h1] at h ⊢
  by_cases h1 : t.k = 18
  · rw [if_pos h1] at h ⊢; exact h
  rw [if_neg h1] at h ⊢
  by_cases h1 : t.k = 21
  · rw [if_pos h1] at h ⊢; exact h
  rw [if_neg h1] at h ⊢
  by_cases h1 : t.k = 24 ∧ 0 ≤ t.a ∧ (t.ks.length : Int) - 2 = t.a
  · rw [if_pos h1] at h
    obtain ⟨h1, h2, h3⟩ := h1
    cases h
    rw [if_pos ⟨h1, h2, by omega⟩]
  · rw [if_neg h1] at h; cases h
theorem with_with (t x y : T) (i many : Nat) : (t.withT x i many).withT y i many = t.withT y i many := by
  unfold T.withT
  simp only [T.k_mk, T.n_mk, T.a_mk, T.ls_mk, T.ks_mk]
  congr 1
  unfold withK
  apply List.map_congr_left
  intro j hj
  have hj' : j < many := by simpa using hj
  split
  · rfl
  · rename_i hne
    have := withK_get (ks := t.ks) (x := x) (i := i) hj'
    unfold withK at this
    rw [this, if_neg hne]
theorem with_get {t x : T} {i many : Nat} (h : i < many) (h2 : i < (t.withT x i many).ks.length) : (t.withT x i many).ks[i] = x := by
  unfold T.withT at h2 ⊢
  simp [withK]
theorem trunc_none {t : T} (h : spot t = none) : t.trunc = t := by rw [T.trunc, h]
theorem trunc_in {t : T} {i many : Nat} (h : spot t = some (i, many)) (hi : i < t.ks.length) : t.trunc = t.withT (T.trunc t.ks[i]) i many := by rw [T.trunc, h]; simp only; rw [dif_pos hi]
theorem trunc_out {t : T} {i many : Nat} (h : spot t = some (i, many)) (hi : ¬ i < t.ks.length) : t.trunc = t.withT zeroT i many := by rw [T.trunc, h]; simp only; rw [dif_neg hi]
theorem hstep_none {l : List C} {t : T} (h : spot t = none) : hstep l t = ownS l t zeroT := by rw [hstep, h]
theorem hstep_in {l : List C} {t : T} {i many : Nat} (h : spot t = some (i, many)) (hi : i < t.ks.length) {u : T} {c : Nat} (hu : hstep l t.ks[i] = some (u, c)) : hstep l t = some (t.withT u i many, c) := by rw [hstep, h]; simp only; rw [dif_pos hi, hu]
theorem hstep_at {l : List C} {t : T} {i many : Nat} (h : spot t = some (i, many)) (hi : i < t.ks.length) (hu : hstep l t.ks[i] = none) : hstep l t = ownS l (t.withT (T.trunc t.ks[i]) i many) (T.trunc t.ks[i]) := by rw [hstep, h]; simp only; rw [dif_pos hi, hu]
theorem hstep_out {l : List C} {t : T} {i many : Nat} (h : spot t = some (i, many)) (hi : ¬ i < t.ks.length) : hstep l t = ownS l (t.withT zeroT i many) zeroT := by rw [hstep, h]; simp only; rw [dif_neg hi]
theorem zero_spot : spot zeroT = none := rfl
theorem zero_step (l : List C) : hstep l zeroT = none := by rw [hstep_none zero_spot]; rfl
/-- what does not step, does not step when what is too much is gone -/
theorem trunc_stuck {l : List C} (t : T) : hstep l t = none → hstep l t.trunc = none ∧ t.trunc.trunc = t.trunc := by
  induction t using T.ind with
  | h k n a ls ks ih =>
    intro h
    rcases spot_of (.mk k n a ls ks) with hs | ⟨i, many, hs⟩
    · rw [trunc_none hs]; exact ⟨h, trunc_none hs⟩
    · have hlt := spot_lt hs
      by_cases hi : i < ks.length
      · have hi' : i < (T.mk k n a ls ks).ks.length := hi
        cases hu : hstep l ks[i] with
        | some u => rw [hstep_in hs hi' (u := u.1) (c := u.2) hu] at h; cases h
        | none =>
          obtain ⟨h1, h2⟩ := ih _ (List.getElem_mem hi) hu
          rw [hstep_at hs hi' hu] at h
          rw [trunc_in hs hi']
          have hs2 := spot_with (x := T.trunc (T.mk k n a ls ks).ks[i]) hs
          have hi2 : i < ((T.mk k n a ls ks).withT (T.trunc (T.mk k n a ls ks).ks[i]) i many).ks.length := by unfold T.withT; rw [T.ks_mk, withK_len]; exact hlt
          have hg := with_get hlt hi2
          constructor
          · rw [hstep_at hs2 hi2 (by rw [hg]; exact h1), hg, with_with, show T.trunc (T.trunc (T.mk k n a ls ks).ks[i]) = T.trunc (T.mk k n a ls ks).ks[i] from h2]
            exact h
          · rw [trunc_in hs2 hi2, hg, with_with, show T.trunc (T.trunc (T.mk k n a ls ks).ks[i]) = T.trunc (T.mk k n a ls ks).ks[i] from h2]
      · have hi' : ¬ i < (T.mk k n a ls ks).ks.length := hi
        rw [hstep_out hs hi'] at h
        rw [trunc_out hs hi']
        have hs2 := spot_with (x := zeroT) hs
        have hi2 : i < ((T.mk k n a ls ks).withT zeroT i many).ks.length := by unfold T.withT; rw [T.ks_mk, withK_len]; exact hlt
        have hg := with_get hlt hi2
        constructor
        · rw [hstep_at hs2 hi2 (by rw [hg]; exact zero_step l), hg, trunc_none zero_spot, with_with]
          exact h
        · rw [trunc_in hs2 hi2, hg, trunc_none zero_spot, with_with]
/-! sizes -/
theorem T.nsz_pos (t : T) : 1 ≤ t.nsz := by cases t; rw [T.nsz]; omega
theorem T.deep_nsz (t : T) : t.deep ≤ t.nsz := by
  induction t using T.ind with
  | h k n a ls ks ih =>
    rw [T.deep, T.nsz]
    have : ∀ l : List T, (∀ x, x ∈ l → x.deep ≤ x.nsz) → T.deeps l ≤ T.nszs l := by
      intro l
      induction l with
      | nil => intro _; simp [T.deeps, T.nszs]
      | cons x r ihl =>
        intro hl
        have h1 := hl x List.mem_cons_self
        have h2 := ihl (fun y hy => hl y (List.mem_cons_of_mem _ hy))
        rw [T.deeps, T.nszs]
        omega
    have := this ks ih
    omega
mutual
theorem T.sd_pos (many : Nat) (hm : 1 ≤ many) : ∀ (t : T) (b : Int), 1 ≤ t.sd many b
  | .mk k n a ls ks, b => by
    rw [T.sd]
    split <;> omega
end
mutual
theorem T.sd_le (many : Nat) (hm : 1 ≤ many) : ∀ (t : T) (b : Int), t.sd many b ≤ t.nsz * many
  | .mk k n a ls ks, b => by
    rw [T.sd, T.nsz]
    split
    · exact Nat.le_mul_of_pos_left _ (by omega)
    · have := T.sds_le many hm k ks 0 b
      rw [Nat.add_mul]
      omega
theorem T.sds_le (many : Nat) (hm : 1 ≤ many) (k : Int) : ∀ (ks : List T) (i : Nat) (b : Int), T.sds many k ks i b ≤ T.nszs ks * many
  | [], _, _ => by rw [T.sds]; omega
  | t :: r, i, b => by
    have h1 := T.sd_le many hm t (belowD b k i)
    have h2 := T.sds_le many hm k r (i + 1) b
    rw [T.sds, T.nszs, Nat.add_mul]
    omega
end
mutual
theorem nsz_lift (n fr : Int) : ∀ (t : T) (d : Int), (T.walk (liftTurn n fr) t d).nsz = t.nsz
  | .mk k m a ls ks, d => by rw [walk_lift, T.nsz, T.nsz, nszs_lift n fr k ks 0 d]
theorem nszs_lift (n fr k : Int) : ∀ (ks : List T) (i : Nat) (d : Int), T.nszs (T.walks (liftTurn n fr) k ks i d) = T.nszs ks
  | [], _, _ => by rw [T.walks]
  | t :: r, i, d => by rw [T.walks, T.nszs, T.nszs, nsz_lift n fr t, nszs_lift n fr k r]
end
mutual
theorem nsz_levels (bys : List LV) : ∀ (t : T) (d : Int), (T.walk (levTurn bys) t d).nsz = t.nsz
  | .mk k m a ls ks, d => by rw [walk_inr (f := levTurn bys) (x := (m, ls.map fun l => normOf (putL l bys))) rfl, T.nsz, T.nsz, nszs_levels bys k ks 0 d]
theorem nszs_levels (bys : List LV) (k : Int) : ∀ (ks : List T) (i : Nat) (d : Int), T.nszs (T.walks (levTurn bys) k ks i d) = T.nszs ks
  | [], _, _ => by rw [T.walks]
  | t :: r, i, d => by rw [T.walks, T.nszs, T.nszs, nsz_levels bys t, nszs_levels bys k r]
end
/-- what is put costs its size -/
theorem nsz_put (x : T) (t : T) : ∀ d, (T.walk (putTurn [x]) t d).nsz = t.sd x.nsz d := by
  induction t using T.ind with
  | h k m a ls ks ih =>
    intro d
    have hks : ∀ (l : List T), (∀ y, y ∈ l → y ∈ ks) → ∀ i, T.nszs (T.walks (putTurn [x]) k l i d) = T.sds x.nsz k l i d := by
      intro l
      induction l with
      | nil => intro _ i; simp [T.walks, T.nszs, T.sds]
      | cons y r ihl =>
        intro hl i
        rw [T.walks, T.nszs, T.sds, ih y (hl y List.mem_cons_self), ihl (fun z hz => hl z (List.mem_cons_of_mem _ hz))]
    have hks0 := hks ks (fun _ h => h) 0
    rw [T.sd]
    by_cases hh : k = 1 ∧ d ≤ m
    · by_cases hl : (m - d).toNat < [x].length
      · rw [walk_inl (putTurn_in (t := .mk k m a ls ks) hh hl), if_pos ⟨hh.1, by simp only [List.length_cons, List.length_nil] at hl; omega⟩]
        unfold T.lift
        rw [nsz_lift]
        simp
      · rw [walk_inr (putTurn_over (t := .mk k m a ls ks) hh hl), T.nsz, hks0, if_neg]
        rintro ⟨-, h2⟩
        apply hl
        simp only [List.length_cons, List.length_nil]; omega
    · rw [walk_inr (putTurn_low (t := .mk k m a ls ks) hh), T.nsz]
      rw [hks0, if_neg]
      rintro ⟨h1, h2⟩
      exact hh ⟨h1, by omega⟩
end Go.Proofs.YtebmlojhdnldgaaGreatDoor

namespace Go.Proofs.YtebmlojhdnldgaaGreatDoor
set_option linter.unusedSimpArgs false
set_option linter.unusedVariables false
open Go.RowKit
def TurnOk (f : Turn) : Prop := ∀ d t, okT t → (∀ u, f d t = .inl u → okT u) ∧ (∀ x, f d t = .inr x → I64 x.1 ∧ x.2.length ≤ LMax ∧ ∀ l, l ∈ x.2 → okL l)
theorem walk_ok {f : Turn} (hf : TurnOk f) (t : T) : ∀ d, okT t → okT (T.walk f t d) := by
  induction t using T.ind with
  | h k m a ls ks ih =>
    intro d ht
    obtain ⟨h1, h2⟩ := hf d _ ht
    cases hturn : f d (.mk k m a ls ks) with
    | inl u => rw [walk_inl hturn]; exact h1 u hturn
    | inr x =>
      rw [walk_inr hturn]
      obtain ⟨h3, h4, h5⟩ := h2 x hturn
      refine .mk ht.k h3 ht.a h4 h5 (by rw [T.walks_length]; exact ht.kl) ?_
      have hks := ht.ks
      simp only [T.ks_mk] at hks
      have : ∀ (l : List T), (∀ x, x ∈ l → x ∈ ks) → ∀ (i : Nat) t, t ∈ T.walks f k l i d → okT t := by
        intro l
        induction l with
        | nil => intro _ i t h; rw [T.walks] at h; cases h
        | cons x r ihl =>
          intro hl i t h
          rw [T.walks] at h
          cases h with
          | head => exact ih x (hl x List.mem_cons_self) _ (hks x (hl x List.mem_cons_self))
          | tail _ hm => exact ihl (fun y hy => hl y (List.mem_cons_of_mem _ hy)) (i + 1) t hm
      exact this ks (fun _ h => h) 0
theorem lift_turn_ok (n fr : Int) : TurnOk (liftTurn n fr) := fun d t ht => ⟨(fun u h => by cases h), fun x h => by
  cases h
  exact ⟨liftNum_ok ht.n, ht.ll, ht.ls⟩⟩
theorem lift_ok {t : T} (n fr d : Int) (h : okT t) : okT (t.lift n fr d) := walk_ok (lift_turn_ok n fr) t d h
theorem put_turn_ok {bys : List T} (hb : ∀ b, b ∈ bys → okT b) : TurnOk (putTurn bys) := fun d t ht => by
  by_cases hh : t.k = 1 ∧ d ≤ t.n
  · by_cases hl : (t.n - d).toNat < bys.length
    · rw [putTurn_in hh hl]
      exact ⟨(fun u h => by cases h; exact lift_ok _ _ _ (hb _ (List.getElem_mem _))), (fun x h => by cases h)⟩
    · rw [putTurn_over hh hl]
      exact ⟨(fun u h => by cases h), (fun x h => by cases h; exact ⟨i64_wrap _, ht.ll, ht.ls⟩)⟩
  · rw [putTurn_low hh]
    exact ⟨(fun u h => by cases h), (fun x h => by cases h; exact ⟨ht.n, ht.ll, ht.ls⟩)⟩
theorem put_ok {t : T} {bys : List T} (hb : ∀ b, b ∈ bys → okT b) (d : Int) (h : okT t) : okT (t.put bys d) := walk_ok (put_turn_ok hb) t d h
theorem norm_okL (l : LV) : okL (normOf l) := ⟨normOf_lmax l, fun p hp => by
  have := badP_nn ((normOf_nf l).ok p hp)
  unfold I64
  omega⟩
theorem lev_turn_ok (bys : List LV) : TurnOk (levTurn bys) := fun d t ht => ⟨(fun u h => by cases h), fun x h => by
  cases h
  refine ⟨ht.n, by rw [List.length_map]; exact ht.ll, fun l hl => ?_⟩
  rw [List.mem_map] at hl
  obtain ⟨y, _, rfl⟩ := hl
  exact norm_okL _⟩
theorem levels_ok {t : T} (bys : List LV) (d : Int) (h : okT t) : okT (t.levels bys d) := walk_ok (lev_turn_ok bys) t d h
theorem deep_walks {f : Turn} {B : Nat} {k d : Int} (ks : List T) : ∀ i, (∀ (j : Nat) t, t ∈ ks → (T.walk f t (belowD d k j)).deep ≤ t.deep + B) → T.deeps (T.walks f k ks i d) ≤ T.deeps ks + B := by
  induction ks with
  | nil => intro i _; simp [T.walks, T.deeps]
  | cons t r ih =>
    intro i H
    simp only [T.walks, T.deeps]
    have h1 := H i t List.mem_cons_self
    have h2 := ih (i + 1) (fun j t ht => H j t (List.mem_cons_of_mem _ ht))
    omega
theorem deep_levels (bys : List LV) (t : T) : ∀ d, (t.levels bys d).deep ≤ t.deep := by
  unfold T.levels
  induction t using T.ind with
  | h k m a ls ks ih =>
    intro d
    rw [walk_inr (f := levTurn bys) (x := (m, ls.map fun l => normOf (putL l bys))) rfl, T.deep, T.deep]
    have := deep_walks (f := levTurn bys) (B := 0) (k := k) (d := d) ks 0 (fun j t ht => ih t ht _)
    omega
end Go.Proofs.YtebmlojhdnldgaaGreatDoor

namespace Go.Proofs.YtebmlojhdnldgaaGreatDoor
set_option linter.unusedSimpArgs false
set_option linter.unusedVariables false
open Go.RowKit
theorem putL_memM {mm : Int} (hmm : 0 ≤ mm ∧ mm ≤ 8) {l : LV} {bys : List LV} {n A B : Int} (hn : n ≤ bys.length) (hn2 : n ≤ 1048576) (hr : levelRight l n = true) (hlow : lowL A l = true) (hb : ∀ x, x ∈ bys → levelRight x mm = true ∧ lowL B x = true) (hB : 0 ≤ B) : ∀ q, q ∈ putL l bys → 0 ≤ q.1 ∧ q.1 ≤ mm ∧ 0 ≤ q.2 ∧ q.2 ≤ A + B := by
  intro q hq
  unfold putL at hq
  rw [List.mem_flatten] at hq
  obtain ⟨row, hrow, hq⟩ := hq
  rw [List.mem_map] at hrow
  obtain ⟨p, hp, rfl⟩ := hrow
  have hpl := norm_mem (right_okV hn2 hr) hp
  have hp1 := right_mem hr hpl
  have hp2 := lowL_mem hlow hpl
  unfold rowP at hq
  rw [List.mem_map] at hq
  obtain ⟨x, hx, rfl⟩ := hq
  unfold xsP at hx
  unfold addP
  rcases orZero_mem hx with rfl | hx
  · simp only; omega
  · obtain ⟨y, hy, hxy⟩ := levOf_mem hx
    have hb1 := hb y hy
    have hxm := norm_mem (right_okV (by omega) hb1.1) hxy
    have h3 := right_mem hb1.1 hxm
    have h4 := lowL_mem hb1.2 hxm
    simp only
    omega
theorem all_map_rightM {mm : Int} (hmm : 0 ≤ mm ∧ mm ≤ 8) {ls : List LV} {bys : List LV} {n A B : Int} (hn : n ≤ bys.length) (hn2 : n ≤ 1048576) (hAB : A + B ≤ 1000) (hB : 0 ≤ B) (hb : ∀ x, x ∈ bys → levelRight x mm = true ∧ lowL B x = true) (hlow : ls.all (lowL A) = true) (h : (ls.all fun l => levelRight l n) = true) : ((ls.map fun l => normOf (putL l bys)).all fun l => levelRight l mm) = true := by
  rw [List.all_eq_true] at h hlow ⊢
  intro l hl
  rw [List.mem_map] at hl
  obtain ⟨x, hx, rfl⟩ := hl
  exact right_norm hmm fun p hp => by
    have := putL_memM hmm hn hn2 (h x hx) (hlow x hx) hb hB p hp
    omega
theorem node_levelsM {mm : Int} (hmm : 0 ≤ mm ∧ mm ≤ 8) {n sc : Int} {cs : List Int} {k m a : Int} {ls : List LV} {ks ks' : List T} {bys : List LV} {A B : Int} (hn : n ≤ bys.length) (hn2 : n ≤ 1048576) (hAB : A + B ≤ 1000) (hB : 0 ≤ B) (hb : ∀ x, x ∈ bys → levelRight x mm = true ∧ lowL B x = true) (hlow : ls.all (lowL A) = true) (hks : ks'.length = ks.length) (h : nodeB n sc cs (.mk k m a ls ks) = true) : nodeB mm sc cs (.mk k m a (ls.map fun l => normOf (putL l bys)) ks') = true := by
  have hmap := all_map_rightM hmm hn hn2 hAB hB hb hlow
  rw [node_iff] at h ⊢
  obtain ⟨h1, h2, h3⟩ := h
  simp only [T.k_mk, T.ks_mk, T.a_mk] at h1 h3
  refine ⟨h1, ?_, by simp only [T.k_mk, T.ks_mk, T.a_mk]; rw [hks]; exact h3⟩
  generalize hls' : (ls.map fun l => normOf (putL l bys)) = ls' at hmap ⊢
  have hlen : ls'.length = ls.length := by rw [← hls', List.length_map]
  have hnil : (ls' = []) ↔ (ls = []) := by rw [← List.length_eq_zero_iff, hlen, List.length_eq_zero_iff]
  unfold askC at h2 ⊢
  by_cases hk : k = 1
  · rw [if_pos (show (T.mk k m a ls ks).k = 1 from hk)] at h2
    rw [if_pos (show (T.mk k m a ls' ks').k = 1 from hk)]
    rw [variableB_iff] at h2 ⊢
    exact ⟨h2.1, h2.2.1, h2.2.2.1, hnil.2 h2.2.2.2⟩
  rw [if_neg (show ¬ (T.mk k m a ls ks).k = 1 from hk)] at h2
  rw [if_neg (show ¬ (T.mk k m a ls' ks').k = 1 from hk)]
  by_cases hk : k = 2
  · rw [if_pos (show (T.mk k m a ls ks).k = 2 from hk)] at h2
    rw [if_pos (show (T.mk k m a ls' ks').k = 2 from hk)]
    simp only [sortB, Bool.and_eq_true, decide_eq_true_eq] at h2 ⊢
    exact ⟨⟨h2.1.1, hlen.trans h2.1.2⟩, hmap h2.2⟩
  rw [if_neg (show ¬ (T.mk k m a ls ks).k = 2 from hk)] at h2
  rw [if_neg (show ¬ (T.mk k m a ls' ks').k = 2 from hk)]
  by_cases hk : k = 3
  · rw [if_pos (show (T.mk k m a ls ks).k = 3 from hk)] at h2
    rw [if_pos (show (T.mk k m a ls' ks').k = 3 from hk)]
    simp only [constB, Bool.and_eq_true, decide_eq_true_eq] at h2 ⊢
    exact ⟨⟨h2.1.1, (congrArg Int.ofNat hlen).trans h2.1.2⟩, hmap h2.2⟩
  rw [if_neg (show ¬ (T.mk k m a ls ks).k = 3 from hk)] at h2
  rw [if_neg (show ¬ (T.mk k m a ls' ks').k = 3 from hk)]
  by_cases hk : k = 22
  · rw [if_pos (show (T.mk k m a ls ks).k = 22 from hk)] at h2
    rw [if_pos (show (T.mk k m a ls' ks').k = 22 from hk)]
    simp only [finB, Bool.and_eq_true, decide_eq_true_eq] at h2 ⊢
    exact ⟨h2.1, hnil.2 h2.2⟩
  rw [if_neg (show ¬ (T.mk k m a ls ks).k = 22 from hk)] at h2
  rw [if_neg (show ¬ (T.mk k m a ls' ks').k = 22 from hk)]
  by_cases hk : k = 23
  · rw [if_pos (show (T.mk k m a ls ks).k = 23 from hk)] at h2
    rw [if_pos (show (T.mk k m a ls' ks').k = 23 from hk)]
    simp only [elemB, Bool.and_eq_true, decide_eq_true_eq] at h2 ⊢
    exact ⟨h2.1, hnil.2 h2.2⟩
  rw [if_neg (show ¬ (T.mk k m a ls ks).k = 23 from hk)] at h2
  rw [if_neg (show ¬ (T.mk k m a ls' ks').k = 23 from hk)]
  by_cases hk : k = 24
  · rw [if_pos (show (T.mk k m a ls ks).k = 24 from hk)] at h2
    rw [if_pos (show (T.mk k m a ls' ks').k = 24 from hk)]
    simp only [branchesB, Bool.and_eq_true, decide_eq_true_eq] at h2 ⊢
    exact ⟨h2.1, hnil.2 h2.2⟩
  rw [if_neg (show ¬ (T.mk k m a ls ks).k = 24 from hk)] at h2
  rw [if_neg (show ¬ (T.mk k m a ls' ks').k = 24 from hk)]
  simp only [bareB, Bool.and_eq_true, decide_eq_true_eq] at h2 ⊢
  exact ⟨h2.1, hnil.2 h2.2⟩
theorem core_levelsM {mm : Int} (hmm : 0 ≤ mm ∧ mm ≤ 8) {n : Int} {cs : List Int} {bys : List LV} {A B : Int} (hn : n ≤ bys.length) (hn2 : n ≤ 1048576) (hAB : A + B ≤ 1000) (hB : 0 ≤ B) (hb : ∀ x, x ∈ bys → levelRight x mm = true ∧ lowL B x = true) (t : T) : ∀ sc d, t.lowB A = true → coreB n cs t sc = true → coreB mm cs (T.walk (levTurn bys) t d) sc = true := by
  induction t using T.ind with
  | h k m a ls ks ih =>
    intro sc d hl h
    rw [T.lowB, Bool.and_eq_true] at hl
    rw [walk_inr (f := levTurn bys) (x := (m, ls.map fun l => normOf (putL l bys))) rfl]
    rw [core_mk] at h ⊢
    refine ⟨node_levelsM hmm hn hn2 hAB hB hb hl.1 (T.walks_length _ _ _ _ _) h.1, fun j hj => ?_⟩
    have hj' : j < ks.length := by rw [T.walks_length] at hj; exact hj
    have hm := List.getElem_mem hj'
    rw [walks_get0 hj]
    exact ih _ hm _ _ (T.lowsB_mem hl.2 hm) (h.2 j hj')
theorem bind24 (i : Int) : bindsB 24 i = false := by
  unfold bindsB
  rw [show (kindAt 24).2.2.2.2 = -1 from by kernel_rfl]
  simp
  omega
theorem belowD_no {d k i : Int} (h : bindsB k i = false) : belowD d k i = d := by unfold belowD; rw [h]; rfl
theorem belowD_yes {d k i : Int} (h : bindsB k i = true) (hd : 0 ≤ d ∧ d ≤ 1000000) : belowD d k i = d + 1 := by rw [belowD_in (by omega) (by omega), if_pos h]
theorem kid_at {t : T} {i : Nat} (h : i < t.ks.length) : t.kid i = t.ks[i] := by unfold T.kid; rw [List.getD_eq_getElem?_getD, List.getElem?_eq_getElem h]; rfl
theorem core_kid {n : Int} {cs : List Int} {t : T} {sc : Int} (h : coreB n cs t sc = true) {i : Nat} (hi : i < t.ks.length) : coreB n cs (t.kid i) (belowD sc t.k (i : Int)) = true := by
  rw [kid_at hi]
  cases t with
  | mk k m a ls ks => exact (core_mk.1 h).2 i hi
theorem core_node {n : Int} {cs : List Int} {t : T} {sc : Int} (h : coreB n cs t sc = true) : inCore t.k = true ∧ askC n sc cs t = true ∧ (t.ks.length : Int) = askN t.k t.a := by
  cases t with
  | mk k m a ls ks => exact node_iff.1 (core_mk.1 h).1
theorem kid_deep {t : T} {i : Nat} (hi : i < t.ks.length) : (t.kid i).deep + 1 ≤ t.deep := by
  rw [kid_at hi]
  cases t with
  | mk k m a ls ks => exact T.deep_kid (List.getElem_mem hi)
theorem core_of {n : Int} {cs : List Int} {k : Int} {ks : List T} {sc : Int} (hk : k = 5 ∨ k = 6 ∨ k = 18) (hl : (ks.length : Int) = askN k 0) (h : ∀ j (h : j < ks.length), coreB n cs ks[j] (belowD sc k (j : Int)) = true) : coreB n cs (ofT k ks) sc = true := by
  unfold ofT
  rw [core_mk, node_iff]
  refine ⟨⟨?_, ?_, hl⟩, h⟩
  · rcases hk with rfl | rfl | rfl <;> rfl
  · rcases hk with rfl | rfl | rfl <;> rfl
theorem core_of2 {n : Int} {cs : List Int} {k : Int} {x y : T} {sc sx sy : Int} (hk : k = 5 ∨ k = 6) (ex : belowD sc k 0 = sx) (ey : belowD sc k 1 = sy) (hx : coreB n cs x sx = true) (hy : coreB n cs y sy = true) : coreB n cs (ofT k [x, y]) sc = true := by
  refine core_of (by omega) (by rcases hk with rfl | rfl <;> rfl) fun j hj => ?_
  subst ex; subst ey
  match j, hj with
  | 0, _ => exact hx
  | 1, _ => exact hy
theorem core_var0 {n : Int} {cs : List Int} {sc : Int} (h : 0 < sc) : coreB n cs (ofT 1 []) sc = true := by
  unfold ofT
  rw [core_mk]
  exact ⟨node_var.2 ⟨by omega, h, rfl, rfl, rfl⟩, fun j hj => absurd hj (by simp)⟩
theorem withK_same {ks : List T} {i many : Nat} (h : ks.length = many) : withK ks (ks.getD i zeroT) i many = ks := by
  apply List.ext_getElem (by rw [withK_len, h])
  intro j h1 h2
  rw [withK_len] at h1
  have := withK_get (ks := ks) (x := ks.getD i zeroT) (i := i) h1
  rw [List.getD_eq_getElem?_getD, List.getElem?_eq_getElem (by rw [withK_len]; exact h1)] at this
  simp only [Option.getD_some] at this
  rw [this]
  split
  · rename_i e; subst e; simp [h2]
  · simp [h2]
theorem with_same {t : T} {i many : Nat} (h : t.ks.length = many) : t.withT (t.kid i) i many = t := by
  cases t with
  | mk k n a ls ks => unfold T.withT T.kid; simp only [T.k_mk, T.n_mk, T.a_mk, T.ls_mk, T.ks_mk] at h ⊢; rw [withK_same h]
theorem core_with {n : Int} {cs : List Int} {t x : T} {sc : Int} {i many : Nat} (h : coreB n cs t sc = true) (hl : t.ks.length = many) (hi : i < many) (hx : coreB n cs x (belowD sc t.k (i : Int)) = true) : coreB n cs (t.withT x i many) sc = true := by
  cases t with
  | mk k m a ls ks =>
    unfold T.withT
    simp only [T.k_mk, T.n_mk, T.a_mk, T.ls_mk, T.ks_mk] at hl hx ⊢
    rw [core_mk] at h ⊢
    refine ⟨by rw [node_ks (ks' := ks) (by rw [withK_len, hl])]; exact h.1, fun j hj => ?_⟩
    have hj' : j < many := by rw [withK_len] at hj; exact hj
    have := withK_get (ks := ks) (x := x) (i := i) hj'
    rw [List.getD_eq_getElem?_getD, List.getElem?_eq_getElem hj] at this
    simp only [Option.getD_some] at this
    rw [this]
    split
    · rename_i e; subst e; exact hx
    · have hjk : j < ks.length := by omega
      rw [List.getD_eq_getElem?_getD, List.getElem?_eq_getElem hjk]
      exact h.2 j hjk
/-- the place that decides is in its scope, and there are just the kids that it says -/
theorem spot_core {n : Int} {cs : List Int} {t : T} {sc : Int} (h : coreB n cs t sc = true) {i many : Nat} (hs : spot t = some (i, many)) : t.ks.length = many ∧ i < many ∧ belowD sc t.k (i : Int) = sc := by
  obtain ⟨h1, h2, h3⟩ := core_node h
  have hlt := spot_lt hs
  refine ⟨?_, hlt, belowD_no ?_⟩
  · unfold spot at hs
    unfold askN at h3
    by_cases k6 : t.k = 6
    · rw [if_pos k6] at hs; cases hs; rw [k6] at h3; simp at h3; omega
    rw [if_neg k6] at hs
    by_cases k14 : t.k = 14 ∨ t.k = 15
    · rw [if_pos k14] at hs; cases hs; rcases k14 with k | k <;> rw [k] at h3 <;> simp at h3 <;> omega
    rw [if_neg k14] at hs
    by_cases k18 : t.k = 18
    · rw [if_pos k18] at hs; cases hs; rw [k18] at h3; simp at h3; omega
    rw [if_neg k18] at hs
    by_cases k21 : t.k = 21
    · rw [if_pos k21] at hs; cases hs; rw [k21] at h3; simp at h3; omega
    rw [if_neg k21] at hs
    split at hs
    · rename_i hk; cases hs; omega
    · cases hs
  · unfold spot at hs
    by_cases k6 : t.k = 6
    · rw [if_pos k6] at hs; cases hs; rw [k6]; kernel_rfl
    rw [if_neg k6] at hs
    by_cases k14 : t.k = 14 ∨ t.k = 15
    · rw [if_pos k14] at hs; cases hs; rcases k14 with k | k <;> rw [k] <;> kernel_rfl
    rw [if_neg k14] at hs
    by_cases k18 : t.k = 18
    · rw [if_pos k18] at hs; cases hs; rw [k18]; kernel_rfl
    rw [if_neg k18] at hs
    by_cases k21 : t.k = 21
    · rw [if_pos k21] at hs; cases hs; rw [k21]; kernel_rfl
    rw [if_neg k21] at hs
    split at hs
    · rename_i hk; rw [hk.1]; exact bind24 _
    · cases hs
/-- what is right, is whole -/
theorem core_trunc {n : Int} {cs : List Int} (t : T) : ∀ {sc : Int}, coreB n cs t sc = true → t.trunc = t := by
  induction t using T.ind with
  | h k m a ls ks ih =>
    intro sc h
    rcases spot_of (.mk k m a ls ks) with hs | ⟨i, many, hs⟩
    · exact trunc_none hs
    · obtain ⟨h1, h2, h3⟩ := spot_core h hs
      have hi : i < (T.mk k m a ls ks).ks.length := by omega
      rw [trunc_in hs hi]
      have h4 := core_kid h hi
      rw [kid_at hi] at h4
      rw [ih _ (List.getElem_mem hi) h4]
      show T.withT _ (T.mk k m a ls ks).ks[i] i many = _
      rw [← kid_at hi]
      exact with_same h1
/-- what the statement asks of constants -/
structure BodyOk (cs : List Int) (l : List C) : Prop where
  eq : cs = l.map C.lv
  lv : ∀ c, c ∈ l → 0 ≤ c.lv ∧ c.lv ≤ 8
  bo : ∀ c, c ∈ l → c.has = true → coreB c.lv cs c.bo 0 = true
  low : ∀ c, c ∈ l → c.bo.lowB 400 = true
  deep : ∀ c, c ∈ l → c.bo.deep ≤ 1000000
theorem put1 {n : Int} {cs : List Int} {b y : T} {sc : Int} (hs : 0 ≤ sc ∧ sc ≤ 10000) (hb : coreB n cs b (sc + 1) = true) (hy : coreB n cs y sc = true) (db : b.deep ≤ 1000000) (dy : y.deep ≤ 1000000) : coreB n cs (b.put [y] 0) sc = true := by
  have := core_put (n := n) (cs := cs) (bys := [y]) (s0 := sc) (by omega) (fun x hx => by
    rw [List.mem_singleton] at hx; subst hx; exact ⟨hy, by unfold DM; omega⟩) (by unfold LMax; simp) b 0 (by omega) ⟨by simp only [List.length_singleton]; omega, by simp only [List.length_singleton]; omega⟩ ⟨by omega, by omega⟩ (by omega) (by unfold DM; omega) (by simpa using hb)
  rw [Int.add_zero] at this
  exact this
theorem lift1 {n : Int} {cs : List Int} {t : T} {sc fr : Int} (hs : 0 ≤ sc ∧ sc ≤ 10000) (h : coreB n cs t sc = true) (d : t.deep ≤ 1000000) : coreB n cs (t.lift 1 fr 0) (sc + 1) = true :=
  core_lift ⟨by omega, by omega⟩ t sc 0 (by omega) hs.1 ⟨by omega, by omega⟩ h
theorem tree_right {n : Int} {cs : List Int} {t x : T} {sc : Int} (hs : 0 ≤ sc ∧ sc ≤ 1000) (hd : t.deep ≤ 1000000) (hk : t.k = 18) (h : coreB n cs t sc = true) (hx : x = t.kid 4) (hxk : x.k = 17) : coreB n cs (treeT t x) sc = true := by
  have hl := (core_node h).2.2
  rw [hk] at hl
  have hl5 : t.ks.length = 5 := by have : askN 18 t.a = 5 := rfl; omega
  have k0 := core_kid h (i := 0) (by omega)
  have k1 := core_kid h (i := 1) (by omega)
  have k2 := core_kid h (i := 2) (by omega)
  have k3 := core_kid h (i := 3) (by omega)
  have k4 := core_kid h (i := 4) (by omega)
  have d0 := kid_deep (t := t) (i := 0) (by omega)
  have d1 := kid_deep (t := t) (i := 1) (by omega)
  have d2 := kid_deep (t := t) (i := 2) (by omega)
  have d3 := kid_deep (t := t) (i := 3) (by omega)
  have d4 := kid_deep (t := t) (i := 4) (by omega)
  rw [hk] at k0 k1 k2 k3 k4
  rw [belowD_no (by kernel_rfl)] at k0 k2 k3 k4
  rw [belowD_yes (by kernel_rfl) (by omega)] at k1
  rw [← hx] at k4 d4
  have hxl := (core_node k4).2.2
  rw [hxk] at hxl
  have hx2 : x.ks.length = 2 := by have : askN 17 x.a = 2 := rfl; omega
  have xa := core_kid k4 (i := 0) (by omega)
  have xf := core_kid k4 (i := 1) (by omega)
  have da := kid_deep (t := x) (i := 0) (by omega)
  have df := kid_deep (t := x) (i := 1) (by omega)
  rw [hxk, belowD_no (by kernel_rfl)] at xa xf
  unfold treeT
  refine core_of2 (sx := sc) (sy := sc) (.inr rfl) (belowD_no (by kernel_rfl)) (belowD_no (by kernel_rfl)) ?_ ?_
  · refine core_of2 (sx := sc) (sy := sc) (.inr rfl) (belowD_no (by kernel_rfl)) (belowD_no (by kernel_rfl)) ?_ xf
    exact core_of2 (sx := sc) (sy := sc) (.inr rfl) (belowD_no (by kernel_rfl)) (belowD_no (by kernel_rfl)) k3 xa
  · refine core_of2 (sx := sc) (sy := sc + 1) (.inl rfl) (belowD_no (by kernel_rfl)) (belowD_yes (by kernel_rfl) (by omega)) (put1 (by omega) k1 xa (by omega) (by omega)) ?_
    refine core_of (.inr (.inr rfl)) rfl fun j hj => ?_
    match j, hj with
    | 0, _ => rw [belowD_no (by kernel_rfl)]; exact lift1 (by omega) k0 (by omega)
    | 1, _ => rw [belowD_yes (by kernel_rfl) (by omega)]; exact lift1 (by omega) k1 (by omega)
    | 2, _ => rw [belowD_no (by kernel_rfl)]; exact lift1 (by omega) k2 (by omega)
    | 3, _ => rw [belowD_no (by kernel_rfl)]; exact lift1 (by omega) k3 (by omega)
    | 4, _ =>
      rw [belowD_no (by kernel_rfl)]
      exact core_of2 (sx := sc + 1) (sy := sc + 1) (.inr rfl) (belowD_no (by kernel_rfl)) (belowD_no (by kernel_rfl)) (lift1 (by omega) xf (by omega)) (core_var0 (by omega))
theorem body_right {n : Int} {cs : List Int} {l : List C} (H : BodyOk cs l) (hn : 0 ≤ n ∧ n ≤ 8) {t b : T} {sc : Int} (hs : 0 ≤ sc ∧ sc ≤ 1000) (hk : t.k = 3) (h : coreB n cs t sc = true) (hlow : t.lowB 400 = true) (hb : bodyC l t.n t.ls = some b) : coreB n cs b sc = true := by
  have ha := (core_node h).2.1
  unfold askC at ha
  rw [hk] at ha
  simp only [constB] at ha
  simp at ha
  obtain ⟨⟨⟨⟨a1, a2⟩, a3⟩, a4⟩, a5⟩ := ha
  unfold bodyC at hb
  split at hb
  · rename_i h1
    split at hb
    · rename_i h2
      cases hb
      have hm := List.getElem_mem h1.2
      have hbo := H.bo _ hm h2.2
      have hlv := H.lv _ hm
      have hlo := H.low _ hm
      have hde := H.deep _ hm
      generalize (l[t.n.toNat]'h1.2) = c at h2 hbo hlv hlo hde
      have := core_levelsM hn (n := c.lv) (cs := cs) (bys := t.ls) (A := 400) (B := 400) (by omega) (by omega) (by omega) (by omega) (fun x hx => ⟨a5 x hx, by
        cases t with
        | mk k m a ls ks =>
          rw [T.lowB, Bool.and_eq_true, List.all_eq_true] at hlow
          exact hlow.1 x hx⟩) c.bo 0 0 hlo hbo
      have hd2 := deep_levels t.ls c.bo 0
      exact core_mono (Int.le_refl _) (ConstsLe.refl _) _ 0 sc hs.1 (by omega) ⟨hs.1, by omega⟩ this
    · cases hb
  · cases hb
/-- its own step -/
theorem own_right {n : Int} {cs : List Int} {l : List C} (H : BodyOk cs l) (hn : 0 ≤ n ∧ n ≤ 8) {t x u : T} {c : Nat} {sc : Int} (hs : 0 ≤ sc ∧ sc ≤ 1000) (hd : t.deep ≤ 1000000) (hlow : t.lowB 400 = true) (h : coreB n cs t sc = true) (hx : ∀ i many, spot t = some (i, many) → x = t.kid i) (ho : ownS l t x = some (u, c)) : coreB n cs u sc = true := by
  have hl := (core_node h).2.2
  unfold ownS at ho
  by_cases k6 : t.k = 6
  · rw [if_pos k6] at ho
    rw [k6] at hl
    have h2 : t.ks.length = 2 := by have : askN 6 t.a = 2 := rfl; omega
    have e := hx 0 2 (by unfold spot; rw [if_pos k6])
    have r0 := core_kid h (i := 0) (by omega)
    have r1 := core_kid h (i := 1) (by omega)
    have d0 := kid_deep (t := t) (i := 0) (by omega)
    have d1 := kid_deep (t := t) (i := 1) (by omega)
    rw [k6, belowD_no (by kernel_rfl)] at r0 r1
    rw [← e] at r0 d0
    split at ho
    · rename_i k5
      cases ho
      have hxl := (core_node r0).2.2
      rw [k5] at hxl
      have hx2 : x.ks.length = 2 := by have : askN 5 x.a = 2 := rfl; omega
      have xb := core_kid r0 (i := 1) (by omega)
      have db := kid_deep (t := x) (i := 1) (by omega)
      rw [k5, belowD_yes (by kernel_rfl) (by omega)] at xb
      exact put1 (by omega) xb r1 (by omega) (by omega)
    · cases ho
  rw [if_neg k6] at ho
  by_cases k14 : t.k = 14 ∨ t.k = 15
  · rw [if_pos k14] at ho
    have h1 : t.ks.length = 1 := by
      rcases k14 with k | k
      · rw [k] at hl; have : askN 14 t.a = 1 := rfl; omega
      · rw [k] at hl; have : askN 15 t.a = 1 := rfl; omega
    have e := hx 0 1 (by unfold spot; rw [if_neg k6, if_pos k14])
    have r0 := core_kid h (i := 0) (by omega)
    rw [← e, belowD_no (by rcases k14 with k | k <;> rw [k] <;> kernel_rfl)] at r0
    split at ho
    · rename_i k13
      cases ho
      have hxl := (core_node r0).2.2
      rw [k13] at hxl
      have hx2 : x.ks.length = 2 := by have : askN 13 x.a = 2 := rfl; omega
      have x0 := core_kid r0 (i := 0) (by omega)
      have x1 := core_kid r0 (i := 1) (by omega)
      rw [k13, belowD_no (by kernel_rfl)] at x0 x1
      split
      · exact x1
      · exact x0
    · cases ho
  rw [if_neg k14] at ho
  by_cases k7 : t.k = 7
  · rw [if_pos k7] at ho
    rw [k7] at hl
    have h3 : t.ks.length = 3 := by have : askN 7 t.a = 3 := rfl; omega
    cases ho
    have r1 := core_kid h (i := 1) (by omega)
    have r2 := core_kid h (i := 2) (by omega)
    have d1 := kid_deep (t := t) (i := 1) (by omega)
    have d2 := kid_deep (t := t) (i := 2) (by omega)
    rw [k7] at r1 r2
    rw [belowD_no (by kernel_rfl)] at r1
    rw [belowD_yes (by kernel_rfl) (by omega)] at r2
    exact put1 (by omega) r2 r1 (by omega) (by omega)
  rw [if_neg k7] at ho
  by_cases k3 : t.k = 3
  · rw [if_pos k3] at ho
    rw [Option.map_eq_some_iff] at ho
    obtain ⟨b, hb, he⟩ := ho
    cases he
    exact body_right H hn hs k3 h hlow hb
  rw [if_neg k3] at ho
  by_cases k18 : t.k = 18
  · rw [if_pos k18] at ho
    split at ho
    · rename_i k17
      cases ho
      exact tree_right hs hd k18 h (hx 4 5 (by unfold spot; rw [if_neg k6, if_neg k14, if_pos k18])) k17
    · cases ho
  rw [if_neg k18] at ho
  by_cases k21 : t.k = 21
  · rw [if_pos k21] at ho
    rw [k21] at hl
    have h6 : t.ks.length = 6 := by have : askN 21 t.a = 6 := rfl; omega
    split at ho
    · cases ho
      have r3 := core_kid h (i := 3) (by omega)
      rw [k21, belowD_no (by kernel_rfl)] at r3
      exact r3
    · cases ho
  rw [if_neg k21] at ho
  split at ho
  · rename_i k24
    split at ho
    · rename_i hxn
      cases ho
      have hm : t.a.toNat + 2 = t.ks.length ∧ 0 ≤ t.a := by
        obtain ⟨ka, kb⟩ := k24
        unfold spot at kb
        rw [if_neg k6, if_neg k14, if_neg k18, if_neg k21] at kb
        split at kb
        · rename_i hh; omega
        · cases kb
      have r := core_kid h (i := x.n.toNat + 1) (by omega)
      rw [k24.1, belowD_no (bind24 _)] at r
      exact r
    · cases ho
  · cases ho
theorem lowB_kid {t : T} {i : Nat} (h : t.lowB 400 = true) (hi : i < t.ks.length) : t.ks[i].lowB 400 = true := by
  cases t with
  | mk k m a ls ks =>
    rw [T.lowB, Bool.and_eq_true] at h
    exact T.lowsB_mem h.2 (List.getElem_mem hi)
/-- THE LAW -/
theorem hstep_right {n : Int} {cs : List Int} {l : List C} (H : BodyOk cs l) (hn : 0 ≤ n ∧ n ≤ 8) {sc : Int} (hs : 0 ≤ sc ∧ sc ≤ 1000) (t : T) : ∀ {u : T} {c : Nat}, t.deep ≤ 1000000 → t.lowB 400 = true → coreB n cs t sc = true → hstep l t = some (u, c) → coreB n cs u sc = true := by
  induction t using T.ind with
  | h k m a ls ks ih =>
    intro u c hd hlow h hst
    rcases spot_of (.mk k m a ls ks) with hsp | ⟨i, many, hsp⟩
    · rw [hstep_none hsp] at hst
      exact own_right H hn hs hd hlow h (fun i many e => by rw [hsp] at e; cases e) hst
    · obtain ⟨h1, h2, h3⟩ := spot_core h hsp
      have hi : i < (T.mk k m a ls ks).ks.length := by omega
      have h4 := core_kid h hi
      rw [h3] at h4
      have h5 := kid_deep hi
      rw [kid_at hi] at h4 h5
      cases hu : hstep l (T.mk k m a ls ks).ks[i] with
      | some v =>
        rw [hstep_in hsp hi (u := v.1) (c := v.2) hu] at hst
        cases hst
        refine core_with h h1 h2 ?_
        rw [h3]
        exact ih _ (List.getElem_mem hi) (by omega) (lowB_kid hlow hi) h4 hu
      | none =>
        rw [hstep_at hsp hi hu, core_trunc _ h4, ← kid_at hi, with_same h1] at hst
        exact own_right H hn hs hd hlow h (fun i' many' e => by rw [hsp] at e; cases e; rfl) hst
end Go.Proofs.YtebmlojhdnldgaaGreatDoor

namespace Go.Proofs.YtebmlojhdnldgaaGreatDoor
set_option linter.unusedSimpArgs false
set_option linter.unusedVariables false
open Go.RowKit
/-- how many kids a head may get more -/
def lackN (k : Int) (len : Nat) : Nat := if k = 6 then 2 - len else if k = 14 ∨ k = 15 then 1 - len else if k = 18 then 5 - len else if k = 21 then 6 - len else 0
mutual
/-- a term's size, with what its heads may get -/
def T.pot : T → Nat
  | .mk k _ _ _ ks => 1 + lackN k ks.length + T.pots ks
def T.pots : List T → Nat
  | [] => 0
  | t :: r => T.pot t + T.pots r
end
theorem lackN_le (k : Int) (len : Nat) : lackN k len ≤ 6 := by unfold lackN; (repeat' split) <;> omega
mutual
theorem nsz_pot : ∀ t : T, t.nsz ≤ t.pot
  | .mk k n a ls ks => by rw [T.nsz, T.pot]; have := nszs_pots ks; omega
theorem nszs_pots : ∀ ks : List T, T.nszs ks ≤ T.pots ks
  | [] => by rw [T.nszs]; omega
  | t :: r => by rw [T.nszs, T.pots]; have := nsz_pot t; have := nszs_pots r; omega
end
mutual
theorem pot_le : ∀ t : T, t.pot ≤ 7 * t.nsz
  | .mk k n a ls ks => by rw [T.nsz, T.pot]; have := pots_le ks; have := lackN_le k ks.length; omega
theorem pots_le : ∀ ks : List T, T.pots ks ≤ 7 * T.nszs ks
  | [] => by rw [T.pots]; omega
  | t :: r => by rw [T.nszs, T.pots]; have := pot_le t; have := pots_le r; omega
end
theorem pots_mem {t : T} {ks : List T} (h : t ∈ ks) : t.pot ≤ T.pots ks := by
  induction ks with
  | nil => cases h
  | cons x r ih =>
    rw [T.pots]
    cases h with
    | head => omega
    | tail _ hm => have := ih hm; omega
theorem pot_pos (t : T) : 1 ≤ t.pot := by have := nsz_pot t; have := t.nsz_pos; omega
theorem pot_zero : zeroT.pot = 1 := rfl
theorem kid_pot (t : T) (i : Nat) : (t.kid i).pot ≤ t.pot := by
  unfold T.kid
  rw [List.getD_eq_getElem?_getD]
  by_cases h : i < t.ks.length
  · rw [List.getElem?_eq_getElem h]
    have := pots_mem (List.getElem_mem h)
    cases t with
    | mk k n a ls ks => rw [T.pot]; simp only [T.ks_mk, Option.getD_some] at this ⊢; omega
  · rw [List.getElem?_eq_none (by omega)]
    have := pot_pos t
    exact this
theorem pots_append : ∀ a b : List T, T.pots (a ++ b) = T.pots a + T.pots b
  | [], b => by simp [T.pots]
  | t :: r, b => by rw [List.cons_append, T.pots, T.pots, pots_append r b]; omega
/-- the first kids, padded -/
theorem pots_pad (ks : List T) : ∀ m : Nat, T.pots ((List.range m).map fun j => ks.getD j zeroT) ≤ T.pots (ks.take m) + (m - ks.length)
  | 0 => by simp [T.pots]
  | m + 1 => by
    rw [List.range_succ, List.map_append, pots_append]
    have ih := pots_pad ks m
    simp only [List.map_cons, List.map_nil, T.pots]
    by_cases h : m < ks.length
    · rw [List.take_succ_eq_append_getElem h, pots_append]
      simp only [T.pots]
      rw [List.getD_eq_getElem?_getD, List.getElem?_eq_getElem h]
      simp only [Option.getD_some]
      omega
    · rw [List.take_of_length_le (by omega)] at ih ⊢
      rw [List.getD_eq_getElem?_getD, List.getElem?_eq_none (by omega)]
      simp only [Option.getD_none, pot_zero]
      omega
theorem pots_take : ∀ (ks : List T) (m : Nat), T.pots (ks.take m) ≤ T.pots ks
  | [], m => by simp
  | t :: r, 0 => by simp [T.pots]
  | t :: r, m + 1 => by rw [List.take_succ_cons, T.pots, T.pots]; have := pots_take r m; omega
theorem pots_withK (ks : List T) (x : T) (i : Nat) : ∀ m : Nat, T.pots (withK ks x i m) + (if i < m then (ks.getD i zeroT).pot else 0) = T.pots ((List.range m).map fun j => ks.getD j zeroT) + (if i < m then x.pot else 0)
  | 0 => by simp [withK, T.pots]
  | m + 1 => by
    have ih := pots_withK ks x i m
    unfold withK at ih ⊢
    rw [List.range_succ, List.map_append, List.map_append, pots_append, pots_append]
    simp only [List.map_cons, List.map_nil, T.pots]
    by_cases h1 : m = i
    · subst h1
      rw [if_neg (by omega)] at ih
      rw [if_neg (by omega)] at ih
      simp only [if_true, if_pos (Nat.lt_succ_self m)]
      omega
    · simp only [h1, if_false]
      by_cases h2 : i < m
      · rw [if_pos h2, if_pos h2] at ih
        rw [if_pos (by omega), if_pos (by omega)]
        omega
      · rw [if_neg h2, if_neg h2] at ih
        rw [if_neg (by omega), if_neg (by omega)]
        omega
theorem spot_lack {t : T} {i many : Nat} (h : spot t = some (i, many)) : lackN t.k many = 0 ∧ many - t.ks.length ≤ lackN t.k t.ks.length := by
  unfold spot at h
  unfold lackN
  by_cases h1 : t.k = 6
  · rw [if_pos h1] at h ⊢; rw [if_pos h1]; cases h; omega
  rw [if_neg h1] at h ⊢; rw [if_neg h1]
  by_cases h1 : t.k = 14 ∨ t.k = 15
  · rw [if_pos h1] at h ⊢; rw [if_pos h1]; cases h; omega
  rw [if_neg h1] at h ⊢; rw [if_neg h1]
  by_cases h1 : t.k = 18
  · rw [if_pos h1] at h ⊢; rw [if_pos h1]; cases h; omega
  rw [if_neg h1] at h ⊢; rw [if_neg h1]
  by_cases h1 : t.k = 21
  · rw [if_pos h1] at h ⊢; rw [if_pos h1]; cases h; omega
  rw [if_neg h1] at h ⊢; rw [if_neg h1]
  by_cases h1 : t.k = 24 ∧ 0 ≤ t.a ∧ (t.ks.length : Int) - 2 = t.a
  · rw [if_pos h1] at h; cases h; omega
  · rw [if_neg h1] at h; cases h
theorem with_pot {t x : T} {i many : Nat} (h : spot t = some (i, many)) : (t.withT x i many).pot + (t.kid i).pot ≤ t.pot + x.pot := by
  have hlt := spot_lt h
  have hlack := spot_lack h
  have h1 := pots_withK t.ks x i many
  have h2 := pots_pad t.ks many
  have h3 := pots_take t.ks many
  rw [if_pos hlt, if_pos hlt] at h1
  cases t with
  | mk k n a ls ks =>
    unfold T.withT T.kid
    rw [T.pot, T.pot]
    simp only [T.k_mk, T.ks_mk, withK_len] at hlack h1 h2 h3 ⊢
    omega
theorem trunc_pot (t : T) : t.trunc.pot ≤ t.pot := by
  induction t using T.ind with
  | h k n a ls ks ih =>
    rcases spot_of (.mk k n a ls ks) with hs | ⟨i, many, hs⟩
    · rw [trunc_none hs]; exact Nat.le_refl _
    · by_cases hi : i < (T.mk k n a ls ks).ks.length
      · rw [trunc_in hs hi]
        have h1 := with_pot (x := T.trunc (T.mk k n a ls ks).ks[i]) hs
        have h2 := ih _ (List.getElem_mem hi)
        have h3 : (T.mk k n a ls ks).kid i = (T.mk k n a ls ks).ks[i] := by unfold T.kid; rw [List.getD_eq_getElem?_getD, List.getElem?_eq_getElem hi]; rfl
        rw [h3] at h1
        simp only [T.ks_mk] at h1 h2 ⊢
        omega
      · rw [trunc_out hs hi]
        have h1 := with_pot (x := zeroT) hs
        have h2 := pot_pos ((T.mk k n a ls ks).kid i)
        rw [pot_zero] at h1
        omega
theorem nsz_of2 (k : Int) (x y : T) : (ofT k [x, y]).nsz = 1 + x.nsz + y.nsz := by unfold ofT; rw [T.nsz, T.nszs, T.nszs, T.nszs]; omega
theorem nsz_lift0 (t : T) (n fr : Int) : (t.lift n fr 0).nsz = t.nsz := nsz_lift n fr t 0
theorem tree_nsz (t s : T) : (treeT t s).nsz = treeN t s := by
  unfold treeT treeN
  simp only [nsz_of2]
  unfold ofT
  simp only [T.nsz, T.nszs, nsz_lift0]
  have : ((t.kid 1).put [s.kid 0] 0).nsz = (t.kid 1).sd (s.kid 0).nsz 0 := nsz_put _ _ _
  rw [this]
  omega
theorem own_nsz {l : List C} {t x u : T} {c : Nat} (h : ownS l t x = some (u, c)) : u.nsz = c := by
  unfold ownS at h
  repeat' split at h
  all_goals first | (cases h; done) | skip
  all_goals first
    | (cases h; exact nsz_put _ _ _)
    | (cases h; exact tree_nsz _ _)
    | (cases h; rfl)
    | (rw [Option.map_eq_some_iff] at h; obtain ⟨b, -, hb⟩ := h; cases hb; rfl)
theorem own_pos {l : List C} {t x u : T} {c : Nat} (h : ownS l t x = some (u, c)) : 1 ≤ c := by rw [← own_nsz h]; exact u.nsz_pos
/-- a step, by its place -/
theorem hstep_cases {l : List C} {t u : T} {c : Nat} (h : hstep l t = some (u, c)) :
    (∃ i many, spot t = some (i, many) ∧ ∃ hi : i < t.ks.length, ∃ v, hstep l t.ks[i] = some (v, c) ∧ u = t.withT v i many) ∨
    (∃ i many, spot t = some (i, many) ∧ ∃ x, x.pot ≤ (t.kid i).pot ∧ ownS l (t.withT x i many) x = some (u, c)) ∨
    (spot t = none ∧ ownS l t zeroT = some (u, c)) := by
  rcases spot_of t with hs | ⟨i, many, hs⟩
  · exact .inr (.inr ⟨hs, by rw [← hstep_none hs]; exact h⟩)
  · by_cases hi : i < t.ks.length
    · cases hk : hstep l t.ks[i] with
      | some v =>
        rw [hstep_in hs hi (u := v.1) (c := v.2) hk] at h
        cases h
        exact .inl ⟨i, many, hs, hi, v.1, hk, rfl⟩
      | none =>
        rw [hstep_at hs hi hk] at h
        refine .inr (.inl ⟨i, many, hs, _, ?_, h⟩)
        have h3 : t.kid i = t.ks[i] := by unfold T.kid; rw [List.getD_eq_getElem?_getD, List.getElem?_eq_getElem hi]; rfl
        rw [h3]
        exact trunc_pot _
    · rw [hstep_out hs hi] at h
      exact .inr (.inl ⟨i, many, hs, zeroT, by rw [pot_zero]; exact pot_pos _, h⟩)
theorem hstep_pos {l : List C} (t : T) : ∀ {u : T} {c : Nat}, hstep l t = some (u, c) → 1 ≤ c := by
  induction t using T.ind with
  | h k n a ls ks ih =>
    intro u c h
    rcases hstep_cases h with ⟨i, many, hs, hi, v, hv, -⟩ | ⟨i, many, hs, x, -, ho⟩ | ⟨hs, ho⟩
    · exact ih _ (List.getElem_mem hi) hv
    · exact own_pos ho
    · exact own_pos ho
theorem hstep_pot {l : List C} (t : T) : ∀ {u : T} {c : Nat}, hstep l t = some (u, c) → u.pot ≤ t.pot + 7 * c := by
  induction t using T.ind with
  | h k n a ls ks ih =>
    intro u c h
    rcases hstep_cases h with ⟨i, many, hs, hi, v, hv, rfl⟩ | ⟨i, many, hs, x, -, ho⟩ | ⟨hs, ho⟩
    · have h1 := ih _ (List.getElem_mem hi) hv
      have h2 := with_pot (x := v) hs
      have h3 : (T.mk k n a ls ks).kid i = (T.mk k n a ls ks).ks[i] := by unfold T.kid; rw [List.getD_eq_getElem?_getD, List.getElem?_eq_getElem hi]; rfl
      rw [h3] at h2
      simp only [T.ks_mk] at h2 h1 ⊢
      omega
    · have h1 := own_nsz ho
      have h2 := pot_le u
      omega
    · have h1 := own_nsz ho
      have h2 := pot_le u
      omega
/-! bounds -/
theorem zero_ok : okT zeroT := .mk (by unfold I64; omega) (by unfold I64; omega) (by unfold I64; omega) (by simp) (fun _ h => nomatch h) (by simp) (fun _ h => nomatch h)
theorem getD_ok {ks : List T} (h : ∀ t, t ∈ ks → okT t) (i : Nat) : okT (ks.getD i zeroT) := by
  rw [List.getD_eq_getElem?_getD]
  by_cases hi : i < ks.length
  · rw [List.getElem?_eq_getElem hi]; exact h _ (List.getElem_mem hi)
  · rw [List.getElem?_eq_none (by omega)]; exact zero_ok
theorem kid_ok {t : T} (h : okT t) (i : Nat) : okT (t.kid i) := getD_ok h.ks i
theorem with_ok {t x : T} {i many : Nat} (h : okT t) (hx : okT x) (hm : many ≤ LMax) : okT (t.withT x i many) := by
  unfold T.withT
  refine .mk h.k h.n h.a h.ll h.ls (by rw [withK_len]; exact hm) fun y hy => ?_
  unfold withK at hy
  rw [List.mem_map] at hy
  obtain ⟨j, -, rfl⟩ := hy
  split
  · exact hx
  · exact getD_ok h.ks j
theorem spot_many {t : T} {i many : Nat} (h : spot t = some (i, many)) (ht : okT t) : many ≤ LMax := by
  have hk := ht.kl
  unfold spot at h
  unfold LMax at hk ⊢
  repeat' split at h
  all_goals first | (cases h; omega) | cases h
theorem trunc_ok (t : T) : okT t → okT t.trunc := by
  induction t using T.ind with
  | h k n a ls ks ih =>
    intro ht
    rcases spot_of (.mk k n a ls ks) with hs | ⟨i, many, hs⟩
    · rw [trunc_none hs]; exact ht
    · by_cases hi : i < (T.mk k n a ls ks).ks.length
      · rw [trunc_in hs hi]
        exact with_ok ht (ih _ (List.getElem_mem hi) (ht.ks _ (List.getElem_mem hi))) (spot_many hs ht)
      · rw [trunc_out hs hi]
        exact with_ok ht zero_ok (spot_many hs ht)
theorem ok_of {k : Int} {ks : List T} (hk : I64 k) (hl : ks.length ≤ LMax) (h : ∀ t, t ∈ ks → okT t) : okT (ofT k ks) := .mk hk (by unfold I64; omega) (by unfold I64; omega) (by simp) (fun _ h => nomatch h) hl h
theorem ok_of2 {k : Int} {x y : T} (hk : I64 k) (hx : okT x) (hy : okT y) : okT (ofT k [x, y]) := ok_of hk (by unfold LMax; simp) fun t h => by
  simp only [List.mem_cons, List.not_mem_nil, or_false] at h
  rcases h with rfl | rfl <;> assumption
theorem one_mem {x t : T} (h : t ∈ [x]) : t = x := by simpa using h
theorem tree_ok {t s : T} (ht : okT t) (hs : okT s) : okT (treeT t s) := by
  have i6 : I64 6 := by unfold I64; omega
  have i5 : I64 5 := by unfold I64; omega
  have i18 : I64 18 := by unfold I64; omega
  have i1 : I64 1 := by unfold I64; omega
  unfold treeT
  refine ok_of2 i6 (ok_of2 i6 (ok_of2 i6 (kid_ok ht 3) (kid_ok hs 0)) (kid_ok hs 1)) (ok_of2 i5 (put_ok (fun b hb => by rw [one_mem hb]; exact kid_ok hs 0) 0 (kid_ok ht 1)) (ok_of i18 (by unfold LMax; simp) fun y hy => ?_))
  simp only [List.mem_cons, List.not_mem_nil, or_false] at hy
  rcases hy with rfl | rfl | rfl | rfl | rfl
  · exact lift_ok _ _ _ (kid_ok ht 0)
  · exact lift_ok _ _ _ (kid_ok ht 1)
  · exact lift_ok _ _ _ (kid_ok ht 2)
  · exact lift_ok _ _ _ (kid_ok ht 3)
  · exact ok_of2 i6 (lift_ok _ _ _ (kid_ok hs 1)) (ok_of i1 (by simp) (fun _ h => nomatch h))
def okC (c : C) : Prop := I64 c.lv ∧ okT c.ty ∧ okT c.bo
theorem body_ok {l : List C} (hl : ∀ c, c ∈ l → okC c) {n : Int} {lv : List LV} {b : T} (h : bodyC l n lv = some b) : okT b := by
  unfold bodyC at h
  split at h
  · rename_i h1
    split at h
    · cases h; exact levels_ok _ _ (hl _ (List.getElem_mem h1.2)).2.2
    · cases h
  · cases h
theorem body_nsz {l : List C} {B : Nat} (hl : ∀ c, c ∈ l → c.bo.nsz ≤ B) {n : Int} {lv : List LV} {b : T} (h : bodyC l n lv = some b) : b.nsz ≤ B := by
  unfold bodyC at h
  split at h
  · rename_i h1
    split at h
    · cases h; unfold T.levels; rw [nsz_levels]; exact hl _ (List.getElem_mem h1.2)
    · cases h
  · cases h
theorem own_ok {l : List C} (hl : ∀ c, c ∈ l → okC c) {t x u : T} {c : Nat} (ht : okT t) (hx : okT x) (h : ownS l t x = some (u, c)) : okT u := by
  unfold ownS at h
  repeat' split at h
  all_goals first | (cases h; done) | skip
  all_goals first
    | (cases h; exact put_ok (fun b hb => by rw [one_mem hb]; exact kid_ok ht 1) 0 (kid_ok hx 1))
    | (cases h; exact put_ok (fun b hb => by rw [one_mem hb]; exact kid_ok ht 1) 0 (kid_ok ht 2))
    | (cases h; exact tree_ok ht hx)
    | (cases h; exact kid_ok hx _)
    | (cases h; exact kid_ok ht _)
    | (rw [Option.map_eq_some_iff] at h; obtain ⟨b, hb1, hb⟩ := h; cases hb; exact body_ok hl hb1)
theorem hstep_ok {l : List C} (hl : ∀ c, c ∈ l → okC c) (t : T) : ∀ {u : T} {c : Nat}, okT t → hstep l t = some (u, c) → okT u := by
  induction t using T.ind with
  | h k n a ls ks ih =>
    intro u c ht h
    rcases spot_of (.mk k n a ls ks) with hs | ⟨i, many, hs⟩
    · rw [hstep_none hs] at h; exact own_ok hl ht zero_ok h
    · by_cases hi : i < (T.mk k n a ls ks).ks.length
      · have hki := ht.ks _ (List.getElem_mem hi)
        cases hk : hstep l (T.mk k n a ls ks).ks[i] with
        | some v =>
          rw [hstep_in hs hi (u := v.1) (c := v.2) hk] at h
          cases h
          exact with_ok ht (ih _ (List.getElem_mem hi) hki hk) (spot_many hs ht)
        | none =>
          rw [hstep_at hs hi hk] at h
          exact own_ok hl (with_ok ht (trunc_ok _ hki) (spot_many hs ht)) (trunc_ok _ hki) h
      · rw [hstep_out hs hi] at h
        exact own_ok hl (with_ok ht zero_ok (spot_many hs ht)) zero_ok h
theorem sd_bound {t a : T} {A : Nat} (h1 : t.pot ≤ A) (h2 : a.pot ≤ A) : t.sd a.nsz 0 ≤ A * A := by
  have h3 := T.sd_le a.nsz a.nsz_pos t 0
  have h4 := nsz_pot t
  have h5 := nsz_pot a
  exact Nat.le_trans h3 (Nat.mul_le_mul (by omega) (by omega))
theorem own_bound {l : List C} {B : Nat} (hl : ∀ c, c ∈ l → c.bo.nsz ≤ B) {t x u : T} {c A : Nat} (ht : t.pot ≤ A) (hx : x.pot ≤ A) (h : ownS l t x = some (u, c)) : c ≤ 7 + 8 * A + A * A + B := by
  have kt := fun i => kid_pot t i
  have kx := fun i => kid_pot x i
  unfold ownS at h
  repeat' split at h
  all_goals first | (cases h; done) | skip
  all_goals first
    | (cases h; have := sd_bound (A := A) (Nat.le_trans (kx 1) hx) (Nat.le_trans (kt 1) ht); omega)
    | (cases h; have := sd_bound (A := A) (Nat.le_trans (kt 2) ht) (Nat.le_trans (kt 1) ht); omega)
    | (cases h; have h1 := nsz_pot (x.kid 1); have h2 := kx 1; omega)
    | (cases h; have h1 := nsz_pot (x.kid 0); have h2 := kx 0; omega)
    | (cases h; have h1 := nsz_pot (t.kid 3); have h2 := kt 3; omega)
    | (cases h; have h1 := nsz_pot (t.kid (x.n.toNat + 1)); have h2 := kt (x.n.toNat + 1); omega)
    | (cases h
       unfold treeN
       have h1 := sd_bound (A := A) (Nat.le_trans (kt 1) ht) (Nat.le_trans (kx 0) hx)
       have h2 := nsz_pot (x.kid 0)
       have h3 := nsz_pot (x.kid 1)
       have h4 := nsz_pot (t.kid 0)
       have h5 := nsz_pot (t.kid 1)
       have h6 := nsz_pot (t.kid 2)
       have h7 := nsz_pot (t.kid 3)
       have h8 := kx 0
       have h9 := kx 1
       have g4 := kt 0
       have g5 := kt 1
       have g6 := kt 2
       have g7 := kt 3
       dsimp only
       omega)
    | (rw [Option.map_eq_some_iff] at h; obtain ⟨b, hb1, hb⟩ := h; cases hb; have := body_nsz hl hb1; omega)
theorem hstep_bound {l : List C} {B : Nat} (hl : ∀ c, c ∈ l → c.bo.nsz ≤ B) (t : T) : ∀ {u : T} {c A : Nat}, t.pot ≤ A → hstep l t = some (u, c) → c ≤ 7 + 8 * A + A * A + B := by
  induction t using T.ind with
  | h k n a ls ks ih =>
    intro u c A hA h
    rcases hstep_cases h with ⟨i, many, hs, hi, v, hv, -⟩ | ⟨i, many, hs, x, hx, ho⟩ | ⟨hs, ho⟩
    · have hk := kid_pot (T.mk k n a ls ks) i
      have h3 : (T.mk k n a ls ks).kid i = (T.mk k n a ls ks).ks[i] := by unfold T.kid; rw [List.getD_eq_getElem?_getD, List.getElem?_eq_getElem hi]; rfl
      rw [h3] at hk
      exact ih _ (List.getElem_mem hi) (Nat.le_trans hk hA) hv
    · have h1 := with_pot (x := x) hs
      have h2 := kid_pot (T.mk k n a ls ks) i
      exact own_bound hl (A := A) (by omega) (by omega) ho
    · exact own_bound hl (A := A) hA (by rw [pot_zero]; have := pot_pos (T.mk k n a ls ks); omega) ho
end Go.Proofs.YtebmlojhdnldgaaGreatDoor

namespace Go.Proofs.YtebmlojhdnldgaaGreatDoor
set_option linter.unusedSimpArgs false
set_option linter.unusedVariables false
open Go.RowKit
theorem CallOK.deepA {P : Program} {G : Nat → Option D} {f : FuncId} {args' : List D} {hh : Nat → HO} {out : Out} {rd : List Nat} {up : List (Nat × HO)} (h : CallOK P G f (D.deeps args') hh out rd up) : CallOK P G f args' hh out rd up :=
  fun ρ w H vs hR hx hvs => h ρ w H vs hR hx (RpL_deep _ _ hvs)
theorem CallX.pureD {P : Program} {G : Nat → Option D} (hG : ∀ g d, G g = some d → d.pure = true) {f : FuncId} {args args' : List D} {out : Out} (h : Spec P G f args [] (fun o _ => o.fgt = out)) {hl : List HO} {K : Out → List HO → Prop} (hK : K out hl) (ha : D.fgts (D.deeps args') = args) (hp : D.pures args = true) (ho : out.pure = true) : CallX P G f args' hl K :=
  ⟨fun o up => o = out ∧ up = [], (CallOK.deepA (CallOK.pure hG h ha hp ho _)).toR, fun o up ⟨h1, h2⟩ => by subst h1; subst h2; exact hK⟩
theorem CallY.pureD {P : Program} {G : Nat → Option D} (hG : ∀ g d, G g = some d → d.pure = true) {f : FuncId} {args args' : List D} {out : Out} (h : Spec P G f args [] (fun o _ => o.fgt = out)) {hl : List HO} {K : Out → List Nat → List (Nat × HO) → Prop} (hK : K out [] []) (ha : D.fgts (D.deeps args') = args) (hp : D.pures args = true) (ho : out.pure = true) : CallY P G f args' hl K :=
  ⟨out, [], [], CallOK.deepA (CallOK.pure hG h ha hp ho _), hK⟩
/-- behind a statement whose ends are many, of which something is told: a -/
theorem wpD_seqE {P : Program} {G : Nat → Option D} {M : Nat} {Q : DX → List D → List HO → Df → Prop} {tl : List D} {hl : List HO} {df : Df} {α : Type} {x y : Code} (W : List Nat) (ds : α → List D) (hl1 : α → List HO) (Pre : α → Prop) (h1 : ∀ a, Pre a → wpD P G M y Q (putAll tl W (ds a)) (hl1 a) df)
    (h2 : ∀ K : List D → List HO → Df → Prop, (∀ a tl', Pre a → leT (putAll tl W (ds a)) tl' → K tl' (hl1 a) df) → wpD P G M x (thenD K Q) tl hl df) : wpD P G M (.seq x y) Q tl hl df :=
  wpD_seqk fun K hK => h2 K fun a tl' hp h => hK _ _ _ (wpD_weak h (h1 a hp))
@[simp high] theorem encP_deep (p : Int × Int) : (encP p).deep = encP p := rfl
theorem mapP_deep (l : LV) : D.deeps (l.map encP) = l.map encP := by rw [D.deeps_map, List.map_map]; rfl
@[simp high] theorem mapP_deep' (l : LV) : D.deeps (l.map encP) = l.map encP := mapP_deep l
@[simp high] theorem encL_deep (l : LV) : (encL l).deep = encL l := by
  unfold encL
  simp only [D.deep, D.deeps, mapP_deep]
@[simp high] theorem mapL_deep (l : List LV) : D.deeps (l.map encL) = l.map encL := by
  rw [D.deeps_map, List.map_map]
  exact List.map_congr_left fun x _ => encL_deep x
@[simp high] theorem encT_deep (t : T) : (encT t).deep = encT t := by
  induction t using T.ind with
  | h k n a ls ks ih =>
    rw [encT_eq]
    have : D.deeps (ks.map encT) = ks.map encT := by
      rw [D.deeps_map, List.map_map]
      exact List.map_congr_left fun x hx => ih x hx
    simp only [D.deep, D.deeps, mapL_deep, T.ks_mk, this]
@[simp high] theorem mapT_deep (l : List T) : D.deeps (l.map encT) = l.map encT := by
  rw [D.deeps_map, List.map_map]
  exact List.map_congr_left fun x _ => encT_deep x
@[simp high] theorem mapI_deep (l : List Int) : D.deeps (l.map (.int .i64)) = l.map (.int .i64) := by
  rw [D.deeps_map, List.map_map]; rfl
end Go.Proofs.YtebmlojhdnldgaaGreatDoor

namespace Go.Proofs.YtebmlojhdnldgaaGreatDoor
set_option linter.unusedSimpArgs false
set_option linter.unusedVariables false
open Go.RowKit
def encC (c : C) : D := .agg [.int .i64 c.lv, .int .i64 c.ty.k, .int .i64 c.ty.n, .int .i64 c.ty.a, .slice (c.ty.ls.map encL) .any, .slice (c.ty.ks.map encT) .any, .bool c.has, .int .i64 c.bo.k, .int .i64 c.bo.n, .int .i64 c.bo.a, .slice (c.bo.ls.map encL) .any, .slice (c.bo.ks.map encT) .any]
def Cs (l : List C) : D := .slice (l.map encC) .any
def zeroC : C := ⟨0, zeroT, false, zeroT⟩
@[simp high] theorem encC_pure (c : C) : (encC c).pure = true := by simp [encC, D.pure, D.pures, Cp.free]
@[simp high] theorem encC_fgt (c : C) : (encC c).fgt = encC c := by simp [encC, D.fgt, D.fgts]
@[simp high] theorem encC_size (c : C) : (encC c).size = 12 := rfl
@[simp high] theorem encC_cells (c : C) : (encC c).cells = [.int .i64 c.lv, .int .i64 c.ty.k, .int .i64 c.ty.n, .int .i64 c.ty.a, .slice (c.ty.ls.map encL) .any, .slice (c.ty.ks.map encT) .any, .bool c.has, .int .i64 c.bo.k, .int .i64 c.bo.n, .int .i64 c.bo.a, .slice (c.bo.ls.map encL) .any, .slice (c.bo.ks.map encT) .any] := rfl
@[simp high] theorem encC_frz (bx : FK) (i : Nat) (x : D) (c : C) : D.frz bx i x (encC c) = encC c := D.frz_pure bx i x _ (encC_pure c)
@[simp high] theorem mapC_frz (bx : FK) (i : Nat) (x : D) (l : List C) : D.frzs bx i x (l.map encC) = l.map encC := D.frzs_pure bx i x _ (by simp [D.pures_map])
@[simp high] theorem encC_low (m : Nat) (c : C) : (encC c).low m = true := D.low_pure m _ (encC_pure c)
@[simp high] theorem mapC_low (m : Nat) (l : List C) : D.lows m (l.map encC) = true := D.lows_pure m _ (by simp [D.pures_map])
@[simp high] theorem encC_okN (p : Nat → Bool) (c : C) : (encC c).okN p = true := D.okN_pure p _ (encC_pure c)
@[simp high] theorem encC_ren (σ : Nat → Nat) (c : C) : D.ren σ (encC c) = encC c := D.ren_pure σ _ (encC_pure c)
@[simp high] theorem mapC_okN (p : Nat → Bool) (l : List C) : D.okNs p (l.map encC) = true := D.okNs_pure p _ (by simp [D.pures_map])
@[simp high] theorem mapC_ren (σ : Nat → Nat) (l : List C) : D.rens σ (l.map encC) = l.map encC := D.rens_pure σ _ (by simp [D.pures_map])
@[simp high] theorem mapC_pures (l : List C) : D.pures (l.map encC) = true := by simp [D.pures_map]
@[simp high] theorem encC_deep (c : C) : (encC c).deep = encC c := by simp only [encC, D.deep, D.deeps, mapL_deep, mapT_deep]
@[simp high] theorem mapC_deep (l : List C) : D.deeps (l.map encC) = l.map encC := by
  rw [D.deeps_map, List.map_map]
  exact List.map_congr_left fun x _ => encC_deep x
theorem encZ : encT zeroT = .agg [.int .i64 0, .int .i64 0, .int .i64 0, .slice [] .any, .slice [] .any] := encT_eq _
/-- a kid of a number -/
def kidI (t : T) (n : Int) : T := if n < 0 then zeroT else t.kid n.toNat
theorem kidI_nat (t : T) (n : Nat) : kidI t (n : Int) = t.kid n := by unfold kidI; rw [if_neg (by omega)]; rfl
theorem encT_mk' (k n a : Int) (ls : List LV) (ks : List T) : encT (.mk k n a ls ks) = .agg [.int .i64 k, .int .i64 n, .int .i64 a, .slice (ls.map encL) .any, .slice (ks.map encT) .any] := encT_eq _
/-- who brings to the head -/
def headD (left : Int) (l : List C) (once done : Bool) : HO := .cells 76 [.int .i64 left, Cs l, .bool once, .bool done, .map 1]
def goneD : D := .iface 122 (.agg [])
/-! sizes as the machine counts -/
mutual
def T.sdw (many : Int) : T → Int → Int
  | .mk k n _ _ ks, b => if k = 1 ∧ n = b then many else T.sdws many k ks 0 b 1
def T.sdws (many k : Int) : List T → Nat → Int → Int → Int
  | [], _, _, s => s
  | t :: r, i, b, s => T.sdws many k r (i + 1) b (IntKind.i64.wrap (s + T.sdw many t (belowD b k i)))
end
theorem wrap_both (a b : Int) : IntKind.i64.wrap (IntKind.i64.wrap a + IntKind.i64.wrap b) = IntKind.i64.wrap (a + b) := by
  simp only [IntKind.wrap_i64]; omega
mutual
theorem sz_true : ∀ t : T, t.sz = IntKind.i64.wrap (t.nsz : Int)
  | .mk k n a ls ks => by
    rw [T.sz, T.nsz, szs_true ks 1 1 (by rfl)]
theorem szs_true : ∀ (ks : List T) (s : Int) (m : Nat), s = IntKind.i64.wrap (m : Int) → T.szs ks s = IntKind.i64.wrap ((m + T.nszs ks : Nat) : Int)
  | [], s, m, h => by rw [T.szs, T.nszs, h]; rfl
  | t :: r, s, m, h => by
    rw [T.szs, T.nszs, szs_true r _ (m + t.nsz) (by
      rw [h, sz_true t, wrap_both, Int.natCast_add])]
    congr 2
    omega
end
mutual
theorem sdw_true (many : Nat) : ∀ (t : T) (b : Int), T.sdw (IntKind.i64.wrap (many : Int)) t b = IntKind.i64.wrap ((t.sd many b : Nat) : Int)
  | .mk k n a ls ks, b => by
    rw [T.sdw, T.sd]
    split
    · rfl
    · rw [sdws_true many k ks 0 b 1 1 (by rfl)]
theorem sdws_true (many : Nat) (k : Int) : ∀ (ks : List T) (i : Nat) (b s : Int) (m : Nat), s = IntKind.i64.wrap (m : Int) → T.sdws (IntKind.i64.wrap (many : Int)) k ks i b s = IntKind.i64.wrap ((m + T.sds many k ks i b : Nat) : Int)
  | [], i, b, s, m, h => by rw [T.sdws, T.sds, h]; rfl
  | t :: r, i, b, s, m, h => by
    rw [T.sdws, T.sds, sdws_true many k r (i + 1) b _ (m + t.sd many (belowD b k i)) (by
      rw [h, sdw_true many t, wrap_both, Int.natCast_add])]
    congr 2
    omega
end
end Go.Proofs.YtebmlojhdnldgaaGreatDoor

namespace Go.Proofs.YtebmlojhdnldgaaGreatDoor
set_option linter.unusedSimpArgs false
set_option linter.unusedVariables false
set_option maxHeartbeats 10000000
set_option maxRecDepth 20000
open Go.RowKit
attribute [local simp] wpAft_ret wpAft_pan wantD evOp opD tmOf putS updS setS hOf isFree isTok fillD TK.isAgg TK.known partD thenD blockD putAll D.ofV inB nilTest isNilS binX binD binE isCst bndD capB IntKind.min IntKind.max IntKind.signed IntKind.bits dstOf late
theorem kid_spec (t : T) (n : Int) : Spec Tryz.prog glob 80 [encT t, .int .i64 n] [] (fun o _ => o.fgt = .ret (encT (kidI t n))) := by
  obtain ⟨r, hr⟩ : ∃ r, r = kidI t n := ⟨_, rfl⟩
  rw [← hr]
  rw [encT_eq t]
  refine Spec.movd globPure (wpD_spec tyOK Tryz.func80 rfl (enters _ _ Tryz.func80 rfl (by decide)) rfl rfl ?_)
  (refine wpD_seqk fun K hK => ?_; refine wpD_region tyOK ?_; ((repeat (rw [wpS_cons]; simp)); (try simp only [wpS_nil, thenD, blockD])); refine hK _ _ _ ?_; clear hK K)
  refine wpD_seqk fun K1 hK1 => ?_
  by_cases h1 : n < 0
  · rw [show kidI t n = zeroT from by unfold kidI; rw [if_pos h1]] at hr
    subst hr
    (refine wpD_seqk fun K hK => ?_; refine wpD_region tyOK ?_; ((repeat (rw [wpS_cons]; simp [h1])); (try simp only [wpS_nil, thenD, blockD])); refine hK _ _ _ ?_; clear hK K)
    refine wpD_part rfl (fun _ => ?_) (fun h => by simp at h)
    (refine wpD_seqk fun K hK => ?_; refine wpD_region tyOK ?_; ((repeat (rw [wpS_cons]; simp)); (try simp only [wpS_nil, thenD, blockD])); refine hK _ _ _ ?_; clear hK K)
    (refine wpD_ret ?_; (try simp only [thenD, blockD]); refine EndQ.ret rfl (.inl ?_); simp [tmOf, Out.fgt, D.fgt, D.fgts])
    exact encZ.symm
  · obtain ⟨j, rfl⟩ : ∃ j : Nat, n = j := ⟨n.toNat, by omega⟩
    rw [kidI_nat] at hr
    unfold T.kid at hr
    rw [List.getD_eq_getElem?_getD] at hr
    by_cases h2 : j < t.ks.length
    · have h2' : (j : Int) < t.ks.length := by omega
      have h2n : ¬ t.ks.length ≤ j := by omega
      rw [List.getElem?_eq_getElem h2, Option.getD_some] at hr
      have hEr := encT_eq r
      have hx : t.ks[j] = r := hr.symm
      (refine wpD_seqk fun K hK => ?_; refine wpD_region tyOK ?_; ((repeat (rw [wpS_cons]; simp [h1, h2, h2', h2n])); (try simp only [wpS_nil, thenD, blockD])); refine hK _ _ _ ?_; clear hK K)
      refine wpD_part rfl (fun h => by simp at h) (fun _ => ?_)
      refine wpD_skip (hK1 _ _ _ ?_)
      (refine wpD_seqk fun K hK => ?_; refine wpD_region tyOK ?_; ((repeat (rw [wpS_cons]; simp [h1, h2, h2', hx, hEr])); (try simp only [wpS_nil, thenD, blockD])); refine hK _ _ _ ?_; clear hK K)
      (refine wpD_ret ?_; (try simp only [thenD, blockD]); refine EndQ.ret rfl (.inl ?_); simp [tmOf, Out.fgt, D.fgt, D.fgts])
      exact hEr.symm
    · have h2' : ¬ (j : Int) < t.ks.length := by omega
      have h2n : t.ks.length ≤ j := by omega
      rw [List.getElem?_eq_none h2n, Option.getD_none] at hr
      subst hr
      (refine wpD_seqk fun K hK => ?_; refine wpD_region tyOK ?_; ((repeat (rw [wpS_cons]; simp [h1, h2, h2', h2n])); (try simp only [wpS_nil, thenD, blockD])); refine hK _ _ _ ?_; clear hK K)
      refine wpD_part rfl (fun _ => ?_) (fun h => by simp at h)
      (refine wpD_seqk fun K hK => ?_; refine wpD_region tyOK ?_; ((repeat (rw [wpS_cons]; simp)); (try simp only [wpS_nil, thenD, blockD])); refine hK _ _ _ ?_; clear hK K)
      (refine wpD_ret ?_; (try simp only [thenD, blockD]); refine EndQ.ret rfl (.inl ?_); simp [tmOf, Out.fgt, D.fgt, D.fgts])
      exact encZ.symm
theorem hof_spec (k : Int) (ks : List T) : Spec Tryz.prog glob 121 [.int .i64 k, .slice (ks.map encT) .any] [] (fun o _ => o.fgt = .ret (encT (ofT k ks))) := by
  unfold ofT
  rw [encT_mk']
  refine Spec.movd globPure (wpD_spec tyOK Tryz.func121 rfl (enters _ _ Tryz.func121 rfl (by decide)) rfl rfl ?_)
  (refine wpD_seqk fun K hK => ?_; refine wpD_region tyOK ?_; ((repeat (rw [wpS_cons]; simp)); (try simp only [wpS_nil, thenD, blockD])); refine hK _ _ _ ?_; clear hK K)
  (refine wpD_seqk fun K hK => ?_; refine wpD_region tyOK ?_; ((repeat (rw [wpS_cons]; simp)); (try simp only [wpS_nil, thenD, blockD])); refine hK _ _ _ ?_; clear hK K)
  (refine wpD_ret ?_; (try simp only [thenD, blockD]); refine EndQ.ret rfl (.inl ?_); simp [tmOf, Out.fgt, D.fgt, D.fgts])
/-- the kids so far -/
def wkT (ks : List T) (x : T) (i j : Nat) : List T := withK ks x i j
theorem wkT_succ (ks : List T) (x : T) (i j : Nat) : wkT ks x i (j + 1) = wkT ks x i j ++ [if j = i then x else ks.getD j zeroT] := by
  unfold wkT withK; rw [List.range_succ, List.map_append]; rfl
theorem wkT_len (ks : List T) (x : T) (i j : Nat) : (wkT ks x i j).length = j := withK_len ks x i j
theorem with_spec (t x : T) (i many : Nat) (hm : many ≤ LMax) : Spec Tryz.prog glob 79 [encT t, encT x, .int .i64 i, .int .i64 many] [] (fun o _ => o.fgt = .ret (encT (t.withT x i many))) := by
  obtain ⟨kk, nn, aa, ls, ks⟩ := t
  have hT : (T.mk kk nn aa ls ks).withT x i many = .mk kk nn aa ls (wkT ks x i many) := rfl
  rw [hT]
  have hEx := encT_eq x
  have hk := fun j : Nat => kid_spec (.mk kk nn aa ls ks) j
  simp only [kidI_nat] at hk
  unfold T.kid at hk
  simp only [T.ks_mk] at hk
  simp only [encT_mk'] at hk ⊢
  rw [hEx]
  refine Spec.movd globPure (wpD_spec tyOK Tryz.func79 rfl (enters _ _ Tryz.func79 rfl (by decide)) rfl rfl ?_)
  (refine wpD_seqk fun K hK => ?_; refine wpD_region tyOK ?_; ((repeat (rw [wpS_cons]; simp)); (try simp only [wpS_nil, thenD, blockD])); refine hK _ _ _ ?_; clear hK K)
  (refine wpD_seqk fun K hK => ?_; refine wpD_region tyOK ?_; ((repeat (rw [wpS_cons]; simp)); (try simp only [wpS_nil, thenD, blockD])); refine hK _ _ _ ?_; clear hK K)
  refine wpD_tokO 3 4 (ty := 27) (ds := [.int .i64 kk, .int .i64 nn, .int .i64 aa, .slice (ls.map encL) .any, .slice [] .full]) rfl ?_
  simp [D.tokd]
  refine wpD_seqk fun K1 hK1 => ?_
  (refine wpD_seqk fun K hK => ?_; refine wpD_region tyOK ?_; ((repeat (rw [wpS_cons]; simp)); (try simp only [wpS_nil, thenD, blockD])); refine hK _ _ _ ?_; clear hK K)
  refine wpD_rangeJ tyOK globPure (ti := 3) (tk := 21) (tn := 20) (td := 22) (ts := 41) [10, 21, 22, 23, 24, 25, 26, 27, 28, 29, 30, 31, 32, 33, 34, 35, 36, 37, 38, 39, 40, 41] [] (many) (fun k ys hl => ys = [] ∧ hl = [.cells 27 [.int .i64 kk, .int .i64 nn, .int .i64 aa, .slice (ls.map encL) .any, .slice (ks.map encT) .any], .cells 27 [.int .i64 x.k, .int .i64 x.n, .int .i64 x.a, .slice (x.ls.map encL) .any, .slice (x.ks.map encT) .any], .cells 27 [.int .i64 0, .int .i64 0, .int .i64 0, .slice [] .full, .slice [] .full], .cells 27 [.int .i64 kk, .int .i64 nn, .int .i64 aa, .slice (ls.map encL) .any, .slice ((wkT ks x i k).map encT) (.tok 4)], .tok]) rfl rfl rfl rfl rfl rfl rfl rfl rfl rfl rfl rfl (by simp) (by decide) rfl (by first | assumption | omega | (unfold LMax; omega)) rfl (by kernel_rfl) (by decide) ?_ ?_ ?_
  · exact ⟨rfl, rfl⟩
  · rintro j ys hl A hj ⟨rfl, rfl⟩ hA hA2
    simp only [putAll, List.set, List.map_cons, List.map_nil, List.cons_append, List.nil_append]
    have hsn := wkT_succ ks x i j
    have hln := wkT_len ks x i j
    have hel : (wkT ks x i j).length + 1 ≤ LMax := by omega
    have hkj := hk j
    generalize ks.getD j zeroT = y at hsn hkj
    generalize wkT ks x i j = es at hsn hln hel ⊢
    (refine wpD_seqk fun K hK => ?_; refine wpD_region tyOK ?_; ((repeat (rw [wpS_cons]; simp)); (try simp only [wpS_nil, thenD, blockD])); refine hK _ _ _ ?_; clear hK K)
    refine wpD_seqk fun K2 hK2 => ?_
    by_cases hji : j = i
    · subst hji
      rw [if_pos rfl] at hsn
      (refine wpD_seqk fun K hK => ?_; refine wpD_region tyOK ?_; ((repeat (rw [wpS_cons]; simp)); (try simp only [wpS_nil, thenD, blockD])); refine hK _ _ _ ?_; clear hK K)
      refine wpD_part rfl (fun _ => ?_) (fun h => by simp at h)
      (refine wpD_seqk fun K hK => ?_; refine wpD_region tyOK ?_; ((repeat (rw [wpS_cons]; simp [hel])); (try simp only [wpS_nil, thenD, blockD])); refine hK _ _ _ ?_; clear hK K)
      refine wpD_exit ?_
      (refine hA2 ([0, 1, 2, 3, 5]) _ _ _ (LeT.refl _) (by decide) (by simp) (by simp [movT, movH, movD, D.mov, HO.mov, okM, renM, getW, D.ren, D.rens, D.okN, D.okNs, Cp.ren, Cp.okN, HO.ren, HO.okN, okA, renA, renO, hOf, handed, D.fgt, D.fgts, List.range_succ, List.idxOf_cons, putAll]) ?_ rfl; simp [movT, movH, movD, D.mov, HO.mov, okM, renM, getW, D.ren, D.rens, D.okN, D.okNs, Cp.ren, Cp.okN, HO.ren, HO.okN, okA, renA, renO, hOf, handed, D.fgt, D.fgts, List.range_succ, List.idxOf_cons])
      rw [hsn, ← hEx, show es.map encT ++ [encT x] = (es ++ [x]).map encT by simp, mapT_ren]
    · have hji' : ¬ (j : Int) = i := by omega
      rw [if_neg hji] at hsn
      (refine wpD_seqk fun K hK => ?_; refine wpD_region tyOK ?_; ((repeat (rw [wpS_cons]; simp [hji, hji'])); (try simp only [wpS_nil, thenD, blockD])); refine hK _ _ _ ?_; clear hK K)
      refine wpD_part rfl (fun h => by simp at h) (fun _ => ?_)
      refine wpD_skip (hK2 _ _ _ ?_)
      (refine wpD_drawk tyOK (by kernel_rfl) (by kernel_rfl) fun KT hKT => ?_; ((repeat (rw [wpT_cons]; simp [hel])); (try simp only [wpT_nil])))
      refine CallY.pure globPure (hkj) ?_ (by simp [D.fgts, D.fgt]) (by simp [D.pures, D.pure, Cp.free, D.pures_map]) (by simp [Out.pure, D.pure, D.pures, Cp.free, D.pures_map])
      ((try simp only [wpAftT_ret, wpAftT_pan, putS, updS, setS]); (repeat (rw [wpT_cons]; simp [hel])); (try simp only [wpT_nil]))
      (refine hKT _ _ _ _ (by kernel_rfl) ?_; clear hKT KT; (try simp only [thenD, blockD]))
      (refine hA2 ([0, 1, 2, 3, 5]) _ _ _ (LeT.refl _) (by decide) (by simp) (by simp [movT, movH, movD, D.mov, HO.mov, okM, renM, getW, D.ren, D.rens, D.okN, D.okNs, Cp.ren, Cp.okN, HO.ren, HO.okN, okA, renA, renO, hOf, handed, D.fgt, D.fgts, List.range_succ, List.idxOf_cons, putAll]) ?_ rfl; simp [movT, movH, movD, D.mov, HO.mov, okM, renM, getW, D.ren, D.rens, D.okN, D.okNs, Cp.ren, Cp.okN, HO.ren, HO.okN, okA, renA, renO, hOf, handed, D.fgt, D.fgts, List.range_succ, List.idxOf_cons])
      rw [hsn, show es.map encT ++ [encT y] = (es ++ [y]).map encT by simp, mapT_ren]
  · rintro ys hl tl' ⟨rfl, rfl⟩ htl
    refine hK1 _ _ _ (wpD_weakL htl ?_)
    simp only [putAll, List.set, List.map_cons, List.map_nil, List.cons_append, List.nil_append]
    (refine wpD_seqk fun K hK => ?_; refine wpD_region tyOK ?_; ((repeat (rw [wpS_cons]; simp)); (try simp only [wpS_nil, thenD, blockD])); refine hK _ _ _ ?_; clear hK K)
    (refine wpD_ret ?_; (try simp only [thenD, blockD]); refine EndQ.ret rfl (.inl ?_); simp [tmOf, Out.fgt, D.fgt, D.fgts])
/-- what spot tells -/
def spotO (t : T) : D :=
  if t.k = 6 then .tuple [.int .i64 0, .int .i64 2, .bool true] else if t.k = 14 ∨ t.k = 15 then .tuple [.int .i64 0, .int .i64 1, .bool true]
  else if t.k = 18 then .tuple [.int .i64 4, .int .i64 5, .bool true] else if t.k = 21 then .tuple [.int .i64 5, .int .i64 6, .bool true]
  else if t.k = 24 then .tuple [.int .i64 (IntKind.i64.wrap (t.a + 1)), .int .i64 (IntKind.i64.wrap (t.a + 2)), .bool (decide (0 ≤ t.a) && decide ((t.ks.length : Int) - 2 = t.a))] else .tuple [.int .i64 0, .int .i64 0, .bool false]
theorem spotO_some {t : T} {i many : Nat} (h : spot t = some (i, many)) (hl : t.ks.length ≤ LMax) : spotO t = .tuple [.int .i64 i, .int .i64 many, .bool true] := by
  unfold LMax at hl
  unfold spot at h
  unfold spotO
  by_cases h1 : t.k = 6
  · rw [if_pos h1] at h ⊢; cases h; rfl
  rw [if_neg h1] at h ⊢
  by_cases h1 : t.k = 14 ∨ t.k = 15
  · rw [if_pos h1] at h ⊢; cases h; rfl
  rw [if_neg h1] at h ⊢
  by_cases h1 : t.k = 18
  · rw [if_pos h1] at h ⊢; cases h; rfl
  rw [if_neg h1] at h ⊢
  by_cases h1 : t.k = 21
  · rw [if_pos h1] at h ⊢; cases h; rfl
  rw [if_neg h1] at h ⊢
  by_cases h1 : t.k = 24 ∧ 0 ≤ t.a ∧ (t.ks.length : Int) - 2 = t.a
  · rw [if_pos h1] at h
    rw [if_pos h1.1]
    cases h
    rw [i64w (by omega) (by omega), i64w (by omega) (by omega)]
    have e1 : t.a + 1 = ((t.a.toNat + 1 : Nat) : Int) := by omega
    have e2 : t.a + 2 = ((t.a.toNat + 2 : Nat) : Int) := by omega
    rw [e1, e2]
    simp [h1.2.1, h1.2.2]
  · rw [if_neg h1] at h; cases h
theorem spotO_none {t : T} (h : spot t = none) : ∃ p q, spotO t = .tuple [.int .i64 p, .int .i64 q, .bool false] := by
  unfold spot at h
  unfold spotO
  by_cases h1 : t.k = 6
  · rw [if_pos h1] at h; cases h
  rw [if_neg h1] at h ⊢
  by_cases h1 : t.k = 14 ∨ t.k = 15
  · rw [if_pos h1] at h; cases h
  rw [if_neg h1] at h ⊢
  by_cases h1 : t.k = 18
  · rw [if_pos h1] at h; cases h
  rw [if_neg h1] at h ⊢
  by_cases h1 : t.k = 21
  · rw [if_pos h1] at h; cases h
  rw [if_neg h1] at h ⊢
  by_cases h1 : t.k = 24
  · rw [if_pos h1]
    refine ⟨IntKind.i64.wrap (t.a + 1), IntKind.i64.wrap (t.a + 2), ?_⟩
    have : (decide (0 ≤ t.a) && decide ((t.ks.length : Int) - 2 = t.a)) = false := by
      rw [Bool.eq_false_iff]
      intro h2
      simp only [Bool.and_eq_true, decide_eq_true_eq] at h2
      rw [if_pos ⟨h1, h2⟩] at h
      cases h
    rw [this]
  · rw [if_neg h1]; exact ⟨_, _, rfl⟩
theorem spot_spec (t : T) (hl : t.ks.length ≤ LMax) : Spec Tryz.prog glob 78 [encT t] [] (fun o _ => o.fgt = .ret (spotO t)) := by
  obtain ⟨kk, nn, aa, ls, ks⟩ := t
  simp only [T.ks_mk] at hl
  unfold LMax at hl
  unfold spotO
  simp only [T.k_mk, T.a_mk, T.ks_mk]
  rw [encT_mk']
  refine Spec.movd globPure (wpD_spec tyOK Tryz.func78 rfl (enters _ _ Tryz.func78 rfl (by decide)) rfl rfl ?_)
  (refine wpD_seqk fun K hK => ?_; refine wpD_region tyOK ?_; ((repeat (rw [wpS_cons]; simp)); (try simp only [wpS_nil, thenD, blockD])); refine hK _ _ _ ?_; clear hK K)
  refine wpD_seqk fun K1 hK1 => ?_
  (refine wpD_seqk fun K hK => ?_; refine wpD_region tyOK ?_; ((repeat (rw [wpS_cons]; simp)); (try simp only [wpS_nil, thenD, blockD])); refine hK _ _ _ ?_; clear hK K)
  refine wpD_block ?_
  by_cases h6 : kk = 6
  · subst h6
    (refine wpD_seqk fun K hK => ?_; refine wpD_region tyOK ?_; ((repeat (rw [wpS_cons]; simp)); (try simp only [wpS_nil, thenD, blockD])); refine hK _ _ _ ?_; clear hK K)
    refine wpD_part rfl (fun _ => ?_) (fun h => by simp at h)
    (refine wpD_seqk fun K hK => ?_; refine wpD_region tyOK ?_; ((repeat (rw [wpS_cons]; simp)); (try simp only [wpS_nil, thenD, blockD])); refine hK _ _ _ ?_; clear hK K)
    (refine wpD_ret ?_; (try simp only [thenD, blockD]); refine EndQ.ret rfl (.inl ?_); simp [tmOf, Out.fgt, D.fgt, D.fgts])
  (refine wpD_seqk fun K hK => ?_; refine wpD_region tyOK ?_; ((repeat (rw [wpS_cons]; simp [h6])); (try simp only [wpS_nil, thenD, blockD])); refine hK _ _ _ ?_; clear hK K)
  refine wpD_part rfl (fun h => by simp at h) (fun _ => ?_)
  refine wpD_seqk fun K2 hK2 => ?_
  by_cases h14 : kk = 14
  · subst h14
    (refine wpD_seqk fun K hK => ?_; refine wpD_region tyOK ?_; ((repeat (rw [wpS_cons]; simp)); (try simp only [wpS_nil, thenD, blockD])); refine hK _ _ _ ?_; clear hK K)
    refine wpD_part rfl (fun _ => ?_) (fun h => by simp at h)
    refine wpD_skip (hK2 _ _ _ ?_)
    refine wpD_part rfl (fun _ => ?_) (fun h => by simp at h)
    (refine wpD_seqk fun K hK => ?_; refine wpD_region tyOK ?_; ((repeat (rw [wpS_cons]; simp)); (try simp only [wpS_nil, thenD, blockD])); refine hK _ _ _ ?_; clear hK K)
    (refine wpD_ret ?_; (try simp only [thenD, blockD]); refine EndQ.ret rfl (.inl ?_); simp [tmOf, Out.fgt, D.fgt, D.fgts])
  by_cases h15 : kk = 15
  · subst h15
    (refine wpD_seqk fun K hK => ?_; refine wpD_region tyOK ?_; ((repeat (rw [wpS_cons]; simp)); (try simp only [wpS_nil, thenD, blockD])); refine hK _ _ _ ?_; clear hK K)
    refine wpD_part rfl (fun h => by simp at h) (fun _ => ?_)
    (refine wpD_region tyOK ?_; ((repeat (rw [wpS_cons]; simp)); (try simp only [wpS_nil, thenD, blockD])))
    refine hK2 _ _ _ ?_
    refine wpD_part rfl (fun _ => ?_) (fun h => by simp at h)
    (refine wpD_seqk fun K hK => ?_; refine wpD_region tyOK ?_; ((repeat (rw [wpS_cons]; simp)); (try simp only [wpS_nil, thenD, blockD])); refine hK _ _ _ ?_; clear hK K)
    (refine wpD_ret ?_; (try simp only [thenD, blockD]); refine EndQ.ret rfl (.inl ?_); simp [tmOf, Out.fgt, D.fgt, D.fgts])
  (refine wpD_seqk fun K hK => ?_; refine wpD_region tyOK ?_; ((repeat (rw [wpS_cons]; simp [h14])); (try simp only [wpS_nil, thenD, blockD])); refine hK _ _ _ ?_; clear hK K)
  refine wpD_part rfl (fun h => by simp at h) (fun _ => ?_)
  (refine wpD_region tyOK ?_; ((repeat (rw [wpS_cons]; simp [h15])); (try simp only [wpS_nil, thenD, blockD])))
  refine hK2 _ _ _ ?_
  refine wpD_part rfl (fun h => by simp at h) (fun _ => ?_)
  by_cases h18 : kk = 18
  · subst h18
    (refine wpD_seqk fun K hK => ?_; refine wpD_region tyOK ?_; ((repeat (rw [wpS_cons]; simp)); (try simp only [wpS_nil, thenD, blockD])); refine hK _ _ _ ?_; clear hK K)
    refine wpD_part rfl (fun _ => ?_) (fun h => by simp at h)
    (refine wpD_seqk fun K hK => ?_; refine wpD_region tyOK ?_; ((repeat (rw [wpS_cons]; simp)); (try simp only [wpS_nil, thenD, blockD])); refine hK _ _ _ ?_; clear hK K)
    (refine wpD_ret ?_; (try simp only [thenD, blockD]); refine EndQ.ret rfl (.inl ?_); simp [tmOf, Out.fgt, D.fgt, D.fgts])
  (refine wpD_seqk fun K hK => ?_; refine wpD_region tyOK ?_; ((repeat (rw [wpS_cons]; simp [h18])); (try simp only [wpS_nil, thenD, blockD])); refine hK _ _ _ ?_; clear hK K)
  refine wpD_part rfl (fun h => by simp at h) (fun _ => ?_)
  by_cases h21 : kk = 21
  · subst h21
    (refine wpD_seqk fun K hK => ?_; refine wpD_region tyOK ?_; ((repeat (rw [wpS_cons]; simp)); (try simp only [wpS_nil, thenD, blockD])); refine hK _ _ _ ?_; clear hK K)
    refine wpD_part rfl (fun _ => ?_) (fun h => by simp at h)
    (refine wpD_seqk fun K hK => ?_; refine wpD_region tyOK ?_; ((repeat (rw [wpS_cons]; simp)); (try simp only [wpS_nil, thenD, blockD])); refine hK _ _ _ ?_; clear hK K)
    (refine wpD_ret ?_; (try simp only [thenD, blockD]); refine EndQ.ret rfl (.inl ?_); simp [tmOf, Out.fgt, D.fgt, D.fgts])
  (refine wpD_seqk fun K hK => ?_; refine wpD_region tyOK ?_; ((repeat (rw [wpS_cons]; simp [h21])); (try simp only [wpS_nil, thenD, blockD])); refine hK _ _ _ ?_; clear hK K)
  refine wpD_part rfl (fun h => by simp at h) (fun _ => ?_)
  by_cases h24 : kk = 24
  · subst h24
    have hw : IntKind.i64.wrap ((ks.length : Int) - 2) = (ks.length : Int) - 2 := i64w (by omega) (by omega)
    (refine wpD_seqk fun K hK => ?_; refine wpD_region tyOK ?_; ((repeat (rw [wpS_cons]; simp)); (try simp only [wpS_nil, thenD, blockD])); refine hK _ _ _ ?_; clear hK K)
    refine wpD_part rfl (fun _ => ?_) (fun h => by simp at h)
    by_cases h0 : 0 ≤ aa
    · (refine wpD_seqk fun K hK => ?_; refine wpD_drawk tyOK (by kernel_rfl) (by kernel_rfl) fun KT hKT => ?_; ((repeat (rw [wpT_cons]; simp [h0, hw])); (try simp only [wpT_nil])))
      (refine hKT _ _ _ _ (by kernel_rfl) ?_; clear hKT KT; (try simp only [thenD, blockD]))
      (refine hK _ _ _ ?_; clear hK K)
      (refine wpD_ret ?_; (try simp only [thenD, blockD]); refine EndQ.ret rfl (.inl ?_); simp [tmOf, Out.fgt, D.fgt, D.fgts])
      simp only [h0, decide_true, Bool.true_and]
      exact decide_eq_decide.2 Iff.rfl
    · (refine wpD_seqk fun K hK => ?_; refine wpD_drawk tyOK (by kernel_rfl) (by kernel_rfl) fun KT hKT => ?_; ((repeat (rw [wpT_cons]; simp [h0, hw])); (try simp only [wpT_nil])))
      (refine hKT _ _ _ _ (by kernel_rfl) ?_; clear hKT KT; (try simp only [thenD, blockD]))
      (refine hK _ _ _ ?_; clear hK K)
      (refine wpD_ret ?_; (try simp only [thenD, blockD]); refine EndQ.ret rfl (.inl ?_); simp [tmOf, Out.fgt, D.fgt, D.fgts])
      simp [h0]
  · (refine wpD_seqk fun K hK => ?_; refine wpD_region tyOK ?_; ((repeat (rw [wpS_cons]; simp [h24])); (try simp only [wpS_nil, thenD, blockD])); refine hK _ _ _ ?_; clear hK K)
    refine wpD_part rfl (fun h => by simp at h) (fun _ => ?_)
    refine wpD_skip (hK1 _ _ _ ?_)
    (refine wpD_seqk fun K hK => ?_; refine wpD_region tyOK ?_; ((repeat (rw [wpS_cons]; simp)); (try simp only [wpS_nil, thenD, blockD])); refine hK _ _ _ ?_; clear hK K)
    (refine wpD_ret ?_; (try simp only [thenD, blockD]); refine EndQ.ret rfl (.inl ?_); simp [tmOf, Out.fgt, D.fgt, D.fgts])
    simp [h6, h14, h15, h18, h21, h24]
theorem sizes_spec (l : List T) (hl : l.length ≤ LMax) (hls : ∀ x, x ∈ l → okT x) : Spec Tryz.prog glob 118 [.slice (l.map encT) .any] [] (fun o _ => o.fgt = .ret (.int .i64 (T.szs l 0))) := by
  obtain ⟨R, hR⟩ : ∃ R, R = T.szs l 0 := ⟨_, rfl⟩
  rw [← hR]
  refine Spec.movd globPure (wpD_spec tyOK Tryz.func118 rfl (enters _ _ Tryz.func118 rfl (by decide)) rfl rfl ?_)
  (refine wpD_seqk fun K hK => ?_; refine wpD_region tyOK ?_; ((repeat (rw [wpS_cons]; simp)); (try simp only [wpS_nil, thenD, blockD])); refine hK _ _ _ ?_; clear hK K)
  (refine wpD_seqk fun K hK => ?_; refine wpD_region tyOK ?_; ((repeat (rw [wpS_cons]; simp)); (try simp only [wpS_nil, thenD, blockD])); refine hK _ _ _ ?_; clear hK K)
  refine wpD_seqk fun K1 hK1 => ?_
  (refine wpD_seqk fun K hK => ?_; refine wpD_region tyOK ?_; ((repeat (rw [wpS_cons]; simp)); (try simp only [wpS_nil, thenD, blockD])); refine hK _ _ _ ?_; clear hK K)
  refine wpD_rangeJ tyOK globPure (ti := 3) (tk := 8) (tn := 7) (td := 9) (ts := 16) [5, 8, 9, 10, 11, 12, 13, 14, 15, 16] [3] (l.length) (fun k ys hl => ∃ (s : Int), ys = [.int .i64 s] ∧ R = T.szs (l.drop k) s ∧ hl = []) rfl rfl rfl rfl rfl rfl rfl rfl rfl rfl rfl rfl (by simp) (by decide) rfl (by first | assumption | omega | (unfold LMax; omega)) rfl (by kernel_rfl) (by decide) ?_ ?_ ?_
  · exact ⟨0, rfl, hR, rfl⟩
  · rintro i ys hl A hi ⟨s, rfl, hF, rfl⟩ hA hA2
    simp only [putAll, List.set, List.map_cons, List.map_nil, List.cons_append, List.nil_append]
    have hi' : (i : Int) < l.length := by omega
    rw [List.drop_eq_getElem_cons hi, T.szs] at hF
    have hrec := size_spec l[i] (hls _ (List.getElem_mem hi))
    obtain ⟨x, hx⟩ : ∃ x, l[i] = x := ⟨_, rfl⟩
    rw [hx] at hF hrec
    have hEx := encT_eq x
    rw [hEx] at hrec
    generalize x.sz = v at hF hrec
    (refine wpD_seqk fun K hK => ?_; refine wpD_region tyOK ?_; ((repeat (rw [wpS_cons]; simp [hi, hi', hx, hEx])); (try simp only [wpS_nil, thenD, blockD])); refine hK _ _ _ ?_; clear hK K)
    (refine wpD_region tyOK ?_; ((repeat (rw [wpS_cons]; simp)); (try simp only [wpS_nil, thenD, blockD])))
    refine CallX.pure globPure (hrec) ?_ (by simp [D.fgts, D.fgt]) (by simp [D.pures, D.pure, Cp.free, D.pures_map]) (by simp [Out.pure, D.pure, D.pures, Cp.free, D.pures_map])
    ((try simp only [wpAft_ret, wpAft_pan, putS, updS, setS]); (repeat (rw [wpS_cons]; simp)); (try simp only [wpS_nil, thenD, blockD]))
    (refine hA2 ([]) _ _ _ (LeT.refl _) (by decide) (by simp) (by simp [movT, movH, movD, D.mov, HO.mov, okM, renM, getW, D.ren, D.rens, D.okN, D.okNs, Cp.ren, Cp.okN, HO.ren, HO.okN, okA, renA, renO, hOf, handed, D.fgt, D.fgts, List.range_succ, List.idxOf_cons, putAll]) ?_ rfl; simp [movT, movH, movD, D.mov, HO.mov, okM, renM, getW, D.ren, D.rens, D.okN, D.okNs, Cp.ren, Cp.okN, HO.ren, HO.okN, okA, renA, renO, hOf, handed, D.fgt, D.fgts, List.range_succ, List.idxOf_cons])
    exact hF
  · rintro ys hl tl' ⟨s, rfl, hF, rfl⟩ htl
    refine hK1 _ _ _ (wpD_weakL htl ?_)
    simp only [putAll, List.set, List.map_cons, List.map_nil, List.cons_append, List.nil_append]
    rw [List.drop_length, T.szs] at hF
    subst hF
    (refine wpD_seqk fun K hK => ?_; refine wpD_region tyOK ?_; ((repeat (rw [wpS_cons]; simp)); (try simp only [wpS_nil, thenD, blockD])); refine hK _ _ _ ?_; clear hK K)
    (refine wpD_ret ?_; (try simp only [thenD, blockD]); refine EndQ.ret rfl (.inl ?_); simp [tmOf, Out.fgt, D.fgt, D.fgts])
theorem sized_spec (many : Int) (t : T) : ∀ b, okT t → Spec Tryz.prog glob 139 [encT t, .int .i64 many, .int .i64 b] [] (fun o _ => o.fgt = .ret (.int .i64 (T.sdw many t b))) := by
  induction t using T.ind with
  | h kk nn aa ls ks ih =>
  intro b ht
  have hkl : ks.length ≤ LMax := ht.kl
  have hks := ht.ks
  simp only [T.ks_mk] at hks
  obtain ⟨R, hR⟩ : ∃ R, R = T.sdw many (.mk kk nn aa ls ks) b := ⟨_, rfl⟩
  rw [← hR]
  rw [T.sdw] at hR
  rw [encT_mk']
  refine Spec.movd globPure (wpD_spec tyOK Tryz.func139 rfl (enters _ _ Tryz.func139 rfl (by decide)) rfl rfl ?_)
  (refine wpD_seqk fun K hK => ?_; refine wpD_region tyOK ?_; ((repeat (rw [wpS_cons]; simp)); (try simp only [wpS_nil, thenD, blockD])); refine hK _ _ _ ?_; clear hK K)
  by_cases h1 : kk = 1 ∧ nn = b
  · obtain ⟨rfl, rfl⟩ := h1
    rw [if_pos ⟨rfl, rfl⟩] at hR
    subst hR
    refine wpD_seqk fun K1 hK1 => ?_
    (refine wpD_seqk fun K hK => ?_; refine wpD_region tyOK ?_; ((repeat (rw [wpS_cons]; simp)); (try simp only [wpS_nil, thenD, blockD])); refine hK _ _ _ ?_; clear hK K)
    refine wpD_part rfl (fun _ => ?_) (fun h => by simp at h)
    (refine wpD_seqk fun K hK => ?_; refine wpD_region tyOK ?_; ((repeat (rw [wpS_cons]; simp)); (try simp only [wpS_nil, thenD, blockD])); refine hK _ _ _ ?_; clear hK K)
    (refine wpD_ret ?_; (try simp only [thenD, blockD]); refine EndQ.ret rfl (.inl ?_); simp [tmOf, Out.fgt, D.fgt, D.fgts])
  rw [if_neg h1] at hR
  refine wpD_seqf [10, 11, 12, 13, 14, 15, 16, 17, 18] ([10, 11, 12, 13, 14, 15, 16, 17, 18].map fun _ => .junk) [.cells 27 [.int .i64 kk, .int .i64 nn, .int .i64 aa, .slice (ls.map encL) .any, .slice (ks.map encT) .any]] ?_ ?_
  rotate_left
  · intro K hK0
    by_cases h2 : kk = 1
    · subst h2
      have h3 : ¬ nn = b := fun h => h1 ⟨rfl, h⟩
      (refine wpD_seqk fun K hK => ?_; refine wpD_region tyOK ?_; ((repeat (rw [wpS_cons]; simp [h3])); (try simp only [wpS_nil, thenD, blockD])); refine hK _ _ _ ?_; clear hK K)
      refine wpD_part rfl (fun h => by simp at h) (fun _ => ?_)
      refine wpD_skip (hK0 _ ?_)
      simp [leT, putAll]
    · (refine wpD_seqk fun K hK => ?_; refine wpD_region tyOK ?_; ((repeat (rw [wpS_cons]; simp [h2])); (try simp only [wpS_nil, thenD, blockD])); refine hK _ _ _ ?_; clear hK K)
      refine wpD_part rfl (fun h => by simp at h) (fun _ => ?_)
      refine wpD_skip (hK0 _ ?_)
      simp [leT, putAll]
  simp only [putAll, List.set, List.map_cons, List.map_nil, List.cons_append, List.nil_append]
  (refine wpD_seqk fun K hK => ?_; refine wpD_region tyOK ?_; ((repeat (rw [wpS_cons]; simp)); (try simp only [wpS_nil, thenD, blockD])); refine hK _ _ _ ?_; clear hK K)
  refine wpD_seqk fun K1 hK1 => ?_
  (refine wpD_seqk fun K hK => ?_; refine wpD_region tyOK ?_; ((repeat (rw [wpS_cons]; simp)); (try simp only [wpS_nil, thenD, blockD])); refine hK _ _ _ ?_; clear hK K)
  refine wpD_rangeJ tyOK globPure (ti := 3) (tk := 23) (tn := 22) (td := 24) (ts := 45) [8, 9, 23, 24, 25, 26, 27, 28, 29, 30, 31, 32, 33, 34, 35, 36, 37, 38, 39, 40, 41, 42, 43, 44, 45] [7] (ks.length) (fun k ys hl => ∃ (s : Int), ys = [.int .i64 s] ∧ R = T.sdws many kk (ks.drop k) k b s ∧ hl = [.cells 27 [.int .i64 kk, .int .i64 nn, .int .i64 aa, .slice (ls.map encL) .any, .slice (ks.map encT) .any]]) rfl rfl rfl rfl rfl rfl rfl rfl rfl rfl rfl rfl (by simp) (by decide) rfl (by first | assumption | omega | (unfold LMax; omega)) rfl (by kernel_rfl) (by decide) ?_ ?_ ?_
  · exact ⟨1, rfl, hR, rfl⟩
  · rintro i ys hl A hi ⟨s, rfl, hF, rfl⟩ hA hA2
    simp only [putAll, List.set, List.map_cons, List.map_nil, List.cons_append, List.nil_append]
    have hi' : (i : Int) < ks.length := by omega
    rw [List.drop_eq_getElem_cons hi, T.sdws] at hF
    have hrec := ih ks[i] (List.getElem_mem hi) (belowD b kk i) (hks _ (List.getElem_mem hi))
    have hbi := binds_spec kk i
    have hbd : belowD b kk i = if bindsB kk i then IntKind.i64.wrap (b + 1) else b := rfl
    obtain ⟨x, hx⟩ : ∃ x, ks[i] = x := ⟨_, rfl⟩
    rw [hx] at hF hrec
    have hEx := encT_eq x
    rw [hEx] at hrec
    generalize T.sdw many x (belowD b kk i) = v at hF hrec
    generalize belowD b kk i = b' at hrec hbd
    generalize bindsB kk i = bb at hbi hbd
    (refine wpD_seqk fun K hK => ?_; refine wpD_region tyOK ?_; ((repeat (rw [wpS_cons]; simp [hi, hi', hx, hEx])); (try simp only [wpS_nil, thenD, blockD])); refine hK _ _ _ ?_; clear hK K)
    (refine wpD_seqk fun K hK => ?_; refine wpD_region tyOK ?_; ((repeat (rw [wpS_cons]; simp)); (try simp only [wpS_nil, thenD, blockD])))
    refine CallX.pure globPure (hbi) ?_ (by simp [D.fgts, D.fgt]) (by simp [D.pures, D.pure, Cp.free, D.pures_map]) (by simp [Out.pure, D.pure, D.pures, Cp.free, D.pures_map])
    ((try simp only [wpAft_ret, wpAft_pan, putS, updS, setS]); (repeat (rw [wpS_cons]; simp)); (try simp only [wpS_nil, thenD, blockD]))
    (refine hK _ _ _ ?_; clear hK K)
    cases bb with
    | true =>
      rw [if_pos rfl] at hbd
      subst hbd
      refine wpD_part rfl (fun _ => ?_) (fun h => by simp at h)
      (refine wpD_region tyOK ?_; ((repeat (rw [wpS_cons]; simp)); (try simp only [wpS_nil, thenD, blockD])))
      refine CallX.pure globPure (hrec) ?_ (by simp [D.fgts, D.fgt]) (by simp [D.pures, D.pure, Cp.free, D.pures_map]) (by simp [Out.pure, D.pure, D.pures, Cp.free, D.pures_map])
      ((try simp only [wpAft_ret, wpAft_pan, putS, updS, setS]); (repeat (rw [wpS_cons]; simp)); (try simp only [wpS_nil, thenD, blockD]))
      (refine hA2 ([0]) _ _ _ (LeT.refl _) (by decide) (by simp) (by simp [movT, movH, movD, D.mov, HO.mov, okM, renM, getW, D.ren, D.rens, D.okN, D.okNs, Cp.ren, Cp.okN, HO.ren, HO.okN, okA, renA, renO, hOf, handed, D.fgt, D.fgts, List.range_succ, List.idxOf_cons, putAll]) ?_ rfl; simp [movT, movH, movD, D.mov, HO.mov, okM, renM, getW, D.ren, D.rens, D.okN, D.okNs, Cp.ren, Cp.okN, HO.ren, HO.okN, okA, renA, renO, hOf, handed, D.fgt, D.fgts, List.range_succ, List.idxOf_cons])
      exact hF
    | false =>
      rw [if_neg Bool.false_ne_true] at hbd
      subst hbd
      refine wpD_part rfl (fun h => by simp at h) (fun _ => ?_)
      (refine wpD_region tyOK ?_; ((repeat (rw [wpS_cons]; simp)); (try simp only [wpS_nil, thenD, blockD])))
      refine CallX.pure globPure (hrec) ?_ (by simp [D.fgts, D.fgt]) (by simp [D.pures, D.pure, Cp.free, D.pures_map]) (by simp [Out.pure, D.pure, D.pures, Cp.free, D.pures_map])
      ((try simp only [wpAft_ret, wpAft_pan, putS, updS, setS]); (repeat (rw [wpS_cons]; simp)); (try simp only [wpS_nil, thenD, blockD]))
      (refine hA2 ([0]) _ _ _ (LeT.refl _) (by decide) (by simp) (by simp [movT, movH, movD, D.mov, HO.mov, okM, renM, getW, D.ren, D.rens, D.okN, D.okNs, Cp.ren, Cp.okN, HO.ren, HO.okN, okA, renA, renO, hOf, handed, D.fgt, D.fgts, List.range_succ, List.idxOf_cons, putAll]) ?_ rfl; simp [movT, movH, movD, D.mov, HO.mov, okM, renM, getW, D.ren, D.rens, D.okN, D.okNs, Cp.ren, Cp.okN, HO.ren, HO.okN, okA, renA, renO, hOf, handed, D.fgt, D.fgts, List.range_succ, List.idxOf_cons])
      exact hF
  · rintro ys hl tl' ⟨s, rfl, hF, rfl⟩ htl
    refine hK1 _ _ _ (wpD_weakL htl ?_)
    simp only [putAll, List.set, List.map_cons, List.map_nil, List.cons_append, List.nil_append]
    rw [List.drop_length, T.sdws] at hF
    subst hF
    (refine wpD_seqk fun K hK => ?_; refine wpD_region tyOK ?_; ((repeat (rw [wpS_cons]; simp)); (try simp only [wpS_nil, thenD, blockD])); refine hK _ _ _ ?_; clear hK K)
    (refine wpD_ret ?_; (try simp only [thenD, blockD]); refine EndQ.ret rfl (.inl ?_); simp [tmOf, Out.fgt, D.fgt, D.fgts])
theorem size2_spec (t a : T) (ht : okT t) (ha : okT a) (hb : ((t.sd a.nsz 0 : Nat) : Int) ≤ 9223372036854775807) : Spec Tryz.prog glob 119 [encT t, encT a] [] (fun o _ => o.fgt = .ret (.int .i64 ((t.sd a.nsz 0 : Nat) : Int))) := by
  have h1 := size_spec a ha
  have h2 := sized_spec a.sz t 0 ht
  rw [sz_true a] at h1 h2
  rw [sdw_true, i64w (n := ((t.sd a.nsz 0 : Nat) : Int)) (by omega) hb] at h2
  generalize ((t.sd a.nsz 0 : Nat) : Int) = v at h2 ⊢
  have hEt := encT_eq t
  have hEa := encT_eq a
  rw [hEt, hEa]
  rw [hEa] at h1
  rw [hEt] at h2
  refine Spec.movd globPure (wpD_spec tyOK Tryz.func119 rfl (enters _ _ Tryz.func119 rfl (by decide)) rfl rfl ?_)
  (refine wpD_seqk fun K hK => ?_; refine wpD_region tyOK ?_; ((repeat (rw [wpS_cons]; simp)); (try simp only [wpS_nil, thenD, blockD])); refine hK _ _ _ ?_; clear hK K)
  (refine wpD_seqk fun K hK => ?_; refine wpD_drawk tyOK (by kernel_rfl) (by kernel_rfl) fun KT hKT => ?_; ((repeat (rw [wpT_cons]; simp)); (try simp only [wpT_nil])))
  refine CallY.pure globPure (h1) ?_ (by simp [D.fgts, D.fgt]) (by simp [D.pures, D.pure, Cp.free, D.pures_map]) (by simp [Out.pure, D.pure, D.pures, Cp.free, D.pures_map])
  ((try simp only [wpAftT_ret, wpAftT_pan, putS, updS, setS]); (repeat (rw [wpT_cons]; simp)); (try simp only [wpT_nil]))
  refine CallY.pure globPure (h2) ?_ (by simp [D.fgts, D.fgt]) (by simp [D.pures, D.pure, Cp.free, D.pures_map]) (by simp [Out.pure, D.pure, D.pures, Cp.free, D.pures_map])
  ((try simp only [wpAftT_ret, wpAftT_pan, putS, updS, setS]); (repeat (rw [wpT_cons]; simp)); (try simp only [wpT_nil]))
  (refine hKT _ _ _ _ (by kernel_rfl) ?_; clear hKT KT; (try simp only [thenD, blockD]))
  (refine hK _ _ _ ?_; clear hK K)
  (refine wpD_ret ?_; (try simp only [thenD, blockD]); refine EndQ.ret rfl (.inl ?_); simp [tmOf, Out.fgt, D.fgt, D.fgts])
/-- its objects: itself, the map of its steps -/
def stepsM : HO := .mp [(.int .i64 6, .fn (.func 71) [.box 0 0] []), (.int .i64 14, .fn (.func 72) [.box 0 0] []), (.int .i64 15, .fn (.func 72) [.box 0 0] []), (.int .i64 7, .fn (.func 73) [.box 0 0] []),
  (.int .i64 3, .fn (.func 74) [.box 0 0] []), (.int .i64 18, .fn (.func 75) [.box 0 0] []), (.int .i64 21, .fn (.func 76) [.box 0 0] []), (.int .i64 24, .fn (.func 77) [.box 0 0] [])]
def wObjs (left : Int) (l : List C) (once done : Bool) : List HO := [headD left l once done, stepsM]
theorem burn_ok (left : Int) (l : List C) (once done : Bool) (n : Int) (h0 : 0 ≤ n) (h : n ≤ left) (hl : left ≤ 9223372036854775807) : Spec Tryz.prog glob 117 [.box 0 0, .int .i64 n] (wObjs left l once done) (fun o hc => o = .ret (.tuple []) ∧ hc = wObjs (left - n) l once done) := by
  have hw : IntKind.i64.wrap (left - n) = left - n := i64w (by omega) (by omega)
  have h' : ¬ left < n := by omega
  unfold wObjs headD Cs stepsM
  refine Spec.movd globPure (wpD_spec tyOK Tryz.func117 rfl (enters _ _ Tryz.func117 rfl (by decide)) rfl rfl ?_)
  refine wpD_seqk fun K1 hK1 => ?_
  (refine wpD_seqk fun K hK => ?_; refine wpD_region tyOK ?_; ((repeat (rw [wpS_cons]; simp [h'])); (try simp only [wpS_nil, thenD, blockD])); refine hK _ _ _ ?_; clear hK K)
  refine wpD_part rfl (fun h => by simp at h) (fun _ => ?_)
  refine wpD_skip (hK1 _ _ _ ?_)
  (refine wpD_region tyOK ?_; ((repeat (rw [wpS_cons]; simp [hw])); (try simp only [wpS_nil, thenD, blockD])))
  ((try simp only [thenD, blockD]); refine EndQ.nrm rfl (.inr ⟨[], by decide, by simp, ?_⟩); simp [Out.mov, movT, movH, movD, D.mov, HO.mov, okM, renM, getW, D.ren, D.rens, D.okN, D.okNs, Cp.ren, Cp.okN, HO.ren, HO.okN, okA, renA, renO, hOf, handed, D.fgt, D.fgts, List.range_succ, List.idxOf_cons, tmOf, Out.fgt, D.fgt, D.fgts])
theorem burn_no (left : Int) (l : List C) (once done : Bool) (n : Int) (h : left < n) : Spec Tryz.prog glob 117 [.box 0 0, .int .i64 n] (wObjs left l once done) (fun o hc => o = .pan goneD ∧ hc = wObjs left l once done) := by
  unfold wObjs headD Cs stepsM goneD
  refine Spec.movd globPure (wpD_spec tyOK Tryz.func117 rfl (enters _ _ Tryz.func117 rfl (by decide)) rfl rfl ?_)
  refine wpD_seqk fun K1 hK1 => ?_
  (refine wpD_seqk fun K hK => ?_; refine wpD_region tyOK ?_; ((repeat (rw [wpS_cons]; simp [h])); (try simp only [wpS_nil, thenD, blockD])); refine hK _ _ _ ?_; clear hK K)
  refine wpD_part rfl (fun _ => ?_) (fun h => by simp at h)
  (refine wpD_region tyOK ?_; ((repeat (rw [wpS_cons]; simp)); (try simp only [wpS_nil, thenD, blockD])))
  ((try simp only [thenD, blockD]); refine EndQ.pan (.inr ⟨[], by decide, by simp, ?_⟩); simp [Out.mov, movT, movH, movD, D.mov, HO.mov, okM, renM, getW, D.ren, D.rens, D.okN, D.okNs, Cp.ren, Cp.okN, HO.ren, HO.okN, okA, renA, renO, hOf, handed, D.fgt, D.fgts, List.range_succ, List.idxOf_cons, tmOf, Out.fgt, D.fgt, D.fgts])
end Go.Proofs.YtebmlojhdnldgaaGreatDoor

namespace Go.Proofs.YtebmlojhdnldgaaGreatDoor
set_option linter.unusedSimpArgs false
set_option linter.unusedVariables false
open Go.RowKit
/-- the fuel is gone, with so much left -/
inductive GoneAt (l : List C) : T → Int → Int → Prop where
  | now {t u : T} {c : Nat} {f : Int} (h : hstep l t = some (u, c)) (hf : f < c) : GoneAt l t f f
  | later {t u : T} {c : Nat} {f q : Int} (h : hstep l t = some (u, c)) (hf : (c : Int) ≤ f) (r : GoneAt l u (f - c) q) : GoneAt l t f q
theorem Hd.done {l : List C} {t v : T} {n : Nat} (h : Hd l t n v) : hstep l v = none ∧ v.trunc = v := by
  induction h with
  | stop h => exact trunc_stuck _ h
  | step h r ih => exact ih
/-- what stands at the place -/
def placeX (t : T) : T := match spot t with
  | some p => t.kid p.1
  | none => zeroT
theorem kid_in {t : T} {i : Nat} (h : i < t.ks.length) : t.kid i = t.ks[i] := by unfold T.kid; rw [List.getD_eq_getElem?_getD, List.getElem?_eq_getElem h]; rfl
theorem kid_out {t : T} {i : Nat} (h : ¬ i < t.ks.length) : t.kid i = zeroT := by unfold T.kid; rw [List.getD_eq_getElem?_getD, List.getElem?_eq_none (by omega)]; rfl
theorem with_len {t x : T} {i many : Nat} : (t.withT x i many).ks.length = many := by unfold T.withT; rw [T.ks_mk, withK_len]
theorem with_kid {t x : T} {i many : Nat} (h : spot t = some (i, many)) : (t.withT x i many).kid i = x := by
  have hlt := spot_lt h
  have h2 : i < (t.withT x i many).ks.length := by rw [with_len]; exact hlt
  rw [kid_in h2, with_get hlt h2]
theorem place_with {t x : T} {i many : Nat} (h : spot t = some (i, many)) : placeX (t.withT x i many) = x := by
  unfold placeX
  rw [spot_with h]
  exact with_kid h
theorem kid_step {l : List C} {t : T} {i many : Nat} (hs : spot t = some (i, many)) {u : T} {c : Nat} (hu : hstep l (t.kid i) = some (u, c)) : hstep l t = some (t.withT u i many, c) := by
  by_cases hi : i < t.ks.length
  · rw [kid_in hi] at hu; exact hstep_in hs hi hu
  · rw [kid_out hi, zero_step] at hu; cases hu
theorem kid_stuck {l : List C} {t : T} {i many : Nat} (hs : spot t = some (i, many)) (hu : hstep l (t.kid i) = none) : hstep l t = ownS l (t.withT (t.kid i).trunc i many) (t.kid i).trunc ∧ t.trunc = t.withT (t.kid i).trunc i many := by
  by_cases hi : i < t.ks.length
  · rw [kid_in hi] at hu ⊢; exact ⟨hstep_at hs hi hu, trunc_in hs hi⟩
  · rw [kid_out hi, trunc_none zero_spot]; exact ⟨hstep_out hs hi, trunc_out hs hi⟩
/-- a place that is brought to its head -/
theorem ready {l : List C} {t v : T} {i many : Nat} (hs : spot t = some (i, many)) (hv : hstep l v = none) (hv2 : v.trunc = v) : hstep l (t.withT v i many) = ownS l (t.withT v i many) v ∧ (t.withT v i many).trunc = t.withT v i many := by
  have h1 := spot_with (x := v) hs
  have h2 := kid_stuck (l := l) h1 (by rw [with_kid hs]; exact hv)
  rw [with_kid hs, hv2, with_with] at h2
  exact h2
theorem ready_kid {l : List C} {t : T} {i many : Nat} (hs : spot t = some (i, many)) (hu : hstep l (t.kid i) = none) : hstep l (t.withT (t.kid i).trunc i many) = hstep l t ∧ (t.withT (t.kid i).trunc i many).trunc = t.trunc := by
  obtain ⟨h1, h2⟩ := trunc_stuck _ hu
  obtain ⟨h3, h4⟩ := ready hs h1 h2
  obtain ⟨h5, h6⟩ := kid_stuck hs hu
  exact ⟨by rw [h3, h5], by rw [h4, h6]⟩
theorem Hd.place {l : List C} {t u : T} {n : Nat} (h : Hd l t n u) : ∀ {i many : Nat}, spot t = some (i, many) → ∃ m v, Hd l (t.kid i) m v ∧ m ≤ n ∧ Hd l (t.withT v i many) (n - m) u := by
  induction h with
  | @stop t h =>
    intro i many hs
    cases hk : hstep l (t.kid i) with
    | some p => rw [kid_step hs (u := p.1) (c := p.2) hk] at h; cases h
    | none =>
      obtain ⟨h1, h2⟩ := ready_kid hs hk
      refine ⟨0, _, .stop hk, Nat.le_refl _, ?_⟩
      rw [← h2]
      exact .stop (by rw [h1]; exact h)
  | @step t u v c n h r ih =>
    intro i many hs
    cases hk : hstep l (t.kid i) with
    | some p =>
      rw [kid_step hs (u := p.1) (c := p.2) hk] at h
      cases h
      obtain ⟨m, w, h1, h2, h3⟩ := ih (spot_with hs)
      rw [with_kid hs] at h1
      rw [with_with] at h3
      exact ⟨p.2 + m, w, .step hk h1, by omega, by rw [show p.2 + n - (p.2 + m) = n - m by omega]; exact h3⟩
    | none =>
      obtain ⟨h1, h2⟩ := ready_kid hs hk
      exact ⟨0, _, .stop hk, Nat.zero_le _, .step (by rw [h1]; exact h) r⟩
theorem GoneAt.place {l : List C} {t : T} {f q : Int} (h : GoneAt l t f q) : ∀ {i many : Nat}, 0 ≤ f → spot t = some (i, many) → GoneAt l (t.kid i) f q ∨ ∃ m v, Hd l (t.kid i) m v ∧ (m : Int) ≤ f ∧ GoneAt l (t.withT v i many) (f - m) q := by
  induction h with
  | @now t u c f h hf =>
    intro i many h0 hs
    cases hk : hstep l (t.kid i) with
    | some p =>
      rw [kid_step hs (u := p.1) (c := p.2) hk] at h
      cases h
      exact .inl (.now hk hf)
    | none =>
      obtain ⟨h1, h2⟩ := ready_kid hs hk
      refine .inr ⟨0, _, .stop hk, by omega, ?_⟩
      have : GoneAt l (t.withT (t.kid i).trunc i many) f f := .now (by rw [h1]; exact h) hf
      simpa using this
  | @later t u c f q h hf r ih =>
    intro i many h0 hs
    cases hk : hstep l (t.kid i) with
    | some p =>
      rw [kid_step hs (u := p.1) (c := p.2) hk] at h
      cases h
      rcases ih (by omega) (spot_with hs) with h1 | ⟨m, w, h1, h2, h3⟩
      · rw [with_kid hs] at h1
        exact .inl (.later hk hf h1)
      · rw [with_kid hs] at h1
        rw [with_with] at h3
        refine .inr ⟨p.2 + m, w, .step hk h1, by omega, ?_⟩
        rw [show f - ((p.2 + m : Nat) : Int) = f - p.2 - m by omega]
        exact h3
    | none =>
      obtain ⟨h1, h2⟩ := ready_kid hs hk
      refine .inr ⟨0, _, .stop hk, by omega, ?_⟩
      have : GoneAt l (t.withT (t.kid i).trunc i many) f q := .later (by rw [h1]; exact h) hf r
      simpa using this
end Go.Proofs.YtebmlojhdnldgaaGreatDoor

namespace Go.Proofs.YtebmlojhdnldgaaGreatDoor
set_option linter.unusedSimpArgs false
set_option linter.unusedVariables false
set_option maxHeartbeats 10000000
set_option maxRecDepth 20000
open Go.RowKit
attribute [local simp] wpAft_ret wpAft_pan wantD evOp opD tmOf putS updS setS hOf isFree isTok fillD TK.isAgg TK.known partD thenD blockD putAll D.ofV inB nilTest isNilS binX binD binE isCst bndD capB IntKind.min IntKind.max IntKind.signed IntKind.bits dstOf late
/-- an object of which nothing more is said -/
theorem Spec.dead {P : Program} {G : Nat → Option D} {f : FuncId} {args : List D} {objs : List HO} {Post Post' : Out → List HO → Prop} (h : Spec P G f args objs Post) (hP : ∀ o hc, Post o hc → ∃ hc', (∀ r, hOf hc' r = hOf hc r ∨ hOf hc' r = .dead) ∧ Post' o hc') : Spec P G f args objs Post' := fun ρ w vs hR hv => by
  obtain ⟨h1, h2⟩ := h ρ w vs hR hv
  refine ⟨h1, h2.mono ?_⟩
  rintro e w' ⟨ρ', out, hc, hp, hm, hr, hx⟩
  obtain ⟨hc', hk, hp'⟩ := hP out hc hp
  exact ⟨ρ', out, hc', hp', hm, hr.kill hk, hx.kill hk⟩
theorem burn_dead (left : Int) (l : List C) (once done : Bool) (n : Int) (h : left < n) : Spec Tryz.prog glob 117 [.box 0 0, .int .i64 n] (wObjs left l once done) (fun o hc => o = .pan goneD ∧ hc = [.dead, .dead]) :=
  (burn_no left l once done n h).dead fun o hc hp => ⟨[.dead, .dead], fun r => by
    rw [hp.2]
    match r with
    | 0 => exact .inr rfl
    | 1 => exact .inr rfl
    | r + 2 => exact .inl rfl, hp.1, rfl⟩
/-- what a step that costs so much tells, leaves -/
def Cost (left : Int) (l : List C) (once done : Bool) (c : Nat) (d : D) (o : Out) (hc : List HO) : Prop :=
  if (c : Int) ≤ left then o.fgt = .ret d ∧ hc = wObjs (left - c) l once done else o = .pan goneD ∧ hc = [.dead, .dead]
theorem Cost_ok {left : Int} {l : List C} {once done : Bool} {c : Nat} {d : D} (h : (c : Int) ≤ left) : Cost left l once done c d = (fun o hc => o.fgt = .ret d ∧ hc = wObjs (left - c) l once done) := by
  funext o hc; unfold Cost; rw [if_pos h]
theorem Cost_no {left : Int} {l : List C} {once done : Bool} {c : Nat} {d : D} (h : ¬ (c : Int) ≤ left) : Cost left l once done c d = (fun o hc => o = .pan goneD ∧ hc = [.dead, .dead]) := by
  funext o hc; unfold Cost; rw [if_neg h]
/-- what a step tells -/
def OwnP (left : Int) (l : List C) (once done : Bool) (t : T) (r : Option (T × Nat)) : Out → List HO → Prop := match r with
  | none => fun o hc => o.fgt = .ret (.tuple [encT t, .bool false]) ∧ hc = wObjs left l once done
  | some p => Cost left l once done p.2 (.tuple [encT p.1, .bool true])
def PM : Nat := 536870912
def okS (t : T) : Prop := okT t ∧ t.pot ≤ PM
theorem okS.deep {t : T} (h : okS t) : t.deep ≤ DM := by have := t.deep_nsz; have := nsz_pot t; have := h.2; unfold PM at this; unfold DM; omega
theorem okS.kid {t : T} (h : okS t) (i : Nat) : okS (t.kid i) := ⟨kid_ok h.1 i, Nat.le_trans (kid_pot t i) h.2⟩
theorem okS.sd {t a : T} (h : okS t) (ha : okS a) : ((t.sd a.nsz 0 : Nat) : Int) ≤ 288230376151711744 := by
  have := sd_bound h.2 ha.2
  unfold PM at this
  omega
theorem okS.nsz {t : T} (h : okS t) : t.nsz ≤ 536870912 := by have := nsz_pot t; have := h.2; unfold PM at this; omega
structure okCs (l : List C) : Prop where
  len : l.length ≤ LMax
  ok : ∀ c, c ∈ l → okC c
  bo : ∀ c, c ∈ l → c.bo.nsz ≤ 1048576
  ty : ∀ c, c ∈ l → c.ty.nsz ≤ 1048576
theorem hput_spec (left : Int) (l : List C) (once done : Bool) (hl : left ≤ 9223372036854775807) (t a : T) (ht : okS t) (ha : okS a) :
    Spec Tryz.prog glob 114 [.box 0 0, encT t, encT a] (wObjs left l once done) (Cost left l once done (t.sd a.nsz 0) (encT (t.put [a] 0))) := by
  have hz := size2_spec t a ht.1 ha.1 (Int.le_trans (ht.sd ha) (by omega))
  have hp := putT_spec t [a] (by unfold LMax; simp) (fun b hb => by rw [one_mem hb]; exact ⟨ha.1, ha.deep⟩) ht.deep ht.1
  have hEt := encT_eq t
  have hEa := encT_eq a
  generalize t.sd a.nsz 0 = c at hz ⊢
  generalize t.put [a] 0 = r at hp ⊢
  have hEr := encT_eq r
  unfold Ts at hp
  simp only [List.map_cons, List.map_nil] at hp
  rw [hEt, hEa] at hp hz ⊢
  by_cases hc : (c : Int) ≤ left
  · rw [Cost_ok hc]
    have hbu := burn_ok left l once done c (by omega) hc hl
    unfold wObjs headD Cs stepsM at hbu ⊢
    refine Spec.movd globPure (wpD_spec tyOK Tryz.func114 rfl (enters _ _ Tryz.func114 rfl (by decide)) rfl rfl ?_)
    (refine wpD_seqk fun K hK => ?_; refine wpD_region tyOK ?_; ((repeat (rw [wpS_cons]; simp)); (try simp only [wpS_nil, thenD, blockD])); refine hK _ _ _ ?_; clear hK K)
    (refine wpD_seqk fun K hK => ?_; refine wpD_drawk tyOK (by kernel_rfl) (by kernel_rfl) fun KT hKT => ?_; ((repeat (rw [wpT_cons]; simp)); (try simp only [wpT_nil])))
    refine CallY.pure globPure (hz) ?_ (by simp [D.fgts, D.fgt]) (by simp [D.pures, D.pure, Cp.free, D.pures_map]) (by simp [Out.pure, D.pure, D.pures, Cp.free, D.pures_map])
    ((try simp only [wpAftT_ret, wpAftT_pan, putS, updS, setS]); (repeat (rw [wpT_cons]; simp)); (try simp only [wpT_nil]))
    refine CallY.objs globPure [0, 1] true false (hbu) (fun o h e => e) ?_ (by simp) (by decide) (by simp) (by simp [D.ren, D.rens, D.okN, D.okNs, Cp.ren, Cp.okN, HO.ren, HO.okN, okA, renA, renO, hOf, handed, D.fgt, D.fgts, List.range_succ, List.idxOf_cons]) (by simp [D.ren, D.rens, D.okN, D.okNs, Cp.ren, Cp.okN, HO.ren, HO.okN, okA, renA, renO, hOf, handed, D.fgt, D.fgts, List.range_succ, List.idxOf_cons]) (by simp [D.ren, D.rens, D.okN, D.okNs, Cp.ren, Cp.okN, HO.ren, HO.okN, okA, renA, renO, hOf, handed, D.fgt, D.fgts, List.range_succ, List.idxOf_cons]) (by simp [D.ren, D.rens, D.okN, D.okNs, Cp.ren, Cp.okN, HO.ren, HO.okN, okA, renA, renO, hOf, handed, D.fgt, D.fgts, List.range_succ, List.idxOf_cons]); simp [D.ren, D.rens, D.okN, D.okNs, Cp.ren, Cp.okN, HO.ren, HO.okN, okA, renA, renO, hOf, handed, D.fgt, D.fgts, List.range_succ, List.idxOf_cons, Out.ren, upO, renO, rdO]
    ((try simp only [wpAftT_ret, wpAftT_pan, putS, updS, setS]); (repeat (rw [wpT_cons]; simp)); (try simp only [wpT_nil]))
    (refine hKT _ _ _ _ (by kernel_rfl) ?_; clear hKT KT; (try simp only [thenD, blockD]))
    (refine hK _ _ _ ?_; clear hK K)
    (refine wpD_seqk fun K hK => ?_; refine wpD_region tyOK ?_; ((repeat (rw [wpS_cons]; simp)); (try simp only [wpS_nil, thenD, blockD])))
    refine CallX.pure globPure (hp) ?_ (by simp [D.fgts, D.fgt]) (by simp [D.pures, D.pure, Cp.free, D.pures_map]) (by simp [Out.pure, D.pure, D.pures, Cp.free, D.pures_map])
    ((try simp only [wpAft_ret, wpAft_pan, putS, updS, setS]); (repeat (rw [wpS_cons]; simp)); (try simp only [wpS_nil, thenD, blockD]))
    (refine hK _ _ _ ?_; clear hK K)
    (refine wpD_ret ?_; (try simp only [thenD, blockD]); refine EndQ.ret rfl (.inr ⟨[], by decide, by simp, ?_⟩); simp [Out.mov, movT, movH, movD, D.mov, HO.mov, okM, renM, getW, D.ren, D.rens, D.okN, D.okNs, Cp.ren, Cp.okN, HO.ren, HO.okN, okA, renA, renO, hOf, handed, D.fgt, D.fgts, List.range_succ, List.idxOf_cons, tmOf, Out.fgt, D.fgt, D.fgts])
    exact hEr.symm
  · rw [Cost_no hc]
    have hbu := burn_dead left l once done c (by omega)
    unfold wObjs headD Cs stepsM goneD at hbu ⊢
    refine Spec.movd globPure (wpD_spec tyOK Tryz.func114 rfl (enters _ _ Tryz.func114 rfl (by decide)) rfl rfl ?_)
    (refine wpD_seqk fun K hK => ?_; refine wpD_region tyOK ?_; ((repeat (rw [wpS_cons]; simp)); (try simp only [wpS_nil, thenD, blockD])); refine hK _ _ _ ?_; clear hK K)
    (refine wpD_seqk fun K hK => ?_; refine wpD_drawk tyOK (by kernel_rfl) (by kernel_rfl) fun KT hKT => ?_; ((repeat (rw [wpT_cons]; simp)); (try simp only [wpT_nil])))
    refine CallY.pure globPure (hz) ?_ (by simp [D.fgts, D.fgt]) (by simp [D.pures, D.pure, Cp.free, D.pures_map]) (by simp [Out.pure, D.pure, D.pures, Cp.free, D.pures_map])
    ((try simp only [wpAftT_ret, wpAftT_pan, putS, updS, setS]); (repeat (rw [wpT_cons]; simp)); (try simp only [wpT_nil]))
    refine CallY.objs globPure [0, 1] true false (hbu) (fun o h e => e) ?_ (by simp) (by decide) (by simp) (by simp [D.ren, D.rens, D.okN, D.okNs, Cp.ren, Cp.okN, HO.ren, HO.okN, okA, renA, renO, hOf, handed, D.fgt, D.fgts, List.range_succ, List.idxOf_cons]) (by simp [D.ren, D.rens, D.okN, D.okNs, Cp.ren, Cp.okN, HO.ren, HO.okN, okA, renA, renO, hOf, handed, D.fgt, D.fgts, List.range_succ, List.idxOf_cons]) (by simp [D.ren, D.rens, D.okN, D.okNs, Cp.ren, Cp.okN, HO.ren, HO.okN, okA, renA, renO, hOf, handed, D.fgt, D.fgts, List.range_succ, List.idxOf_cons]) (by simp [D.ren, D.rens, D.okN, D.okNs, Cp.ren, Cp.okN, HO.ren, HO.okN, okA, renA, renO, hOf, handed, D.fgt, D.fgts, List.range_succ, List.idxOf_cons]); simp [D.ren, D.rens, D.okN, D.okNs, Cp.ren, Cp.okN, HO.ren, HO.okN, okA, renA, renO, hOf, handed, D.fgt, D.fgts, List.range_succ, List.idxOf_cons, Out.ren, upO, renO, rdO]
    ((try simp only [wpAftT_ret, wpAftT_pan, putS, updS, setS]); (repeat (refine wpT_late _ _ _ _ (by kernel_rfl) ?_; simp only [putS, List.set, List.nil_append, List.cons_append, Nat.reduceAdd])); (try simp only [wpT_nil]))
    (refine hKT _ _ _ _ (by kernel_rfl) ?_; clear hKT KT; (try simp only [thenD, blockD]))
    simp [killHl]
    ((try simp only [thenD, blockD]); refine EndQ.pan (.inr ⟨[], by decide, by simp, ?_⟩); simp [Out.mov, movT, movH, movD, D.mov, HO.mov, okM, renM, getW, D.ren, D.rens, D.okN, D.okNs, Cp.ren, Cp.okN, HO.ren, HO.okN, okA, renA, renO, hOf, handed, D.fgt, D.fgts, List.range_succ, List.idxOf_cons, tmOf, Out.fgt, D.fgt, D.fgts])
theorem htake_spec (left : Int) (l : List C) (once done : Bool) (hl : left ≤ 9223372036854775807) (t : T) (ht : okS t) :
    Spec Tryz.prog glob 115 [.box 0 0, encT t] (wObjs left l once done) (Cost left l once done t.nsz (encT t)) := by
  have hz := size_spec t ht.1
  rw [sz_true, i64w (by omega) (by have := ht.nsz; omega)] at hz
  have hEt := encT_eq t
  generalize t.nsz = c at hz ⊢
  rw [hEt] at hz ⊢
  by_cases hc : (c : Int) ≤ left
  · rw [Cost_ok hc]
    have hbu := burn_ok left l once done c (by omega) hc hl
    unfold wObjs headD Cs stepsM at hbu ⊢
    refine Spec.movd globPure (wpD_spec tyOK Tryz.func115 rfl (enters _ _ Tryz.func115 rfl (by decide)) rfl rfl ?_)
    (refine wpD_seqk fun K hK => ?_; refine wpD_region tyOK ?_; ((repeat (rw [wpS_cons]; simp)); (try simp only [wpS_nil, thenD, blockD])); refine hK _ _ _ ?_; clear hK K)
    (refine wpD_seqk fun K hK => ?_; refine wpD_drawk tyOK (by kernel_rfl) (by kernel_rfl) fun KT hKT => ?_; ((repeat (rw [wpT_cons]; simp)); (try simp only [wpT_nil])))
    refine CallY.pure globPure (hz) ?_ (by simp [D.fgts, D.fgt]) (by simp [D.pures, D.pure, Cp.free, D.pures_map]) (by simp [Out.pure, D.pure, D.pures, Cp.free, D.pures_map])
    ((try simp only [wpAftT_ret, wpAftT_pan, putS, updS, setS]); (repeat (rw [wpT_cons]; simp)); (try simp only [wpT_nil]))
    refine CallY.objs globPure [0, 1] true false (hbu) (fun o h e => e) ?_ (by simp) (by decide) (by simp) (by simp [D.ren, D.rens, D.okN, D.okNs, Cp.ren, Cp.okN, HO.ren, HO.okN, okA, renA, renO, hOf, handed, D.fgt, D.fgts, List.range_succ, List.idxOf_cons]) (by simp [D.ren, D.rens, D.okN, D.okNs, Cp.ren, Cp.okN, HO.ren, HO.okN, okA, renA, renO, hOf, handed, D.fgt, D.fgts, List.range_succ, List.idxOf_cons]) (by simp [D.ren, D.rens, D.okN, D.okNs, Cp.ren, Cp.okN, HO.ren, HO.okN, okA, renA, renO, hOf, handed, D.fgt, D.fgts, List.range_succ, List.idxOf_cons]) (by simp [D.ren, D.rens, D.okN, D.okNs, Cp.ren, Cp.okN, HO.ren, HO.okN, okA, renA, renO, hOf, handed, D.fgt, D.fgts, List.range_succ, List.idxOf_cons]); simp [D.ren, D.rens, D.okN, D.okNs, Cp.ren, Cp.okN, HO.ren, HO.okN, okA, renA, renO, hOf, handed, D.fgt, D.fgts, List.range_succ, List.idxOf_cons, Out.ren, upO, renO, rdO]
    ((try simp only [wpAftT_ret, wpAftT_pan, putS, updS, setS]); (repeat (rw [wpT_cons]; simp)); (try simp only [wpT_nil]))
    (refine hKT _ _ _ _ (by kernel_rfl) ?_; clear hKT KT; (try simp only [thenD, blockD]))
    (refine hK _ _ _ ?_; clear hK K)
    (refine wpD_seqk fun K hK => ?_; refine wpD_region tyOK ?_; ((repeat (rw [wpS_cons]; simp)); (try simp only [wpS_nil, thenD, blockD])); refine hK _ _ _ ?_; clear hK K)
    (refine wpD_ret ?_; (try simp only [thenD, blockD]); refine EndQ.ret rfl (.inr ⟨[], by decide, by simp, ?_⟩); simp [Out.mov, movT, movH, movD, D.mov, HO.mov, okM, renM, getW, D.ren, D.rens, D.okN, D.okNs, Cp.ren, Cp.okN, HO.ren, HO.okN, okA, renA, renO, hOf, handed, D.fgt, D.fgts, List.range_succ, List.idxOf_cons, tmOf, Out.fgt, D.fgt, D.fgts])
  · rw [Cost_no hc]
    have hbu := burn_dead left l once done c (by omega)
    unfold wObjs headD Cs stepsM goneD at hbu ⊢
    refine Spec.movd globPure (wpD_spec tyOK Tryz.func115 rfl (enters _ _ Tryz.func115 rfl (by decide)) rfl rfl ?_)
    (refine wpD_seqk fun K hK => ?_; refine wpD_region tyOK ?_; ((repeat (rw [wpS_cons]; simp)); (try simp only [wpS_nil, thenD, blockD])); refine hK _ _ _ ?_; clear hK K)
    (refine wpD_seqk fun K hK => ?_; refine wpD_drawk tyOK (by kernel_rfl) (by kernel_rfl) fun KT hKT => ?_; ((repeat (rw [wpT_cons]; simp)); (try simp only [wpT_nil])))
    refine CallY.pure globPure (hz) ?_ (by simp [D.fgts, D.fgt]) (by simp [D.pures, D.pure, Cp.free, D.pures_map]) (by simp [Out.pure, D.pure, D.pures, Cp.free, D.pures_map])
    ((try simp only [wpAftT_ret, wpAftT_pan, putS, updS, setS]); (repeat (rw [wpT_cons]; simp)); (try simp only [wpT_nil]))
    refine CallY.objs globPure [0, 1] true false (hbu) (fun o h e => e) ?_ (by simp) (by decide) (by simp) (by simp [D.ren, D.rens, D.okN, D.okNs, Cp.ren, Cp.okN, HO.ren, HO.okN, okA, renA, renO, hOf, handed, D.fgt, D.fgts, List.range_succ, List.idxOf_cons]) (by simp [D.ren, D.rens, D.okN, D.okNs, Cp.ren, Cp.okN, HO.ren, HO.okN, okA, renA, renO, hOf, handed, D.fgt, D.fgts, List.range_succ, List.idxOf_cons]) (by simp [D.ren, D.rens, D.okN, D.okNs, Cp.ren, Cp.okN, HO.ren, HO.okN, okA, renA, renO, hOf, handed, D.fgt, D.fgts, List.range_succ, List.idxOf_cons]) (by simp [D.ren, D.rens, D.okN, D.okNs, Cp.ren, Cp.okN, HO.ren, HO.okN, okA, renA, renO, hOf, handed, D.fgt, D.fgts, List.range_succ, List.idxOf_cons]); simp [D.ren, D.rens, D.okN, D.okNs, Cp.ren, Cp.okN, HO.ren, HO.okN, okA, renA, renO, hOf, handed, D.fgt, D.fgts, List.range_succ, List.idxOf_cons, Out.ren, upO, renO, rdO]
    ((try simp only [wpAftT_ret, wpAftT_pan, putS, updS, setS]); (repeat (refine wpT_late _ _ _ _ (by kernel_rfl) ?_; simp only [putS, List.set, List.nil_append, List.cons_append, Nat.reduceAdd])); (try simp only [wpT_nil]))
    (refine hKT _ _ _ _ (by kernel_rfl) ?_; clear hKT KT; (try simp only [thenD, blockD]))
    simp [killHl]
    ((try simp only [thenD, blockD]); refine EndQ.pan (.inr ⟨[], by decide, by simp, ?_⟩); simp [Out.mov, movT, movH, movD, D.mov, HO.mov, okM, renM, getW, D.ren, D.rens, D.okN, D.okNs, Cp.ren, Cp.okN, HO.ren, HO.okN, okA, renA, renO, hOf, handed, D.fgt, D.fgts, List.range_succ, List.idxOf_cons, tmOf, Out.fgt, D.fgt, D.fgts])
end Go.Proofs.YtebmlojhdnldgaaGreatDoor

namespace Go.Proofs.YtebmlojhdnldgaaGreatDoor
set_option linter.unusedSimpArgs false
set_option linter.unusedVariables false
set_option maxHeartbeats 10000000
set_option maxRecDepth 20000
open Go.RowKit
attribute [local simp] wpAft_ret wpAft_pan wantD evOp opD tmOf putS updS setS hOf isFree isTok fillD TK.isAgg TK.known partD thenD blockD putAll D.ofV inB nilTest isNilS binX binD binE isCst bndD capB IntKind.min IntKind.max IntKind.signed IntKind.bits dstOf late
theorem kidn_spec (t : T) (n : Int) (m : Nat) (h : n = m) : Spec Tryz.prog glob 80 [encT t, .int .i64 n] [] (fun o _ => o.fgt = .ret (encT (t.kid m))) := by
  subst h
  have := kid_spec t m
  rwa [kidI_nat] at this
/-- the constant that a node names -/
def atC (l : List C) (n : Int) (lv : List LV) : Option C := if h : 0 ≤ n ∧ n.toNat < l.length then if (l[n.toNat]'h.2).lv = lv.length then some (l[n.toNat]'h.2) else none else none
theorem atC_low {l : List C} {n : Int} {lv : List LV} (h : ¬ 0 ≤ n) : atC l n lv = none := by unfold atC; rw [dif_neg (fun h2 => h h2.1)]
theorem atC_in {l : List C} {j : Nat} {lv : List LV} (h : j < l.length) : atC l (j : Int) lv = if l[j].lv = lv.length then some l[j] else none := by unfold atC; rw [dif_pos ⟨by omega, by omega⟩]; rfl
theorem atC_out {l : List C} {j : Nat} {lv : List LV} (h : ¬ j < l.length) : atC l (j : Int) lv = none := by unfold atC; rw [dif_neg (fun h2 => h h2.2)]
theorem body_at (l : List C) (n : Int) (lv : List LV) : bodyC l n lv = match atC l n lv with
    | some c => if c.has = true then some (c.bo.levels lv 0) else none
    | none => none := by
  unfold bodyC atC
  split
  · rename_i h
    by_cases h1 : (l[n.toNat]'h.2).lv = lv.length
    · rw [if_pos h1]
      by_cases h2 : (l[n.toNat]'h.2).has = true
      · rw [if_pos ⟨h1, h2⟩]; simp only; rw [if_pos h2]
      · rw [if_neg (fun h3 => h2 h3.2)]; simp only; rw [if_neg h2]
    · rw [if_neg (fun h3 => h1 h3.1), if_neg h1]
  · rfl
theorem atC_mem {l : List C} {n : Int} {lv : List LV} {c : C} (h : atC l n lv = some c) : c ∈ l := by
  unfold atC at h
  split at h
  · split at h
    · cases h; exact List.getElem_mem _
    · cases h
  · cases h
theorem encC_eq (c : C) : encC c = .agg [.int .i64 c.lv, .int .i64 c.ty.k, .int .i64 c.ty.n, .int .i64 c.ty.a, .slice (c.ty.ls.map encL) .any, .slice (c.ty.ks.map encT) .any, .bool c.has, .int .i64 c.bo.k, .int .i64 c.bo.n, .int .i64 c.bo.a, .slice (c.bo.ls.map encL) .any, .slice (c.bo.ks.map encT) .any] := rfl
theorem at_spec (l : List C) (hl : l.length ≤ LMax) (n : Int) (lv : List LV) : Spec Tryz.prog glob 137 [Cs l, .int .i64 n, .slice (lv.map encL) .any] [] (fun o _ => o.fgt = .ret (.tuple [encC ((atC l n lv).getD zeroC), .bool (atC l n lv).isSome])) := by
  unfold LMax at hl
  by_cases h0 : 0 ≤ n
  · obtain ⟨j, rfl⟩ : ∃ j : Nat, n = j := ⟨n.toNat, by omega⟩
    by_cases hj : j < l.length
    · have hj' : (j : Int) < l.length := by omega
      rw [atC_in hj]
      obtain ⟨c, hc⟩ : ∃ c, l[j] = c := ⟨_, rfl⟩
      rw [hc]
      have hE := encC_eq c
      by_cases hlv : c.lv = lv.length
      · rw [if_pos hlv]
        unfold Cs
        refine Spec.movd globPure (wpD_spec tyOK Tryz.func137 rfl (enters _ _ Tryz.func137 rfl (by decide)) rfl rfl ?_)
        (refine wpD_seqk fun K hK => ?_; refine wpD_region tyOK ?_; ((repeat (rw [wpS_cons]; simp)); (try simp only [wpS_nil, thenD, blockD])); refine hK _ _ _ ?_; clear hK K)
        refine wpD_seqk fun K1 hK1 => ?_
        (refine wpD_seqk fun K hK => ?_; refine wpD_region tyOK ?_; ((repeat (rw [wpS_cons]; simp [h0, hj, hj', hc, hE, hlv])); (try simp only [wpS_nil, thenD, blockD])); refine hK _ _ _ ?_; clear hK K)
        refine wpD_part rfl (fun _ => ?_) (fun h => by simp at h)
        (refine wpD_seqk fun K hK => ?_; refine wpD_region tyOK ?_; ((repeat (rw [wpS_cons]; simp [h0, hj, hj', hc, hE, hlv])); (try simp only [wpS_nil, thenD, blockD])); refine hK _ _ _ ?_; clear hK K)
        (refine wpD_ret ?_; (try simp only [thenD, blockD]); refine EndQ.ret rfl (.inl ?_); simp [tmOf, Out.fgt, D.fgt, D.fgts])
        rw [hE, hlv]
      · rw [if_neg hlv]
        unfold Cs
        refine Spec.movd globPure (wpD_spec tyOK Tryz.func137 rfl (enters _ _ Tryz.func137 rfl (by decide)) rfl rfl ?_)
        (refine wpD_seqk fun K hK => ?_; refine wpD_region tyOK ?_; ((repeat (rw [wpS_cons]; simp)); (try simp only [wpS_nil, thenD, blockD])); refine hK _ _ _ ?_; clear hK K)
        refine wpD_seqk fun K1 hK1 => ?_
        (refine wpD_seqk fun K hK => ?_; refine wpD_region tyOK ?_; ((repeat (rw [wpS_cons]; simp [h0, hj, hj', hc, hE, hlv])); (try simp only [wpS_nil, thenD, blockD])); refine hK _ _ _ ?_; clear hK K)
        refine wpD_part rfl (fun h => by simp at h) (fun _ => ?_)
        refine wpD_skip (hK1 _ _ _ ?_)
        (refine wpD_seqk fun K hK => ?_; refine wpD_region tyOK ?_; ((repeat (rw [wpS_cons]; simp)); (try simp only [wpS_nil, thenD, blockD])); refine hK _ _ _ ?_; clear hK K)
        (refine wpD_ret ?_; (try simp only [thenD, blockD]); refine EndQ.ret rfl (.inl ?_); simp [tmOf, Out.fgt, D.fgt, D.fgts])
        rfl
    · have hj' : ¬ (j : Int) < l.length := by omega
      rw [atC_out hj]
      unfold Cs
      refine Spec.movd globPure (wpD_spec tyOK Tryz.func137 rfl (enters _ _ Tryz.func137 rfl (by decide)) rfl rfl ?_)
      (refine wpD_seqk fun K hK => ?_; refine wpD_region tyOK ?_; ((repeat (rw [wpS_cons]; simp)); (try simp only [wpS_nil, thenD, blockD])); refine hK _ _ _ ?_; clear hK K)
      refine wpD_seqk fun K1 hK1 => ?_
      (refine wpD_seqk fun K hK => ?_; refine wpD_region tyOK ?_; ((repeat (rw [wpS_cons]; simp [h0, hj, hj'])); (try simp only [wpS_nil, thenD, blockD])); refine hK _ _ _ ?_; clear hK K)
      refine wpD_part rfl (fun h => by simp at h) (fun _ => ?_)
      refine wpD_skip (hK1 _ _ _ ?_)
      (refine wpD_seqk fun K hK => ?_; refine wpD_region tyOK ?_; ((repeat (rw [wpS_cons]; simp)); (try simp only [wpS_nil, thenD, blockD])); refine hK _ _ _ ?_; clear hK K)
      (refine wpD_ret ?_; (try simp only [thenD, blockD]); refine EndQ.ret rfl (.inl ?_); simp [tmOf, Out.fgt, D.fgt, D.fgts])
      rfl
  · rw [atC_low h0]
    unfold Cs
    refine Spec.movd globPure (wpD_spec tyOK Tryz.func137 rfl (enters _ _ Tryz.func137 rfl (by decide)) rfl rfl ?_)
    (refine wpD_seqk fun K hK => ?_; refine wpD_region tyOK ?_; ((repeat (rw [wpS_cons]; simp)); (try simp only [wpS_nil, thenD, blockD])); refine hK _ _ _ ?_; clear hK K)
    refine wpD_seqk fun K1 hK1 => ?_
    (refine wpD_seqk fun K hK => ?_; refine wpD_region tyOK ?_; ((repeat (rw [wpS_cons]; simp [h0])); (try simp only [wpS_nil, thenD, blockD])); refine hK _ _ _ ?_; clear hK K)
    refine wpD_part rfl (fun h => by simp at h) (fun _ => ?_)
    refine wpD_skip (hK1 _ _ _ ?_)
    (refine wpD_seqk fun K hK => ?_; refine wpD_region tyOK ?_; ((repeat (rw [wpS_cons]; simp)); (try simp only [wpS_nil, thenD, blockD])); refine hK _ _ _ ?_; clear hK K)
    (refine wpD_ret ?_; (try simp only [thenD, blockD]); refine EndQ.ret rfl (.inl ?_); simp [tmOf, Out.fgt, D.fgt, D.fgts])
    rfl
theorem body_spec (l : List C) (hl : okCs l) (n : Int) (lv : List LV) (hv : lv.length ≤ LMax) (hvl : ∀ b, b ∈ lv → b.length ≤ LMax) : Spec Tryz.prog glob 116 [Cs l, .int .i64 n, .slice (lv.map encL) .any] [] (fun o _ => o.fgt = .ret (.tuple [encT ((bodyC l n lv).getD zeroT), .bool (bodyC l n lv).isSome])) := by
  have ha := at_spec l hl.len n lv
  rw [body_at]
  cases hc : atC l n lv with
  | none =>
    rw [hc] at ha
    simp only [Option.getD_none, Option.isSome_none] at ha ⊢
    rw [encZ]
    unfold Cs zeroC at ha
    unfold Cs
    refine Spec.movd globPure (wpD_spec tyOK Tryz.func116 rfl (enters _ _ Tryz.func116 rfl (by decide)) rfl rfl ?_)
    (refine wpD_seqk fun K hK => ?_; refine wpD_region tyOK ?_; ((repeat (rw [wpS_cons]; simp)); (try simp only [wpS_nil, thenD, blockD])); refine hK _ _ _ ?_; clear hK K)
    (refine wpD_seqk fun K hK => ?_; refine wpD_region tyOK ?_; ((repeat (rw [wpS_cons]; simp)); (try simp only [wpS_nil, thenD, blockD])))
    refine CallX.pure globPure (ha) ?_ (by simp [D.fgts, D.fgt]) (by simp [D.pures, D.pure, Cp.free, D.pures_map]) (by simp [Out.pure, D.pure, D.pures, Cp.free, D.pures_map])
    ((try simp only [wpAft_ret, wpAft_pan, putS, updS, setS]); (repeat (rw [wpS_cons]; simp)); (try simp only [wpS_nil, thenD, blockD]))
    (refine hK _ _ _ ?_; clear hK K)
    refine wpD_seqk fun K1 hK1 => ?_
    (refine wpD_seqk fun K hK => ?_; refine wpD_region tyOK ?_; ((repeat (rw [wpS_cons]; simp)); (try simp only [wpS_nil, thenD, blockD])); refine hK _ _ _ ?_; clear hK K)
    refine wpD_part rfl (fun _ => ?_) (fun h => by simp at h)
    (refine wpD_seqk fun K hK => ?_; refine wpD_region tyOK ?_; ((repeat (rw [wpS_cons]; simp)); (try simp only [wpS_nil, thenD, blockD])); refine hK _ _ _ ?_; clear hK K)
    (refine wpD_ret ?_; (try simp only [thenD, blockD]); refine EndQ.ret rfl (.inl ?_); simp [tmOf, Out.fgt, D.fgt, D.fgts])
  | some c =>
    rw [hc] at ha
    simp only [Option.getD_some, Option.isSome_some] at ha ⊢
    have hm := atC_mem hc
    have hbo := (hl.ok c hm).2.2
    have hd : c.bo.deep ≤ DM := by have := c.bo.deep_nsz; have := hl.bo c hm; unfold DM; omega
    cases hh : c.has with
    | false =>
      rw [if_neg Bool.false_ne_true]
      simp only [Option.getD_none, Option.isSome_none]
      rw [encZ]
      rw [encC_eq c, hh] at ha
      unfold Cs at ha ⊢
      refine Spec.movd globPure (wpD_spec tyOK Tryz.func116 rfl (enters _ _ Tryz.func116 rfl (by decide)) rfl rfl ?_)
      (refine wpD_seqk fun K hK => ?_; refine wpD_region tyOK ?_; ((repeat (rw [wpS_cons]; simp)); (try simp only [wpS_nil, thenD, blockD])); refine hK _ _ _ ?_; clear hK K)
      (refine wpD_seqk fun K hK => ?_; refine wpD_region tyOK ?_; ((repeat (rw [wpS_cons]; simp)); (try simp only [wpS_nil, thenD, blockD])))
      refine CallX.pure globPure (ha) ?_ (by simp [D.fgts, D.fgt]) (by simp [D.pures, D.pure, Cp.free, D.pures_map]) (by simp [Out.pure, D.pure, D.pures, Cp.free, D.pures_map])
      ((try simp only [wpAft_ret, wpAft_pan, putS, updS, setS]); (repeat (rw [wpS_cons]; simp)); (try simp only [wpS_nil, thenD, blockD]))
      (refine hK _ _ _ ?_; clear hK K)
      refine wpD_seqk fun K1 hK1 => ?_
      (refine wpD_seqk fun K hK => ?_; refine wpD_region tyOK ?_; ((repeat (rw [wpS_cons]; simp)); (try simp only [wpS_nil, thenD, blockD])); refine hK _ _ _ ?_; clear hK K)
      refine wpD_part rfl (fun _ => ?_) (fun h => by simp at h)
      (refine wpD_seqk fun K hK => ?_; refine wpD_region tyOK ?_; ((repeat (rw [wpS_cons]; simp)); (try simp only [wpS_nil, thenD, blockD])); refine hK _ _ _ ?_; clear hK K)
      (refine wpD_ret ?_; (try simp only [thenD, blockD]); refine EndQ.ret rfl (.inl ?_); simp [tmOf, Out.fgt, D.fgt, D.fgts])
    | true =>
      rw [if_pos rfl]
      simp only [Option.getD_some, Option.isSome_some]
      have hs := levels_spec c.bo lv hv hvl hd hbo
      rw [encC_eq c, hh] at ha
      rw [encT_eq c.bo] at hs
      generalize c.bo.levels lv 0 = r at hs ⊢
      have hEr := encT_eq r
      unfold Lvs at hs
      unfold Cs at ha ⊢
      refine Spec.movd globPure (wpD_spec tyOK Tryz.func116 rfl (enters _ _ Tryz.func116 rfl (by decide)) rfl rfl ?_)
      (refine wpD_seqk fun K hK => ?_; refine wpD_region tyOK ?_; ((repeat (rw [wpS_cons]; simp)); (try simp only [wpS_nil, thenD, blockD])); refine hK _ _ _ ?_; clear hK K)
      (refine wpD_seqk fun K hK => ?_; refine wpD_region tyOK ?_; ((repeat (rw [wpS_cons]; simp)); (try simp only [wpS_nil, thenD, blockD])))
      refine CallX.pure globPure (ha) ?_ (by simp [D.fgts, D.fgt]) (by simp [D.pures, D.pure, Cp.free, D.pures_map]) (by simp [Out.pure, D.pure, D.pures, Cp.free, D.pures_map])
      ((try simp only [wpAft_ret, wpAft_pan, putS, updS, setS]); (repeat (rw [wpS_cons]; simp)); (try simp only [wpS_nil, thenD, blockD]))
      (refine hK _ _ _ ?_; clear hK K)
      refine wpD_seqk fun K1 hK1 => ?_
      (refine wpD_seqk fun K hK => ?_; refine wpD_region tyOK ?_; ((repeat (rw [wpS_cons]; simp)); (try simp only [wpS_nil, thenD, blockD])); refine hK _ _ _ ?_; clear hK K)
      refine wpD_part rfl (fun h => by simp at h) (fun _ => ?_)
      refine wpD_skip (hK1 _ _ _ ?_)
      (refine wpD_seqk fun K hK => ?_; refine wpD_region tyOK ?_; ((repeat (rw [wpS_cons]; simp)); (try simp only [wpS_nil, thenD, blockD])))
      refine CallX.pure globPure (hs) ?_ (by simp [D.fgts, D.fgt]) (by simp [D.pures, D.pure, Cp.free, D.pures_map]) (by simp [Out.pure, D.pure, D.pures, Cp.free, D.pures_map])
      ((try simp only [wpAft_ret, wpAft_pan, putS, updS, setS]); (repeat (rw [wpS_cons]; simp)); (try simp only [wpS_nil, thenD, blockD]))
      (refine hK _ _ _ ?_; clear hK K)
      (refine wpD_ret ?_; (try simp only [thenD, blockD]); refine EndQ.ret rfl (.inl ?_); simp [tmOf, Out.fgt, D.fgt, D.fgts])
      exact hEr.symm
theorem happ_spec (left : Int) (l : List C) (once done : Bool) (hl : left ≤ 9223372036854775807) (t x : T) (ht : okS t) (hx : okS x) (h6 : t.k = 6) : Spec Tryz.prog glob 71 [.box 0 0, encT t, encT x] (wObjs left l once done) (OwnP left l once done t (ownS l t x)) := by
  have hEt := encT_eq t
  have hEx := encT_eq x
  unfold ownS
  rw [if_pos h6]
  by_cases hk : x.k = 5
  · rw [if_pos hk]
    have k1 := kidn_spec x 1 1 rfl
    have k2 := kidn_spec t 1 1 rfl
    have hp := hput_spec left l once done hl (x.kid 1) (t.kid 1) (hx.kid 1) (ht.kid 1)
    generalize (x.kid 1).sd (t.kid 1).nsz 0 = c at hp ⊢
    generalize (x.kid 1).put [t.kid 1] 0 = r at hp ⊢
    generalize x.kid 1 = a at k1 hp
    generalize t.kid 1 = b at k2 hp
    have hEr := encT_eq r
    have hEa := encT_eq a
    have hEb := encT_eq b
    rw [hEx, hEa, hk] at k1
    rw [hEt, hEb] at k2
    rw [hEa, hEb, hEr] at hp
    rw [hEt, hEx]
    by_cases hc : (c : Int) ≤ left
    · rw [Cost_ok hc] at hp
      show Spec _ _ _ _ _ (Cost left l once done c _)
      rw [Cost_ok hc]
      unfold wObjs headD Cs stepsM at hp ⊢
      refine Spec.movd globPure (wpD_spec tyOK Tryz.func71 rfl (enters _ _ Tryz.func71 rfl (by decide)) rfl rfl ?_)
      (refine wpD_seqk fun K hK => ?_; refine wpD_region tyOK ?_; ((repeat (rw [wpS_cons]; simp)); (try simp only [wpS_nil, thenD, blockD])); refine hK _ _ _ ?_; clear hK K)
      refine wpD_seqk fun K1 hK1 => ?_
      (refine wpD_seqk fun K hK => ?_; refine wpD_region tyOK ?_; ((repeat (rw [wpS_cons]; simp [hk])); (try simp only [wpS_nil, thenD, blockD])); refine hK _ _ _ ?_; clear hK K)
      refine wpD_part rfl (fun h => by simp at h) (fun _ => ?_)
      refine wpD_skip (hK1 _ _ _ ?_)
      (refine wpD_seqk fun K hK => ?_; refine wpD_drawk tyOK (by kernel_rfl) (by kernel_rfl) fun KT hKT => ?_; ((repeat (rw [wpT_cons]; simp)); (try simp only [wpT_nil])))
      refine CallY.pure globPure (k1) ?_ (by simp [D.fgts, D.fgt]) (by simp [D.pures, D.pure, Cp.free, D.pures_map]) (by simp [Out.pure, D.pure, D.pures, Cp.free, D.pures_map])
      ((try simp only [wpAftT_ret, wpAftT_pan, putS, updS, setS]); (repeat (rw [wpT_cons]; simp)); (try simp only [wpT_nil]))
      refine CallY.pure globPure (k2) ?_ (by simp [D.fgts, D.fgt]) (by simp [D.pures, D.pure, Cp.free, D.pures_map]) (by simp [Out.pure, D.pure, D.pures, Cp.free, D.pures_map])
      ((try simp only [wpAftT_ret, wpAftT_pan, putS, updS, setS]); (repeat (rw [wpT_cons]; simp)); (try simp only [wpT_nil]))
      refine CallY.objs globPure [0, 1] true true (hp) (fun o h e => e) ?_ (by simp) (by decide) (by simp) (by simp [D.ren, D.rens, D.okN, D.okNs, Cp.ren, Cp.okN, HO.ren, HO.okN, okA, renA, renO, hOf, handed, D.fgt, D.fgts, List.range_succ, List.idxOf_cons]) (by simp [D.ren, D.rens, D.okN, D.okNs, Cp.ren, Cp.okN, HO.ren, HO.okN, okA, renA, renO, hOf, handed, D.fgt, D.fgts, List.range_succ, List.idxOf_cons]) (by simp [D.ren, D.rens, D.okN, D.okNs, Cp.ren, Cp.okN, HO.ren, HO.okN, okA, renA, renO, hOf, handed, D.fgt, D.fgts, List.range_succ, List.idxOf_cons]) (by simp [D.ren, D.rens, D.okN, D.okNs, Cp.ren, Cp.okN, HO.ren, HO.okN, okA, renA, renO, hOf, handed, D.fgt, D.fgts, List.range_succ, List.idxOf_cons]); simp [D.ren, D.rens, D.okN, D.okNs, Cp.ren, Cp.okN, HO.ren, HO.okN, okA, renA, renO, hOf, handed, D.fgt, D.fgts, List.range_succ, List.idxOf_cons, Out.ren, upO, renO, rdO]
      ((try simp only [wpAftT_ret, wpAftT_pan, putS, updS, setS]); (repeat (rw [wpT_cons]; simp)); (try simp only [wpT_nil]))
      (refine hKT _ _ _ _ (by kernel_rfl) ?_; clear hKT KT; (try simp only [thenD, blockD]))
      (refine hK _ _ _ ?_; clear hK K)
      (refine wpD_ret ?_; (try simp only [thenD, blockD]); refine EndQ.ret rfl (.inr ⟨[], by decide, by simp, ?_⟩); simp [Out.mov, movT, movH, movD, D.mov, HO.mov, okM, renM, getW, D.ren, D.rens, D.okN, D.okNs, Cp.ren, Cp.okN, HO.ren, HO.okN, okA, renA, renO, hOf, handed, D.fgt, D.fgts, List.range_succ, List.idxOf_cons, tmOf, Out.fgt, D.fgt, D.fgts])
      first | done | simp [hEr]
    · rw [Cost_no hc] at hp
      show Spec _ _ _ _ _ (Cost left l once done c _)
      rw [Cost_no hc]
      unfold wObjs headD Cs stepsM goneD at hp
      unfold wObjs headD Cs stepsM goneD
      refine Spec.movd globPure (wpD_spec tyOK Tryz.func71 rfl (enters _ _ Tryz.func71 rfl (by decide)) rfl rfl ?_)
      (refine wpD_seqk fun K hK => ?_; refine wpD_region tyOK ?_; ((repeat (rw [wpS_cons]; simp)); (try simp only [wpS_nil, thenD, blockD])); refine hK _ _ _ ?_; clear hK K)
      refine wpD_seqk fun K1 hK1 => ?_
      (refine wpD_seqk fun K hK => ?_; refine wpD_region tyOK ?_; ((repeat (rw [wpS_cons]; simp [hk])); (try simp only [wpS_nil, thenD, blockD])); refine hK _ _ _ ?_; clear hK K)
      refine wpD_part rfl (fun h => by simp at h) (fun _ => ?_)
      refine wpD_skip (hK1 _ _ _ ?_)
      (refine wpD_seqk fun K hK => ?_; refine wpD_drawk tyOK (by kernel_rfl) (by kernel_rfl) fun KT hKT => ?_; ((repeat (rw [wpT_cons]; simp)); (try simp only [wpT_nil])))
      refine CallY.pure globPure (k1) ?_ (by simp [D.fgts, D.fgt]) (by simp [D.pures, D.pure, Cp.free, D.pures_map]) (by simp [Out.pure, D.pure, D.pures, Cp.free, D.pures_map])
      ((try simp only [wpAftT_ret, wpAftT_pan, putS, updS, setS]); (repeat (rw [wpT_cons]; simp)); (try simp only [wpT_nil]))
      refine CallY.pure globPure (k2) ?_ (by simp [D.fgts, D.fgt]) (by simp [D.pures, D.pure, Cp.free, D.pures_map]) (by simp [Out.pure, D.pure, D.pures, Cp.free, D.pures_map])
      ((try simp only [wpAftT_ret, wpAftT_pan, putS, updS, setS]); (repeat (rw [wpT_cons]; simp)); (try simp only [wpT_nil]))
      refine CallY.objs globPure [0, 1] true false (hp) (fun o h e => e) ?_ (by simp) (by decide) (by simp) (by simp [D.ren, D.rens, D.okN, D.okNs, Cp.ren, Cp.okN, HO.ren, HO.okN, okA, renA, renO, hOf, handed, D.fgt, D.fgts, List.range_succ, List.idxOf_cons]) (by simp [D.ren, D.rens, D.okN, D.okNs, Cp.ren, Cp.okN, HO.ren, HO.okN, okA, renA, renO, hOf, handed, D.fgt, D.fgts, List.range_succ, List.idxOf_cons]) (by simp [D.ren, D.rens, D.okN, D.okNs, Cp.ren, Cp.okN, HO.ren, HO.okN, okA, renA, renO, hOf, handed, D.fgt, D.fgts, List.range_succ, List.idxOf_cons]) (by simp [D.ren, D.rens, D.okN, D.okNs, Cp.ren, Cp.okN, HO.ren, HO.okN, okA, renA, renO, hOf, handed, D.fgt, D.fgts, List.range_succ, List.idxOf_cons]); simp [D.ren, D.rens, D.okN, D.okNs, Cp.ren, Cp.okN, HO.ren, HO.okN, okA, renA, renO, hOf, handed, D.fgt, D.fgts, List.range_succ, List.idxOf_cons, Out.ren, upO, renO, rdO]
      ((try simp only [wpAftT_ret, wpAftT_pan, putS, updS, setS]); (repeat (refine wpT_late _ _ _ _ (by kernel_rfl) ?_; simp only [putS, List.set, List.nil_append, List.cons_append, Nat.reduceAdd])); (try simp only [wpT_nil]))
      (refine hKT _ _ _ _ (by kernel_rfl) ?_; clear hKT KT; (try simp only [thenD, blockD]))
      simp [killHl]
      ((try simp only [thenD, blockD]); refine EndQ.pan (.inr ⟨[], by decide, by simp, ?_⟩); simp [Out.mov, movT, movH, movD, D.mov, HO.mov, okM, renM, getW, D.ren, D.rens, D.okN, D.okNs, Cp.ren, Cp.okN, HO.ren, HO.okN, okA, renA, renO, hOf, handed, D.fgt, D.fgts, List.range_succ, List.idxOf_cons, tmOf, Out.fgt, D.fgt, D.fgts])
  · rw [if_neg hk]
    rw [hEt, hEx]
    unfold OwnP wObjs headD Cs stepsM
    refine Spec.movd globPure (wpD_spec tyOK Tryz.func71 rfl (enters _ _ Tryz.func71 rfl (by decide)) rfl rfl ?_)
    (refine wpD_seqk fun K hK => ?_; refine wpD_region tyOK ?_; ((repeat (rw [wpS_cons]; simp)); (try simp only [wpS_nil, thenD, blockD])); refine hK _ _ _ ?_; clear hK K)
    refine wpD_seqk fun K1 hK1 => ?_
    (refine wpD_seqk fun K hK => ?_; refine wpD_region tyOK ?_; ((repeat (rw [wpS_cons]; simp [hk])); (try simp only [wpS_nil, thenD, blockD])); refine hK _ _ _ ?_; clear hK K)
    refine wpD_part rfl (fun _ => ?_) (fun h => by simp at h)
    (refine wpD_seqk fun K hK => ?_; refine wpD_region tyOK ?_; ((repeat (rw [wpS_cons]; simp)); (try simp only [wpS_nil, thenD, blockD])); refine hK _ _ _ ?_; clear hK K)
    (refine wpD_ret ?_; (try simp only [thenD, blockD]); refine EndQ.ret rfl (.inr ⟨[], by decide, by simp, ?_⟩); simp [Out.mov, movT, movH, movD, D.mov, HO.mov, okM, renM, getW, D.ren, D.rens, D.okN, D.okNs, Cp.ren, Cp.okN, HO.ren, HO.okN, okA, renA, renO, hOf, handed, D.fgt, D.fgts, List.range_succ, List.idxOf_cons, tmOf, Out.fgt, D.fgt, D.fgts])
    first | done | simp [hEt]
theorem hlet_spec (left : Int) (l : List C) (once done : Bool) (hl : left ≤ 9223372036854775807) (t x : T) (ht : okS t) (h7 : t.k = 7) : Spec Tryz.prog glob 73 [.box 0 0, encT t, encT x] (wObjs left l once done) (OwnP left l once done t (ownS l t x)) := by
  have hEt := encT_eq t
  have hEx := encT_eq x
  unfold ownS
  rw [if_neg (by omega), if_neg (by omega), if_pos h7]
  have k1 := kidn_spec t 2 2 rfl
  have k2 := kidn_spec t 1 1 rfl
  have hp := hput_spec left l once done hl (t.kid 2) (t.kid 1) (ht.kid 2) (ht.kid 1)
  generalize (t.kid 2).sd (t.kid 1).nsz 0 = c at hp ⊢
  generalize (t.kid 2).put [t.kid 1] 0 = r at hp ⊢
  generalize t.kid 2 = a at k1 hp
  generalize t.kid 1 = b at k2 hp
  have hEr := encT_eq r
  have hEa := encT_eq a
  have hEb := encT_eq b
  rw [hEt, hEa] at k1
  rw [hEt, hEb] at k2
  rw [hEa, hEb, hEr] at hp
  rw [hEt, hEx]
  by_cases hc : (c : Int) ≤ left
  · rw [Cost_ok hc] at hp
    show Spec _ _ _ _ _ (Cost left l once done c _)
    rw [Cost_ok hc]
    unfold wObjs headD Cs stepsM at hp ⊢
    refine Spec.movd globPure (wpD_spec tyOK Tryz.func73 rfl (enters _ _ Tryz.func73 rfl (by decide)) rfl rfl ?_)
    (refine wpD_seqk fun K hK => ?_; refine wpD_region tyOK ?_; ((repeat (rw [wpS_cons]; simp)); (try simp only [wpS_nil, thenD, blockD])); refine hK _ _ _ ?_; clear hK K)
    (refine wpD_seqk fun K hK => ?_; refine wpD_drawk tyOK (by kernel_rfl) (by kernel_rfl) fun KT hKT => ?_; ((repeat (rw [wpT_cons]; simp)); (try simp only [wpT_nil])))
    refine CallY.pure globPure (k1) ?_ (by simp [D.fgts, D.fgt]) (by simp [D.pures, D.pure, Cp.free, D.pures_map]) (by simp [Out.pure, D.pure, D.pures, Cp.free, D.pures_map])
    ((try simp only [wpAftT_ret, wpAftT_pan, putS, updS, setS]); (repeat (rw [wpT_cons]; simp)); (try simp only [wpT_nil]))
    refine CallY.pure globPure (k2) ?_ (by simp [D.fgts, D.fgt]) (by simp [D.pures, D.pure, Cp.free, D.pures_map]) (by simp [Out.pure, D.pure, D.pures, Cp.free, D.pures_map])
    ((try simp only [wpAftT_ret, wpAftT_pan, putS, updS, setS]); (repeat (rw [wpT_cons]; simp)); (try simp only [wpT_nil]))
    refine CallY.objs globPure [0, 1] true true (hp) (fun o h e => e) ?_ (by simp) (by decide) (by simp) (by simp [D.ren, D.rens, D.okN, D.okNs, Cp.ren, Cp.okN, HO.ren, HO.okN, okA, renA, renO, hOf, handed, D.fgt, D.fgts, List.range_succ, List.idxOf_cons]) (by simp [D.ren, D.rens, D.okN, D.okNs, Cp.ren, Cp.okN, HO.ren, HO.okN, okA, renA, renO, hOf, handed, D.fgt, D.fgts, List.range_succ, List.idxOf_cons]) (by simp [D.ren, D.rens, D.okN, D.okNs, Cp.ren, Cp.okN, HO.ren, HO.okN, okA, renA, renO, hOf, handed, D.fgt, D.fgts, List.range_succ, List.idxOf_cons]) (by simp [D.ren, D.rens, D.okN, D.okNs, Cp.ren, Cp.okN, HO.ren, HO.okN, okA, renA, renO, hOf, handed, D.fgt, D.fgts, List.range_succ, List.idxOf_cons]); simp [D.ren, D.rens, D.okN, D.okNs, Cp.ren, Cp.okN, HO.ren, HO.okN, okA, renA, renO, hOf, handed, D.fgt, D.fgts, List.range_succ, List.idxOf_cons, Out.ren, upO, renO, rdO]
    ((try simp only [wpAftT_ret, wpAftT_pan, putS, updS, setS]); (repeat (rw [wpT_cons]; simp)); (try simp only [wpT_nil]))
    (refine hKT _ _ _ _ (by kernel_rfl) ?_; clear hKT KT; (try simp only [thenD, blockD]))
    (refine hK _ _ _ ?_; clear hK K)
    (refine wpD_ret ?_; (try simp only [thenD, blockD]); refine EndQ.ret rfl (.inr ⟨[], by decide, by simp, ?_⟩); simp [Out.mov, movT, movH, movD, D.mov, HO.mov, okM, renM, getW, D.ren, D.rens, D.okN, D.okNs, Cp.ren, Cp.okN, HO.ren, HO.okN, okA, renA, renO, hOf, handed, D.fgt, D.fgts, List.range_succ, List.idxOf_cons, tmOf, Out.fgt, D.fgt, D.fgts])
    first | done | simp [hEr]
  · rw [Cost_no hc] at hp
    show Spec _ _ _ _ _ (Cost left l once done c _)
    rw [Cost_no hc]
    unfold wObjs headD Cs stepsM goneD at hp
    unfold wObjs headD Cs stepsM goneD
    refine Spec.movd globPure (wpD_spec tyOK Tryz.func73 rfl (enters _ _ Tryz.func73 rfl (by decide)) rfl rfl ?_)
    (refine wpD_seqk fun K hK => ?_; refine wpD_region tyOK ?_; ((repeat (rw [wpS_cons]; simp)); (try simp only [wpS_nil, thenD, blockD])); refine hK _ _ _ ?_; clear hK K)
    (refine wpD_seqk fun K hK => ?_; refine wpD_drawk tyOK (by kernel_rfl) (by kernel_rfl) fun KT hKT => ?_; ((repeat (rw [wpT_cons]; simp)); (try simp only [wpT_nil])))
    refine CallY.pure globPure (k1) ?_ (by simp [D.fgts, D.fgt]) (by simp [D.pures, D.pure, Cp.free, D.pures_map]) (by simp [Out.pure, D.pure, D.pures, Cp.free, D.pures_map])
    ((try simp only [wpAftT_ret, wpAftT_pan, putS, updS, setS]); (repeat (rw [wpT_cons]; simp)); (try simp only [wpT_nil]))
    refine CallY.pure globPure (k2) ?_ (by simp [D.fgts, D.fgt]) (by simp [D.pures, D.pure, Cp.free, D.pures_map]) (by simp [Out.pure, D.pure, D.pures, Cp.free, D.pures_map])
    ((try simp only [wpAftT_ret, wpAftT_pan, putS, updS, setS]); (repeat (rw [wpT_cons]; simp)); (try simp only [wpT_nil]))
    refine CallY.objs globPure [0, 1] true false (hp) (fun o h e => e) ?_ (by simp) (by decide) (by simp) (by simp [D.ren, D.rens, D.okN, D.okNs, Cp.ren, Cp.okN, HO.ren, HO.okN, okA, renA, renO, hOf, handed, D.fgt, D.fgts, List.range_succ, List.idxOf_cons]) (by simp [D.ren, D.rens, D.okN, D.okNs, Cp.ren, Cp.okN, HO.ren, HO.okN, okA, renA, renO, hOf, handed, D.fgt, D.fgts, List.range_succ, List.idxOf_cons]) (by simp [D.ren, D.rens, D.okN, D.okNs, Cp.ren, Cp.okN, HO.ren, HO.okN, okA, renA, renO, hOf, handed, D.fgt, D.fgts, List.range_succ, List.idxOf_cons]) (by simp [D.ren, D.rens, D.okN, D.okNs, Cp.ren, Cp.okN, HO.ren, HO.okN, okA, renA, renO, hOf, handed, D.fgt, D.fgts, List.range_succ, List.idxOf_cons]); simp [D.ren, D.rens, D.okN, D.okNs, Cp.ren, Cp.okN, HO.ren, HO.okN, okA, renA, renO, hOf, handed, D.fgt, D.fgts, List.range_succ, List.idxOf_cons, Out.ren, upO, renO, rdO]
    ((try simp only [wpAftT_ret, wpAftT_pan, putS, updS, setS]); (repeat (refine wpT_late _ _ _ _ (by kernel_rfl) ?_; simp only [putS, List.set, List.nil_append, List.cons_append, Nat.reduceAdd])); (try simp only [wpT_nil]))
    (refine hKT _ _ _ _ (by kernel_rfl) ?_; clear hKT KT; (try simp only [thenD, blockD]))
    simp [killHl]
    ((try simp only [thenD, blockD]); refine EndQ.pan (.inr ⟨[], by decide, by simp, ?_⟩); simp [Out.mov, movT, movH, movD, D.mov, HO.mov, okM, renM, getW, D.ren, D.rens, D.okN, D.okNs, Cp.ren, Cp.okN, HO.ren, HO.okN, okA, renA, renO, hOf, handed, D.fgt, D.fgts, List.range_succ, List.idxOf_cons, tmOf, Out.fgt, D.fgt, D.fgts])
theorem hhalf_spec (left : Int) (l : List C) (once done : Bool) (hl : left ≤ 9223372036854775807) (t x : T) (hx : okS x) (h14 : t.k = 14 ∨ t.k = 15) : Spec Tryz.prog glob 72 [.box 0 0, encT t, encT x] (wObjs left l once done) (OwnP left l once done t (ownS l t x)) := by
  have hEt := encT_eq t
  have hEx := encT_eq x
  unfold ownS
  rw [if_neg (by omega), if_pos h14]
  by_cases hk : x.k = 13
  · rw [if_pos hk]
    by_cases h15 : t.k = 15
    · rw [if_pos h15]
      have k1 := kidn_spec x 1 1 rfl
      have hp := htake_spec left l once done hl (x.kid 1) (hx.kid 1)
      generalize (x.kid 1).nsz = c at hp ⊢
      generalize x.kid 1 = r at k1 hp ⊢
      have hEr := encT_eq r
      rw [hEx, hEr, hk] at k1
      rw [hEr] at hp
      rw [hEt, hEx]
      by_cases hc : (c : Int) ≤ left
      · rw [Cost_ok hc] at hp
        show Spec _ _ _ _ _ (Cost left l once done c _)
        rw [Cost_ok hc]
        unfold wObjs headD Cs stepsM at hp ⊢
        refine Spec.movd globPure (wpD_spec tyOK Tryz.func72 rfl (enters _ _ Tryz.func72 rfl (by decide)) rfl rfl ?_)
        (refine wpD_seqk fun K hK => ?_; refine wpD_region tyOK ?_; ((repeat (rw [wpS_cons]; simp)); (try simp only [wpS_nil, thenD, blockD])); refine hK _ _ _ ?_; clear hK K)
        refine wpD_seqk fun K1 hK1 => ?_
        (refine wpD_seqk fun K hK => ?_; refine wpD_region tyOK ?_; ((repeat (rw [wpS_cons]; simp [hk])); (try simp only [wpS_nil, thenD, blockD])); refine hK _ _ _ ?_; clear hK K)
        refine wpD_part rfl (fun h => by simp at h) (fun _ => ?_)
        refine wpD_skip (hK1 _ _ _ ?_)
        (refine wpD_seqk fun K hK => ?_; refine wpD_region tyOK ?_; ((repeat (rw [wpS_cons]; simp)); (try simp only [wpS_nil, thenD, blockD])); refine hK _ _ _ ?_; clear hK K)
        refine wpD_seqk fun K2 hK2 => ?_
        (refine wpD_seqk fun K hK => ?_; refine wpD_region tyOK ?_; ((repeat (rw [wpS_cons]; simp [h15])); (try simp only [wpS_nil, thenD, blockD])); refine hK _ _ _ ?_; clear hK K)
        refine wpD_part rfl (fun _ => ?_) (fun h => by simp at h)
        (refine wpD_region tyOK ?_; ((repeat (rw [wpS_cons]; simp)); (try simp only [wpS_nil, thenD, blockD])))
        refine hK2 _ _ _ ?_
        (refine wpD_seqk fun K hK => ?_; refine wpD_region tyOK ?_; ((repeat (rw [wpS_cons]; simp)); (try simp only [wpS_nil, thenD, blockD])))
        refine CallX.pure globPure (k1) ?_ (by simp [D.fgts, D.fgt]) (by simp [D.pures, D.pure, Cp.free, D.pures_map]) (by simp [Out.pure, D.pure, D.pures, Cp.free, D.pures_map])
        ((try simp only [wpAft_ret, wpAft_pan, putS, updS, setS]); (repeat (rw [wpS_cons]; simp)); (try simp only [wpS_nil, thenD, blockD]))
        refine CallX.objs globPure [0, 1] true (hp) ?_ (by rintro o hc ⟨_, rfl⟩; simp) (by decide) (by simp) (by simp [D.ren, D.rens, D.okN, D.okNs, Cp.ren, Cp.okN, HO.ren, HO.okN, okA, renA, renO, hOf, handed, D.fgt, D.fgts, List.range_succ, List.idxOf_cons]) (by simp [D.ren, D.rens, D.okN, D.okNs, Cp.ren, Cp.okN, HO.ren, HO.okN, okA, renA, renO, hOf, handed, D.fgt, D.fgts, List.range_succ, List.idxOf_cons]) (by simp [D.ren, D.rens, D.okN, D.okNs, Cp.ren, Cp.okN, HO.ren, HO.okN, okA, renA, renO, hOf, handed, D.fgt, D.fgts, List.range_succ, List.idxOf_cons]) (by simp [D.ren, D.rens, D.okN, D.okNs, Cp.ren, Cp.okN, HO.ren, HO.okN, okA, renA, renO, hOf, handed, D.fgt, D.fgts, List.range_succ, List.idxOf_cons])
        (rintro o hc ⟨ho, rfl⟩; refine ⟨true, ?_⟩; rw [show told true o = _ from ho]; clear ho; simp [D.ren, D.rens, D.okN, D.okNs, Cp.ren, Cp.okN, HO.ren, HO.okN, okA, renA, renO, hOf, handed, D.fgt, D.fgts, List.range_succ, List.idxOf_cons, Out.ren, told, Out.fgt, upO, updS, setS])
        ((try simp only [wpAft_ret, wpAft_pan, putS, updS, setS]); (repeat (rw [wpS_cons]; simp)); (try simp only [wpS_nil, thenD, blockD]))
        (refine hK _ _ _ ?_; clear hK K)
        (refine wpD_ret ?_; (try simp only [thenD, blockD]); refine EndQ.ret rfl (.inr ⟨[], by decide, by simp, ?_⟩); simp [Out.mov, movT, movH, movD, D.mov, HO.mov, okM, renM, getW, D.ren, D.rens, D.okN, D.okNs, Cp.ren, Cp.okN, HO.ren, HO.okN, okA, renA, renO, hOf, handed, D.fgt, D.fgts, List.range_succ, List.idxOf_cons, tmOf, Out.fgt, D.fgt, D.fgts])
        first | done | simp [hEr]
      · rw [Cost_no hc] at hp
        show Spec _ _ _ _ _ (Cost left l once done c _)
        rw [Cost_no hc]
        unfold wObjs headD Cs stepsM goneD at hp
        unfold wObjs headD Cs stepsM goneD
        refine Spec.movd globPure (wpD_spec tyOK Tryz.func72 rfl (enters _ _ Tryz.func72 rfl (by decide)) rfl rfl ?_)
        (refine wpD_seqk fun K hK => ?_; refine wpD_region tyOK ?_; ((repeat (rw [wpS_cons]; simp)); (try simp only [wpS_nil, thenD, blockD])); refine hK _ _ _ ?_; clear hK K)
        refine wpD_seqk fun K1 hK1 => ?_
        (refine wpD_seqk fun K hK => ?_; refine wpD_region tyOK ?_; ((repeat (rw [wpS_cons]; simp [hk])); (try simp only [wpS_nil, thenD, blockD])); refine hK _ _ _ ?_; clear hK K)
        refine wpD_part rfl (fun h => by simp at h) (fun _ => ?_)
        refine wpD_skip (hK1 _ _ _ ?_)
        (refine wpD_seqk fun K hK => ?_; refine wpD_region tyOK ?_; ((repeat (rw [wpS_cons]; simp)); (try simp only [wpS_nil, thenD, blockD])); refine hK _ _ _ ?_; clear hK K)
        refine wpD_seqk fun K2 hK2 => ?_
        (refine wpD_seqk fun K hK => ?_; refine wpD_region tyOK ?_; ((repeat (rw [wpS_cons]; simp [h15])); (try simp only [wpS_nil, thenD, blockD])); refine hK _ _ _ ?_; clear hK K)
        refine wpD_part rfl (fun _ => ?_) (fun h => by simp at h)
        (refine wpD_region tyOK ?_; ((repeat (rw [wpS_cons]; simp)); (try simp only [wpS_nil, thenD, blockD])))
        refine hK2 _ _ _ ?_
        (refine wpD_seqk fun K hK => ?_; refine wpD_region tyOK ?_; ((repeat (rw [wpS_cons]; simp)); (try simp only [wpS_nil, thenD, blockD])))
        refine CallX.pure globPure (k1) ?_ (by simp [D.fgts, D.fgt]) (by simp [D.pures, D.pure, Cp.free, D.pures_map]) (by simp [Out.pure, D.pure, D.pures, Cp.free, D.pures_map])
        ((try simp only [wpAft_ret, wpAft_pan, putS, updS, setS]); (repeat (rw [wpS_cons]; simp)); (try simp only [wpS_nil, thenD, blockD]))
        refine CallX.objs globPure [0, 1] true (hp) ?_ (by rintro o hc ⟨_, rfl⟩; simp) (by decide) (by simp) (by simp [D.ren, D.rens, D.okN, D.okNs, Cp.ren, Cp.okN, HO.ren, HO.okN, okA, renA, renO, hOf, handed, D.fgt, D.fgts, List.range_succ, List.idxOf_cons]) (by simp [D.ren, D.rens, D.okN, D.okNs, Cp.ren, Cp.okN, HO.ren, HO.okN, okA, renA, renO, hOf, handed, D.fgt, D.fgts, List.range_succ, List.idxOf_cons]) (by simp [D.ren, D.rens, D.okN, D.okNs, Cp.ren, Cp.okN, HO.ren, HO.okN, okA, renA, renO, hOf, handed, D.fgt, D.fgts, List.range_succ, List.idxOf_cons]) (by simp [D.ren, D.rens, D.okN, D.okNs, Cp.ren, Cp.okN, HO.ren, HO.okN, okA, renA, renO, hOf, handed, D.fgt, D.fgts, List.range_succ, List.idxOf_cons])
        (rintro o hc ⟨rfl, rfl⟩; refine ⟨false, ?_⟩; simp [D.ren, D.rens, D.okN, D.okNs, Cp.ren, Cp.okN, HO.ren, HO.okN, okA, renA, renO, hOf, handed, D.fgt, D.fgts, List.range_succ, List.idxOf_cons, Out.ren, told, Out.fgt, upO, updS, setS])
        ((try simp only [thenD, blockD]); refine EndQ.pan (.inr ⟨[], by decide, by simp, ?_⟩); simp [Out.mov, movT, movH, movD, D.mov, HO.mov, okM, renM, getW, D.ren, D.rens, D.okN, D.okNs, Cp.ren, Cp.okN, HO.ren, HO.okN, okA, renA, renO, hOf, handed, D.fgt, D.fgts, List.range_succ, List.idxOf_cons, tmOf, Out.fgt, D.fgt, D.fgts])
    · rw [if_neg h15]
      have k1 := kidn_spec x 0 0 rfl
      have hp := htake_spec left l once done hl (x.kid 0) (hx.kid 0)
      generalize (x.kid 0).nsz = c at hp ⊢
      generalize x.kid 0 = r at k1 hp ⊢
      have hEr := encT_eq r
      rw [hEx, hEr, hk] at k1
      rw [hEr] at hp
      rw [hEt, hEx]
      by_cases hc : (c : Int) ≤ left
      · rw [Cost_ok hc] at hp
        show Spec _ _ _ _ _ (Cost left l once done c _)
        rw [Cost_ok hc]
        unfold wObjs headD Cs stepsM at hp ⊢
        refine Spec.movd globPure (wpD_spec tyOK Tryz.func72 rfl (enters _ _ Tryz.func72 rfl (by decide)) rfl rfl ?_)
        (refine wpD_seqk fun K hK => ?_; refine wpD_region tyOK ?_; ((repeat (rw [wpS_cons]; simp)); (try simp only [wpS_nil, thenD, blockD])); refine hK _ _ _ ?_; clear hK K)
        refine wpD_seqk fun K1 hK1 => ?_
        (refine wpD_seqk fun K hK => ?_; refine wpD_region tyOK ?_; ((repeat (rw [wpS_cons]; simp [hk])); (try simp only [wpS_nil, thenD, blockD])); refine hK _ _ _ ?_; clear hK K)
        refine wpD_part rfl (fun h => by simp at h) (fun _ => ?_)
        refine wpD_skip (hK1 _ _ _ ?_)
        (refine wpD_seqk fun K hK => ?_; refine wpD_region tyOK ?_; ((repeat (rw [wpS_cons]; simp)); (try simp only [wpS_nil, thenD, blockD])); refine hK _ _ _ ?_; clear hK K)
        refine wpD_seqk fun K2 hK2 => ?_
        (refine wpD_seqk fun K hK => ?_; refine wpD_region tyOK ?_; ((repeat (rw [wpS_cons]; simp [h15])); (try simp only [wpS_nil, thenD, blockD])); refine hK _ _ _ ?_; clear hK K)
        refine wpD_part rfl (fun h => by simp at h) (fun _ => ?_)
        refine wpD_skip (hK2 _ _ _ ?_)
        (refine wpD_seqk fun K hK => ?_; refine wpD_region tyOK ?_; ((repeat (rw [wpS_cons]; simp)); (try simp only [wpS_nil, thenD, blockD])))
        refine CallX.pure globPure (k1) ?_ (by simp [D.fgts, D.fgt]) (by simp [D.pures, D.pure, Cp.free, D.pures_map]) (by simp [Out.pure, D.pure, D.pures, Cp.free, D.pures_map])
        ((try simp only [wpAft_ret, wpAft_pan, putS, updS, setS]); (repeat (rw [wpS_cons]; simp)); (try simp only [wpS_nil, thenD, blockD]))
        refine CallX.objs globPure [0, 1] true (hp) ?_ (by rintro o hc ⟨_, rfl⟩; simp) (by decide) (by simp) (by simp [D.ren, D.rens, D.okN, D.okNs, Cp.ren, Cp.okN, HO.ren, HO.okN, okA, renA, renO, hOf, handed, D.fgt, D.fgts, List.range_succ, List.idxOf_cons]) (by simp [D.ren, D.rens, D.okN, D.okNs, Cp.ren, Cp.okN, HO.ren, HO.okN, okA, renA, renO, hOf, handed, D.fgt, D.fgts, List.range_succ, List.idxOf_cons]) (by simp [D.ren, D.rens, D.okN, D.okNs, Cp.ren, Cp.okN, HO.ren, HO.okN, okA, renA, renO, hOf, handed, D.fgt, D.fgts, List.range_succ, List.idxOf_cons]) (by simp [D.ren, D.rens, D.okN, D.okNs, Cp.ren, Cp.okN, HO.ren, HO.okN, okA, renA, renO, hOf, handed, D.fgt, D.fgts, List.range_succ, List.idxOf_cons])
        (rintro o hc ⟨ho, rfl⟩; refine ⟨true, ?_⟩; rw [show told true o = _ from ho]; clear ho; simp [D.ren, D.rens, D.okN, D.okNs, Cp.ren, Cp.okN, HO.ren, HO.okN, okA, renA, renO, hOf, handed, D.fgt, D.fgts, List.range_succ, List.idxOf_cons, Out.ren, told, Out.fgt, upO, updS, setS])
        ((try simp only [wpAft_ret, wpAft_pan, putS, updS, setS]); (repeat (rw [wpS_cons]; simp)); (try simp only [wpS_nil, thenD, blockD]))
        (refine hK _ _ _ ?_; clear hK K)
        (refine wpD_ret ?_; (try simp only [thenD, blockD]); refine EndQ.ret rfl (.inr ⟨[], by decide, by simp, ?_⟩); simp [Out.mov, movT, movH, movD, D.mov, HO.mov, okM, renM, getW, D.ren, D.rens, D.okN, D.okNs, Cp.ren, Cp.okN, HO.ren, HO.okN, okA, renA, renO, hOf, handed, D.fgt, D.fgts, List.range_succ, List.idxOf_cons, tmOf, Out.fgt, D.fgt, D.fgts])
        first | done | simp [hEr]
      · rw [Cost_no hc] at hp
        show Spec _ _ _ _ _ (Cost left l once done c _)
        rw [Cost_no hc]
        unfold wObjs headD Cs stepsM goneD at hp
        unfold wObjs headD Cs stepsM goneD
        refine Spec.movd globPure (wpD_spec tyOK Tryz.func72 rfl (enters _ _ Tryz.func72 rfl (by decide)) rfl rfl ?_)
        (refine wpD_seqk fun K hK => ?_; refine wpD_region tyOK ?_; ((repeat (rw [wpS_cons]; simp)); (try simp only [wpS_nil, thenD, blockD])); refine hK _ _ _ ?_; clear hK K)
        refine wpD_seqk fun K1 hK1 => ?_
        (refine wpD_seqk fun K hK => ?_; refine wpD_region tyOK ?_; ((repeat (rw [wpS_cons]; simp [hk])); (try simp only [wpS_nil, thenD, blockD])); refine hK _ _ _ ?_; clear hK K)
        refine wpD_part rfl (fun h => by simp at h) (fun _ => ?_)
        refine wpD_skip (hK1 _ _ _ ?_)
        (refine wpD_seqk fun K hK => ?_; refine wpD_region tyOK ?_; ((repeat (rw [wpS_cons]; simp)); (try simp only [wpS_nil, thenD, blockD])); refine hK _ _ _ ?_; clear hK K)
        refine wpD_seqk fun K2 hK2 => ?_
        (refine wpD_seqk fun K hK => ?_; refine wpD_region tyOK ?_; ((repeat (rw [wpS_cons]; simp [h15])); (try simp only [wpS_nil, thenD, blockD])); refine hK _ _ _ ?_; clear hK K)
        refine wpD_part rfl (fun h => by simp at h) (fun _ => ?_)
        refine wpD_skip (hK2 _ _ _ ?_)
        (refine wpD_seqk fun K hK => ?_; refine wpD_region tyOK ?_; ((repeat (rw [wpS_cons]; simp)); (try simp only [wpS_nil, thenD, blockD])))
        refine CallX.pure globPure (k1) ?_ (by simp [D.fgts, D.fgt]) (by simp [D.pures, D.pure, Cp.free, D.pures_map]) (by simp [Out.pure, D.pure, D.pures, Cp.free, D.pures_map])
        ((try simp only [wpAft_ret, wpAft_pan, putS, updS, setS]); (repeat (rw [wpS_cons]; simp)); (try simp only [wpS_nil, thenD, blockD]))
        refine CallX.objs globPure [0, 1] true (hp) ?_ (by rintro o hc ⟨_, rfl⟩; simp) (by decide) (by simp) (by simp [D.ren, D.rens, D.okN, D.okNs, Cp.ren, Cp.okN, HO.ren, HO.okN, okA, renA, renO, hOf, handed, D.fgt, D.fgts, List.range_succ, List.idxOf_cons]) (by simp [D.ren, D.rens, D.okN, D.okNs, Cp.ren, Cp.okN, HO.ren, HO.okN, okA, renA, renO, hOf, handed, D.fgt, D.fgts, List.range_succ, List.idxOf_cons]) (by simp [D.ren, D.rens, D.okN, D.okNs, Cp.ren, Cp.okN, HO.ren, HO.okN, okA, renA, renO, hOf, handed, D.fgt, D.fgts, List.range_succ, List.idxOf_cons]) (by simp [D.ren, D.rens, D.okN, D.okNs, Cp.ren, Cp.okN, HO.ren, HO.okN, okA, renA, renO, hOf, handed, D.fgt, D.fgts, List.range_succ, List.idxOf_cons])
        (rintro o hc ⟨rfl, rfl⟩; refine ⟨false, ?_⟩; simp [D.ren, D.rens, D.okN, D.okNs, Cp.ren, Cp.okN, HO.ren, HO.okN, okA, renA, renO, hOf, handed, D.fgt, D.fgts, List.range_succ, List.idxOf_cons, Out.ren, told, Out.fgt, upO, updS, setS])
        ((try simp only [thenD, blockD]); refine EndQ.pan (.inr ⟨[], by decide, by simp, ?_⟩); simp [Out.mov, movT, movH, movD, D.mov, HO.mov, okM, renM, getW, D.ren, D.rens, D.okN, D.okNs, Cp.ren, Cp.okN, HO.ren, HO.okN, okA, renA, renO, hOf, handed, D.fgt, D.fgts, List.range_succ, List.idxOf_cons, tmOf, Out.fgt, D.fgt, D.fgts])
  · rw [if_neg hk]
    rw [hEt, hEx]
    unfold OwnP wObjs headD Cs stepsM
    refine Spec.movd globPure (wpD_spec tyOK Tryz.func72 rfl (enters _ _ Tryz.func72 rfl (by decide)) rfl rfl ?_)
    (refine wpD_seqk fun K hK => ?_; refine wpD_region tyOK ?_; ((repeat (rw [wpS_cons]; simp)); (try simp only [wpS_nil, thenD, blockD])); refine hK _ _ _ ?_; clear hK K)
    refine wpD_seqk fun K1 hK1 => ?_
    (refine wpD_seqk fun K hK => ?_; refine wpD_region tyOK ?_; ((repeat (rw [wpS_cons]; simp [hk])); (try simp only [wpS_nil, thenD, blockD])); refine hK _ _ _ ?_; clear hK K)
    refine wpD_part rfl (fun _ => ?_) (fun h => by simp at h)
    (refine wpD_seqk fun K hK => ?_; refine wpD_region tyOK ?_; ((repeat (rw [wpS_cons]; simp)); (try simp only [wpS_nil, thenD, blockD])); refine hK _ _ _ ?_; clear hK K)
    (refine wpD_ret ?_; (try simp only [thenD, blockD]); refine EndQ.ret rfl (.inr ⟨[], by decide, by simp, ?_⟩); simp [Out.mov, movT, movH, movD, D.mov, HO.mov, okM, renM, getW, D.ren, D.rens, D.okN, D.okNs, Cp.ren, Cp.okN, HO.ren, HO.okN, okA, renA, renO, hOf, handed, D.fgt, D.fgts, List.range_succ, List.idxOf_cons, tmOf, Out.fgt, D.fgt, D.fgts])
    first | done | simp [hEt]
theorem hpath_spec (left : Int) (l : List C) (once done : Bool) (hl : left ≤ 9223372036854775807) (t x : T) (ht : okS t) (h21 : t.k = 21) : Spec Tryz.prog glob 76 [.box 0 0, encT t, encT x] (wObjs left l once done) (OwnP left l once done t (ownS l t x)) := by
  have hEt := encT_eq t
  have hEx := encT_eq x
  unfold ownS
  rw [if_neg (by omega), if_neg (by omega), if_neg (by omega), if_neg (by omega), if_neg (by omega), if_pos h21]
  by_cases hk : x.k = 20
  · rw [if_pos hk]
    have k1 := kidn_spec t 3 3 rfl
    have hp := htake_spec left l once done hl (t.kid 3) (ht.kid 3)
    generalize (t.kid 3).nsz = c at hp ⊢
    generalize t.kid 3 = r at k1 hp ⊢
    have hEr := encT_eq r
    rw [hEt, hEr] at k1
    rw [hEr] at hp
    rw [hEt, hEx]
    by_cases hc : (c : Int) ≤ left
    · rw [Cost_ok hc] at hp
      show Spec _ _ _ _ _ (Cost left l once done c _)
      rw [Cost_ok hc]
      unfold wObjs headD Cs stepsM at hp ⊢
      refine Spec.movd globPure (wpD_spec tyOK Tryz.func76 rfl (enters _ _ Tryz.func76 rfl (by decide)) rfl rfl ?_)
      (refine wpD_seqk fun K hK => ?_; refine wpD_region tyOK ?_; ((repeat (rw [wpS_cons]; simp)); (try simp only [wpS_nil, thenD, blockD])); refine hK _ _ _ ?_; clear hK K)
      refine wpD_seqk fun K1 hK1 => ?_
      (refine wpD_seqk fun K hK => ?_; refine wpD_region tyOK ?_; ((repeat (rw [wpS_cons]; simp [hk])); (try simp only [wpS_nil, thenD, blockD])); refine hK _ _ _ ?_; clear hK K)
      refine wpD_part rfl (fun h => by simp at h) (fun _ => ?_)
      refine wpD_skip (hK1 _ _ _ ?_)
      (refine wpD_seqk fun K hK => ?_; refine wpD_region tyOK ?_; ((repeat (rw [wpS_cons]; simp)); (try simp only [wpS_nil, thenD, blockD])))
      refine CallX.pure globPure (k1) ?_ (by simp [D.fgts, D.fgt]) (by simp [D.pures, D.pure, Cp.free, D.pures_map]) (by simp [Out.pure, D.pure, D.pures, Cp.free, D.pures_map])
      ((try simp only [wpAft_ret, wpAft_pan, putS, updS, setS]); (repeat (rw [wpS_cons]; simp)); (try simp only [wpS_nil, thenD, blockD]))
      refine CallX.objs globPure [0, 1] true (hp) ?_ (by rintro o hc ⟨_, rfl⟩; simp) (by decide) (by simp) (by simp [D.ren, D.rens, D.okN, D.okNs, Cp.ren, Cp.okN, HO.ren, HO.okN, okA, renA, renO, hOf, handed, D.fgt, D.fgts, List.range_succ, List.idxOf_cons]) (by simp [D.ren, D.rens, D.okN, D.okNs, Cp.ren, Cp.okN, HO.ren, HO.okN, okA, renA, renO, hOf, handed, D.fgt, D.fgts, List.range_succ, List.idxOf_cons]) (by simp [D.ren, D.rens, D.okN, D.okNs, Cp.ren, Cp.okN, HO.ren, HO.okN, okA, renA, renO, hOf, handed, D.fgt, D.fgts, List.range_succ, List.idxOf_cons]) (by simp [D.ren, D.rens, D.okN, D.okNs, Cp.ren, Cp.okN, HO.ren, HO.okN, okA, renA, renO, hOf, handed, D.fgt, D.fgts, List.range_succ, List.idxOf_cons])
      (rintro o hc ⟨ho, rfl⟩; refine ⟨true, ?_⟩; rw [show told true o = _ from ho]; clear ho; simp [D.ren, D.rens, D.okN, D.okNs, Cp.ren, Cp.okN, HO.ren, HO.okN, okA, renA, renO, hOf, handed, D.fgt, D.fgts, List.range_succ, List.idxOf_cons, Out.ren, told, Out.fgt, upO, updS, setS])
      ((try simp only [wpAft_ret, wpAft_pan, putS, updS, setS]); (repeat (rw [wpS_cons]; simp)); (try simp only [wpS_nil, thenD, blockD]))
      (refine hK _ _ _ ?_; clear hK K)
      (refine wpD_ret ?_; (try simp only [thenD, blockD]); refine EndQ.ret rfl (.inr ⟨[], by decide, by simp, ?_⟩); simp [Out.mov, movT, movH, movD, D.mov, HO.mov, okM, renM, getW, D.ren, D.rens, D.okN, D.okNs, Cp.ren, Cp.okN, HO.ren, HO.okN, okA, renA, renO, hOf, handed, D.fgt, D.fgts, List.range_succ, List.idxOf_cons, tmOf, Out.fgt, D.fgt, D.fgts])
      first | done | simp [hEr]
    · rw [Cost_no hc] at hp
      show Spec _ _ _ _ _ (Cost left l once done c _)
      rw [Cost_no hc]
      unfold wObjs headD Cs stepsM goneD at hp
      unfold wObjs headD Cs stepsM goneD
      refine Spec.movd globPure (wpD_spec tyOK Tryz.func76 rfl (enters _ _ Tryz.func76 rfl (by decide)) rfl rfl ?_)
      (refine wpD_seqk fun K hK => ?_; refine wpD_region tyOK ?_; ((repeat (rw [wpS_cons]; simp)); (try simp only [wpS_nil, thenD, blockD])); refine hK _ _ _ ?_; clear hK K)
      refine wpD_seqk fun K1 hK1 => ?_
      (refine wpD_seqk fun K hK => ?_; refine wpD_region tyOK ?_; ((repeat (rw [wpS_cons]; simp [hk])); (try simp only [wpS_nil, thenD, blockD])); refine hK _ _ _ ?_; clear hK K)
      refine wpD_part rfl (fun h => by simp at h) (fun _ => ?_)
      refine wpD_skip (hK1 _ _ _ ?_)
      (refine wpD_seqk fun K hK => ?_; refine wpD_region tyOK ?_; ((repeat (rw [wpS_cons]; simp)); (try simp only [wpS_nil, thenD, blockD])))
      refine CallX.pure globPure (k1) ?_ (by simp [D.fgts, D.fgt]) (by simp [D.pures, D.pure, Cp.free, D.pures_map]) (by simp [Out.pure, D.pure, D.pures, Cp.free, D.pures_map])
      ((try simp only [wpAft_ret, wpAft_pan, putS, updS, setS]); (repeat (rw [wpS_cons]; simp)); (try simp only [wpS_nil, thenD, blockD]))
      refine CallX.objs globPure [0, 1] true (hp) ?_ (by rintro o hc ⟨_, rfl⟩; simp) (by decide) (by simp) (by simp [D.ren, D.rens, D.okN, D.okNs, Cp.ren, Cp.okN, HO.ren, HO.okN, okA, renA, renO, hOf, handed, D.fgt, D.fgts, List.range_succ, List.idxOf_cons]) (by simp [D.ren, D.rens, D.okN, D.okNs, Cp.ren, Cp.okN, HO.ren, HO.okN, okA, renA, renO, hOf, handed, D.fgt, D.fgts, List.range_succ, List.idxOf_cons]) (by simp [D.ren, D.rens, D.okN, D.okNs, Cp.ren, Cp.okN, HO.ren, HO.okN, okA, renA, renO, hOf, handed, D.fgt, D.fgts, List.range_succ, List.idxOf_cons]) (by simp [D.ren, D.rens, D.okN, D.okNs, Cp.ren, Cp.okN, HO.ren, HO.okN, okA, renA, renO, hOf, handed, D.fgt, D.fgts, List.range_succ, List.idxOf_cons])
      (rintro o hc ⟨rfl, rfl⟩; refine ⟨false, ?_⟩; simp [D.ren, D.rens, D.okN, D.okNs, Cp.ren, Cp.okN, HO.ren, HO.okN, okA, renA, renO, hOf, handed, D.fgt, D.fgts, List.range_succ, List.idxOf_cons, Out.ren, told, Out.fgt, upO, updS, setS])
      ((try simp only [thenD, blockD]); refine EndQ.pan (.inr ⟨[], by decide, by simp, ?_⟩); simp [Out.mov, movT, movH, movD, D.mov, HO.mov, okM, renM, getW, D.ren, D.rens, D.okN, D.okNs, Cp.ren, Cp.okN, HO.ren, HO.okN, okA, renA, renO, hOf, handed, D.fgt, D.fgts, List.range_succ, List.idxOf_cons, tmOf, Out.fgt, D.fgt, D.fgts])
  · rw [if_neg hk]
    rw [hEt, hEx]
    unfold OwnP wObjs headD Cs stepsM
    refine Spec.movd globPure (wpD_spec tyOK Tryz.func76 rfl (enters _ _ Tryz.func76 rfl (by decide)) rfl rfl ?_)
    (refine wpD_seqk fun K hK => ?_; refine wpD_region tyOK ?_; ((repeat (rw [wpS_cons]; simp)); (try simp only [wpS_nil, thenD, blockD])); refine hK _ _ _ ?_; clear hK K)
    refine wpD_seqk fun K1 hK1 => ?_
    (refine wpD_seqk fun K hK => ?_; refine wpD_region tyOK ?_; ((repeat (rw [wpS_cons]; simp [hk])); (try simp only [wpS_nil, thenD, blockD])); refine hK _ _ _ ?_; clear hK K)
    refine wpD_part rfl (fun _ => ?_) (fun h => by simp at h)
    (refine wpD_seqk fun K hK => ?_; refine wpD_region tyOK ?_; ((repeat (rw [wpS_cons]; simp)); (try simp only [wpS_nil, thenD, blockD])); refine hK _ _ _ ?_; clear hK K)
    (refine wpD_ret ?_; (try simp only [thenD, blockD]); refine EndQ.ret rfl (.inr ⟨[], by decide, by simp, ?_⟩); simp [Out.mov, movT, movH, movD, D.mov, HO.mov, okM, renM, getW, D.ren, D.rens, D.okN, D.okNs, Cp.ren, Cp.okN, HO.ren, HO.okN, okA, renA, renO, hOf, handed, D.fgt, D.fgts, List.range_succ, List.idxOf_cons, tmOf, Out.fgt, D.fgt, D.fgts])
    first | done | simp [hEt]
theorem hbranch_spec (left : Int) (l : List C) (once done : Bool) (hl : left ≤ 9223372036854775807) (t x : T) (ht : okS t) (hxn : okS x) (h24 : t.k = 24) (hs : (spot t).isSome = true) : Spec Tryz.prog glob 77 [.box 0 0, encT t, encT x] (wObjs left l once done) (OwnP left l once done t (ownS l t x)) := by
  have hEt := encT_eq t
  have hEx := encT_eq x
  unfold ownS
  rw [if_neg (by omega), if_neg (by omega), if_neg (by omega), if_neg (by omega), if_neg (by omega), if_neg (by omega), if_pos ⟨h24, hs⟩]
  have hta := ht.1.a
  unfold I64 at hta
  by_cases hk : x.k = 23
  · by_cases h0 : 0 ≤ x.n
    · by_cases h1 : x.n < t.a
      · rw [if_pos ⟨hk, h0, h1⟩]
        have hw : IntKind.i64.wrap (x.n + 1) = x.n + 1 := i64w (by omega) (by omega)
        have k1 := kidn_spec t (x.n + 1) (x.n.toNat + 1) (by omega)
        have hp := htake_spec left l once done hl (t.kid (x.n.toNat + 1)) (ht.kid _)
        generalize (t.kid (x.n.toNat + 1)).nsz = c at hp ⊢
        generalize t.kid (x.n.toNat + 1) = r at k1 hp ⊢
        have hEr := encT_eq r
        rw [hEt, hEr] at k1
        rw [hEr] at hp
        rw [hEt, hEx]
        have h0' : ¬ x.n < 0 := by omega
        have h1' : ¬ t.a ≤ x.n := by omega
        by_cases hc : (c : Int) ≤ left
        · rw [Cost_ok hc] at hp
          show Spec _ _ _ _ _ (Cost left l once done c _)
          rw [Cost_ok hc]
          unfold wObjs headD Cs stepsM at hp ⊢
          refine Spec.movd globPure (wpD_spec tyOK Tryz.func77 rfl (enters _ _ Tryz.func77 rfl (by decide)) rfl rfl ?_)
          (refine wpD_seqk fun K hK => ?_; refine wpD_region tyOK ?_; ((repeat (rw [wpS_cons]; simp)); (try simp only [wpS_nil, thenD, blockD])); refine hK _ _ _ ?_; clear hK K)
          refine wpD_seqk fun K1 hK1 => ?_
          (refine wpD_seqk fun K hK => ?_; refine wpD_region tyOK ?_; ((repeat (rw [wpS_cons]; simp [hk, h0, h0', h1, h1'])); (try simp only [wpS_nil, thenD, blockD])); refine hK _ _ _ ?_; clear hK K)
          refine wpD_part rfl (fun h => by simp at h) (fun _ => ?_)
          refine wpD_skip (hK1 _ _ _ ?_)
          (refine wpD_seqk fun K hK => ?_; refine wpD_region tyOK ?_; ((repeat (rw [wpS_cons]; simp [hw])); (try simp only [wpS_nil, thenD, blockD])))
          refine CallX.pure globPure (k1) ?_ (by simp [D.fgts, D.fgt]) (by simp [D.pures, D.pure, Cp.free, D.pures_map]) (by simp [Out.pure, D.pure, D.pures, Cp.free, D.pures_map])
          ((try simp only [wpAft_ret, wpAft_pan, putS, updS, setS]); (repeat (rw [wpS_cons]; simp)); (try simp only [wpS_nil, thenD, blockD]))
          refine CallX.objs globPure [0, 1] true (hp) ?_ (by rintro o hc ⟨_, rfl⟩; simp) (by decide) (by simp) (by simp [D.ren, D.rens, D.okN, D.okNs, Cp.ren, Cp.okN, HO.ren, HO.okN, okA, renA, renO, hOf, handed, D.fgt, D.fgts, List.range_succ, List.idxOf_cons]) (by simp [D.ren, D.rens, D.okN, D.okNs, Cp.ren, Cp.okN, HO.ren, HO.okN, okA, renA, renO, hOf, handed, D.fgt, D.fgts, List.range_succ, List.idxOf_cons]) (by simp [D.ren, D.rens, D.okN, D.okNs, Cp.ren, Cp.okN, HO.ren, HO.okN, okA, renA, renO, hOf, handed, D.fgt, D.fgts, List.range_succ, List.idxOf_cons]) (by simp [D.ren, D.rens, D.okN, D.okNs, Cp.ren, Cp.okN, HO.ren, HO.okN, okA, renA, renO, hOf, handed, D.fgt, D.fgts, List.range_succ, List.idxOf_cons])
          (rintro o hc ⟨ho, rfl⟩; refine ⟨true, ?_⟩; rw [show told true o = _ from ho]; clear ho; simp [D.ren, D.rens, D.okN, D.okNs, Cp.ren, Cp.okN, HO.ren, HO.okN, okA, renA, renO, hOf, handed, D.fgt, D.fgts, List.range_succ, List.idxOf_cons, Out.ren, told, Out.fgt, upO, updS, setS])
          ((try simp only [wpAft_ret, wpAft_pan, putS, updS, setS]); (repeat (rw [wpS_cons]; simp)); (try simp only [wpS_nil, thenD, blockD]))
          (refine hK _ _ _ ?_; clear hK K)
          (refine wpD_ret ?_; (try simp only [thenD, blockD]); refine EndQ.ret rfl (.inr ⟨[], by decide, by simp, ?_⟩); simp [Out.mov, movT, movH, movD, D.mov, HO.mov, okM, renM, getW, D.ren, D.rens, D.okN, D.okNs, Cp.ren, Cp.okN, HO.ren, HO.okN, okA, renA, renO, hOf, handed, D.fgt, D.fgts, List.range_succ, List.idxOf_cons, tmOf, Out.fgt, D.fgt, D.fgts])
          first | done | simp [hEr]
        · rw [Cost_no hc] at hp
          show Spec _ _ _ _ _ (Cost left l once done c _)
          rw [Cost_no hc]
          unfold wObjs headD Cs stepsM goneD at hp
          unfold wObjs headD Cs stepsM goneD
          refine Spec.movd globPure (wpD_spec tyOK Tryz.func77 rfl (enters _ _ Tryz.func77 rfl (by decide)) rfl rfl ?_)
          (refine wpD_seqk fun K hK => ?_; refine wpD_region tyOK ?_; ((repeat (rw [wpS_cons]; simp)); (try simp only [wpS_nil, thenD, blockD])); refine hK _ _ _ ?_; clear hK K)
          refine wpD_seqk fun K1 hK1 => ?_
          (refine wpD_seqk fun K hK => ?_; refine wpD_region tyOK ?_; ((repeat (rw [wpS_cons]; simp [hk, h0, h0', h1, h1'])); (try simp only [wpS_nil, thenD, blockD])); refine hK _ _ _ ?_; clear hK K)
          refine wpD_part rfl (fun h => by simp at h) (fun _ => ?_)
          refine wpD_skip (hK1 _ _ _ ?_)
          (refine wpD_seqk fun K hK => ?_; refine wpD_region tyOK ?_; ((repeat (rw [wpS_cons]; simp [hw])); (try simp only [wpS_nil, thenD, blockD])))
          refine CallX.pure globPure (k1) ?_ (by simp [D.fgts, D.fgt]) (by simp [D.pures, D.pure, Cp.free, D.pures_map]) (by simp [Out.pure, D.pure, D.pures, Cp.free, D.pures_map])
          ((try simp only [wpAft_ret, wpAft_pan, putS, updS, setS]); (repeat (rw [wpS_cons]; simp)); (try simp only [wpS_nil, thenD, blockD]))
          refine CallX.objs globPure [0, 1] true (hp) ?_ (by rintro o hc ⟨_, rfl⟩; simp) (by decide) (by simp) (by simp [D.ren, D.rens, D.okN, D.okNs, Cp.ren, Cp.okN, HO.ren, HO.okN, okA, renA, renO, hOf, handed, D.fgt, D.fgts, List.range_succ, List.idxOf_cons]) (by simp [D.ren, D.rens, D.okN, D.okNs, Cp.ren, Cp.okN, HO.ren, HO.okN, okA, renA, renO, hOf, handed, D.fgt, D.fgts, List.range_succ, List.idxOf_cons]) (by simp [D.ren, D.rens, D.okN, D.okNs, Cp.ren, Cp.okN, HO.ren, HO.okN, okA, renA, renO, hOf, handed, D.fgt, D.fgts, List.range_succ, List.idxOf_cons]) (by simp [D.ren, D.rens, D.okN, D.okNs, Cp.ren, Cp.okN, HO.ren, HO.okN, okA, renA, renO, hOf, handed, D.fgt, D.fgts, List.range_succ, List.idxOf_cons])
          (rintro o hc ⟨rfl, rfl⟩; refine ⟨false, ?_⟩; simp [D.ren, D.rens, D.okN, D.okNs, Cp.ren, Cp.okN, HO.ren, HO.okN, okA, renA, renO, hOf, handed, D.fgt, D.fgts, List.range_succ, List.idxOf_cons, Out.ren, told, Out.fgt, upO, updS, setS])
          ((try simp only [thenD, blockD]); refine EndQ.pan (.inr ⟨[], by decide, by simp, ?_⟩); simp [Out.mov, movT, movH, movD, D.mov, HO.mov, okM, renM, getW, D.ren, D.rens, D.okN, D.okNs, Cp.ren, Cp.okN, HO.ren, HO.okN, okA, renA, renO, hOf, handed, D.fgt, D.fgts, List.range_succ, List.idxOf_cons, tmOf, Out.fgt, D.fgt, D.fgts])
      · rw [if_neg (fun h => h1 h.2.2)]
        have h0' : ¬ x.n < 0 := by omega
        have h1' : t.a ≤ x.n := by omega
        rw [hEt, hEx]
        unfold OwnP wObjs headD Cs stepsM
        refine Spec.movd globPure (wpD_spec tyOK Tryz.func77 rfl (enters _ _ Tryz.func77 rfl (by decide)) rfl rfl ?_)
        (refine wpD_seqk fun K hK => ?_; refine wpD_region tyOK ?_; ((repeat (rw [wpS_cons]; simp)); (try simp only [wpS_nil, thenD, blockD])); refine hK _ _ _ ?_; clear hK K)
        refine wpD_seqk fun K1 hK1 => ?_
        (refine wpD_seqk fun K hK => ?_; refine wpD_region tyOK ?_; ((repeat (rw [wpS_cons]; simp [hk, h0, h0', h1, h1'])); (try simp only [wpS_nil, thenD, blockD])); refine hK _ _ _ ?_; clear hK K)
        refine wpD_part rfl (fun _ => ?_) (fun h => by simp at h)
        (refine wpD_seqk fun K hK => ?_; refine wpD_region tyOK ?_; ((repeat (rw [wpS_cons]; simp)); (try simp only [wpS_nil, thenD, blockD])); refine hK _ _ _ ?_; clear hK K)
        (refine wpD_ret ?_; (try simp only [thenD, blockD]); refine EndQ.ret rfl (.inr ⟨[], by decide, by simp, ?_⟩); simp [Out.mov, movT, movH, movD, D.mov, HO.mov, okM, renM, getW, D.ren, D.rens, D.okN, D.okNs, Cp.ren, Cp.okN, HO.ren, HO.okN, okA, renA, renO, hOf, handed, D.fgt, D.fgts, List.range_succ, List.idxOf_cons, tmOf, Out.fgt, D.fgt, D.fgts])
        first | done | simp [hEt]
    · rw [if_neg (fun h => h0 h.2.1)]
      have h0' : x.n < 0 := by omega
      rw [hEt, hEx]
      unfold OwnP wObjs headD Cs stepsM
      refine Spec.movd globPure (wpD_spec tyOK Tryz.func77 rfl (enters _ _ Tryz.func77 rfl (by decide)) rfl rfl ?_)
      (refine wpD_seqk fun K hK => ?_; refine wpD_region tyOK ?_; ((repeat (rw [wpS_cons]; simp)); (try simp only [wpS_nil, thenD, blockD])); refine hK _ _ _ ?_; clear hK K)
      refine wpD_seqk fun K1 hK1 => ?_
      (refine wpD_seqk fun K hK => ?_; refine wpD_region tyOK ?_; ((repeat (rw [wpS_cons]; simp [hk, h0, h0'])); (try simp only [wpS_nil, thenD, blockD])); refine hK _ _ _ ?_; clear hK K)
      refine wpD_part rfl (fun _ => ?_) (fun h => by simp at h)
      (refine wpD_seqk fun K hK => ?_; refine wpD_region tyOK ?_; ((repeat (rw [wpS_cons]; simp)); (try simp only [wpS_nil, thenD, blockD])); refine hK _ _ _ ?_; clear hK K)
      (refine wpD_ret ?_; (try simp only [thenD, blockD]); refine EndQ.ret rfl (.inr ⟨[], by decide, by simp, ?_⟩); simp [Out.mov, movT, movH, movD, D.mov, HO.mov, okM, renM, getW, D.ren, D.rens, D.okN, D.okNs, Cp.ren, Cp.okN, HO.ren, HO.okN, okA, renA, renO, hOf, handed, D.fgt, D.fgts, List.range_succ, List.idxOf_cons, tmOf, Out.fgt, D.fgt, D.fgts])
      first | done | simp [hEt]
  · rw [if_neg (fun h => hk h.1)]
    rw [hEt, hEx]
    unfold OwnP wObjs headD Cs stepsM
    refine Spec.movd globPure (wpD_spec tyOK Tryz.func77 rfl (enters _ _ Tryz.func77 rfl (by decide)) rfl rfl ?_)
    (refine wpD_seqk fun K hK => ?_; refine wpD_region tyOK ?_; ((repeat (rw [wpS_cons]; simp)); (try simp only [wpS_nil, thenD, blockD])); refine hK _ _ _ ?_; clear hK K)
    refine wpD_seqk fun K1 hK1 => ?_
    (refine wpD_seqk fun K hK => ?_; refine wpD_region tyOK ?_; ((repeat (rw [wpS_cons]; simp [hk])); (try simp only [wpS_nil, thenD, blockD])); refine hK _ _ _ ?_; clear hK K)
    refine wpD_part rfl (fun _ => ?_) (fun h => by simp at h)
    (refine wpD_seqk fun K hK => ?_; refine wpD_region tyOK ?_; ((repeat (rw [wpS_cons]; simp)); (try simp only [wpS_nil, thenD, blockD])); refine hK _ _ _ ?_; clear hK K)
    (refine wpD_ret ?_; (try simp only [thenD, blockD]); refine EndQ.ret rfl (.inr ⟨[], by decide, by simp, ?_⟩); simp [Out.mov, movT, movH, movD, D.mov, HO.mov, okM, renM, getW, D.ren, D.rens, D.okN, D.okNs, Cp.ren, Cp.okN, HO.ren, HO.okN, okA, renA, renO, hOf, handed, D.fgt, D.fgts, List.range_succ, List.idxOf_cons, tmOf, Out.fgt, D.fgt, D.fgts])
    first | done | simp [hEt]
theorem hconst_spec (left : Int) (l : List C) (once done : Bool) (hl : left ≤ 9223372036854775807) (hcs : okCs l) (t x : T) (ht : okS t) (h3 : t.k = 3) : Spec Tryz.prog glob 74 [.box 0 0, encT t, encT x] (wObjs left l once done) (OwnP left l once done t (ownS l t x)) := by
  have hEt := encT_eq t
  have hEx := encT_eq x
  unfold ownS
  rw [if_neg (by omega), if_neg (by omega), if_neg (by omega), if_pos h3]
  have hb := body_spec l hcs t.n t.ls ht.1.ll (fun b hb => (ht.1.ls b hb).1)
  cases hbo : bodyC l t.n t.ls with
  | none =>
    rw [hbo] at hb
    simp only [Option.getD_none, Option.isSome_none] at hb
    rw [encZ] at hb
    rw [hEt, hEx]
    simp only [Option.map_none]
    unfold Cs at hb
    unfold OwnP wObjs headD Cs stepsM
    refine Spec.movd globPure (wpD_spec tyOK Tryz.func74 rfl (enters _ _ Tryz.func74 rfl (by decide)) rfl rfl ?_)
    (refine wpD_seqk fun K hK => ?_; refine wpD_region tyOK ?_; ((repeat (rw [wpS_cons]; simp)); (try simp only [wpS_nil, thenD, blockD])); refine hK _ _ _ ?_; clear hK K)
    (refine wpD_seqk fun K hK => ?_; refine wpD_drawk tyOK (by kernel_rfl) (by kernel_rfl) fun KT hKT => ?_; ((repeat (rw [wpT_cons]; simp)); (try simp only [wpT_nil])))
    refine CallY.pure globPure (hb) ?_ (by simp [D.fgts, D.fgt]) (by simp [D.pures, D.pure, Cp.free, D.pures_map]) (by simp [Out.pure, D.pure, D.pures, Cp.free, D.pures_map])
    ((try simp only [wpAftT_ret, wpAftT_pan, putS, updS, setS]); (repeat (rw [wpT_cons]; simp)); (try simp only [wpT_nil]))
    (refine hKT _ _ _ _ (by kernel_rfl) ?_; clear hKT KT; (try simp only [thenD, blockD]))
    (refine hK _ _ _ ?_; clear hK K)
    refine wpD_seqk fun K1 hK1 => ?_
    (refine wpD_seqk fun K hK => ?_; refine wpD_region tyOK ?_; ((repeat (rw [wpS_cons]; simp)); (try simp only [wpS_nil, thenD, blockD])); refine hK _ _ _ ?_; clear hK K)
    refine wpD_part rfl (fun _ => ?_) (fun h => by simp at h)
    (refine wpD_seqk fun K hK => ?_; refine wpD_region tyOK ?_; ((repeat (rw [wpS_cons]; simp)); (try simp only [wpS_nil, thenD, blockD])); refine hK _ _ _ ?_; clear hK K)
    (refine wpD_ret ?_; (try simp only [thenD, blockD]); refine EndQ.ret rfl (.inr ⟨[], by decide, by simp, ?_⟩); simp [Out.mov, movT, movH, movD, D.mov, HO.mov, okM, renM, getW, D.ren, D.rens, D.okN, D.okNs, Cp.ren, Cp.okN, HO.ren, HO.okN, okA, renA, renO, hOf, handed, D.fgt, D.fgts, List.range_succ, List.idxOf_cons, tmOf, Out.fgt, D.fgt, D.fgts])
    first | done | simp [hEt]
  | some r =>
    rw [hbo] at hb
    simp only [Option.getD_some, Option.isSome_some] at hb
    have hr : okS r := ⟨body_ok hcs.ok hbo, by have := body_nsz hcs.bo hbo; have := pot_le r; unfold PM; omega⟩
    have hp := htake_spec left l once done hl r hr
    simp only [Option.map_some]
    generalize r.nsz = c at hp ⊢
    have hEr := encT_eq r
    rw [hEr] at hp hb
    rw [hEt, hEx]
    unfold Cs at hb
    by_cases hc : (c : Int) ≤ left
    · rw [Cost_ok hc] at hp
      show Spec _ _ _ _ _ (Cost left l once done c _)
      rw [Cost_ok hc]
      unfold wObjs headD Cs stepsM at hp ⊢
      refine Spec.movd globPure (wpD_spec tyOK Tryz.func74 rfl (enters _ _ Tryz.func74 rfl (by decide)) rfl rfl ?_)
      (refine wpD_seqk fun K hK => ?_; refine wpD_region tyOK ?_; ((repeat (rw [wpS_cons]; simp)); (try simp only [wpS_nil, thenD, blockD])); refine hK _ _ _ ?_; clear hK K)
      (refine wpD_seqk fun K hK => ?_; refine wpD_drawk tyOK (by kernel_rfl) (by kernel_rfl) fun KT hKT => ?_; ((repeat (rw [wpT_cons]; simp)); (try simp only [wpT_nil])))
      refine CallY.pure globPure (hb) ?_ (by simp [D.fgts, D.fgt]) (by simp [D.pures, D.pure, Cp.free, D.pures_map]) (by simp [Out.pure, D.pure, D.pures, Cp.free, D.pures_map])
      ((try simp only [wpAftT_ret, wpAftT_pan, putS, updS, setS]); (repeat (rw [wpT_cons]; simp)); (try simp only [wpT_nil]))
      (refine hKT _ _ _ _ (by kernel_rfl) ?_; clear hKT KT; (try simp only [thenD, blockD]))
      (refine hK _ _ _ ?_; clear hK K)
      refine wpD_seqk fun K1 hK1 => ?_
      (refine wpD_seqk fun K hK => ?_; refine wpD_region tyOK ?_; ((repeat (rw [wpS_cons]; simp)); (try simp only [wpS_nil, thenD, blockD])); refine hK _ _ _ ?_; clear hK K)
      refine wpD_part rfl (fun h => by simp at h) (fun _ => ?_)
      refine wpD_skip (hK1 _ _ _ ?_)
      (refine wpD_seqk fun K hK => ?_; refine wpD_region tyOK ?_; ((repeat (rw [wpS_cons]; simp)); (try simp only [wpS_nil, thenD, blockD])))
      refine CallX.objs globPure [0, 1] true (hp) ?_ (by rintro o hc ⟨_, rfl⟩; simp) (by decide) (by simp) (by simp [D.ren, D.rens, D.okN, D.okNs, Cp.ren, Cp.okN, HO.ren, HO.okN, okA, renA, renO, hOf, handed, D.fgt, D.fgts, List.range_succ, List.idxOf_cons]) (by simp [D.ren, D.rens, D.okN, D.okNs, Cp.ren, Cp.okN, HO.ren, HO.okN, okA, renA, renO, hOf, handed, D.fgt, D.fgts, List.range_succ, List.idxOf_cons]) (by simp [D.ren, D.rens, D.okN, D.okNs, Cp.ren, Cp.okN, HO.ren, HO.okN, okA, renA, renO, hOf, handed, D.fgt, D.fgts, List.range_succ, List.idxOf_cons]) (by simp [D.ren, D.rens, D.okN, D.okNs, Cp.ren, Cp.okN, HO.ren, HO.okN, okA, renA, renO, hOf, handed, D.fgt, D.fgts, List.range_succ, List.idxOf_cons])
      (rintro o hc ⟨ho, rfl⟩; refine ⟨true, ?_⟩; rw [show told true o = _ from ho]; clear ho; simp [D.ren, D.rens, D.okN, D.okNs, Cp.ren, Cp.okN, HO.ren, HO.okN, okA, renA, renO, hOf, handed, D.fgt, D.fgts, List.range_succ, List.idxOf_cons, Out.ren, told, Out.fgt, upO, updS, setS])
      ((try simp only [wpAft_ret, wpAft_pan, putS, updS, setS]); (repeat (rw [wpS_cons]; simp)); (try simp only [wpS_nil, thenD, blockD]))
      (refine hK _ _ _ ?_; clear hK K)
      (refine wpD_ret ?_; (try simp only [thenD, blockD]); refine EndQ.ret rfl (.inr ⟨[], by decide, by simp, ?_⟩); simp [Out.mov, movT, movH, movD, D.mov, HO.mov, okM, renM, getW, D.ren, D.rens, D.okN, D.okNs, Cp.ren, Cp.okN, HO.ren, HO.okN, okA, renA, renO, hOf, handed, D.fgt, D.fgts, List.range_succ, List.idxOf_cons, tmOf, Out.fgt, D.fgt, D.fgts])
      first | done | simp [hEr]
    · rw [Cost_no hc] at hp
      show Spec _ _ _ _ _ (Cost left l once done c _)
      rw [Cost_no hc]
      unfold wObjs headD Cs stepsM goneD at hp
      unfold wObjs headD Cs stepsM goneD
      refine Spec.movd globPure (wpD_spec tyOK Tryz.func74 rfl (enters _ _ Tryz.func74 rfl (by decide)) rfl rfl ?_)
      (refine wpD_seqk fun K hK => ?_; refine wpD_region tyOK ?_; ((repeat (rw [wpS_cons]; simp)); (try simp only [wpS_nil, thenD, blockD])); refine hK _ _ _ ?_; clear hK K)
      (refine wpD_seqk fun K hK => ?_; refine wpD_drawk tyOK (by kernel_rfl) (by kernel_rfl) fun KT hKT => ?_; ((repeat (rw [wpT_cons]; simp)); (try simp only [wpT_nil])))
      refine CallY.pure globPure (hb) ?_ (by simp [D.fgts, D.fgt]) (by simp [D.pures, D.pure, Cp.free, D.pures_map]) (by simp [Out.pure, D.pure, D.pures, Cp.free, D.pures_map])
      ((try simp only [wpAftT_ret, wpAftT_pan, putS, updS, setS]); (repeat (rw [wpT_cons]; simp)); (try simp only [wpT_nil]))
      (refine hKT _ _ _ _ (by kernel_rfl) ?_; clear hKT KT; (try simp only [thenD, blockD]))
      (refine hK _ _ _ ?_; clear hK K)
      refine wpD_seqk fun K1 hK1 => ?_
      (refine wpD_seqk fun K hK => ?_; refine wpD_region tyOK ?_; ((repeat (rw [wpS_cons]; simp)); (try simp only [wpS_nil, thenD, blockD])); refine hK _ _ _ ?_; clear hK K)
      refine wpD_part rfl (fun h => by simp at h) (fun _ => ?_)
      refine wpD_skip (hK1 _ _ _ ?_)
      (refine wpD_seqk fun K hK => ?_; refine wpD_region tyOK ?_; ((repeat (rw [wpS_cons]; simp)); (try simp only [wpS_nil, thenD, blockD])))
      refine CallX.objs globPure [0, 1] true (hp) ?_ (by rintro o hc ⟨_, rfl⟩; simp) (by decide) (by simp) (by simp [D.ren, D.rens, D.okN, D.okNs, Cp.ren, Cp.okN, HO.ren, HO.okN, okA, renA, renO, hOf, handed, D.fgt, D.fgts, List.range_succ, List.idxOf_cons]) (by simp [D.ren, D.rens, D.okN, D.okNs, Cp.ren, Cp.okN, HO.ren, HO.okN, okA, renA, renO, hOf, handed, D.fgt, D.fgts, List.range_succ, List.idxOf_cons]) (by simp [D.ren, D.rens, D.okN, D.okNs, Cp.ren, Cp.okN, HO.ren, HO.okN, okA, renA, renO, hOf, handed, D.fgt, D.fgts, List.range_succ, List.idxOf_cons]) (by simp [D.ren, D.rens, D.okN, D.okNs, Cp.ren, Cp.okN, HO.ren, HO.okN, okA, renA, renO, hOf, handed, D.fgt, D.fgts, List.range_succ, List.idxOf_cons])
      (rintro o hc ⟨rfl, rfl⟩; refine ⟨false, ?_⟩; simp [D.ren, D.rens, D.okN, D.okNs, Cp.ren, Cp.okN, HO.ren, HO.okN, okA, renA, renO, hOf, handed, D.fgt, D.fgts, List.range_succ, List.idxOf_cons, Out.ren, told, Out.fgt, upO, updS, setS])
      ((try simp only [thenD, blockD]); refine EndQ.pan (.inr ⟨[], by decide, by simp, ?_⟩); simp [Out.mov, movT, movH, movD, D.mov, HO.mov, okM, renM, getW, D.ren, D.rens, D.okN, D.okNs, Cp.ren, Cp.okN, HO.ren, HO.okN, okA, renA, renO, hOf, handed, D.fgt, D.fgts, List.range_succ, List.idxOf_cons, tmOf, Out.fgt, D.fgt, D.fgts])
end Go.Proofs.YtebmlojhdnldgaaGreatDoor

namespace Go.Proofs.YtebmlojhdnldgaaGreatDoor
set_option linter.unusedSimpArgs false
set_option linter.unusedVariables false
set_option maxHeartbeats 10000000
set_option maxRecDepth 20000
open Go.RowKit
attribute [local simp] wpAft_ret wpAft_pan wantD evOp opD tmOf putS updS setS hOf isFree isTok fillD TK.isAgg TK.known partD thenD blockD putAll D.ofV inB nilTest isNilS binX binD binE isCst bndD capB IntKind.min IntKind.max IntKind.signed IntKind.bits dstOf late
theorem tree1_spec (t : T) (ht : okS t) (i : Int) (m : Nat) (c : Int) (hi : i = m) : Spec Tryz.prog glob 120 ([.int .i64 i, .int .i64 c] ++ [.ref (encT t)]) [] (fun o _ => o.fgt = .ret (encT ((t.kid m).lift 1 c 0))) := by
  have k1 := kidn_spec t i m hi
  have k2 := lift_spec (t.kid m) 1 c (ht.kid m).deep (ht.kid m).1
  generalize (t.kid m).lift 1 c 0 = r at k2 ⊢
  generalize t.kid m = a at k1 k2
  have hEr := encT_eq r
  rw [encT_eq t, encT_eq a] at k1
  rw [encT_eq a, hEr] at k2
  rw [encT_eq t]
  refine Spec.movd globPure (wpD_spec tyOK Tryz.func120 rfl (enters _ _ Tryz.func120 rfl (by decide)) rfl rfl ?_)
  simp only [List.cons_append, List.nil_append]
  (refine wpD_seqk fun K hK => ?_; refine wpD_region tyOK ?_; ((repeat (rw [wpS_cons]; simp)); (try simp only [wpS_nil, thenD, blockD])); refine hK _ _ _ ?_; clear hK K)
  (refine wpD_seqk fun K hK => ?_; refine wpD_region tyOK ?_; ((repeat (rw [wpS_cons]; simp)); (try simp only [wpS_nil, thenD, blockD])))
  refine CallX.pure globPure (k1) ?_ (by simp [D.fgts, D.fgt]) (by simp [D.pures, D.pure, Cp.free, D.pures_map]) (by simp [Out.pure, D.pure, D.pures, Cp.free, D.pures_map])
  ((try simp only [wpAft_ret, wpAft_pan, putS, updS, setS]); (repeat (rw [wpS_cons]; simp)); (try simp only [wpS_nil, thenD, blockD]))
  refine CallX.pure globPure (k2) ?_ (by simp [D.fgts, D.fgt]) (by simp [D.pures, D.pure, Cp.free, D.pures_map]) (by simp [Out.pure, D.pure, D.pures, Cp.free, D.pures_map])
  ((try simp only [wpAft_ret, wpAft_pan, putS, updS, setS]); (repeat (rw [wpS_cons]; simp)); (try simp only [wpS_nil, thenD, blockD]))
  (refine hK _ _ _ ?_; clear hK K)
  (refine wpD_ret ?_; (try simp only [thenD, blockD]); refine EndQ.ret rfl (.inl ?_); simp [tmOf, Out.fgt, D.fgt, D.fgts])
  exact hEr.symm
theorem enc_map0 : List.map encT ([] : List T) = [] := rfl
theorem htree_spec (left : Int) (l : List C) (once done : Bool) (hl : left ≤ 9223372036854775807) (t x : T) (ht : okS t) (hx : okS x) (h18 : t.k = 18) : Spec Tryz.prog glob 75 [.box 0 0, encT t, encT x] (wObjs left l once done) (OwnP left l once done t (ownS l t x)) := by
  have hEt := encT_eq t
  have hEx := encT_eq x
  unfold ownS
  rw [if_neg (by omega), if_neg (by omega), if_neg (by omega), if_neg (by omega), if_pos h18]
  by_cases hk : x.k = 17
  · rw [if_pos hk]
    have e8 : T.nszs [x.kid 0, x.kid 1, x.kid 1, t.kid 3, t.kid 3, t.kid 0, t.kid 1, t.kid 2] = (x.kid 0).nsz + (x.kid 1).nsz + (x.kid 1).nsz + (t.kid 3).nsz + (t.kid 3).nsz + (t.kid 0).nsz + (t.kid 1).nsz + (t.kid 2).nsz := by
      simp only [T.nszs]; omega
    have hz := sizes_spec [x.kid 0, x.kid 1, x.kid 1, t.kid 3, t.kid 3, t.kid 0, t.kid 1, t.kid 2] (by unfold LMax; simp) (fun y hy => by
      simp only [List.mem_cons, List.not_mem_nil, or_false] at hy
      rcases hy with rfl | rfl | rfl | rfl | rfl | rfl | rfl | rfl
      · exact (hx.kid _).1
      · exact (hx.kid _).1
      · exact (hx.kid _).1
      · exact (ht.kid _).1
      · exact (ht.kid _).1
      · exact (ht.kid _).1
      · exact (ht.kid _).1
      · exact (ht.kid _).1)
    rw [szs_true _ 0 0 rfl, Nat.zero_add, e8] at hz
    have z1 := (hx.kid 0).nsz
    have z2 := (hx.kid 1).nsz
    have z3 := (ht.kid 3).nsz
    have z4 := (ht.kid 0).nsz
    have z5 := (ht.kid 1).nsz
    have z6 := (ht.kid 2).nsz
    have hsd := (ht.kid 1).sd (hx.kid 0)
    have hs := size2_spec (t.kid 1) (x.kid 0) (ht.kid 1).1 (hx.kid 0).1 (by omega)
    have hcn : treeN t x = 7 + ((x.kid 0).nsz + (x.kid 1).nsz + (x.kid 1).nsz + (t.kid 3).nsz + (t.kid 3).nsz + (t.kid 0).nsz + (t.kid 1).nsz + (t.kid 2).nsz) + (t.kid 1).sd (x.kid 0).nsz 0 := rfl
    generalize hm : (x.kid 0).nsz + (x.kid 1).nsz + (x.kid 1).nsz + (t.kid 3).nsz + (t.kid 3).nsz + (t.kid 0).nsz + (t.kid 1).nsz + (t.kid 2).nsz = m at hz hcn
    generalize (t.kid 1).sd (x.kid 0).nsz 0 = s at hs hcn hsd
    rw [i64w (n := ((m : Nat) : Int)) (by omega) (by omega)] at hz
    have w1 : IntKind.i64.wrap (7 + (m : Int)) = 7 + (m : Int) := i64w (by omega) (by omega)
    have w2 : IntKind.i64.wrap (7 + (m : Int) + (s : Int)) = ((treeN t x : Nat) : Int) := by rw [hcn, i64w (by omega) (by omega)]; push_cast; rfl
    have hR : treeT t x = ofT 6 [ofT 6 [ofT 6 [t.kid 3, x.kid 0], x.kid 1], ofT 5 [(t.kid 1).put [x.kid 0] 0, ofT 18 [(t.kid 0).lift 1 0 0, (t.kid 1).lift 1 1 0, (t.kid 2).lift 1 0 0, (t.kid 3).lift 1 0 0, ofT 6 [(x.kid 1).lift 1 0 0, ofT 1 []]]]] := rfl
    have ka0 := kidn_spec x 0 0 rfl
    have ka1 := kidn_spec x 1 1 rfl
    have k0 := kidn_spec t 0 0 rfl
    have k1 := kidn_spec t 1 1 rfl
    have k2 := kidn_spec t 2 2 rfl
    have k3 := kidn_spec t 3 3 rfl
    have c0 := tree1_spec t ht 0 0 0 rfl
    have c1 := tree1_spec t ht 1 1 1 rfl
    have c2 := tree1_spec t ht 2 2 0 rfl
    have c3 := tree1_spec t ht 3 3 0 rfl
    have cf := lift_spec (x.kid 1) 1 0 (hx.kid 1).deep (hx.kid 1).1
    have op := putT_spec (t.kid 1) [x.kid 0] (by unfold LMax; simp) (fun b hb => by rw [one_mem hb]; exact ⟨(hx.kid 0).1, (hx.kid 0).deep⟩) (ht.kid 1).deep (ht.kid 1).1
    obtain ⟨a, ha⟩ : ∃ y, y = x.kid 0 := ⟨_, rfl⟩
    obtain ⟨g, hg⟩ : ∃ y, y = x.kid 1 := ⟨_, rfl⟩
    obtain ⟨t0, ht0⟩ : ∃ y, y = t.kid 0 := ⟨_, rfl⟩
    obtain ⟨t1, ht1⟩ : ∃ y, y = t.kid 1 := ⟨_, rfl⟩
    obtain ⟨t2, ht2⟩ : ∃ y, y = t.kid 2 := ⟨_, rfl⟩
    obtain ⟨t3, ht3⟩ : ∃ y, y = t.kid 3 := ⟨_, rfl⟩
    obtain ⟨l0, hl0⟩ : ∃ y, y = (t.kid 0).lift 1 0 0 := ⟨_, rfl⟩
    obtain ⟨l1, hl1⟩ : ∃ y, y = (t.kid 1).lift 1 1 0 := ⟨_, rfl⟩
    obtain ⟨l2, hl2⟩ : ∃ y, y = (t.kid 2).lift 1 0 0 := ⟨_, rfl⟩
    obtain ⟨l3, hl3⟩ : ∃ y, y = (t.kid 3).lift 1 0 0 := ⟨_, rfl⟩
    obtain ⟨lf, hlf⟩ : ∃ y, y = (x.kid 1).lift 1 0 0 := ⟨_, rfl⟩
    obtain ⟨v, hv⟩ : ∃ y, y = ofT 1 [] := ⟨_, rfl⟩
    obtain ⟨p1, hp1⟩ : ∃ y, y = ofT 6 [lf, v] := ⟨_, rfl⟩
    obtain ⟨rest, hrest⟩ : ∃ y, y = ofT 18 [l0, l1, l2, l3, p1] := ⟨_, rfl⟩
    obtain ⟨pu, hpu⟩ : ∃ y, y = (t.kid 1).put [x.kid 0] 0 := ⟨_, rfl⟩
    obtain ⟨lam, hlam⟩ : ∃ y, y = ofT 5 [pu, rest] := ⟨_, rfl⟩
    obtain ⟨b1, hb1⟩ : ∃ y, y = ofT 6 [t3, a] := ⟨_, rfl⟩
    obtain ⟨b2, hb2⟩ : ∃ y, y = ofT 6 [b1, g] := ⟨_, rfl⟩
    obtain ⟨r, hr⟩ : ∃ y, y = ofT 6 [b2, lam] := ⟨_, rfl⟩
    have ov := hof_spec 1 []
    have o1 := hof_spec 6 [lf, v]
    have o2 := hof_spec 18 [l0, l1, l2, l3, p1]
    have o3 := hof_spec 5 [pu, rest]
    have o4 := hof_spec 6 [t3, a]
    have o5 := hof_spec 6 [b1, g]
    have o6 := hof_spec 6 [b2, lam]
    rw [← ha] at ka0
    rw [← hg] at ka1
    rw [← ht0] at k0
    rw [← ht1] at k1
    rw [← ht2] at k2
    rw [← ht3] at k3
    rw [← hl0] at c0
    rw [← hl1] at c1
    rw [← hl2] at c2
    rw [← hl3] at c3
    rw [← hlf, ← hg] at cf
    rw [← hv] at ov
    rw [← hp1] at o1
    rw [← hrest] at o2
    rw [← hpu, ← ht1, ← ha] at op
    rw [← hlam] at o3
    rw [← hb1] at o4
    rw [← hb2] at o5
    rw [← hr] at o6
    rw [← ha, ← hg, ← ht0, ← ht1, ← ht2, ← ht3] at hz
    rw [← ht1, ← ha] at hs
    have hRr : treeT t x = r := by rw [hR, ← hv, ← hlf, ← hp1, ← hl0, ← hl1, ← hl2, ← hl3, ← hrest, ← hpu, ← hlam, ← ht3, ← ha, ← hb1, ← hg, ← hb2, ← hr]
    rw [hRr]
    generalize treeN t x = c at w2 ⊢
    unfold Ts at op
    have Ea := encT_eq a
    have Eg := encT_eq g
    have Et0 := encT_eq t0
    have Et1 := encT_eq t1
    have Et2 := encT_eq t2
    have Et3 := encT_eq t3
    have El0 := encT_eq l0
    have El1 := encT_eq l1
    have El2 := encT_eq l2
    have El3 := encT_eq l3
    have Elf := encT_eq lf
    have Ev := encT_eq v
    have Ep1 := encT_eq p1
    have Erest := encT_eq rest
    have Epu := encT_eq pu
    have Elam := encT_eq lam
    have Eb1 := encT_eq b1
    have Eb2 := encT_eq b2
    have Er := encT_eq r
    simp only [List.map_cons, enc_map0] at ov o1 o2 op o3 o4 o5 o6 hz
    simp only [Ea, Eg, Et0, Et1, Et2, Et3, El0, El1, El2, El3, Elf, Ev, Ep1, Erest, Epu, Elam, Eb1, Eb2, Er] at ka0 ka1 k0 k1 k2 k3 c0 c1 c2 c3 cf ov o1 o2 op o3 o4 o5 o6 hz hs
    rw [hEt] at k0 k1 k2 k3 c0 c1 c2 c3
    rw [hEx, hk] at ka0 ka1
    rw [hEt, hEx]
    simp only [List.cons_append, List.nil_append] at c0 c1 c2 c3
    by_cases hc : (c : Int) ≤ left
    · have hp := burn_ok left l once done c (by omega) hc hl
      show Spec _ _ _ _ _ (Cost left l once done c _)
      rw [Cost_ok hc]
      unfold wObjs headD Cs stepsM at hp ⊢
      refine Spec.movd globPure (wpD_spec tyOK Tryz.func75 rfl (enters _ _ Tryz.func75 rfl (by decide)) rfl rfl ?_)
      (refine wpD_seqk fun K hK => ?_; refine wpD_region tyOK ?_; ((repeat (rw [wpS_cons]; simp)); (try simp only [wpS_nil, thenD, blockD])); refine hK _ _ _ ?_; clear hK K)
      (refine wpD_stay (T := tyOf) 2 (ty := 27) (ds := [.int .i64 t.k, .int .i64 t.n, .int .i64 t.a, .slice (t.ls.map encL) .any, .slice (t.ks.map encT) .any]) rfl rfl (by first | exact ⟨rfl, .inr ⟨_, rfl, rfl⟩⟩ | exact ⟨rfl, .inl rfl⟩) ?_; simp [D.frzs, D.frz, HO.frz, dfFrz, refOf, TK.isAgg, FK.isB, FK.isM, FK.isO, D.isLen])
      refine wpD_seqk fun K1 hK1 => ?_
      (refine wpD_seqk fun K hK => ?_; refine wpD_region tyOK ?_; ((repeat (rw [wpS_cons]; simp [hk])); (try simp only [wpS_nil, thenD, blockD])); refine hK _ _ _ ?_; clear hK K)
      refine wpD_part rfl (fun h => by simp at h) (fun _ => ?_)
      refine wpD_skip (hK1 _ _ _ ?_)
      (refine wpD_seqk fun K hK => ?_; refine wpD_drawk tyOK (by kernel_rfl) (by kernel_rfl) fun KT hKT => ?_; ((repeat (rw [wpT_cons]; simp)); (try simp only [wpT_nil])))
      refine CallY.pure globPure (ka0) ?_ (by simp [D.fgts, D.fgt]) (by simp [D.pures, D.pure, Cp.free, D.pures_map]) (by simp [Out.pure, D.pure, D.pures, Cp.free, D.pures_map])
      ((try simp only [wpAftT_ret, wpAftT_pan, putS, updS, setS]); (repeat (rw [wpT_cons]; simp)); (try simp only [wpT_nil]))
      refine CallY.pure globPure (ka1) ?_ (by simp [D.fgts, D.fgt]) (by simp [D.pures, D.pure, Cp.free, D.pures_map]) (by simp [Out.pure, D.pure, D.pures, Cp.free, D.pures_map])
      ((try simp only [wpAftT_ret, wpAftT_pan, putS, updS, setS]); (repeat (rw [wpT_cons]; simp)); (try simp only [wpT_nil]))
      refine CallY.pure globPure (k3) ?_ (by simp [D.fgts, D.fgt]) (by simp [D.pures, D.pure, Cp.free, D.pures_map]) (by simp [Out.pure, D.pure, D.pures, Cp.free, D.pures_map])
      ((try simp only [wpAftT_ret, wpAftT_pan, putS, updS, setS]); (repeat (rw [wpT_cons]; simp)); (try simp only [wpT_nil]))
      (refine hKT _ _ _ _ (by kernel_rfl) ?_; clear hKT KT; (try simp only [thenD, blockD]))
      (refine hK _ _ _ ?_; clear hK K)
      (refine wpD_seqk fun K hK => ?_; refine wpD_drawk tyOK (by kernel_rfl) (by kernel_rfl) fun KT hKT => ?_; ((repeat (rw [wpT_cons]; simp)); (try simp only [wpT_nil])))
      refine CallY.pure globPure (k0) ?_ (by simp [D.fgts, D.fgt]) (by simp [D.pures, D.pure, Cp.free, D.pures_map]) (by simp [Out.pure, D.pure, D.pures, Cp.free, D.pures_map])
      ((try simp only [wpAftT_ret, wpAftT_pan, putS, updS, setS]); (repeat (rw [wpT_cons]; simp [w1, w2])); (try simp only [wpT_nil]))
      refine CallY.pure globPure (k1) ?_ (by simp [D.fgts, D.fgt]) (by simp [D.pures, D.pure, Cp.free, D.pures_map]) (by simp [Out.pure, D.pure, D.pures, Cp.free, D.pures_map])
      ((try simp only [wpAftT_ret, wpAftT_pan, putS, updS, setS]); (repeat (rw [wpT_cons]; simp [w1, w2])); (try simp only [wpT_nil]))
      refine CallY.pure globPure (k2) ?_ (by simp [D.fgts, D.fgt]) (by simp [D.pures, D.pure, Cp.free, D.pures_map]) (by simp [Out.pure, D.pure, D.pures, Cp.free, D.pures_map])
      ((try simp only [wpAftT_ret, wpAftT_pan, putS, updS, setS]); (repeat (rw [wpT_cons]; simp [w1, w2])); (try simp only [wpT_nil]))
      refine CallY.pure globPure (hz) ?_ (by simp [D.fgts, D.fgt]) (by simp [D.pures, D.pure, Cp.free, D.pures_map]) (by simp [Out.pure, D.pure, D.pures, Cp.free, D.pures_map])
      ((try simp only [wpAftT_ret, wpAftT_pan, putS, updS, setS]); (repeat (rw [wpT_cons]; simp [w1, w2])); (try simp only [wpT_nil]))
      refine CallY.pure globPure (k1) ?_ (by simp [D.fgts, D.fgt]) (by simp [D.pures, D.pure, Cp.free, D.pures_map]) (by simp [Out.pure, D.pure, D.pures, Cp.free, D.pures_map])
      ((try simp only [wpAftT_ret, wpAftT_pan, putS, updS, setS]); (repeat (rw [wpT_cons]; simp [w1, w2])); (try simp only [wpT_nil]))
      refine CallY.pure globPure (hs) ?_ (by simp [D.fgts, D.fgt]) (by simp [D.pures, D.pure, Cp.free, D.pures_map]) (by simp [Out.pure, D.pure, D.pures, Cp.free, D.pures_map])
      ((try simp only [wpAftT_ret, wpAftT_pan, putS, updS, setS]); (repeat (rw [wpT_cons]; simp [w1, w2])); (try simp only [wpT_nil]))
      refine CallY.objs globPure [0, 1] true false (hp) (fun o h e => e) ?_ (by simp) (by decide) (by simp) (by simp [D.ren, D.rens, D.okN, D.okNs, Cp.ren, Cp.okN, HO.ren, HO.okN, okA, renA, renO, hOf, handed, D.fgt, D.fgts, List.range_succ, List.idxOf_cons]) (by simp [D.ren, D.rens, D.okN, D.okNs, Cp.ren, Cp.okN, HO.ren, HO.okN, okA, renA, renO, hOf, handed, D.fgt, D.fgts, List.range_succ, List.idxOf_cons]) (by simp [D.ren, D.rens, D.okN, D.okNs, Cp.ren, Cp.okN, HO.ren, HO.okN, okA, renA, renO, hOf, handed, D.fgt, D.fgts, List.range_succ, List.idxOf_cons]) (by simp [D.ren, D.rens, D.okN, D.okNs, Cp.ren, Cp.okN, HO.ren, HO.okN, okA, renA, renO, hOf, handed, D.fgt, D.fgts, List.range_succ, List.idxOf_cons]); simp [D.ren, D.rens, D.okN, D.okNs, Cp.ren, Cp.okN, HO.ren, HO.okN, okA, renA, renO, hOf, handed, D.fgt, D.fgts, List.range_succ, List.idxOf_cons, Out.ren, upO, renO, rdO]
      ((try simp only [wpAftT_ret, wpAftT_pan, putS, updS, setS]); (repeat (rw [wpT_cons]; simp)); (try simp only [wpT_nil]))
      (refine hKT _ _ _ _ (by kernel_rfl) ?_; clear hKT KT; (try simp only [thenD, blockD]))
      (refine hK _ _ _ ?_; clear hK K)
      (refine wpD_seqk fun K hK => ?_; refine wpD_region tyOK ?_; ((repeat (rw [wpS_cons]; simp)); (try simp only [wpS_nil, thenD, blockD])); refine hK _ _ _ ?_; clear hK K)
      (refine wpD_seqk fun K hK => ?_; refine wpD_drawk tyOK (by kernel_rfl) (by kernel_rfl) fun KT hKT => ?_; ((repeat (rw [wpT_cons]; simp)); (try simp only [wpT_nil])))
      refine CallY.pure globPure (c0) ?_ (by simp [D.fgts, D.fgt]) (by simp [D.pures, D.pure, Cp.free, D.pures_map]) (by simp [Out.pure, D.pure, D.pures, Cp.free, D.pures_map])
      ((try simp only [wpAftT_ret, wpAftT_pan, putS, updS, setS]); (repeat (rw [wpT_cons]; simp)); (try simp only [wpT_nil]))
      refine CallY.pure globPure (c1) ?_ (by simp [D.fgts, D.fgt]) (by simp [D.pures, D.pure, Cp.free, D.pures_map]) (by simp [Out.pure, D.pure, D.pures, Cp.free, D.pures_map])
      ((try simp only [wpAftT_ret, wpAftT_pan, putS, updS, setS]); (repeat (rw [wpT_cons]; simp)); (try simp only [wpT_nil]))
      refine CallY.pure globPure (c2) ?_ (by simp [D.fgts, D.fgt]) (by simp [D.pures, D.pure, Cp.free, D.pures_map]) (by simp [Out.pure, D.pure, D.pures, Cp.free, D.pures_map])
      ((try simp only [wpAftT_ret, wpAftT_pan, putS, updS, setS]); (repeat (rw [wpT_cons]; simp)); (try simp only [wpT_nil]))
      refine CallY.pure globPure (c3) ?_ (by simp [D.fgts, D.fgt]) (by simp [D.pures, D.pure, Cp.free, D.pures_map]) (by simp [Out.pure, D.pure, D.pures, Cp.free, D.pures_map])
      ((try simp only [wpAftT_ret, wpAftT_pan, putS, updS, setS]); (repeat (rw [wpT_cons]; simp)); (try simp only [wpT_nil]))
      refine CallY.pure globPure (cf) ?_ (by simp [D.fgts, D.fgt]) (by simp [D.pures, D.pure, Cp.free, D.pures_map]) (by simp [Out.pure, D.pure, D.pures, Cp.free, D.pures_map])
      ((try simp only [wpAftT_ret, wpAftT_pan, putS, updS, setS]); (repeat (rw [wpT_cons]; simp)); (try simp only [wpT_nil]))
      refine CallY.pure globPure (ov) ?_ (by simp [D.fgts, D.fgt]) (by simp [D.pures, D.pure, Cp.free, D.pures_map]) (by simp [Out.pure, D.pure, D.pures, Cp.free, D.pures_map])
      ((try simp only [wpAftT_ret, wpAftT_pan, putS, updS, setS]); (repeat (rw [wpT_cons]; simp)); (try simp only [wpT_nil]))
      refine CallY.pure globPure (o1) ?_ (by simp [D.fgts, D.fgt]) (by simp [D.pures, D.pure, Cp.free, D.pures_map]) (by simp [Out.pure, D.pure, D.pures, Cp.free, D.pures_map])
      ((try simp only [wpAftT_ret, wpAftT_pan, putS, updS, setS]); (repeat (rw [wpT_cons]; simp)); (try simp only [wpT_nil]))
      refine CallY.pure globPure (o2) ?_ (by simp [D.fgts, D.fgt]) (by simp [D.pures, D.pure, Cp.free, D.pures_map]) (by simp [Out.pure, D.pure, D.pures, Cp.free, D.pures_map])
      ((try simp only [wpAftT_ret, wpAftT_pan, putS, updS, setS]); (repeat (rw [wpT_cons]; simp)); (try simp only [wpT_nil]))
      (refine hKT _ _ _ _ (by kernel_rfl) ?_; clear hKT KT; (try simp only [thenD, blockD]))
      (refine hK _ _ _ ?_; clear hK K)
      (refine wpD_seqk fun K hK => ?_; refine wpD_drawk tyOK (by kernel_rfl) (by kernel_rfl) fun KT hKT => ?_; ((repeat (rw [wpT_cons]; simp)); (try simp only [wpT_nil])))
      refine CallY.pure globPure (k1) ?_ (by simp [D.fgts, D.fgt]) (by simp [D.pures, D.pure, Cp.free, D.pures_map]) (by simp [Out.pure, D.pure, D.pures, Cp.free, D.pures_map])
      ((try simp only [wpAftT_ret, wpAftT_pan, putS, updS, setS]); (repeat (rw [wpT_cons]; simp)); (try simp only [wpT_nil]))
      refine CallY.pure globPure (op) ?_ (by simp [D.fgts, D.fgt]) (by simp [D.pures, D.pure, Cp.free, D.pures_map]) (by simp [Out.pure, D.pure, D.pures, Cp.free, D.pures_map])
      ((try simp only [wpAftT_ret, wpAftT_pan, putS, updS, setS]); (repeat (rw [wpT_cons]; simp)); (try simp only [wpT_nil]))
      refine CallY.pure globPure (o3) ?_ (by simp [D.fgts, D.fgt]) (by simp [D.pures, D.pure, Cp.free, D.pures_map]) (by simp [Out.pure, D.pure, D.pures, Cp.free, D.pures_map])
      ((try simp only [wpAftT_ret, wpAftT_pan, putS, updS, setS]); (repeat (rw [wpT_cons]; simp)); (try simp only [wpT_nil]))
      (refine hKT _ _ _ _ (by kernel_rfl) ?_; clear hKT KT; (try simp only [thenD, blockD]))
      (refine hK _ _ _ ?_; clear hK K)
      (refine wpD_seqk fun K hK => ?_; refine wpD_drawk tyOK (by kernel_rfl) (by kernel_rfl) fun KT hKT => ?_; ((repeat (rw [wpT_cons]; simp)); (try simp only [wpT_nil])))
      refine CallY.pure globPure (o4) ?_ (by simp [D.fgts, D.fgt]) (by simp [D.pures, D.pure, Cp.free, D.pures_map]) (by simp [Out.pure, D.pure, D.pures, Cp.free, D.pures_map])
      ((try simp only [wpAftT_ret, wpAftT_pan, putS, updS, setS]); (repeat (rw [wpT_cons]; simp)); (try simp only [wpT_nil]))
      refine CallY.pure globPure (o5) ?_ (by simp [D.fgts, D.fgt]) (by simp [D.pures, D.pure, Cp.free, D.pures_map]) (by simp [Out.pure, D.pure, D.pures, Cp.free, D.pures_map])
      ((try simp only [wpAftT_ret, wpAftT_pan, putS, updS, setS]); (repeat (rw [wpT_cons]; simp)); (try simp only [wpT_nil]))
      refine CallY.pure globPure (o6) ?_ (by simp [D.fgts, D.fgt]) (by simp [D.pures, D.pure, Cp.free, D.pures_map]) (by simp [Out.pure, D.pure, D.pures, Cp.free, D.pures_map])
      ((try simp only [wpAftT_ret, wpAftT_pan, putS, updS, setS]); (repeat (rw [wpT_cons]; simp)); (try simp only [wpT_nil]))
      (refine hKT _ _ _ _ (by kernel_rfl) ?_; clear hKT KT; (try simp only [thenD, blockD]))
      (refine hK _ _ _ ?_; clear hK K)
      (refine wpD_ret ?_; (try simp only [thenD, blockD]); refine EndQ.ret rfl (.inr ⟨[], by decide, by simp, ?_⟩); simp [Out.mov, movT, movH, movD, D.mov, HO.mov, okM, renM, getW, D.ren, D.rens, D.okN, D.okNs, Cp.ren, Cp.okN, HO.ren, HO.okN, okA, renA, renO, hOf, handed, D.fgt, D.fgts, List.range_succ, List.idxOf_cons, tmOf, Out.fgt, D.fgt, D.fgts])
      exact Er.symm
    · have hp := burn_dead left l once done c (by omega)
      show Spec _ _ _ _ _ (Cost left l once done c _)
      rw [Cost_no hc]
      unfold wObjs headD Cs stepsM goneD at hp
      unfold wObjs headD Cs stepsM goneD
      refine Spec.movd globPure (wpD_spec tyOK Tryz.func75 rfl (enters _ _ Tryz.func75 rfl (by decide)) rfl rfl ?_)
      (refine wpD_seqk fun K hK => ?_; refine wpD_region tyOK ?_; ((repeat (rw [wpS_cons]; simp)); (try simp only [wpS_nil, thenD, blockD])); refine hK _ _ _ ?_; clear hK K)
      (refine wpD_stay (T := tyOf) 2 (ty := 27) (ds := [.int .i64 t.k, .int .i64 t.n, .int .i64 t.a, .slice (t.ls.map encL) .any, .slice (t.ks.map encT) .any]) rfl rfl (by first | exact ⟨rfl, .inr ⟨_, rfl, rfl⟩⟩ | exact ⟨rfl, .inl rfl⟩) ?_; simp [D.frzs, D.frz, HO.frz, dfFrz, refOf, TK.isAgg, FK.isB, FK.isM, FK.isO, D.isLen])
      refine wpD_seqk fun K1 hK1 => ?_
      (refine wpD_seqk fun K hK => ?_; refine wpD_region tyOK ?_; ((repeat (rw [wpS_cons]; simp [hk])); (try simp only [wpS_nil, thenD, blockD])); refine hK _ _ _ ?_; clear hK K)
      refine wpD_part rfl (fun h => by simp at h) (fun _ => ?_)
      refine wpD_skip (hK1 _ _ _ ?_)
      (refine wpD_seqk fun K hK => ?_; refine wpD_drawk tyOK (by kernel_rfl) (by kernel_rfl) fun KT hKT => ?_; ((repeat (rw [wpT_cons]; simp)); (try simp only [wpT_nil])))
      refine CallY.pure globPure (ka0) ?_ (by simp [D.fgts, D.fgt]) (by simp [D.pures, D.pure, Cp.free, D.pures_map]) (by simp [Out.pure, D.pure, D.pures, Cp.free, D.pures_map])
      ((try simp only [wpAftT_ret, wpAftT_pan, putS, updS, setS]); (repeat (rw [wpT_cons]; simp)); (try simp only [wpT_nil]))
      refine CallY.pure globPure (ka1) ?_ (by simp [D.fgts, D.fgt]) (by simp [D.pures, D.pure, Cp.free, D.pures_map]) (by simp [Out.pure, D.pure, D.pures, Cp.free, D.pures_map])
      ((try simp only [wpAftT_ret, wpAftT_pan, putS, updS, setS]); (repeat (rw [wpT_cons]; simp)); (try simp only [wpT_nil]))
      refine CallY.pure globPure (k3) ?_ (by simp [D.fgts, D.fgt]) (by simp [D.pures, D.pure, Cp.free, D.pures_map]) (by simp [Out.pure, D.pure, D.pures, Cp.free, D.pures_map])
      ((try simp only [wpAftT_ret, wpAftT_pan, putS, updS, setS]); (repeat (rw [wpT_cons]; simp)); (try simp only [wpT_nil]))
      (refine hKT _ _ _ _ (by kernel_rfl) ?_; clear hKT KT; (try simp only [thenD, blockD]))
      (refine hK _ _ _ ?_; clear hK K)
      (refine wpD_seqk fun K hK => ?_; refine wpD_drawk tyOK (by kernel_rfl) (by kernel_rfl) fun KT hKT => ?_; ((repeat (rw [wpT_cons]; simp)); (try simp only [wpT_nil])))
      refine CallY.pure globPure (k0) ?_ (by simp [D.fgts, D.fgt]) (by simp [D.pures, D.pure, Cp.free, D.pures_map]) (by simp [Out.pure, D.pure, D.pures, Cp.free, D.pures_map])
      ((try simp only [wpAftT_ret, wpAftT_pan, putS, updS, setS]); (repeat (rw [wpT_cons]; simp [w1, w2])); (try simp only [wpT_nil]))
      refine CallY.pure globPure (k1) ?_ (by simp [D.fgts, D.fgt]) (by simp [D.pures, D.pure, Cp.free, D.pures_map]) (by simp [Out.pure, D.pure, D.pures, Cp.free, D.pures_map])
      ((try simp only [wpAftT_ret, wpAftT_pan, putS, updS, setS]); (repeat (rw [wpT_cons]; simp [w1, w2])); (try simp only [wpT_nil]))
      refine CallY.pure globPure (k2) ?_ (by simp [D.fgts, D.fgt]) (by simp [D.pures, D.pure, Cp.free, D.pures_map]) (by simp [Out.pure, D.pure, D.pures, Cp.free, D.pures_map])
      ((try simp only [wpAftT_ret, wpAftT_pan, putS, updS, setS]); (repeat (rw [wpT_cons]; simp [w1, w2])); (try simp only [wpT_nil]))
      refine CallY.pure globPure (hz) ?_ (by simp [D.fgts, D.fgt]) (by simp [D.pures, D.pure, Cp.free, D.pures_map]) (by simp [Out.pure, D.pure, D.pures, Cp.free, D.pures_map])
      ((try simp only [wpAftT_ret, wpAftT_pan, putS, updS, setS]); (repeat (rw [wpT_cons]; simp [w1, w2])); (try simp only [wpT_nil]))
      refine CallY.pure globPure (k1) ?_ (by simp [D.fgts, D.fgt]) (by simp [D.pures, D.pure, Cp.free, D.pures_map]) (by simp [Out.pure, D.pure, D.pures, Cp.free, D.pures_map])
      ((try simp only [wpAftT_ret, wpAftT_pan, putS, updS, setS]); (repeat (rw [wpT_cons]; simp [w1, w2])); (try simp only [wpT_nil]))
      refine CallY.pure globPure (hs) ?_ (by simp [D.fgts, D.fgt]) (by simp [D.pures, D.pure, Cp.free, D.pures_map]) (by simp [Out.pure, D.pure, D.pures, Cp.free, D.pures_map])
      ((try simp only [wpAftT_ret, wpAftT_pan, putS, updS, setS]); (repeat (rw [wpT_cons]; simp [w1, w2])); (try simp only [wpT_nil]))
      refine CallY.objs globPure [0, 1] true false (hp) (fun o h e => e) ?_ (by simp) (by decide) (by simp) (by simp [D.ren, D.rens, D.okN, D.okNs, Cp.ren, Cp.okN, HO.ren, HO.okN, okA, renA, renO, hOf, handed, D.fgt, D.fgts, List.range_succ, List.idxOf_cons]) (by simp [D.ren, D.rens, D.okN, D.okNs, Cp.ren, Cp.okN, HO.ren, HO.okN, okA, renA, renO, hOf, handed, D.fgt, D.fgts, List.range_succ, List.idxOf_cons]) (by simp [D.ren, D.rens, D.okN, D.okNs, Cp.ren, Cp.okN, HO.ren, HO.okN, okA, renA, renO, hOf, handed, D.fgt, D.fgts, List.range_succ, List.idxOf_cons]) (by simp [D.ren, D.rens, D.okN, D.okNs, Cp.ren, Cp.okN, HO.ren, HO.okN, okA, renA, renO, hOf, handed, D.fgt, D.fgts, List.range_succ, List.idxOf_cons]); simp [D.ren, D.rens, D.okN, D.okNs, Cp.ren, Cp.okN, HO.ren, HO.okN, okA, renA, renO, hOf, handed, D.fgt, D.fgts, List.range_succ, List.idxOf_cons, Out.ren, upO, renO, rdO]
      ((try simp only [wpAftT_ret, wpAftT_pan, putS, updS, setS]); (repeat (refine wpT_late _ _ _ _ (by kernel_rfl) ?_; simp only [putS, List.set, List.nil_append, List.cons_append, Nat.reduceAdd])); (try simp only [wpT_nil]))
      (refine hKT _ _ _ _ (by kernel_rfl) ?_; clear hKT KT; (try simp only [thenD, blockD]))
      simp [killHl]
      ((try simp only [thenD, blockD]); refine EndQ.pan (.inr ⟨[], by decide, by simp, ?_⟩); simp [Out.mov, movT, movH, movD, D.mov, HO.mov, okM, renM, getW, D.ren, D.rens, D.okN, D.okNs, Cp.ren, Cp.okN, HO.ren, HO.okN, okA, renA, renO, hOf, handed, D.fgt, D.fgts, List.range_succ, List.idxOf_cons, tmOf, Out.fgt, D.fgt, D.fgts])
  · rw [if_neg hk]
    rw [hEt, hEx]
    unfold OwnP wObjs headD Cs stepsM
    refine Spec.movd globPure (wpD_spec tyOK Tryz.func75 rfl (enters _ _ Tryz.func75 rfl (by decide)) rfl rfl ?_)
    (refine wpD_seqk fun K hK => ?_; refine wpD_region tyOK ?_; ((repeat (rw [wpS_cons]; simp)); (try simp only [wpS_nil, thenD, blockD])); refine hK _ _ _ ?_; clear hK K)
    refine wpD_seqk fun K1 hK1 => ?_
    (refine wpD_seqk fun K hK => ?_; refine wpD_region tyOK ?_; ((repeat (rw [wpS_cons]; simp [hk])); (try simp only [wpS_nil, thenD, blockD])); refine hK _ _ _ ?_; clear hK K)
    refine wpD_part rfl (fun _ => ?_) (fun h => by simp at h)
    (refine wpD_seqk fun K hK => ?_; refine wpD_region tyOK ?_; ((repeat (rw [wpS_cons]; simp)); (try simp only [wpS_nil, thenD, blockD])); refine hK _ _ _ ?_; clear hK K)
    (refine wpD_ret ?_; (try simp only [thenD, blockD]); refine EndQ.ret rfl (.inr ⟨[], by decide, by simp, ?_⟩); simp [Out.mov, movT, movH, movD, D.mov, HO.mov, okM, renM, getW, D.ren, D.rens, D.okN, D.okNs, Cp.ren, Cp.okN, HO.ren, HO.okN, okA, renA, renO, hOf, handed, D.fgt, D.fgts, List.range_succ, List.idxOf_cons, tmOf, Out.fgt, D.fgt, D.fgts])
    first | done | simp [hEt]
end Go.Proofs.YtebmlojhdnldgaaGreatDoor

