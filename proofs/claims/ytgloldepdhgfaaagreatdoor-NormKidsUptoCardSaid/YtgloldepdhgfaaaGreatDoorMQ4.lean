/-
  MQ4: the texts Cfb Lrt Ccd Ccl Cfc Hrp Cfd Ddp Hen Hk Hs Hrn Cfe Cvd Cve Nrd Cff Nrp Dfo Ho Hw, one behind the other.
-/
import Derived.Test.YtgloldepdhgfaaaGreatDoorMQ3
namespace Go.Proofs.YtgloldepdhgfaaaGreatDoor
set_option linter.unusedSimpArgs false
set_option linter.unusedVariables false
open Go.RowKit
def treeI (t s : T) : T :=
  ofT 6 [ofT 6 [ofT 6 [t.kid 3, s.kid 0], s.kid 1], ofT 5 [T.putI (s.kid 0) (t.kid 1) 0, ofT 18 [(t.kid 0).liftI 1 0, (t.kid 1).liftI 1 1, (t.kid 2).liftI 1 0, (t.kid 3).liftI 1 0, ofT 6 [(s.kid 1).liftI 1 0, ofT 1 []]]]]
/-- a term's own step, ideally -/
def ownI (l : List C) (t x : T) : Option T :=
  if t.k = 6 then if x.k = 5 then some (T.putI (t.kid 1) (x.kid 1) 0) else none
  else if t.k = 14 ∨ t.k = 15 then if x.k = 13 then some (x.kid (if t.k = 15 then 1 else 0)) else none
  else if t.k = 7 then some (T.putI (t.kid 1) (t.kid 2) 0)
  else if t.k = 3 then bodyC l t.n t.ls
  else if t.k = 18 then if x.k = 17 then some (treeI t x) else none
  else if t.k = 21 then if x.k = 20 then some (t.kid 3) else none
  else if t.k = 24 ∧ (spot t).isSome then if x.k = 23 ∧ 0 ≤ x.n ∧ x.n < t.a then some (t.kid (x.n.toNat + 1)) else none
  else none
def rootI (l : List C) (t : T) : Option T := ownI l t (placeX t)
theorem kid_mk (k n a : Int) (ls : List LV) (ks : List T) (i : Nat) : (T.mk k n a ls ks).kid i = ks.getD i zeroT := rfl
theorem zero_liftI (n c : Nat) : zeroT.liftI n c = zeroT := by unfold zeroT; rw [liftI_node (by decide), T.liftsI]
theorem zero_putI (x : T) (d : Nat) : T.putI x zeroT d = zeroT := by unfold zeroT; rw [putI_node (by decide), T.putsI]
theorem liftsI_getD (n : Nat) (k : Int) : ∀ (ks : List T) (i c j : Nat), (T.liftsI n k ks i c).getD j zeroT = (ks.getD j zeroT).liftI n (up1 c k (i + j))
  | [], i, c, j => by rw [T.liftsI]; simp [zero_liftI]
  | t :: r, i, c, 0 => by rw [T.liftsI]; simp
  | t :: r, i, c, j + 1 => by
    rw [T.liftsI, List.getD_cons_succ, List.getD_cons_succ, liftsI_getD n k r (i + 1) c j, show i + 1 + j = i + (j + 1) by omega]
theorem putsI_getD (x : T) (k : Int) : ∀ (ks : List T) (i c j : Nat), (T.putsI x k ks i c).getD j zeroT = T.putI x (ks.getD j zeroT) (up1 c k (i + j))
  | [], i, c, j => by rw [T.putsI]; simp [zero_putI]
  | t :: r, i, c, 0 => by rw [T.putsI]; simp
  | t :: r, i, c, j + 1 => by
    rw [T.putsI, List.getD_cons_succ, List.getD_cons_succ, putsI_getD x k r (i + 1) c j, show i + 1 + j = i + (j + 1) by omega]
theorem liftI_k (n : Nat) (t : T) (c : Nat) : (t.liftI n c).k = t.k := by cases t; rw [T.liftI]; rfl
theorem liftI_rest {t : T} (hk : ¬ t.k = 1) (n c : Nat) : (t.liftI n c).n = t.n ∧ (t.liftI n c).a = t.a ∧ (t.liftI n c).ls = t.ls ∧ (t.liftI n c).ks.length = t.ks.length := by
  cases t with
  | mk k m a ls ks => rw [liftI_node (k := k) hk]; exact ⟨rfl, rfl, rfl, liftsI_len _ _ _ _ _⟩
theorem liftI_kid (n : Nat) (t : T) (c i : Nat) : (t.liftI n c).kid i = (t.kid i).liftI n (up1 c t.k i) := by
  cases t with
  | mk k m a ls ks => rw [T.liftI, kid_mk, kid_mk, liftsI_getD, Nat.zero_add]; rfl
theorem putI_rest {t : T} (hk : ¬ t.k = 1) (x : T) (d : Nat) : (T.putI x t d).k = t.k ∧ (T.putI x t d).n = t.n ∧ (T.putI x t d).a = t.a ∧ (T.putI x t d).ls = t.ls ∧ (T.putI x t d).ks.length = t.ks.length := by
  cases t with
  | mk k m a ls ks => rw [putI_node (k := k) hk]; exact ⟨rfl, rfl, rfl, rfl, putsI_len _ _ _ _ _⟩
theorem putI_kid {t : T} (hk : ¬ t.k = 1) (x : T) (d i : Nat) : (T.putI x t d).kid i = T.putI x (t.kid i) (up1 d t.k i) := by
  cases t with
  | mk k m a ls ks => rw [putI_node (k := k) hk, kid_mk, kid_mk, putsI_getD, Nat.zero_add]; rfl
theorem spot_congr {t u : T} (h1 : u.k = t.k) (h2 : u.a = t.a) (h3 : u.ks.length = t.ks.length) : spot u = spot t := by unfold spot; rw [h1, h2, h3]
theorem up1_no {k : Int} {i : Nat} (h : bindsB k i = false) (c : Nat) : up1 c k i = c := by unfold up1; rw [h]; rfl
theorem up1_yes {k : Int} {i : Nat} (h : bindsB k i = true) (c : Nat) : up1 c k i = c + 1 := by unfold up1; rw [h]; rfl
theorem binds_case (i : Nat) : bindsB 24 i = false := by unfold bindsB; simp [kindAt, kindRowsD]
theorem ofT_liftI {k : Int} (hk : ¬ k = 1) (ks : List T) (n c : Nat) : (ofT k ks).liftI n c = ofT k (T.liftsI n k ks 0 c) := liftI_node hk n 0 0 [] ks c
theorem ofT_putI {k : Int} (hk : ¬ k = 1) (ks : List T) (x : T) (c : Nat) : T.putI x (ofT k ks) c = ofT k (T.putsI x k ks 0 c) := putI_node hk x 0 0 [] ks c
/-- the bodies have no free variables -/
def Closed (l : List C) : Prop := ∀ n lv b, bodyC l n lv = some b → (∀ m c, b.liftI m c = b) ∧ ∀ x d, T.putI x b d = b
theorem tree_liftI (t s : T) (ht : t.k = 18) (hs : s.k = 17) (n c : Nat) : (treeI t s).liftI n c = treeI (t.liftI n c) (s.liftI n c) := by
  unfold treeI
  simp only [liftI_kid, ht, hs, up1_no (show bindsB 18 ((0 : Nat) : Int) = false by decide), up1_yes (show bindsB 18 ((1 : Nat) : Int) = true by decide), up1_no (show bindsB 18 ((2 : Nat) : Int) = false by decide), up1_no (show bindsB 18 ((3 : Nat) : Int) = false by decide), up1_no (show bindsB 17 ((0 : Nat) : Int) = false by decide), up1_no (show bindsB 17 ((1 : Nat) : Int) = false by decide)]
  rw [ofT_liftI (by decide)]
  simp only [T.liftsI, ofT_liftI (k := 6) (by decide), ofT_liftI (k := 5) (by decide), ofT_liftI (k := 18) (by decide), T.liftsI, up1_no (show bindsB 6 ((0 : Nat) : Int) = false by decide), up1_no (show bindsB 6 ((1 : Nat) : Int) = false by decide), up1_no (show bindsB 5 ((0 : Nat) : Int) = false by decide), up1_yes (show bindsB 5 ((1 : Nat) : Int) = true by decide),
    up1_no (show bindsB 18 ((0 : Nat) : Int) = false by decide), up1_yes (show bindsB 18 ((1 : Nat) : Int) = true by decide), up1_no (show bindsB 18 ((2 : Nat) : Int) = false by decide), up1_no (show bindsB 18 ((3 : Nat) : Int) = false by decide), up1_no (show bindsB 18 ((4 : Nat) : Int) = false by decide), Nat.zero_add, Nat.reduceAdd]
  have e1 := lift_put_high (s.kid 0) n (t.kid 1) c 0
  simp only [Nat.add_zero] at e1
  have e2 : (ofT 1 []).liftI n (c + 1) = ofT 1 [] := by unfold ofT; rw [liftI_var, if_neg (by push_cast; omega), T.liftsI]
  rw [e1, e2, lift_lift_out 1 n (t.kid 0) 0 c (by omega), lift_lift_out 1 n (t.kid 1) 1 (c + 1) (by omega), lift_lift_out 1 n (t.kid 2) 0 c (by omega), lift_lift_out 1 n (t.kid 3) 0 c (by omega), lift_lift_out 1 n (s.kid 1) 0 c (by omega)]
theorem tree_putI (t s : T) (ht : t.k = 18) (hs : s.k = 17) (y : T) (d : Nat) : T.putI y (treeI t s) d = treeI (T.putI y t d) (T.putI y s d) := by
  have ht1 : ¬ t.k = 1 := by omega
  have hs1 : ¬ s.k = 1 := by omega
  unfold treeI
  simp only [putI_kid ht1, putI_kid hs1, ht, hs, up1_no (show bindsB 18 ((0 : Nat) : Int) = false by decide), up1_yes (show bindsB 18 ((1 : Nat) : Int) = true by decide), up1_no (show bindsB 18 ((2 : Nat) : Int) = false by decide), up1_no (show bindsB 18 ((3 : Nat) : Int) = false by decide), up1_no (show bindsB 17 ((0 : Nat) : Int) = false by decide), up1_no (show bindsB 17 ((1 : Nat) : Int) = false by decide)]
  rw [ofT_putI (by decide)]
  simp only [T.putsI, ofT_putI (k := 6) (by decide), ofT_putI (k := 5) (by decide), ofT_putI (k := 18) (by decide), T.putsI, up1_no (show bindsB 6 ((0 : Nat) : Int) = false by decide), up1_no (show bindsB 6 ((1 : Nat) : Int) = false by decide), up1_no (show bindsB 5 ((0 : Nat) : Int) = false by decide), up1_yes (show bindsB 5 ((1 : Nat) : Int) = true by decide),
    up1_no (show bindsB 18 ((0 : Nat) : Int) = false by decide), up1_yes (show bindsB 18 ((1 : Nat) : Int) = true by decide), up1_no (show bindsB 18 ((2 : Nat) : Int) = false by decide), up1_no (show bindsB 18 ((3 : Nat) : Int) = false by decide), up1_no (show bindsB 18 ((4 : Nat) : Int) = false by decide), Nat.zero_add, Nat.reduceAdd]
  have e1 := put_put_I (s.kid 0) y (t.kid 1) 0 d
  simp only [Nat.zero_add] at e1
  have e2 : T.putI y (ofT 1 []) (d + 1) = ofT 1 [] := by unfold ofT; rw [putI_miss (by push_cast; omega), if_neg (by push_cast; omega), T.putsI]
  rw [e1, e2, ← lift_put_low y 1 (t.kid 0) 0 d (by omega), ← lift_put_low y 1 (t.kid 1) 1 (d + 1) (by omega), ← lift_put_low y 1 (t.kid 2) 0 d (by omega), ← lift_put_low y 1 (t.kid 3) 0 d (by omega), ← lift_put_low y 1 (s.kid 1) 0 d (by omega)]
/-- what a step asks, by kinds -/
theorem rootI_cases {l : List C} {t u : T} (h : rootI l t = some u) :
    (t.k = 6 ∧ (t.kid 0).k = 5 ∧ u = T.putI (t.kid 1) ((t.kid 0).kid 1) 0) ∨ (t.k = 14 ∧ (t.kid 0).k = 13 ∧ u = (t.kid 0).kid 0) ∨ (t.k = 15 ∧ (t.kid 0).k = 13 ∧ u = (t.kid 0).kid 1) ∨ (t.k = 7 ∧ u = T.putI (t.kid 1) (t.kid 2) 0) ∨
    (t.k = 3 ∧ bodyC l t.n t.ls = some u) ∨ (t.k = 18 ∧ (t.kid 4).k = 17 ∧ u = treeI t (t.kid 4)) ∨ (t.k = 21 ∧ (t.kid 5).k = 20 ∧ u = t.kid 3) ∨
    (t.k = 24 ∧ 0 ≤ t.a ∧ (t.ks.length : Int) - 2 = t.a ∧ (t.kid (t.a.toNat + 1)).k = 23 ∧ 0 ≤ (t.kid (t.a.toNat + 1)).n ∧ (t.kid (t.a.toNat + 1)).n < t.a ∧ u = t.kid ((t.kid (t.a.toNat + 1)).n.toNat + 1)) := by
  unfold rootI ownI placeX spot at h
  by_cases h1 : t.k = 6
  · simp only [h1, if_true] at h
    split at h
    · rename_i hx; cases h; exact .inl ⟨h1, hx, rfl⟩
    · cases h
  by_cases h2 : t.k = 14
  · simp [h2] at h
    exact .inr (.inl ⟨h2, h.1, h.2.symm⟩)
  by_cases h3 : t.k = 15
  · simp [h3] at h
    exact .inr (.inr (.inl ⟨h3, h.1, h.2.symm⟩))
  by_cases h4 : t.k = 7
  · simp [h4] at h
    exact .inr (.inr (.inr (.inl ⟨h4, h.symm⟩)))
  by_cases h5 : t.k = 3
  · simp [h5] at h
    exact .inr (.inr (.inr (.inr (.inl ⟨h5, h⟩))))
  by_cases h6 : t.k = 18
  · simp [h6] at h
    exact .inr (.inr (.inr (.inr (.inr (.inl ⟨h6, h.1, h.2.symm⟩)))))
  by_cases h7 : t.k = 21
  · simp [h7] at h
    exact .inr (.inr (.inr (.inr (.inr (.inr (.inl ⟨h7, h.1, h.2.symm⟩))))))
  by_cases h8 : t.k = 24
  · by_cases h9 : 0 ≤ t.a ∧ (t.ks.length : Int) - 2 = t.a
    · simp [h8, h9] at h
      exact .inr (.inr (.inr (.inr (.inr (.inr (.inr ⟨h8, h9.1, h9.2, h.1.1, h.1.2.1, h.1.2.2, h.2.symm⟩))))))
    · simp [h8, h9] at h
  · simp [h1, h2, h3, h4, h5, h6, h7, h8] at h
/-- a step by its parts -/
theorem rootI_of {l : List C} {t u : T} (h : (t.k = 6 ∧ (t.kid 0).k = 5 ∧ u = T.putI (t.kid 1) ((t.kid 0).kid 1) 0) ∨ (t.k = 14 ∧ (t.kid 0).k = 13 ∧ u = (t.kid 0).kid 0) ∨ (t.k = 15 ∧ (t.kid 0).k = 13 ∧ u = (t.kid 0).kid 1) ∨ (t.k = 7 ∧ u = T.putI (t.kid 1) (t.kid 2) 0) ∨
    (t.k = 3 ∧ bodyC l t.n t.ls = some u) ∨ (t.k = 18 ∧ (t.kid 4).k = 17 ∧ u = treeI t (t.kid 4)) ∨ (t.k = 21 ∧ (t.kid 5).k = 20 ∧ u = t.kid 3) ∨
    (t.k = 24 ∧ 0 ≤ t.a ∧ (t.ks.length : Int) - 2 = t.a ∧ (t.kid (t.a.toNat + 1)).k = 23 ∧ 0 ≤ (t.kid (t.a.toNat + 1)).n ∧ (t.kid (t.a.toNat + 1)).n < t.a ∧ u = t.kid ((t.kid (t.a.toNat + 1)).n.toNat + 1))) : rootI l t = some u := by
  unfold rootI ownI placeX spot
  rcases h with ⟨h1, h2, rfl⟩ | ⟨h1, h2, rfl⟩ | ⟨h1, h2, rfl⟩ | ⟨h1, rfl⟩ | ⟨h1, h2⟩ | ⟨h1, h2, rfl⟩ | ⟨h1, h2, rfl⟩ | ⟨h1, h2, h3, h4, h5, h6, rfl⟩
  · simp [h1, h2]
  · simp [h1, h2]
  · simp [h1, h2]
  · simp [h1]
  · simp [h1, h2]
  · simp [h1, h2]
  · simp [h1, h2]
  · simp [h1, h2, h3, h4, h5, h6]
theorem root_lift {l : List C} (hc : Closed l) {t u : T} (h : rootI l t = some u) (n c : Nat) : rootI l (t.liftI n c) = some (u.liftI n c) := by
  apply rootI_of
  have b60 := up1_no (show bindsB 6 ((0 : Nat) : Int) = false by decide) c
  have b61 := up1_no (show bindsB 6 ((1 : Nat) : Int) = false by decide) c
  rcases rootI_cases h with ⟨h1, h2, rfl⟩ | ⟨h1, h2, rfl⟩ | ⟨h1, h2, rfl⟩ | ⟨h1, rfl⟩ | ⟨h1, h2⟩ | ⟨h1, h2, rfl⟩ | ⟨h1, h2, rfl⟩ | ⟨h1, h2, h3, h4, h5, h6, rfl⟩
  · refine .inl ⟨by rw [liftI_k]; exact h1, by rw [liftI_kid, liftI_k]; exact h2, ?_⟩
    rw [liftI_kid, liftI_kid, liftI_kid, h1, h2, b60, b61, up1_yes (show bindsB 5 ((1 : Nat) : Int) = true by decide)]
    exact lift_put_high _ n _ c 0
  · refine .inr (.inl ⟨by rw [liftI_k]; exact h1, by rw [liftI_kid, liftI_k]; exact h2, ?_⟩)
    rw [liftI_kid, liftI_kid, h1, h2, up1_no (show bindsB 14 ((0 : Nat) : Int) = false by decide), up1_no (show bindsB 13 ((0 : Nat) : Int) = false by decide)]
  · refine .inr (.inr (.inl ⟨by rw [liftI_k]; exact h1, by rw [liftI_kid, liftI_k]; exact h2, ?_⟩))
    rw [liftI_kid, liftI_kid, h1, h2, up1_no (show bindsB 15 ((0 : Nat) : Int) = false by decide), up1_no (show bindsB 13 ((1 : Nat) : Int) = false by decide)]
  · refine .inr (.inr (.inr (.inl ⟨by rw [liftI_k]; exact h1, ?_⟩)))
    rw [liftI_kid, liftI_kid, h1, up1_no (show bindsB 7 ((1 : Nat) : Int) = false by decide), up1_yes (show bindsB 7 ((2 : Nat) : Int) = true by decide)]
    exact lift_put_high _ n _ c 0
  · have hr := liftI_rest (t := t) (by omega) n c
    refine .inr (.inr (.inr (.inr (.inl ⟨by rw [liftI_k]; exact h1, ?_⟩))))
    rw [hr.1, hr.2.2.1, h2, (hc _ _ _ h2).1]
  · refine .inr (.inr (.inr (.inr (.inr (.inl ⟨by rw [liftI_k]; exact h1, by rw [liftI_kid, liftI_k]; exact h2, ?_⟩)))))
    rw [liftI_kid, h1, up1_no (show bindsB 18 ((4 : Nat) : Int) = false by decide)]
    exact tree_liftI _ _ h1 h2 n c
  · refine .inr (.inr (.inr (.inr (.inr (.inr (.inl ⟨by rw [liftI_k]; exact h1, by rw [liftI_kid, liftI_k]; exact h2, ?_⟩))))))
    rw [liftI_kid, h1, up1_no (show bindsB 21 ((3 : Nat) : Int) = false by decide)]
  · have hr := liftI_rest (t := t) (by omega) n c
    have hx := liftI_rest (t := t.kid (t.a.toNat + 1)) (by omega) n c
    have e : (t.liftI n c).kid ((t.liftI n c).a.toNat + 1) = (t.kid (t.a.toNat + 1)).liftI n c := by rw [hr.2.1, liftI_kid, h1, up1_no (binds_case _)]
    refine .inr (.inr (.inr (.inr (.inr (.inr (.inr ⟨by rw [liftI_k]; exact h1, by rw [hr.2.1]; exact h2, by rw [hr.2.1, hr.2.2.2]; exact h3, ?_, ?_, ?_, ?_⟩))))))
    · rw [e, liftI_k]; exact h4
    · rw [e, hx.1]; exact h5
    · rw [e, hx.1, hr.2.1]; exact h6
    · rw [e, hx.1, liftI_kid, h1, up1_no (binds_case _)]
theorem root_put {l : List C} (hc : Closed l) {t u : T} (h : rootI l t = some u) (y : T) (d : Nat) : ¬ t.k = 1 ∧ rootI l (T.putI y t d) = some (T.putI y u d) := by
  have hk : ¬ t.k = 1 := by rcases rootI_cases h with h | h | h | h | h | h | h | h <;> omega
  refine ⟨hk, ?_⟩
  apply rootI_of
  have hr := putI_rest hk y d
  have b60 := up1_no (show bindsB 6 ((0 : Nat) : Int) = false by decide) d
  have b61 := up1_no (show bindsB 6 ((1 : Nat) : Int) = false by decide) d
  rcases rootI_cases h with ⟨h1, h2, rfl⟩ | ⟨h1, h2, rfl⟩ | ⟨h1, h2, rfl⟩ | ⟨h1, rfl⟩ | ⟨h1, h2⟩ | ⟨h1, h2, rfl⟩ | ⟨h1, h2, rfl⟩ | ⟨h1, h2, h3, h4, h5, h6, rfl⟩
  · have hk0 : ¬ (t.kid 0).k = 1 := by omega
    refine .inl ⟨by rw [hr.1]; exact h1, by rw [putI_kid hk, (putI_rest hk0 _ _).1]; exact h2, ?_⟩
    rw [putI_kid hk, putI_kid hk, putI_kid hk0, h1, h2, b60, b61, up1_yes (show bindsB 5 ((1 : Nat) : Int) = true by decide)]
    have := put_put_I (t.kid 1) y ((t.kid 0).kid 1) 0 d
    simpa using this
  · have hk0 : ¬ (t.kid 0).k = 1 := by omega
    refine .inr (.inl ⟨by rw [hr.1]; exact h1, by rw [putI_kid hk, (putI_rest hk0 _ _).1]; exact h2, ?_⟩)
    rw [putI_kid hk, putI_kid hk0, h1, h2, up1_no (show bindsB 14 ((0 : Nat) : Int) = false by decide), up1_no (show bindsB 13 ((0 : Nat) : Int) = false by decide)]
  · have hk0 : ¬ (t.kid 0).k = 1 := by omega
    refine .inr (.inr (.inl ⟨by rw [hr.1]; exact h1, by rw [putI_kid hk, (putI_rest hk0 _ _).1]; exact h2, ?_⟩))
    rw [putI_kid hk, putI_kid hk0, h1, h2, up1_no (show bindsB 15 ((0 : Nat) : Int) = false by decide), up1_no (show bindsB 13 ((1 : Nat) : Int) = false by decide)]
  · refine .inr (.inr (.inr (.inl ⟨by rw [hr.1]; exact h1, ?_⟩)))
    rw [putI_kid hk, putI_kid hk, h1, up1_no (show bindsB 7 ((1 : Nat) : Int) = false by decide), up1_yes (show bindsB 7 ((2 : Nat) : Int) = true by decide)]
    have := put_put_I (t.kid 1) y (t.kid 2) 0 d
    simpa using this
  · refine .inr (.inr (.inr (.inr (.inl ⟨by rw [hr.1]; exact h1, ?_⟩))))
    rw [hr.2.1, hr.2.2.2.1, h2, (hc _ _ _ h2).2]
  · have hk0 : ¬ (t.kid 4).k = 1 := by omega
    refine .inr (.inr (.inr (.inr (.inr (.inl ⟨by rw [hr.1]; exact h1, by rw [putI_kid hk, h1, up1_no (show bindsB 18 ((4 : Nat) : Int) = false by decide), (putI_rest hk0 _ _).1]; exact h2, ?_⟩)))))
    rw [putI_kid hk, h1, up1_no (show bindsB 18 ((4 : Nat) : Int) = false by decide)]
    exact tree_putI _ _ h1 h2 y d
  · have hk0 : ¬ (t.kid 5).k = 1 := by omega
    refine .inr (.inr (.inr (.inr (.inr (.inr (.inl ⟨by rw [hr.1]; exact h1, by rw [putI_kid hk, (putI_rest hk0 _ _).1]; exact h2, ?_⟩))))))
    rw [putI_kid hk, h1, up1_no (show bindsB 21 ((3 : Nat) : Int) = false by decide)]
  · have hk0 : ¬ (t.kid (t.a.toNat + 1)).k = 1 := by omega
    have hx := putI_rest hk0 y d
    have e : (T.putI y t d).kid ((T.putI y t d).a.toNat + 1) = T.putI y (t.kid (t.a.toNat + 1)) d := by rw [hr.2.2.1, putI_kid hk, h1, up1_no (binds_case _)]
    refine .inr (.inr (.inr (.inr (.inr (.inr (.inr ⟨by rw [hr.1]; exact h1, by rw [hr.2.2.1]; exact h2, by rw [hr.2.2.1, hr.2.2.2.2]; exact h3, ?_, ?_, ?_, ?_⟩))))))
    · rw [e, hx.1]; exact h4
    · rw [e, hx.2.1]; exact h5
    · rw [e, hx.2.1, hr.2.2.1]; exact h6
    · rw [e, hx.2.1, putI_kid hk, h1, up1_no (binds_case _)]
/-- steps anywhere, many at once -/
inductive Par (l : List C) : T → T → Prop where
  | node {k n a : Int} {ls : List LV} {ks ks' : List T} (hl : ks'.length = ks.length) (h : ∀ i, i < ks.length → Par l (ks.getD i zeroT) (ks'.getD i zeroT)) : Par l (.mk k n a ls ks) (.mk k n a ls ks')
  | red {k n a : Int} {ls : List LV} {ks ks' : List T} {u : T} (hl : ks'.length = ks.length) (h : ∀ i, i < ks.length → Par l (ks.getD i zeroT) (ks'.getD i zeroT)) (hr : rootI l (.mk k n a ls ks') = some u) : Par l (.mk k n a ls ks) u
theorem getD_in {ks : List T} {i : Nat} (h : i < ks.length) : ks.getD i zeroT = ks[i] := by rw [List.getD_eq_getElem?_getD, List.getElem?_eq_getElem h]; rfl
theorem getD_out {ks : List T} {i : Nat} (h : ¬ i < ks.length) : ks.getD i zeroT = zeroT := by rw [List.getD_eq_getElem?_getD, List.getElem?_eq_none (by omega)]; rfl
theorem Par.refl (l : List C) (t : T) : Par l t t := by
  induction t using T.ind with
  | h k n a ls ks ih => exact .node rfl fun i hi => by rw [getD_in hi]; exact ih _ (List.getElem_mem hi)
theorem par_all {l : List C} {ks ks' : List T} (hl : ks'.length = ks.length) (h : ∀ i, i < ks.length → Par l (ks.getD i zeroT) (ks'.getD i zeroT)) (i : Nat) : Par l (ks.getD i zeroT) (ks'.getD i zeroT) := by
  by_cases hi : i < ks.length
  · exact h i hi
  · rw [getD_out hi, getD_out (by omega)]; exact .refl l _
theorem par_lift {l : List C} (hc : Closed l) {t u : T} (h : Par l t u) (n : Nat) : ∀ c, Par l (t.liftI n c) (u.liftI n c) := by
  induction h with
  | @node k m a ls ks ks' hl h ih =>
    intro c
    rw [T.liftI, T.liftI]
    refine .node (by rw [liftsI_len, liftsI_len, hl]) fun i hi => ?_
    rw [liftsI_len] at hi
    rw [liftsI_getD, liftsI_getD]
    exact ih i hi _
  | @red k m a ls ks ks' u hl h hr ih =>
    intro c
    have := root_lift hc hr n c
    rw [T.liftI] at this ⊢
    refine .red (by rw [liftsI_len, liftsI_len, hl]) (fun i hi => ?_) this
    rw [liftsI_len] at hi
    rw [liftsI_getD, liftsI_getD]
    exact ih i hi _
theorem par_put {l : List C} (hc : Closed l) {x x' : T} (hx : Par l x x') {t u : T} (h : Par l t u) : ∀ d, Par l (T.putI x t d) (T.putI x' u d) := by
  induction h with
  | @node k m a ls ks ks' hl h ih =>
    intro d
    by_cases hk : k = 1 ∧ m = (d : Int)
    · obtain ⟨rfl, rfl⟩ := hk
      rw [putI_hit, putI_hit]
      exact par_lift hc hx d 0
    · rw [T.putI, T.putI, if_neg hk, if_neg hk]
      refine .node (by rw [putsI_len, putsI_len, hl]) fun i hi => ?_
      rw [putsI_len] at hi
      rw [putsI_getD, putsI_getD]
      exact ih i hi _
  | @red k m a ls ks ks' u hl h hr ih =>
    intro d
    obtain ⟨hk, this⟩ := root_put hc hr x' d
    have hk : ¬ k = 1 := hk
    rw [putI_node hk] at this ⊢
    refine .red (by rw [putsI_len, putsI_len, hl]) (fun i hi => ?_) this
    rw [putsI_len] at hi
    rw [putsI_getD, putsI_getD]
    exact ih i hi _
/-- what never steps at its root keeps its kind -/
theorem par_con {l : List C} {t u : T} (h : Par l t u) (hk : t.k = 5 ∨ t.k = 13 ∨ t.k = 17 ∨ t.k = 20 ∨ t.k = 23) : u.k = t.k ∧ u.n = t.n ∧ u.a = t.a ∧ ∀ i, Par l (t.kid i) (u.kid i) := by
  cases h with
  | node hl h => exact ⟨rfl, rfl, rfl, fun i => par_all hl h i⟩
  | red hl h hr =>
    exfalso
    simp only [T.k_mk] at hk
    rcases rootI_cases hr with h | h | h | h | h | h | h | h <;> (have := h.1; simp only [T.k_mk] at this; omega)
theorem par_tree {l : List C} (hc : Closed l) {t t' s s' : T} (ht : ∀ i, Par l (t.kid i) (t'.kid i)) (hs : ∀ i, Par l (s.kid i) (s'.kid i)) : Par l (treeI t s) (treeI t' s') := by
  have two : ∀ {k : Int} {a b a' b' : T}, Par l a a' → Par l b b' → Par l (ofT k [a, b]) (ofT k [a', b']) := fun h1 h2 => .node rfl fun i hi => by
    match i, hi with
    | 0, _ => exact h1
    | 1, _ => exact h2
    | n + 2, h => simp at h; omega
  unfold treeI
  refine two (two (two (ht 3) (hs 0)) (hs 1)) (two (par_put hc (hs 0) (ht 1) 0) (.node rfl fun i hi => ?_))
  match i, hi with
  | 0, _ => exact par_lift hc (ht 0) 1 0
  | 1, _ => exact par_lift hc (ht 1) 1 1
  | 2, _ => exact par_lift hc (ht 2) 1 0
  | 3, _ => exact par_lift hc (ht 3) 1 0
  | 4, _ => exact two (par_lift hc (hs 1) 1 0) (.refl l _)
  | n + 5, h => simp at h; omega
/-- a root that steps, its kids gone on -/
theorem root_par {l : List C} (hc : Closed l) {k n a : Int} {ls : List LV} {ks ks' : List T} {u : T} (hl : ks'.length = ks.length) (h : ∀ i, i < ks.length → Par l (ks.getD i zeroT) (ks'.getD i zeroT)) (hr : rootI l (.mk k n a ls ks) = some u) :
    ∃ u', rootI l (.mk k n a ls ks') = some u' ∧ Par l u u' := by
  have hp : ∀ i, Par l ((T.mk k n a ls ks).kid i) ((T.mk k n a ls ks').kid i) := fun i => par_all hl h i
  generalize ht : T.mk k n a ls ks = t at hr hp
  generalize hu : T.mk k n a ls ks' = t' at hp
  have e1 : t'.k = t.k := by rw [← ht, ← hu]; rfl
  have e2 : t'.n = t.n := by rw [← ht, ← hu]; rfl
  have e3 : t'.a = t.a := by rw [← ht, ← hu]; rfl
  have e4 : t'.ls = t.ls := by rw [← ht, ← hu]; rfl
  have e5 : t'.ks.length = t.ks.length := by rw [← ht, ← hu]; exact hl
  rcases rootI_cases hr with ⟨h1, h2, rfl⟩ | ⟨h1, h2, rfl⟩ | ⟨h1, h2, rfl⟩ | ⟨h1, rfl⟩ | ⟨h1, h2⟩ | ⟨h1, h2, rfl⟩ | ⟨h1, h2, rfl⟩ | ⟨h1, h2, h3, h4, h5, h6, rfl⟩
  · obtain ⟨p1, -, -, p4⟩ := par_con (hp 0) (by omega)
    exact ⟨_, rootI_of (.inl ⟨by omega, by omega, rfl⟩), par_put hc (hp 1) (p4 1) 0⟩
  · obtain ⟨p1, -, -, p4⟩ := par_con (hp 0) (by omega)
    exact ⟨_, rootI_of (.inr (.inl ⟨by omega, by omega, rfl⟩)), p4 0⟩
  · obtain ⟨p1, -, -, p4⟩ := par_con (hp 0) (by omega)
    exact ⟨_, rootI_of (.inr (.inr (.inl ⟨by omega, by omega, rfl⟩))), p4 1⟩
  · exact ⟨_, rootI_of (.inr (.inr (.inr (.inl ⟨by omega, rfl⟩)))), par_put hc (hp 1) (hp 2) 0⟩
  · exact ⟨_, rootI_of (.inr (.inr (.inr (.inr (.inl ⟨by omega, by rw [e2, e4]; exact h2⟩))))), .refl l _⟩
  · obtain ⟨p1, -, -, p4⟩ := par_con (hp 4) (by omega)
    exact ⟨_, rootI_of (.inr (.inr (.inr (.inr (.inr (.inl ⟨by omega, by omega, rfl⟩)))))), par_tree hc hp p4⟩
  · obtain ⟨p1, -, -, p4⟩ := par_con (hp 5) (by omega)
    exact ⟨_, rootI_of (.inr (.inr (.inr (.inr (.inr (.inr (.inl ⟨by omega, by omega, rfl⟩))))))), hp 3⟩
  · obtain ⟨p1, p2, -, p4⟩ := par_con (hp (t.a.toNat + 1)) (by omega)
    refine ⟨_, rootI_of (.inr (.inr (.inr (.inr (.inr (.inr (.inr ⟨by omega, by omega, by omega, by rw [e3]; omega, by rw [e3]; omega, by rw [e3]; omega, rfl⟩))))))), ?_⟩
    rw [e3, p2]
    exact hp _
mutual
/-- all steps that there are, and those that come to be above -/
def T.sdev (l : List C) : T → T
  | .mk k n a ls ks => (rootI l (.mk k n a ls (T.sdevs l ks))).getD (.mk k n a ls (T.sdevs l ks))
def T.sdevs (l : List C) : List T → List T
  | [] => []
  | t :: r => T.sdev l t :: T.sdevs l r
end
theorem sdevs_len (l : List C) : ∀ ks : List T, (T.sdevs l ks).length = ks.length
  | [] => by rw [T.sdevs]
  | t :: r => by rw [T.sdevs, List.length_cons, List.length_cons, sdevs_len l r]
theorem sdevs_getD (l : List C) : ∀ (ks : List T) (i : Nat), i < ks.length → (T.sdevs l ks).getD i zeroT = T.sdev l (ks.getD i zeroT)
  | [], i, h => by simp at h
  | t :: r, 0, h => by rw [T.sdevs]; simp
  | t :: r, i + 1, h => by rw [T.sdevs, List.getD_cons_succ, List.getD_cons_succ, sdevs_getD l r i (by simpa using h)]
theorem par_sdev {l : List C} (hc : Closed l) {t u : T} (h : Par l t u) : Par l u (T.sdev l t) := by
  induction h with
  | @node k m a ls ks ks' hl h ih =>
    rw [T.sdev]
    have hk : ∀ i, i < ks'.length → Par l (ks'.getD i zeroT) ((T.sdevs l ks).getD i zeroT) := fun i hi => by rw [sdevs_getD l ks i (by omega)]; exact ih i (by omega)
    cases hr : rootI l (.mk k m a ls (T.sdevs l ks)) with
    | none => exact .node (by rw [sdevs_len, hl]) hk
    | some v => exact .red (by rw [sdevs_len, hl]) hk hr
  | @red k m a ls ks ks' u hl h hr ih =>
    rw [T.sdev]
    have hk : ∀ i, i < ks'.length → Par l (ks'.getD i zeroT) ((T.sdevs l ks).getD i zeroT) := fun i hi => by rw [sdevs_getD l ks i (by omega)]; exact ih i (by omega)
    obtain ⟨v, hv, hp⟩ := root_par hc (by rw [sdevs_len, hl]) hk hr
    rw [hv]
    exact hp
inductive Pars (l : List C) : T → T → Prop where
  | refl (t : T) : Pars l t t
  | step {t u v : T} (h : Par l t u) (r : Pars l u v) : Pars l t v
theorem Pars.trans {l : List C} {t u v : T} (h : Pars l t u) (g : Pars l u v) : Pars l t v := by
  induction h with
  | refl t => exact g
  | step h r ih => exact .step h (ih g)
theorem pars_strip {l : List C} (hc : Closed l) {t u : T} (h : Pars l t u) : ∀ {v : T}, Par l t v → ∃ w, Par l u w ∧ Pars l v w := by
  induction h with
  | refl t => intro v hv; exact ⟨v, hv, .refl v⟩
  | @step t u v h r ih =>
    intro w hw
    obtain ⟨x, h1, h2⟩ := ih (par_sdev hc h)
    exact ⟨x, h1, .step (par_sdev hc hw) h2⟩
/-- they meet -/
theorem pars_meet {l : List C} (hc : Closed l) {t u : T} (h : Pars l t u) : ∀ {v : T}, Pars l t v → ∃ w, Pars l u w ∧ Pars l v w := by
  induction h with
  | refl t => intro v hv; exact ⟨v, hv, .refl v⟩
  | @step t u v h r ih =>
    intro w hw
    obtain ⟨x, h1, h2⟩ := pars_strip hc hw h
    obtain ⟨y, h3, h4⟩ := ih h2
    exact ⟨y, h3, .step h1 h4⟩
mutual
/-- no step anywhere -/
def NoRed (l : List C) : T → Prop
  | .mk k n a ls ks => rootI l (.mk k n a ls ks) = none ∧ NoReds l ks
def NoReds (l : List C) : List T → Prop
  | [] => True
  | t :: r => NoRed l t ∧ NoReds l r
end
theorem getD_ext {a b : List T} (hl : b.length = a.length) (h : ∀ i, i < a.length → b.getD i zeroT = a.getD i zeroT) : b = a := by
  apply List.ext_getElem hl
  intro i h1 h2
  have := h i h2
  rw [getD_in h2, getD_in h1] at this
  exact this
end Go.Proofs.YtgloldepdhgfaaaGreatDoor
namespace Go.Proofs.YtgloldepdhgfaaaGreatDoor
set_option linter.unusedSimpArgs false
set_option linter.unusedVariables false
set_option maxHeartbeats 10000000
set_option maxRecDepth 20000
open Go.RowKit
attribute [local simp] wpAft_ret wpAft_pan wantD evOp opD tmOf putS updS setS hOf isFree isTok fillD TK.isAgg TK.known partD thenD blockD putAll D.ofV inB nilTest isNilS binX binD binE isCst bndD capB IntKind.min IntKind.max IntKind.signed IntKind.bits dstOf late
def sortedB : LV → Bool
  | [] => true
  | [_] => true
  | a :: b :: r => decide (a.1 < b.1) && sortedB (b :: r)
def partBad (n : Int) (p : Int × Int) : Bool := decide (p.1 < 0) || decide (n < p.1) || decide (p.2 < 0) || decide (1000 < p.2)
def levelRight (l : LV) (n : Int) : Bool := sortedB l && decide (l.length ≤ 9) && !(l.any (partBad n))
end Go.Proofs.YtgloldepdhgfaaaGreatDoor
namespace Go.Proofs.YtgloldepdhgfaaaGreatDoor
set_option linter.unusedSimpArgs false
set_option linter.unusedVariables false
open Go.RowKit
def bareB (t : T) : Bool := decide (t.n = 0) && decide (t.a = 0) && decide (t.ls = [])
def variableB (sc : Int) (t : T) : Bool := decide (0 ≤ t.n) && decide (t.n < sc) && decide (t.a = 0) && decide (t.ls = [])
def finB (t : T) : Bool := decide (0 ≤ t.n) && decide (t.a = 0) && decide (t.ls = [])
def elemB (t : T) : Bool := decide (0 ≤ t.n) && decide (t.n < t.a) && decide (t.ls = [])
def branchesB (t : T) : Bool := decide (t.n = 0) && decide (0 ≤ t.a) && decide (t.ls = [])
def sortB (n : Int) (t : T) : Bool := decide (t.n = 0) && decide (t.a = 0) && decide (t.ls.length = 1) && (t.ls.all fun l => levelRight l n)
def constB (n : Int) (cs : List Int) (t : T) : Bool := decide (0 ≤ t.n) && decide (t.n < cs.length) && decide (t.a = 0) && decide ((t.ls.length : Int) = cs.getD t.n.toNat 0) && (t.ls.all fun l => levelRight l n)
/-- what a kind asks of its term; how many kids -/
def askC (n sc : Int) (cs : List Int) (t : T) : Bool :=
  if t.k = 1 then variableB sc t else if t.k = 2 then sortB n t else if t.k = 3 then constB n cs t else if t.k = 22 then finB t else if t.k = 23 then elemB t else if t.k = 24 then branchesB t else bareB t
def askN (k a : Int) : Int :=
  if k = 7 ∨ k = 19 then 3 else if k = 14 ∨ k = 15 then 1 else if k = 18 then 5 else if k = 21 then 6 else if k = 24 then IntKind.i64.wrap (a + 2) else if k = 1 ∨ k = 2 ∨ k = 3 ∨ k = 20 ∨ k = 22 ∨ k = 23 then 0 else 2
def inCore (k : Int) : Bool := (decide (1 ≤ k) && decide (k ≤ 7)) || (decide (12 ≤ k) && decide (k ≤ 24))
/-- a node, but for its kids -/
def nodeB (n sc : Int) (cs : List Int) (t : T) : Bool := inCore t.k && askC n sc cs t && decide ((t.ks.length : Int) = askN t.k t.a)
mutual
def coreB (n : Int) (cs : List Int) : T → Int → Bool
  | .mk k m a ls ks, sc => nodeB n sc cs (.mk k m a ls ks) && coreKs n cs ks k 0 sc
def coreKs (n : Int) (cs : List Int) : List T → Int → Nat → Int → Bool
  | [], _, _, _ => true
  | t :: r, k, i, sc => coreB n cs t (belowD sc k i) && coreKs n cs r k (i + 1) sc
end
end Go.Proofs.YtgloldepdhgfaaaGreatDoor
namespace Go.Proofs.YtgloldepdhgfaaaGreatDoor
set_option linter.unusedSimpArgs false
set_option linter.unusedVariables false
open Go.RowKit
theorem belowD_in {d k i : Int} (h : -1000000000000000 ≤ d) (h2 : d ≤ 1000000000000000) : belowD d k i = if bindsB k i then d + 1 else d := by
  unfold belowD
  split
  · rw [i64w (by omega) (by omega)]
  · rfl
theorem belowD_le {d k i : Int} (h : -1000000000000000 ≤ d) (h2 : d ≤ 1000000000000000) : d ≤ belowD d k i ∧ belowD d k i ≤ d + 1 := by
  rw [belowD_in h h2]; split <;> omega
/-- more constants: each as it was -/
def ConstsLe (cs cs' : List Int) : Prop := cs.length ≤ cs'.length ∧ ∀ i, i < cs.length → cs'.getD i 0 = cs.getD i 0
theorem ConstsLe.refl (cs : List Int) : ConstsLe cs cs := ⟨Nat.le_refl _, fun _ _ => rfl⟩
theorem ConstsLe.append (cs more : List Int) : ConstsLe cs (cs ++ more) := by
  refine ⟨by simp, fun i hi => ?_⟩
  rw [List.getD_eq_getElem?_getD, List.getD_eq_getElem?_getD, List.getElem?_append_left hi]
def ScOk (sc : Int) (t : T) : Prop := 0 ≤ sc ∧ sc + t.deep ≤ 1000000000000000
theorem ScOk.kid {sc k m a : Int} {ls : List LV} {ks : List T} (h : ScOk sc (.mk k m a ls ks)) {t : T} (ht : t ∈ ks) (i : Int) : ScOk (belowD sc k i) t := by
  have h1 := T.deep_kid (k := k) (n := m) (a := a) (ls := ls) ht
  obtain ⟨h2, h3⟩ := h
  have := belowD_le (d := sc) (k := k) (i := i) (by omega) (by omega)
  unfold ScOk
  omega
/-! levels -/
/-- no Plus above one -/
def lowL (most : Int) (l : LV) : Bool := l.all fun p => decide (p.2 ≤ most)
mutual
def T.lowB (most : Int) : T → Bool
  | .mk _ _ _ ls ks => ls.all (lowL most) && T.lowsB most ks
def T.lowsB (most : Int) : List T → Bool
  | [] => true
  | t :: r => T.lowB most t && T.lowsB most r
end
end Go.Proofs.YtgloldepdhgfaaaGreatDoor
namespace Go.Proofs.YtgloldepdhgfaaaGreatDoor
set_option linter.unusedSimpArgs false
set_option linter.unusedVariables false
open Go.RowKit
/-- a node of a right shape -/
def wsN (k n a : Int) (len sc : Nat) : Prop := inCore k = true ∧ (k = 1 → 0 ≤ n ∧ n < sc) ∧ (len : Int) = askN k a ∧ (k = 24 → 0 ≤ a)
inductive Ws : T → Nat → Prop where
  | mk {k n a : Int} {ls : List LV} {ks : List T} {sc : Nat} (h : wsN k n a ks.length sc) (hk : ∀ i, i < ks.length → Ws (ks.getD i zeroT) (up1 sc k i)) : Ws (.mk k n a ls ks) sc
theorem Ws.node {t : T} {sc : Nat} (h : Ws t sc) : wsN t.k t.n t.a t.ks.length sc := by cases h; assumption
theorem Ws.kid {t : T} {sc : Nat} (h : Ws t sc) {i : Nat} (hi : i < t.ks.length) : Ws (t.kid i) (up1 sc t.k i) := by cases h with | mk h hk => exact hk i hi
theorem ws_closed {t : T} {sc : Nat} (h : Ws t sc) : (∀ n c, sc ≤ c → t.liftI n c = t) ∧ ∀ x d, sc ≤ d → T.putI x t d = t := by
  induction h with
  | @mk k m a ls ks sc h hk ih =>
    constructor
    · intro n c hc
      rw [T.liftI, if_neg (by rintro ⟨e1, e2⟩; have := h.2.1 e1; omega)]
      rw [getD_ext (a := ks) (liftsI_len _ _ _ _ _) fun i hi => by
        rw [liftsI_getD, Nat.zero_add]; exact (ih i hi).1 n _ (up1_le hc k i)]
    · intro x d hd
      rw [T.putI, if_neg (by rintro ⟨e1, e2⟩; have := h.2.1 e1; omega), if_neg (by rintro ⟨e1, e2⟩; have := h.2.1 e1; omega)]
      rw [getD_ext (a := ks) (putsI_len _ _ _ _ _) fun i hi => by
        rw [putsI_getD, Nat.zero_add]; exact (ih i hi).2 x _ (up1_le hd k i)]
/-! the machine's lifting and putting -/
def SB : Nat := 1099511627776
end Go.Proofs.YtgloldepdhgfaaaGreatDoor
namespace Go.Proofs.YtgloldepdhgfaaaGreatDoor
set_option linter.unusedSimpArgs false
set_option linter.unusedVariables false
open Go.RowKit
theorem kid_at {t : T} {i : Nat} (h : i < t.ks.length) : t.kid i = t.ks[i] := by unfold T.kid; rw [List.getD_eq_getElem?_getD, List.getElem?_eq_getElem h]; rfl
theorem withK_same {ks : List T} {i many : Nat} (h : ks.length = many) : withK ks (ks.getD i zeroT) i many = ks := by
  apply List.ext_getElem (by rw [withK_len, h])
  intro j h1 h2
  rw [withK_len] at h1
  have := withK_get (ks := ks) (x := ks.getD i zeroT) (i := i) h1
  rw [List.getD_eq_getElem?_getD, List.getElem?_eq_getElem (by rw [withK_len]; exact h1)] at this
  simp only [Option.getD_some] at this
  rw [this]
  split
  · rename_i e; subst e; simp [h2]
  · simp [h2]
theorem with_same {t : T} {i many : Nat} (h : t.ks.length = many) : t.withT (t.kid i) i many = t := by
  cases t with
  | mk k n a ls ks => unfold T.withT T.kid; simp only [T.k_mk, T.n_mk, T.a_mk, T.ls_mk, T.ks_mk] at h ⊢; rw [withK_same h]
/-- what the statement asks of constants -/
structure BodyOk (cs : List Int) (l : List C) : Prop where
  eq : cs = l.map C.lv
  lv : ∀ c, c ∈ l → 0 ≤ c.lv ∧ c.lv ≤ 8
  bo : ∀ c, c ∈ l → c.has = true → coreB c.lv cs c.bo 0 = true
  low : ∀ c, c ∈ l → c.bo.lowB 400 = true
  deep : ∀ c, c ∈ l → c.bo.deep ≤ 1000000
end Go.Proofs.YtgloldepdhgfaaaGreatDoor
namespace Go.Proofs.YtgloldepdhgfaaaGreatDoor
set_option linter.unusedSimpArgs false
set_option linter.unusedVariables false
open Go.RowKit
/-- constants' bodies are closed and right in shape -/
def WsL (l : List C) : Prop := ∀ n lv b, bodyC l n lv = some b → Ws b 0
theorem WsL.closed {l : List C} (h : WsL l) : Closed l := fun n lv b hb => by
  have := ws_closed (h n lv b hb)
  exact ⟨fun m c => this.1 m c (Nat.zero_le _), fun x d => this.2 x d (Nat.zero_le _)⟩
end Go.Proofs.YtgloldepdhgfaaaGreatDoor
namespace Go.Proofs.YtgloldepdhgfaaaGreatDoor
set_option linter.unusedSimpArgs false
set_option linter.unusedVariables false
open Go.RowKit
theorem CallOK.deepA {P : Program} {G : Nat → Option D} {f : FuncId} {args' : List D} {hh : Nat → HO} {out : Out} {rd : List Nat} {up : List (Nat × HO)} (h : CallOK P G f (D.deeps args') hh out rd up) : CallOK P G f args' hh out rd up :=
  fun ρ w H vs hR hx hvs => h ρ w H vs hR hx (RpL_deep _ _ hvs)
theorem CallX.pureD {P : Program} {G : Nat → Option D} (hG : ∀ g d, G g = some d → d.pure = true) {f : FuncId} {args args' : List D} {out : Out} (h : Spec P G f args [] (fun o _ => o.fgt = out)) {hl : List HO} {K : Out → List HO → Prop} (hK : K out hl) (ha : D.fgts (D.deeps args') = args) (hp : D.pures args = true) (ho : out.pure = true) : CallX P G f args' hl K :=
  ⟨fun o up => o = out ∧ up = [], (CallOK.deepA (CallOK.pure hG h ha hp ho _)).toR, fun o up ⟨h1, h2⟩ => by subst h1; subst h2; exact hK⟩
theorem CallY.pureD {P : Program} {G : Nat → Option D} (hG : ∀ g d, G g = some d → d.pure = true) {f : FuncId} {args args' : List D} {out : Out} (h : Spec P G f args [] (fun o _ => o.fgt = out)) {hl : List HO} {K : Out → List Nat → List (Nat × HO) → Prop} (hK : K out [] []) (ha : D.fgts (D.deeps args') = args) (hp : D.pures args = true) (ho : out.pure = true) : CallY P G f args' hl K :=
  ⟨out, [], [], CallOK.deepA (CallOK.pure hG h ha hp ho _), hK⟩
/-- behind a statement whose ends are many, of which something is told: a -/
theorem wpD_seqE {P : Program} {G : Nat → Option D} {M : Nat} {Q : DX → List D → List HO → Df → Prop} {tl : List D} {hl : List HO} {df : Df} {α : Type} {x y : Code} (W : List Nat) (ds : α → List D) (hl1 : α → List HO) (Pre : α → Prop) (h1 : ∀ a, Pre a → wpD P G M y Q (putAll tl W (ds a)) (hl1 a) df)
    (h2 : ∀ K : List D → List HO → Df → Prop, (∀ a tl', Pre a → leT (putAll tl W (ds a)) tl' → K tl' (hl1 a) df) → wpD P G M x (thenD K Q) tl hl df) : wpD P G M (.seq x y) Q tl hl df :=
  wpD_seqk fun K hK => h2 K fun a tl' hp h => hK _ _ _ (wpD_weak h (h1 a hp))
@[simp high] theorem encP_deep (p : Int × Int) : (encP p).deep = encP p := rfl
theorem mapP_deep (l : LV) : D.deeps (l.map encP) = l.map encP := by rw [D.deeps_map, List.map_map]; rfl
@[simp high] theorem mapP_deep' (l : LV) : D.deeps (l.map encP) = l.map encP := mapP_deep l
@[simp high] theorem encL_deep (l : LV) : (encL l).deep = encL l := by
  unfold encL
  simp only [D.deep, D.deeps, mapP_deep]
@[simp high] theorem mapL_deep (l : List LV) : D.deeps (l.map encL) = l.map encL := by
  rw [D.deeps_map, List.map_map]
  exact List.map_congr_left fun x _ => encL_deep x
@[simp high] theorem encT_deep (t : T) : (encT t).deep = encT t := by
  induction t using T.ind with
  | h k n a ls ks ih =>
    rw [encT_eq]
    have : D.deeps (ks.map encT) = ks.map encT := by
      rw [D.deeps_map, List.map_map]
      exact List.map_congr_left fun x hx => ih x hx
    simp only [D.deep, D.deeps, mapL_deep, T.ks_mk, this]
@[simp high] theorem mapT_deep (l : List T) : D.deeps (l.map encT) = l.map encT := by
  rw [D.deeps_map, List.map_map]
  exact List.map_congr_left fun x _ => encT_deep x
@[simp high] theorem mapI_deep (l : List Int) : D.deeps (l.map (.int .i64)) = l.map (.int .i64) := by
  rw [D.deeps_map, List.map_map]; rfl
end Go.Proofs.YtgloldepdhgfaaaGreatDoor
namespace Go.Proofs.YtgloldepdhgfaaaGreatDoor
set_option linter.unusedSimpArgs false
set_option linter.unusedVariables false
open Go.RowKit
def encC (c : C) : D := .agg [.int .i64 c.lv, .int .i64 c.ty.k, .int .i64 c.ty.n, .int .i64 c.ty.a, .slice (c.ty.ls.map encL) .any, .slice (c.ty.ks.map encT) .any, .bool c.has, .int .i64 c.bo.k, .int .i64 c.bo.n, .int .i64 c.bo.a, .slice (c.bo.ls.map encL) .any, .slice (c.bo.ks.map encT) .any]
def Cs (l : List C) : D := .slice (l.map encC) .any
def zeroC : C := ⟨0, zeroT, false, zeroT⟩
@[simp high] theorem encC_pure (c : C) : (encC c).pure = true := by simp [encC, D.pure, D.pures, Cp.free]
@[simp high] theorem encC_fgt (c : C) : (encC c).fgt = encC c := by simp [encC, D.fgt, D.fgts]
@[simp high] theorem encC_size (c : C) : (encC c).size = 12 := rfl
@[simp high] theorem encC_cells (c : C) : (encC c).cells = [.int .i64 c.lv, .int .i64 c.ty.k, .int .i64 c.ty.n, .int .i64 c.ty.a, .slice (c.ty.ls.map encL) .any, .slice (c.ty.ks.map encT) .any, .bool c.has, .int .i64 c.bo.k, .int .i64 c.bo.n, .int .i64 c.bo.a, .slice (c.bo.ls.map encL) .any, .slice (c.bo.ks.map encT) .any] := rfl
@[simp high] theorem encC_frz (bx : FK) (i : Nat) (x : D) (c : C) : D.frz bx i x (encC c) = encC c := D.frz_pure bx i x _ (encC_pure c)
@[simp high] theorem mapC_frz (bx : FK) (i : Nat) (x : D) (l : List C) : D.frzs bx i x (l.map encC) = l.map encC := D.frzs_pure bx i x _ (by simp [D.pures_map])
@[simp high] theorem encC_low (m : Nat) (c : C) : (encC c).low m = true := D.low_pure m _ (encC_pure c)
@[simp high] theorem mapC_low (m : Nat) (l : List C) : D.lows m (l.map encC) = true := D.lows_pure m _ (by simp [D.pures_map])
@[simp high] theorem encC_okN (p : Nat → Bool) (c : C) : (encC c).okN p = true := D.okN_pure p _ (encC_pure c)
@[simp high] theorem encC_ren (σ : Nat → Nat) (c : C) : D.ren σ (encC c) = encC c := D.ren_pure σ _ (encC_pure c)
@[simp high] theorem mapC_okN (p : Nat → Bool) (l : List C) : D.okNs p (l.map encC) = true := D.okNs_pure p _ (by simp [D.pures_map])
@[simp high] theorem mapC_ren (σ : Nat → Nat) (l : List C) : D.rens σ (l.map encC) = l.map encC := D.rens_pure σ _ (by simp [D.pures_map])
@[simp high] theorem mapC_pures (l : List C) : D.pures (l.map encC) = true := by simp [D.pures_map]
@[simp high] theorem encC_deep (c : C) : (encC c).deep = encC c := by simp only [encC, D.deep, D.deeps, mapL_deep, mapT_deep]
@[simp high] theorem mapC_deep (l : List C) : D.deeps (l.map encC) = l.map encC := by
  rw [D.deeps_map, List.map_map]
  exact List.map_congr_left fun x _ => encC_deep x
theorem encZ : encT zeroT = .agg [.int .i64 0, .int .i64 0, .int .i64 0, .slice [] .any, .slice [] .any] := encT_eq _
/-- a kid of a number -/
def kidI (t : T) (n : Int) : T := if n < 0 then zeroT else t.kid n.toNat
theorem kidI_nat (t : T) (n : Nat) : kidI t (n : Int) = t.kid n := by unfold kidI; rw [if_neg (by omega)]; rfl
theorem encT_mk' (k n a : Int) (ls : List LV) (ks : List T) : encT (.mk k n a ls ks) = .agg [.int .i64 k, .int .i64 n, .int .i64 a, .slice (ls.map encL) .any, .slice (ks.map encT) .any] := encT_eq _
/-- who brings to the head -/
def headD (left : Int) (l : List C) (once done : Bool) : HO := .cells 93 [.int .i64 left, Cs l, .bool once, .bool done, .map 1]
def goneD : D := .iface 129 (.agg [])
/-! sizes as the machine counts -/
mutual
def T.sdw (many : Int) : T → Int → Int
  | .mk k n _ _ ks, b => if k = 1 ∧ n = b then many else T.sdws many k ks 0 b 1
def T.sdws (many k : Int) : List T → Nat → Int → Int → Int
  | [], _, _, s => s
  | t :: r, i, b, s => T.sdws many k r (i + 1) b (IntKind.i64.wrap (s + T.sdw many t (belowD b k i)))
end
theorem wrap_both (a b : Int) : IntKind.i64.wrap (IntKind.i64.wrap a + IntKind.i64.wrap b) = IntKind.i64.wrap (a + b) := by
  simp only [IntKind.wrap_i64]; omega
mutual
theorem sz_true : ∀ t : T, t.sz = IntKind.i64.wrap (t.nsz : Int)
  | .mk k n a ls ks => by
    rw [T.sz, T.nsz, szs_true ks 1 1 (by rfl)]
theorem szs_true : ∀ (ks : List T) (s : Int) (m : Nat), s = IntKind.i64.wrap (m : Int) → T.szs ks s = IntKind.i64.wrap ((m + T.nszs ks : Nat) : Int)
  | [], s, m, h => by rw [T.szs, T.nszs, h]; rfl
  | t :: r, s, m, h => by
    rw [T.szs, T.nszs, szs_true r _ (m + t.nsz) (by
      rw [h, sz_true t, wrap_both, Int.natCast_add])]
    congr 2
    omega
end
mutual
theorem sdw_true (many : Nat) : ∀ (t : T) (b : Int), T.sdw (IntKind.i64.wrap (many : Int)) t b = IntKind.i64.wrap ((t.sd many b : Nat) : Int)
  | .mk k n a ls ks, b => by
    rw [T.sdw, T.sd]
    split
    · rfl
    · rw [sdws_true many k ks 0 b 1 1 (by rfl)]
theorem sdws_true (many : Nat) (k : Int) : ∀ (ks : List T) (i : Nat) (b s : Int) (m : Nat), s = IntKind.i64.wrap (m : Int) → T.sdws (IntKind.i64.wrap (many : Int)) k ks i b s = IntKind.i64.wrap ((m + T.sds many k ks i b : Nat) : Int)
  | [], i, b, s, m, h => by rw [T.sdws, T.sds, h]; rfl
  | t :: r, i, b, s, m, h => by
    rw [T.sdws, T.sds, sdws_true many k r (i + 1) b _ (m + t.sd many (belowD b k i)) (by
      rw [h, sdw_true many t, wrap_both, Int.natCast_add])]
    congr 2
    omega
end
end Go.Proofs.YtgloldepdhgfaaaGreatDoor
namespace Go.Proofs.YtgloldepdhgfaaaGreatDoor
set_option linter.unusedSimpArgs false
set_option linter.unusedVariables false
set_option maxHeartbeats 10000000
set_option maxRecDepth 20000
open Go.RowKit
attribute [local simp] wpAft_ret wpAft_pan wantD evOp opD tmOf putS updS setS hOf isFree isTok fillD TK.isAgg TK.known partD thenD blockD putAll D.ofV inB nilTest isNilS binX binD binE isCst bndD capB IntKind.min IntKind.max IntKind.signed IntKind.bits dstOf late
theorem kid_spec (t : T) (n : Int) : Spec Tryz.prog glob 97 [encT t, .int .i64 n] [] (fun o _ => o.fgt = .ret (encT (kidI t n))) := by
  obtain ⟨r, hr⟩ : ∃ r, r = kidI t n := ⟨_, rfl⟩
  rw [← hr]
  rw [encT_eq t]
  refine Spec.movd globPure (wpD_spec tyOK Tryz.func97 rfl (enters _ _ Tryz.func97 rfl (by decide)) rfl rfl ?_)
  (refine wpD_seqk fun K hK => ?_; refine wpD_region tyOK ?_; ((repeat (rw [wpS_cons]; simp)); (try simp only [wpS_nil, thenD, blockD])); refine hK _ _ _ ?_; clear hK K)
  refine wpD_seqk fun K1 hK1 => ?_
  by_cases h1 : n < 0
  · rw [show kidI t n = zeroT from by unfold kidI; rw [if_pos h1]] at hr
    subst hr
    (refine wpD_seqk fun K hK => ?_; refine wpD_region tyOK ?_; ((repeat (rw [wpS_cons]; simp [h1])); (try simp only [wpS_nil, thenD, blockD])); refine hK _ _ _ ?_; clear hK K)
    refine wpD_part rfl (fun _ => ?_) (fun h => by simp at h)
    (refine wpD_seqk fun K hK => ?_; refine wpD_region tyOK ?_; ((repeat (rw [wpS_cons]; simp)); (try simp only [wpS_nil, thenD, blockD])); refine hK _ _ _ ?_; clear hK K)
    (refine wpD_ret ?_; (try simp only [thenD, blockD]); refine EndQ.ret rfl (.inl ?_); simp [tmOf, Out.fgt, D.fgt, D.fgts])
    exact encZ.symm
  · obtain ⟨j, rfl⟩ : ∃ j : Nat, n = j := ⟨n.toNat, by omega⟩
    rw [kidI_nat] at hr
    unfold T.kid at hr
    rw [List.getD_eq_getElem?_getD] at hr
    by_cases h2 : j < t.ks.length
    · have h2' : (j : Int) < t.ks.length := by omega
      have h2n : ¬ t.ks.length ≤ j := by omega
      rw [List.getElem?_eq_getElem h2, Option.getD_some] at hr
      have hEr := encT_eq r
      have hx : t.ks[j] = r := hr.symm
      (refine wpD_seqk fun K hK => ?_; refine wpD_region tyOK ?_; ((repeat (rw [wpS_cons]; simp [h1, h2, h2', h2n])); (try simp only [wpS_nil, thenD, blockD])); refine hK _ _ _ ?_; clear hK K)
      refine wpD_part rfl (fun h => by simp at h) (fun _ => ?_)
      refine wpD_skip (hK1 _ _ _ ?_)
      (refine wpD_seqk fun K hK => ?_; refine wpD_region tyOK ?_; ((repeat (rw [wpS_cons]; simp [h1, h2, h2', hx, hEr])); (try simp only [wpS_nil, thenD, blockD])); refine hK _ _ _ ?_; clear hK K)
      (refine wpD_ret ?_; (try simp only [thenD, blockD]); refine EndQ.ret rfl (.inl ?_); simp [tmOf, Out.fgt, D.fgt, D.fgts])
      exact hEr.symm
    · have h2' : ¬ (j : Int) < t.ks.length := by omega
      have h2n : t.ks.length ≤ j := by omega
      rw [List.getElem?_eq_none h2n, Option.getD_none] at hr
      subst hr
      (refine wpD_seqk fun K hK => ?_; refine wpD_region tyOK ?_; ((repeat (rw [wpS_cons]; simp [h1, h2, h2', h2n])); (try simp only [wpS_nil, thenD, blockD])); refine hK _ _ _ ?_; clear hK K)
      refine wpD_part rfl (fun _ => ?_) (fun h => by simp at h)
      (refine wpD_seqk fun K hK => ?_; refine wpD_region tyOK ?_; ((repeat (rw [wpS_cons]; simp)); (try simp only [wpS_nil, thenD, blockD])); refine hK _ _ _ ?_; clear hK K)
      (refine wpD_ret ?_; (try simp only [thenD, blockD]); refine EndQ.ret rfl (.inl ?_); simp [tmOf, Out.fgt, D.fgt, D.fgts])
      exact encZ.symm
theorem hof_spec (k : Int) (ks : List T) : Spec Tryz.prog glob 145 [.int .i64 k, .slice (ks.map encT) .any] [] (fun o _ => o.fgt = .ret (encT (ofT k ks))) := by
  unfold ofT
  rw [encT_mk']
  refine Spec.movd globPure (wpD_spec tyOK Tryz.func145 rfl (enters _ _ Tryz.func145 rfl (by decide)) rfl rfl ?_)
  (refine wpD_seqk fun K hK => ?_; refine wpD_region tyOK ?_; ((repeat (rw [wpS_cons]; simp)); (try simp only [wpS_nil, thenD, blockD])); refine hK _ _ _ ?_; clear hK K)
  (refine wpD_seqk fun K hK => ?_; refine wpD_region tyOK ?_; ((repeat (rw [wpS_cons]; simp)); (try simp only [wpS_nil, thenD, blockD])); refine hK _ _ _ ?_; clear hK K)
  (refine wpD_ret ?_; (try simp only [thenD, blockD]); refine EndQ.ret rfl (.inl ?_); simp [tmOf, Out.fgt, D.fgt, D.fgts])
/-- the kids so far -/
def wkT (ks : List T) (x : T) (i j : Nat) : List T := withK ks x i j
theorem wkT_succ (ks : List T) (x : T) (i j : Nat) : wkT ks x i (j + 1) = wkT ks x i j ++ [if j = i then x else ks.getD j zeroT] := by
  unfold wkT withK; rw [List.range_succ, List.map_append]; rfl
theorem wkT_len (ks : List T) (x : T) (i j : Nat) : (wkT ks x i j).length = j := withK_len ks x i j
theorem with_spec (t x : T) (i many : Nat) (hm : many ≤ LMax) : Spec Tryz.prog glob 96 [encT t, encT x, .int .i64 i, .int .i64 many] [] (fun o _ => o.fgt = .ret (encT (t.withT x i many))) := by
  obtain ⟨kk, nn, aa, ls, ks⟩ := t
  have hT : (T.mk kk nn aa ls ks).withT x i many = .mk kk nn aa ls (wkT ks x i many) := rfl
  rw [hT]
  have hEx := encT_eq x
  have hk := fun j : Nat => kid_spec (.mk kk nn aa ls ks) j
  simp only [kidI_nat] at hk
  unfold T.kid at hk
  simp only [T.ks_mk] at hk
  simp only [encT_mk'] at hk ⊢
  rw [hEx]
  refine Spec.movd globPure (wpD_spec tyOK Tryz.func96 rfl (enters _ _ Tryz.func96 rfl (by decide)) rfl rfl ?_)
  (refine wpD_seqk fun K hK => ?_; refine wpD_region tyOK ?_; ((repeat (rw [wpS_cons]; simp)); (try simp only [wpS_nil, thenD, blockD])); refine hK _ _ _ ?_; clear hK K)
  (refine wpD_seqk fun K hK => ?_; refine wpD_region tyOK ?_; ((repeat (rw [wpS_cons]; simp)); (try simp only [wpS_nil, thenD, blockD])); refine hK _ _ _ ?_; clear hK K)
  refine wpD_tokO 3 4 (ty := 27) (ds := [.int .i64 kk, .int .i64 nn, .int .i64 aa, .slice (ls.map encL) .any, .slice [] .full]) rfl ?_
  simp [D.tokd]
  refine wpD_seqk fun K1 hK1 => ?_
  (refine wpD_seqk fun K hK => ?_; refine wpD_region tyOK ?_; ((repeat (rw [wpS_cons]; simp)); (try simp only [wpS_nil, thenD, blockD])); refine hK _ _ _ ?_; clear hK K)
  refine wpD_rangeJ tyOK globPure (ti := 3) (tk := 21) (tn := 20) (td := 22) (ts := 41) [10, 21, 22, 23, 24, 25, 26, 27, 28, 29, 30, 31, 32, 33, 34, 35, 36, 37, 38, 39, 40, 41] [] (many) (fun k ys hl => ys = [] ∧ hl = [.cells 27 [.int .i64 kk, .int .i64 nn, .int .i64 aa, .slice (ls.map encL) .any, .slice (ks.map encT) .any], .cells 27 [.int .i64 x.k, .int .i64 x.n, .int .i64 x.a, .slice (x.ls.map encL) .any, .slice (x.ks.map encT) .any], .cells 27 [.int .i64 0, .int .i64 0, .int .i64 0, .slice [] .full, .slice [] .full], .cells 27 [.int .i64 kk, .int .i64 nn, .int .i64 aa, .slice (ls.map encL) .any, .slice ((wkT ks x i k).map encT) (.tok 4)], .tok]) rfl rfl rfl rfl rfl rfl rfl rfl rfl rfl rfl rfl (by simp) (by decide) rfl (by first | assumption | omega | (unfold LMax; omega)) rfl (by kernel_rfl) (by decide) ?_ ?_ ?_
  · exact ⟨rfl, rfl⟩
  · rintro j ys hl A hj ⟨rfl, rfl⟩ hA hA2
    simp only [putAll, List.set, List.map_cons, List.map_nil, List.cons_append, List.nil_append]
    have hsn := wkT_succ ks x i j
    have hln := wkT_len ks x i j
    have hel : (wkT ks x i j).length + 1 ≤ LMax := by omega
    have hkj := hk j
    generalize ks.getD j zeroT = y at hsn hkj
    generalize wkT ks x i j = es at hsn hln hel ⊢
    (refine wpD_seqk fun K hK => ?_; refine wpD_region tyOK ?_; ((repeat (rw [wpS_cons]; simp)); (try simp only [wpS_nil, thenD, blockD])); refine hK _ _ _ ?_; clear hK K)
    refine wpD_seqk fun K2 hK2 => ?_
    by_cases hji : j = i
    · subst hji
      rw [if_pos rfl] at hsn
      (refine wpD_seqk fun K hK => ?_; refine wpD_region tyOK ?_; ((repeat (rw [wpS_cons]; simp)); (try simp only [wpS_nil, thenD, blockD])); refine hK _ _ _ ?_; clear hK K)
      refine wpD_part rfl (fun _ => ?_) (fun h => by simp at h)
      (refine wpD_seqk fun K hK => ?_; refine wpD_region tyOK ?_; ((repeat (rw [wpS_cons]; simp [hel])); (try simp only [wpS_nil, thenD, blockD])); refine hK _ _ _ ?_; clear hK K)
      refine wpD_exit ?_
      (refine hA2 ([0, 1, 2, 3, 5]) _ _ _ (LeT.refl _) (by decide) (by simp) (by simp [movT, movH, movD, D.mov, HO.mov, okM, renM, getW, D.ren, D.rens, D.okN, D.okNs, Cp.ren, Cp.okN, HO.ren, HO.okN, okA, renA, renO, hOf, handed, D.fgt, D.fgts, List.range_succ, List.idxOf_cons, putAll]) ?_ rfl; simp [movT, movH, movD, D.mov, HO.mov, okM, renM, getW, D.ren, D.rens, D.okN, D.okNs, Cp.ren, Cp.okN, HO.ren, HO.okN, okA, renA, renO, hOf, handed, D.fgt, D.fgts, List.range_succ, List.idxOf_cons])
      rw [hsn, ← hEx, show es.map encT ++ [encT x] = (es ++ [x]).map encT by simp, mapT_ren]
    · have hji' : ¬ (j : Int) = i := by omega
      rw [if_neg hji] at hsn
      (refine wpD_seqk fun K hK => ?_; refine wpD_region tyOK ?_; ((repeat (rw [wpS_cons]; simp [hji, hji'])); (try simp only [wpS_nil, thenD, blockD])); refine hK _ _ _ ?_; clear hK K)
      refine wpD_part rfl (fun h => by simp at h) (fun _ => ?_)
      refine wpD_skip (hK2 _ _ _ ?_)
      (refine wpD_drawk tyOK (by kernel_rfl) (by kernel_rfl) fun KT hKT => ?_; ((repeat (rw [wpT_cons]; simp [hel])); (try simp only [wpT_nil])))
      refine cYp (hkj) ?_
      ((try simp only [wpAftT_ret, wpAftT_pan, putS, updS, setS]); (repeat (rw [wpT_cons]; simp [hel])); (try simp only [wpT_nil]))
      (refine hKT _ _ _ _ (by kernel_rfl) ?_; clear hKT KT; (try simp only [thenD, blockD]))
      (refine hA2 ([0, 1, 2, 3, 5]) _ _ _ (LeT.refl _) (by decide) (by simp) (by simp [movT, movH, movD, D.mov, HO.mov, okM, renM, getW, D.ren, D.rens, D.okN, D.okNs, Cp.ren, Cp.okN, HO.ren, HO.okN, okA, renA, renO, hOf, handed, D.fgt, D.fgts, List.range_succ, List.idxOf_cons, putAll]) ?_ rfl; simp [movT, movH, movD, D.mov, HO.mov, okM, renM, getW, D.ren, D.rens, D.okN, D.okNs, Cp.ren, Cp.okN, HO.ren, HO.okN, okA, renA, renO, hOf, handed, D.fgt, D.fgts, List.range_succ, List.idxOf_cons])
      rw [hsn, show es.map encT ++ [encT y] = (es ++ [y]).map encT by simp, mapT_ren]
  · rintro ys hl tl' ⟨rfl, rfl⟩ htl
    refine hK1 _ _ _ (wpD_weakL htl ?_)
    simp only [putAll, List.set, List.map_cons, List.map_nil, List.cons_append, List.nil_append]
    (refine wpD_seqk fun K hK => ?_; refine wpD_region tyOK ?_; ((repeat (rw [wpS_cons]; simp)); (try simp only [wpS_nil, thenD, blockD])); refine hK _ _ _ ?_; clear hK K)
    (refine wpD_ret ?_; (try simp only [thenD, blockD]); refine EndQ.ret rfl (.inl ?_); simp [tmOf, Out.fgt, D.fgt, D.fgts])
/-- what spot tells -/
def spotO (t : T) : D :=
  if t.k = 6 then .tuple [.int .i64 0, .int .i64 2, .bool true] else if t.k = 14 ∨ t.k = 15 then .tuple [.int .i64 0, .int .i64 1, .bool true]
  else if t.k = 18 then .tuple [.int .i64 4, .int .i64 5, .bool true] else if t.k = 21 then .tuple [.int .i64 5, .int .i64 6, .bool true]
  else if t.k = 24 then .tuple [.int .i64 (IntKind.i64.wrap (t.a + 1)), .int .i64 (IntKind.i64.wrap (t.a + 2)), .bool (decide (0 ≤ t.a) && decide ((t.ks.length : Int) - 2 = t.a))] else .tuple [.int .i64 0, .int .i64 0, .bool false]
theorem spotO_some {t : T} {i many : Nat} (h : spot t = some (i, many)) (hl : t.ks.length ≤ LMax) : spotO t = .tuple [.int .i64 i, .int .i64 many, .bool true] := by
  unfold LMax at hl
  unfold spot at h
  unfold spotO
  by_cases h1 : t.k = 6
  · rw [if_pos h1] at h ⊢; cases h; rfl
  rw [if_neg h1] at h ⊢
  by_cases h1 : t.k = 14 ∨ t.k = 15
  · rw [if_pos h1] at h ⊢; cases h; rfl
  rw [if_neg h1] at h ⊢
  by_cases h1 : t.k = 18
  · rw [if_pos h1] at h ⊢; cases h; rfl
  rw [if_neg h1] at h ⊢
  by_cases h1 : t.k = 21
  · rw [if_pos h1] at h ⊢; cases h; rfl
  rw [if_neg h1] at h ⊢
  by_cases h1 : t.k = 24 ∧ 0 ≤ t.a ∧ (t.ks.length : Int) - 2 = t.a
  · rw [if_pos h1] at h
    rw [if_pos h1.1]
    cases h
    rw [i64w (by omega) (by omega), i64w (by omega) (by omega)]
    have e1 : t.a + 1 = ((t.a.toNat + 1 : Nat) : Int) := by omega
    have e2 : t.a + 2 = ((t.a.toNat + 2 : Nat) : Int) := by omega
    rw [e1, e2]
    simp [h1.2.1, h1.2.2]
  · rw [if_neg h1] at h; cases h
theorem spotO_none {t : T} (h : spot t = none) : ∃ p q, spotO t = .tuple [.int .i64 p, .int .i64 q, .bool false] := by
  unfold spot at h
  unfold spotO
  by_cases h1 : t.k = 6
  · rw [if_pos h1] at h; cases h
  rw [if_neg h1] at h ⊢
  by_cases h1 : t.k = 14 ∨ t.k = 15
  · rw [if_pos h1] at h; cases h
  rw [if_neg h1] at h ⊢
  by_cases h1 : t.k = 18
  · rw [if_pos h1] at h; cases h
  rw [if_neg h1] at h ⊢
  by_cases h1 : t.k = 21
  · rw [if_pos h1] at h; cases h
  rw [if_neg h1] at h ⊢
  by_cases h1 : t.k = 24
  · rw [if_pos h1]
    refine ⟨IntKind.i64.wrap (t.a + 1), IntKind.i64.wrap (t.a + 2), ?_⟩
    have : (decide (0 ≤ t.a) && decide ((t.ks.length : Int) - 2 = t.a)) = false := by
      rw [Bool.eq_false_iff]
      intro h2
      simp only [Bool.and_eq_true, decide_eq_true_eq] at h2
      rw [if_pos ⟨h1, h2⟩] at h
      cases h
    rw [this]
  · rw [if_neg h1]; exact ⟨_, _, rfl⟩
theorem spot_spec (t : T) (hl : t.ks.length ≤ LMax) : Spec Tryz.prog glob 95 [encT t] [] (fun o _ => o.fgt = .ret (spotO t)) := by
  obtain ⟨kk, nn, aa, ls, ks⟩ := t
  simp only [T.ks_mk] at hl
  unfold LMax at hl
  unfold spotO
  simp only [T.k_mk, T.a_mk, T.ks_mk]
  rw [encT_mk']
  refine Spec.movd globPure (wpD_spec tyOK Tryz.func95 rfl (enters _ _ Tryz.func95 rfl (by decide)) rfl rfl ?_)
  (refine wpD_seqk fun K hK => ?_; refine wpD_region tyOK ?_; ((repeat (rw [wpS_cons]; simp)); (try simp only [wpS_nil, thenD, blockD])); refine hK _ _ _ ?_; clear hK K)
  refine wpD_seqk fun K1 hK1 => ?_
  (refine wpD_seqk fun K hK => ?_; refine wpD_region tyOK ?_; ((repeat (rw [wpS_cons]; simp)); (try simp only [wpS_nil, thenD, blockD])); refine hK _ _ _ ?_; clear hK K)
  refine wpD_block ?_
  by_cases h6 : kk = 6
  · subst h6
    (refine wpD_seqk fun K hK => ?_; refine wpD_region tyOK ?_; ((repeat (rw [wpS_cons]; simp)); (try simp only [wpS_nil, thenD, blockD])); refine hK _ _ _ ?_; clear hK K)
    refine wpD_part rfl (fun _ => ?_) (fun h => by simp at h)
    (refine wpD_seqk fun K hK => ?_; refine wpD_region tyOK ?_; ((repeat (rw [wpS_cons]; simp)); (try simp only [wpS_nil, thenD, blockD])); refine hK _ _ _ ?_; clear hK K)
    (refine wpD_ret ?_; (try simp only [thenD, blockD]); refine EndQ.ret rfl (.inl ?_); simp [tmOf, Out.fgt, D.fgt, D.fgts])
  (refine wpD_seqk fun K hK => ?_; refine wpD_region tyOK ?_; ((repeat (rw [wpS_cons]; simp [h6])); (try simp only [wpS_nil, thenD, blockD])); refine hK _ _ _ ?_; clear hK K)
  refine wpD_part rfl (fun h => by simp at h) (fun _ => ?_)
  refine wpD_seqk fun K2 hK2 => ?_
  by_cases h14 : kk = 14
  · subst h14
    (refine wpD_seqk fun K hK => ?_; refine wpD_region tyOK ?_; ((repeat (rw [wpS_cons]; simp)); (try simp only [wpS_nil, thenD, blockD])); refine hK _ _ _ ?_; clear hK K)
    refine wpD_part rfl (fun _ => ?_) (fun h => by simp at h)
    refine wpD_skip (hK2 _ _ _ ?_)
    refine wpD_part rfl (fun _ => ?_) (fun h => by simp at h)
    (refine wpD_seqk fun K hK => ?_; refine wpD_region tyOK ?_; ((repeat (rw [wpS_cons]; simp)); (try simp only [wpS_nil, thenD, blockD])); refine hK _ _ _ ?_; clear hK K)
    (refine wpD_ret ?_; (try simp only [thenD, blockD]); refine EndQ.ret rfl (.inl ?_); simp [tmOf, Out.fgt, D.fgt, D.fgts])
  by_cases h15 : kk = 15
  · subst h15
    (refine wpD_seqk fun K hK => ?_; refine wpD_region tyOK ?_; ((repeat (rw [wpS_cons]; simp)); (try simp only [wpS_nil, thenD, blockD])); refine hK _ _ _ ?_; clear hK K)
    refine wpD_part rfl (fun h => by simp at h) (fun _ => ?_)
    (refine wpD_region tyOK ?_; ((repeat (rw [wpS_cons]; simp)); (try simp only [wpS_nil, thenD, blockD])))
    refine hK2 _ _ _ ?_
    refine wpD_part rfl (fun _ => ?_) (fun h => by simp at h)
    (refine wpD_seqk fun K hK => ?_; refine wpD_region tyOK ?_; ((repeat (rw [wpS_cons]; simp)); (try simp only [wpS_nil, thenD, blockD])); refine hK _ _ _ ?_; clear hK K)
    (refine wpD_ret ?_; (try simp only [thenD, blockD]); refine EndQ.ret rfl (.inl ?_); simp [tmOf, Out.fgt, D.fgt, D.fgts])
  (refine wpD_seqk fun K hK => ?_; refine wpD_region tyOK ?_; ((repeat (rw [wpS_cons]; simp [h14])); (try simp only [wpS_nil, thenD, blockD])); refine hK _ _ _ ?_; clear hK K)
  refine wpD_part rfl (fun h => by simp at h) (fun _ => ?_)
  (refine wpD_region tyOK ?_; ((repeat (rw [wpS_cons]; simp [h15])); (try simp only [wpS_nil, thenD, blockD])))
  refine hK2 _ _ _ ?_
  refine wpD_part rfl (fun h => by simp at h) (fun _ => ?_)
  by_cases h18 : kk = 18
  · subst h18
    (refine wpD_seqk fun K hK => ?_; refine wpD_region tyOK ?_; ((repeat (rw [wpS_cons]; simp)); (try simp only [wpS_nil, thenD, blockD])); refine hK _ _ _ ?_; clear hK K)
    refine wpD_part rfl (fun _ => ?_) (fun h => by simp at h)
    (refine wpD_seqk fun K hK => ?_; refine wpD_region tyOK ?_; ((repeat (rw [wpS_cons]; simp)); (try simp only [wpS_nil, thenD, blockD])); refine hK _ _ _ ?_; clear hK K)
    (refine wpD_ret ?_; (try simp only [thenD, blockD]); refine EndQ.ret rfl (.inl ?_); simp [tmOf, Out.fgt, D.fgt, D.fgts])
  (refine wpD_seqk fun K hK => ?_; refine wpD_region tyOK ?_; ((repeat (rw [wpS_cons]; simp [h18])); (try simp only [wpS_nil, thenD, blockD])); refine hK _ _ _ ?_; clear hK K)
  refine wpD_part rfl (fun h => by simp at h) (fun _ => ?_)
  by_cases h21 : kk = 21
  · subst h21
    (refine wpD_seqk fun K hK => ?_; refine wpD_region tyOK ?_; ((repeat (rw [wpS_cons]; simp)); (try simp only [wpS_nil, thenD, blockD])); refine hK _ _ _ ?_; clear hK K)
    refine wpD_part rfl (fun _ => ?_) (fun h => by simp at h)
    (refine wpD_seqk fun K hK => ?_; refine wpD_region tyOK ?_; ((repeat (rw [wpS_cons]; simp)); (try simp only [wpS_nil, thenD, blockD])); refine hK _ _ _ ?_; clear hK K)
    (refine wpD_ret ?_; (try simp only [thenD, blockD]); refine EndQ.ret rfl (.inl ?_); simp [tmOf, Out.fgt, D.fgt, D.fgts])
  (refine wpD_seqk fun K hK => ?_; refine wpD_region tyOK ?_; ((repeat (rw [wpS_cons]; simp [h21])); (try simp only [wpS_nil, thenD, blockD])); refine hK _ _ _ ?_; clear hK K)
  refine wpD_part rfl (fun h => by simp at h) (fun _ => ?_)
  by_cases h24 : kk = 24
  · subst h24
    have hw : IntKind.i64.wrap ((ks.length : Int) - 2) = (ks.length : Int) - 2 := i64w (by omega) (by omega)
    (refine wpD_seqk fun K hK => ?_; refine wpD_region tyOK ?_; ((repeat (rw [wpS_cons]; simp)); (try simp only [wpS_nil, thenD, blockD])); refine hK _ _ _ ?_; clear hK K)
    refine wpD_part rfl (fun _ => ?_) (fun h => by simp at h)
    by_cases h0 : 0 ≤ aa
    · (refine wpD_seqk fun K hK => ?_; refine wpD_drawk tyOK (by kernel_rfl) (by kernel_rfl) fun KT hKT => ?_; ((repeat (rw [wpT_cons]; simp [h0, hw])); (try simp only [wpT_nil])))
      (refine hKT _ _ _ _ (by kernel_rfl) ?_; clear hKT KT; (try simp only [thenD, blockD]))
      (refine hK _ _ _ ?_; clear hK K)
      (refine wpD_ret ?_; (try simp only [thenD, blockD]); refine EndQ.ret rfl (.inl ?_); simp [tmOf, Out.fgt, D.fgt, D.fgts])
      simp only [h0, decide_true, Bool.true_and]
      exact decide_eq_decide.2 Iff.rfl
    · (refine wpD_seqk fun K hK => ?_; refine wpD_drawk tyOK (by kernel_rfl) (by kernel_rfl) fun KT hKT => ?_; ((repeat (rw [wpT_cons]; simp [h0, hw])); (try simp only [wpT_nil])))
      (refine hKT _ _ _ _ (by kernel_rfl) ?_; clear hKT KT; (try simp only [thenD, blockD]))
      (refine hK _ _ _ ?_; clear hK K)
      (refine wpD_ret ?_; (try simp only [thenD, blockD]); refine EndQ.ret rfl (.inl ?_); simp [tmOf, Out.fgt, D.fgt, D.fgts])
      simp [h0]
  · (refine wpD_seqk fun K hK => ?_; refine wpD_region tyOK ?_; ((repeat (rw [wpS_cons]; simp [h24])); (try simp only [wpS_nil, thenD, blockD])); refine hK _ _ _ ?_; clear hK K)
    refine wpD_part rfl (fun h => by simp at h) (fun _ => ?_)
    refine wpD_skip (hK1 _ _ _ ?_)
    (refine wpD_seqk fun K hK => ?_; refine wpD_region tyOK ?_; ((repeat (rw [wpS_cons]; simp)); (try simp only [wpS_nil, thenD, blockD])); refine hK _ _ _ ?_; clear hK K)
    (refine wpD_ret ?_; (try simp only [thenD, blockD]); refine EndQ.ret rfl (.inl ?_); simp [tmOf, Out.fgt, D.fgt, D.fgts])
    simp [h6, h14, h15, h18, h21, h24]
theorem sizes_spec (l : List T) (hl : l.length ≤ LMax) (hls : ∀ x, x ∈ l → okT x) : Spec Tryz.prog glob 142 [.slice (l.map encT) .any] [] (fun o _ => o.fgt = .ret (.int .i64 (T.szs l 0))) := by
  obtain ⟨R, hR⟩ : ∃ R, R = T.szs l 0 := ⟨_, rfl⟩
  rw [← hR]
  refine Spec.movd globPure (wpD_spec tyOK Tryz.func142 rfl (enters _ _ Tryz.func142 rfl (by decide)) rfl rfl ?_)
  (refine wpD_seqk fun K hK => ?_; refine wpD_region tyOK ?_; ((repeat (rw [wpS_cons]; simp)); (try simp only [wpS_nil, thenD, blockD])); refine hK _ _ _ ?_; clear hK K)
  (refine wpD_seqk fun K hK => ?_; refine wpD_region tyOK ?_; ((repeat (rw [wpS_cons]; simp)); (try simp only [wpS_nil, thenD, blockD])); refine hK _ _ _ ?_; clear hK K)
  refine wpD_seqk fun K1 hK1 => ?_
  (refine wpD_seqk fun K hK => ?_; refine wpD_region tyOK ?_; ((repeat (rw [wpS_cons]; simp)); (try simp only [wpS_nil, thenD, blockD])); refine hK _ _ _ ?_; clear hK K)
  refine wpD_rangeJ tyOK globPure (ti := 3) (tk := 8) (tn := 7) (td := 9) (ts := 16) [5, 8, 9, 10, 11, 12, 13, 14, 15, 16] [3] (l.length) (fun k ys hl => ∃ (s : Int), ys = [.int .i64 s] ∧ R = T.szs (l.drop k) s ∧ hl = []) rfl rfl rfl rfl rfl rfl rfl rfl rfl rfl rfl rfl (by simp) (by decide) rfl (by first | assumption | omega | (unfold LMax; omega)) rfl (by kernel_rfl) (by decide) ?_ ?_ ?_
  · exact ⟨0, rfl, hR, rfl⟩
  · rintro i ys hl A hi ⟨s, rfl, hF, rfl⟩ hA hA2
    simp only [putAll, List.set, List.map_cons, List.map_nil, List.cons_append, List.nil_append]
    have hi' : (i : Int) < l.length := by omega
    rw [List.drop_eq_getElem_cons hi, T.szs] at hF
    have hrec := size_spec l[i] (hls _ (List.getElem_mem hi))
    obtain ⟨x, hx⟩ : ∃ x, l[i] = x := ⟨_, rfl⟩
    rw [hx] at hF hrec
    have hEx := encT_eq x
    rw [hEx] at hrec
    generalize x.sz = v at hF hrec
    (refine wpD_seqk fun K hK => ?_; refine wpD_region tyOK ?_; ((repeat (rw [wpS_cons]; simp [hi, hi', hx, hEx])); (try simp only [wpS_nil, thenD, blockD])); refine hK _ _ _ ?_; clear hK K)
    (refine wpD_region tyOK ?_; ((repeat (rw [wpS_cons]; simp)); (try simp only [wpS_nil, thenD, blockD])))
    refine cXp (hrec) ?_
    ((try simp only [wpAft_ret, wpAft_pan, putS, updS, setS]); (repeat (rw [wpS_cons]; simp)); (try simp only [wpS_nil, thenD, blockD]))
    (refine hA2 ([]) _ _ _ (LeT.refl _) (by decide) (by simp) (by simp [movT, movH, movD, D.mov, HO.mov, okM, renM, getW, D.ren, D.rens, D.okN, D.okNs, Cp.ren, Cp.okN, HO.ren, HO.okN, okA, renA, renO, hOf, handed, D.fgt, D.fgts, List.range_succ, List.idxOf_cons, putAll]) ?_ rfl; simp [movT, movH, movD, D.mov, HO.mov, okM, renM, getW, D.ren, D.rens, D.okN, D.okNs, Cp.ren, Cp.okN, HO.ren, HO.okN, okA, renA, renO, hOf, handed, D.fgt, D.fgts, List.range_succ, List.idxOf_cons])
    exact hF
  · rintro ys hl tl' ⟨s, rfl, hF, rfl⟩ htl
    refine hK1 _ _ _ (wpD_weakL htl ?_)
    simp only [putAll, List.set, List.map_cons, List.map_nil, List.cons_append, List.nil_append]
    rw [List.drop_length, T.szs] at hF
    subst hF
    (refine wpD_seqk fun K hK => ?_; refine wpD_region tyOK ?_; ((repeat (rw [wpS_cons]; simp)); (try simp only [wpS_nil, thenD, blockD])); refine hK _ _ _ ?_; clear hK K)
    (refine wpD_ret ?_; (try simp only [thenD, blockD]); refine EndQ.ret rfl (.inl ?_); simp [tmOf, Out.fgt, D.fgt, D.fgts])
theorem sized_spec (many : Int) (t : T) : ∀ b, okT t → Spec Tryz.prog glob 194 [encT t, .int .i64 many, .int .i64 b] [] (fun o _ => o.fgt = .ret (.int .i64 (T.sdw many t b))) := by
  induction t using T.ind with
  | h kk nn aa ls ks ih =>
  intro b ht
  have hkl : ks.length ≤ LMax := ht.kl
  have hks := ht.ks
  simp only [T.ks_mk] at hks
  obtain ⟨R, hR⟩ : ∃ R, R = T.sdw many (.mk kk nn aa ls ks) b := ⟨_, rfl⟩
  rw [← hR]
  rw [T.sdw] at hR
  rw [encT_mk']
  refine Spec.movd globPure (wpD_spec tyOK Tryz.func194 rfl (enters _ _ Tryz.func194 rfl (by decide)) rfl rfl ?_)
  (refine wpD_seqk fun K hK => ?_; refine wpD_region tyOK ?_; ((repeat (rw [wpS_cons]; simp)); (try simp only [wpS_nil, thenD, blockD])); refine hK _ _ _ ?_; clear hK K)
  by_cases h1 : kk = 1 ∧ nn = b
  · obtain ⟨rfl, rfl⟩ := h1
    rw [if_pos ⟨rfl, rfl⟩] at hR
    subst hR
    refine wpD_seqk fun K1 hK1 => ?_
    (refine wpD_seqk fun K hK => ?_; refine wpD_region tyOK ?_; ((repeat (rw [wpS_cons]; simp)); (try simp only [wpS_nil, thenD, blockD])); refine hK _ _ _ ?_; clear hK K)
    refine wpD_part rfl (fun _ => ?_) (fun h => by simp at h)
    (refine wpD_seqk fun K hK => ?_; refine wpD_region tyOK ?_; ((repeat (rw [wpS_cons]; simp)); (try simp only [wpS_nil, thenD, blockD])); refine hK _ _ _ ?_; clear hK K)
    (refine wpD_ret ?_; (try simp only [thenD, blockD]); refine EndQ.ret rfl (.inl ?_); simp [tmOf, Out.fgt, D.fgt, D.fgts])
  rw [if_neg h1] at hR
  refine wpD_seqf [10, 11, 12, 13, 14, 15, 16, 17, 18] ([10, 11, 12, 13, 14, 15, 16, 17, 18].map fun _ => .junk) [.cells 27 [.int .i64 kk, .int .i64 nn, .int .i64 aa, .slice (ls.map encL) .any, .slice (ks.map encT) .any]] ?_ ?_
  rotate_left
  · intro K hK0
    by_cases h2 : kk = 1
    · subst h2
      have h3 : ¬ nn = b := fun h => h1 ⟨rfl, h⟩
      (refine wpD_seqk fun K hK => ?_; refine wpD_region tyOK ?_; ((repeat (rw [wpS_cons]; simp [h3])); (try simp only [wpS_nil, thenD, blockD])); refine hK _ _ _ ?_; clear hK K)
      refine wpD_part rfl (fun h => by simp at h) (fun _ => ?_)
      refine wpD_skip (hK0 _ ?_)
      simp [leT, putAll]
    · (refine wpD_seqk fun K hK => ?_; refine wpD_region tyOK ?_; ((repeat (rw [wpS_cons]; simp [h2])); (try simp only [wpS_nil, thenD, blockD])); refine hK _ _ _ ?_; clear hK K)
      refine wpD_part rfl (fun h => by simp at h) (fun _ => ?_)
      refine wpD_skip (hK0 _ ?_)
      simp [leT, putAll]
  simp only [putAll, List.set, List.map_cons, List.map_nil, List.cons_append, List.nil_append]
  (refine wpD_seqk fun K hK => ?_; refine wpD_region tyOK ?_; ((repeat (rw [wpS_cons]; simp)); (try simp only [wpS_nil, thenD, blockD])); refine hK _ _ _ ?_; clear hK K)
  refine wpD_seqk fun K1 hK1 => ?_
  (refine wpD_seqk fun K hK => ?_; refine wpD_region tyOK ?_; ((repeat (rw [wpS_cons]; simp)); (try simp only [wpS_nil, thenD, blockD])); refine hK _ _ _ ?_; clear hK K)
  refine wpD_rangeJ tyOK globPure (ti := 3) (tk := 23) (tn := 22) (td := 24) (ts := 45) [8, 9, 23, 24, 25, 26, 27, 28, 29, 30, 31, 32, 33, 34, 35, 36, 37, 38, 39, 40, 41, 42, 43, 44, 45] [7] (ks.length) (fun k ys hl => ∃ (s : Int), ys = [.int .i64 s] ∧ R = T.sdws many kk (ks.drop k) k b s ∧ hl = [.cells 27 [.int .i64 kk, .int .i64 nn, .int .i64 aa, .slice (ls.map encL) .any, .slice (ks.map encT) .any]]) rfl rfl rfl rfl rfl rfl rfl rfl rfl rfl rfl rfl (by simp) (by decide) rfl (by first | assumption | omega | (unfold LMax; omega)) rfl (by kernel_rfl) (by decide) ?_ ?_ ?_
  · exact ⟨1, rfl, hR, rfl⟩
  · rintro i ys hl A hi ⟨s, rfl, hF, rfl⟩ hA hA2
    simp only [putAll, List.set, List.map_cons, List.map_nil, List.cons_append, List.nil_append]
    have hi' : (i : Int) < ks.length := by omega
    rw [List.drop_eq_getElem_cons hi, T.sdws] at hF
    have hrec := ih ks[i] (List.getElem_mem hi) (belowD b kk i) (hks _ (List.getElem_mem hi))
    have hbi := binds_spec kk i
    have hbd : belowD b kk i = if bindsB kk i then IntKind.i64.wrap (b + 1) else b := rfl
    obtain ⟨x, hx⟩ : ∃ x, ks[i] = x := ⟨_, rfl⟩
    rw [hx] at hF hrec
    have hEx := encT_eq x
    rw [hEx] at hrec
    generalize T.sdw many x (belowD b kk i) = v at hF hrec
    generalize belowD b kk i = b' at hrec hbd
    generalize bindsB kk i = bb at hbi hbd
    (refine wpD_seqk fun K hK => ?_; refine wpD_region tyOK ?_; ((repeat (rw [wpS_cons]; simp [hi, hi', hx, hEx])); (try simp only [wpS_nil, thenD, blockD])); refine hK _ _ _ ?_; clear hK K)
    (refine wpD_seqk fun K hK => ?_; refine wpD_region tyOK ?_; ((repeat (rw [wpS_cons]; simp)); (try simp only [wpS_nil, thenD, blockD])))
    refine cXp (hbi) ?_
    ((try simp only [wpAft_ret, wpAft_pan, putS, updS, setS]); (repeat (rw [wpS_cons]; simp)); (try simp only [wpS_nil, thenD, blockD]))
    (refine hK _ _ _ ?_; clear hK K)
    cases bb with
    | true =>
      rw [if_pos rfl] at hbd
      subst hbd
      refine wpD_part rfl (fun _ => ?_) (fun h => by simp at h)
      (refine wpD_region tyOK ?_; ((repeat (rw [wpS_cons]; simp)); (try simp only [wpS_nil, thenD, blockD])))
      refine cXp (hrec) ?_
      ((try simp only [wpAft_ret, wpAft_pan, putS, updS, setS]); (repeat (rw [wpS_cons]; simp)); (try simp only [wpS_nil, thenD, blockD]))
      (refine hA2 ([0]) _ _ _ (LeT.refl _) (by decide) (by simp) (by simp [movT, movH, movD, D.mov, HO.mov, okM, renM, getW, D.ren, D.rens, D.okN, D.okNs, Cp.ren, Cp.okN, HO.ren, HO.okN, okA, renA, renO, hOf, handed, D.fgt, D.fgts, List.range_succ, List.idxOf_cons, putAll]) ?_ rfl; simp [movT, movH, movD, D.mov, HO.mov, okM, renM, getW, D.ren, D.rens, D.okN, D.okNs, Cp.ren, Cp.okN, HO.ren, HO.okN, okA, renA, renO, hOf, handed, D.fgt, D.fgts, List.range_succ, List.idxOf_cons])
      exact hF
    | false =>
      rw [if_neg Bool.false_ne_true] at hbd
      subst hbd
      refine wpD_part rfl (fun h => by simp at h) (fun _ => ?_)
      (refine wpD_region tyOK ?_; ((repeat (rw [wpS_cons]; simp)); (try simp only [wpS_nil, thenD, blockD])))
      refine cXp (hrec) ?_
      ((try simp only [wpAft_ret, wpAft_pan, putS, updS, setS]); (repeat (rw [wpS_cons]; simp)); (try simp only [wpS_nil, thenD, blockD]))
      (refine hA2 ([0]) _ _ _ (LeT.refl _) (by decide) (by simp) (by simp [movT, movH, movD, D.mov, HO.mov, okM, renM, getW, D.ren, D.rens, D.okN, D.okNs, Cp.ren, Cp.okN, HO.ren, HO.okN, okA, renA, renO, hOf, handed, D.fgt, D.fgts, List.range_succ, List.idxOf_cons, putAll]) ?_ rfl; simp [movT, movH, movD, D.mov, HO.mov, okM, renM, getW, D.ren, D.rens, D.okN, D.okNs, Cp.ren, Cp.okN, HO.ren, HO.okN, okA, renA, renO, hOf, handed, D.fgt, D.fgts, List.range_succ, List.idxOf_cons])
      exact hF
  · rintro ys hl tl' ⟨s, rfl, hF, rfl⟩ htl
    refine hK1 _ _ _ (wpD_weakL htl ?_)
    simp only [putAll, List.set, List.map_cons, List.map_nil, List.cons_append, List.nil_append]
    rw [List.drop_length, T.sdws] at hF
    subst hF
    (refine wpD_seqk fun K hK => ?_; refine wpD_region tyOK ?_; ((repeat (rw [wpS_cons]; simp)); (try simp only [wpS_nil, thenD, blockD])); refine hK _ _ _ ?_; clear hK K)
    (refine wpD_ret ?_; (try simp only [thenD, blockD]); refine EndQ.ret rfl (.inl ?_); simp [tmOf, Out.fgt, D.fgt, D.fgts])
theorem size2_spec (t a : T) (ht : okT t) (ha : okT a) (hb : ((t.sd a.nsz 0 : Nat) : Int) ≤ 9223372036854775807) : Spec Tryz.prog glob 143 [encT t, encT a] [] (fun o _ => o.fgt = .ret (.int .i64 ((t.sd a.nsz 0 : Nat) : Int))) := by
  have h1 := size_spec a ha
  have h2 := sized_spec a.sz t 0 ht
  rw [sz_true a] at h1 h2
  rw [sdw_true, i64w (n := ((t.sd a.nsz 0 : Nat) : Int)) (by omega) hb] at h2
  generalize ((t.sd a.nsz 0 : Nat) : Int) = v at h2 ⊢
  have hEt := encT_eq t
  have hEa := encT_eq a
  rw [hEt, hEa]
  rw [hEa] at h1
  rw [hEt] at h2
  refine Spec.movd globPure (wpD_spec tyOK Tryz.func143 rfl (enters _ _ Tryz.func143 rfl (by decide)) rfl rfl ?_)
  (refine wpD_seqk fun K hK => ?_; refine wpD_region tyOK ?_; ((repeat (rw [wpS_cons]; simp)); (try simp only [wpS_nil, thenD, blockD])); refine hK _ _ _ ?_; clear hK K)
  (refine wpD_seqk fun K hK => ?_; refine wpD_drawk tyOK (by kernel_rfl) (by kernel_rfl) fun KT hKT => ?_; ((repeat (rw [wpT_cons]; simp)); (try simp only [wpT_nil])))
  refine cYp (h1) ?_
  ((try simp only [wpAftT_ret, wpAftT_pan, putS, updS, setS]); (repeat (rw [wpT_cons]; simp)); (try simp only [wpT_nil]))
  refine cYp (h2) ?_
  ((try simp only [wpAftT_ret, wpAftT_pan, putS, updS, setS]); (repeat (rw [wpT_cons]; simp)); (try simp only [wpT_nil]))
  (refine hKT _ _ _ _ (by kernel_rfl) ?_; clear hKT KT; (try simp only [thenD, blockD]))
  (refine hK _ _ _ ?_; clear hK K)
  (refine wpD_ret ?_; (try simp only [thenD, blockD]); refine EndQ.ret rfl (.inl ?_); simp [tmOf, Out.fgt, D.fgt, D.fgts])
/-- its objects: itself, the map of its steps -/
def stepsM : HO := .mp [(.int .i64 6, .fn (.func 88) [.box 0 0] []), (.int .i64 14, .fn (.func 89) [.box 0 0] []), (.int .i64 15, .fn (.func 89) [.box 0 0] []), (.int .i64 7, .fn (.func 90) [.box 0 0] []),
  (.int .i64 3, .fn (.func 91) [.box 0 0] []), (.int .i64 18, .fn (.func 92) [.box 0 0] []), (.int .i64 21, .fn (.func 93) [.box 0 0] []), (.int .i64 24, .fn (.func 94) [.box 0 0] [])]
def wObjs (left : Int) (l : List C) (once done : Bool) : List HO := [headD left l once done, stepsM]
theorem burn_ok (left : Int) (l : List C) (once done : Bool) (n : Int) (h0 : 0 ≤ n) (h : n ≤ left) (hl : left ≤ 9223372036854775807) : Spec Tryz.prog glob 141 [.box 0 0, .int .i64 n] (wObjs left l once done) (fun o hc => o = .ret (.tuple []) ∧ hc = wObjs (left - n) l once done) := by
  have hw : IntKind.i64.wrap (left - n) = left - n := i64w (by omega) (by omega)
  have h' : ¬ left < n := by omega
  unfold wObjs headD Cs stepsM
  refine Spec.movd globPure (wpD_spec tyOK Tryz.func141 rfl (enters _ _ Tryz.func141 rfl (by decide)) rfl rfl ?_)
  refine wpD_seqk fun K1 hK1 => ?_
  (refine wpD_seqk fun K hK => ?_; refine wpD_region tyOK ?_; ((repeat (rw [wpS_cons]; simp [h'])); (try simp only [wpS_nil, thenD, blockD])); refine hK _ _ _ ?_; clear hK K)
  refine wpD_part rfl (fun h => by simp at h) (fun _ => ?_)
  refine wpD_skip (hK1 _ _ _ ?_)
  (refine wpD_region tyOK ?_; ((repeat (rw [wpS_cons]; simp [hw])); (try simp only [wpS_nil, thenD, blockD])))
  ((try simp only [thenD, blockD]); refine EndQ.nrm rfl (.inr ⟨[], by decide, by simp, ?_⟩); simp [Out.mov, movT, movH, movD, D.mov, HO.mov, okM, renM, getW, D.ren, D.rens, D.okN, D.okNs, Cp.ren, Cp.okN, HO.ren, HO.okN, okA, renA, renO, hOf, handed, D.fgt, D.fgts, List.range_succ, List.idxOf_cons, tmOf, Out.fgt, D.fgt, D.fgts])
theorem burn_no (left : Int) (l : List C) (once done : Bool) (n : Int) (h : left < n) : Spec Tryz.prog glob 141 [.box 0 0, .int .i64 n] (wObjs left l once done) (fun o hc => o = .pan goneD ∧ hc = wObjs left l once done) := by
  unfold wObjs headD Cs stepsM goneD
  refine Spec.movd globPure (wpD_spec tyOK Tryz.func141 rfl (enters _ _ Tryz.func141 rfl (by decide)) rfl rfl ?_)
  refine wpD_seqk fun K1 hK1 => ?_
  (refine wpD_seqk fun K hK => ?_; refine wpD_region tyOK ?_; ((repeat (rw [wpS_cons]; simp [h])); (try simp only [wpS_nil, thenD, blockD])); refine hK _ _ _ ?_; clear hK K)
  refine wpD_part rfl (fun _ => ?_) (fun h => by simp at h)
  (refine wpD_region tyOK ?_; ((repeat (rw [wpS_cons]; simp)); (try simp only [wpS_nil, thenD, blockD])))
  ((try simp only [thenD, blockD]); refine EndQ.pan (.inr ⟨[], by decide, by simp, ?_⟩); simp [Out.mov, movT, movH, movD, D.mov, HO.mov, okM, renM, getW, D.ren, D.rens, D.okN, D.okNs, Cp.ren, Cp.okN, HO.ren, HO.okN, okA, renA, renO, hOf, handed, D.fgt, D.fgts, List.range_succ, List.idxOf_cons, tmOf, Out.fgt, D.fgt, D.fgts])
end Go.Proofs.YtgloldepdhgfaaaGreatDoor
namespace Go.Proofs.YtgloldepdhgfaaaGreatDoor
set_option linter.unusedSimpArgs false
set_option linter.unusedVariables false
set_option maxHeartbeats 10000000
set_option maxRecDepth 20000
open Go.RowKit
attribute [local simp] wpAft_ret wpAft_pan wantD evOp opD tmOf putS updS setS hOf isFree isTok fillD TK.isAgg TK.known partD thenD blockD putAll D.ofV inB nilTest isNilS binX binD binE isCst bndD capB IntKind.min IntKind.max IntKind.signed IntKind.bits dstOf late
/-- an object of which nothing more is said -/
theorem Spec.dead {P : Program} {G : Nat → Option D} {f : FuncId} {args : List D} {objs : List HO} {Post Post' : Out → List HO → Prop} (h : Spec P G f args objs Post) (hP : ∀ o hc, Post o hc → ∃ hc', (∀ r, hOf hc' r = hOf hc r ∨ hOf hc' r = .dead) ∧ Post' o hc') : Spec P G f args objs Post' := fun ρ w vs hR hv => by
  obtain ⟨h1, h2⟩ := h ρ w vs hR hv
  refine ⟨h1, h2.mono ?_⟩
  rintro e w' ⟨ρ', out, hc, hp, hm, hr, hx⟩
  obtain ⟨hc', hk, hp'⟩ := hP out hc hp
  exact ⟨ρ', out, hc', hp', hm, hr.kill hk, hx.kill hk⟩
theorem burn_dead (left : Int) (l : List C) (once done : Bool) (n : Int) (h : left < n) : Spec Tryz.prog glob 141 [.box 0 0, .int .i64 n] (wObjs left l once done) (fun o hc => o = .pan goneD ∧ hc = [.dead, .dead]) :=
  (burn_no left l once done n h).dead fun o hc hp => ⟨[.dead, .dead], fun r => by
    rw [hp.2]
    match r with
    | 0 => exact .inr rfl
    | 1 => exact .inr rfl
    | r + 2 => exact .inl rfl, hp.1, rfl⟩
/-- what a step that costs so much tells, leaves -/
def Cost (left : Int) (l : List C) (once done : Bool) (c : Nat) (d : D) (o : Out) (hc : List HO) : Prop :=
  if (c : Int) ≤ left then o.fgt = .ret d ∧ hc = wObjs (left - c) l once done else o = .pan goneD ∧ hc = [.dead, .dead]
theorem Cost_ok {left : Int} {l : List C} {once done : Bool} {c : Nat} {d : D} (h : (c : Int) ≤ left) : Cost left l once done c d = (fun o hc => o.fgt = .ret d ∧ hc = wObjs (left - c) l once done) := by
  funext o hc; unfold Cost; rw [if_pos h]
theorem Cost_no {left : Int} {l : List C} {once done : Bool} {c : Nat} {d : D} (h : ¬ (c : Int) ≤ left) : Cost left l once done c d = (fun o hc => o = .pan goneD ∧ hc = [.dead, .dead]) := by
  funext o hc; unfold Cost; rw [if_neg h]
/-- what a step tells -/
def OwnP (left : Int) (l : List C) (once done : Bool) (t : T) (r : Option (T × Nat)) : Out → List HO → Prop := match r with
  | none => fun o hc => o.fgt = .ret (.tuple [encT t, .bool false]) ∧ hc = wObjs left l once done
  | some p => Cost left l once done p.2 (.tuple [encT p.1, .bool true])
def PM : Nat := 536870912
def okS (t : T) : Prop := okT t ∧ t.pot ≤ PM
theorem okS.deep {t : T} (h : okS t) : t.deep ≤ DM := by have := t.deep_nsz; have := nsz_pot t; have := h.2; unfold PM at this; unfold DM; omega
theorem okS.kid {t : T} (h : okS t) (i : Nat) : okS (t.kid i) := ⟨kid_ok h.1 i, Nat.le_trans (kid_pot t i) h.2⟩
theorem okS.sd {t a : T} (h : okS t) (ha : okS a) : ((t.sd a.nsz 0 : Nat) : Int) ≤ 288230376151711744 := by
  have := sd_bound h.2 ha.2
  unfold PM at this
  omega
theorem okS.nsz {t : T} (h : okS t) : t.nsz ≤ 536870912 := by have := nsz_pot t; have := h.2; unfold PM at this; omega
structure okCs (l : List C) : Prop where
  len : l.length ≤ LMax
  ok : ∀ c, c ∈ l → okC c
  bo : ∀ c, c ∈ l → c.bo.nsz ≤ 1048576
  ty : ∀ c, c ∈ l → c.ty.nsz ≤ 1048576
theorem hput_spec (left : Int) (l : List C) (once done : Bool) (hl : left ≤ 9223372036854775807) (t a : T) (ht : okS t) (ha : okS a) :
    Spec Tryz.prog glob 138 [.box 0 0, encT t, encT a] (wObjs left l once done) (Cost left l once done (t.sd a.nsz 0) (encT (t.put [a] 0))) := by
  have hz := size2_spec t a ht.1 ha.1 (Int.le_trans (ht.sd ha) (by omega))
  have hp := putT_spec t [a] (by unfold LMax; simp) (fun b hb => by rw [one_mem hb]; exact ⟨ha.1, ha.deep⟩) ht.deep ht.1
  have hEt := encT_eq t
  have hEa := encT_eq a
  generalize t.sd a.nsz 0 = c at hz ⊢
  generalize t.put [a] 0 = r at hp ⊢
  have hEr := encT_eq r
  unfold Ts at hp
  simp only [List.map_cons, List.map_nil] at hp
  rw [hEt, hEa] at hp hz ⊢
  by_cases hc : (c : Int) ≤ left
  · rw [Cost_ok hc]
    have hbu := burn_ok left l once done c (by omega) hc hl
    unfold wObjs headD Cs stepsM at hbu ⊢
    refine Spec.movd globPure (wpD_spec tyOK Tryz.func138 rfl (enters _ _ Tryz.func138 rfl (by decide)) rfl rfl ?_)
    (refine wpD_seqk fun K hK => ?_; refine wpD_region tyOK ?_; ((repeat (rw [wpS_cons]; simp)); (try simp only [wpS_nil, thenD, blockD])); refine hK _ _ _ ?_; clear hK K)
    (refine wpD_seqk fun K hK => ?_; refine wpD_drawk tyOK (by kernel_rfl) (by kernel_rfl) fun KT hKT => ?_; ((repeat (rw [wpT_cons]; simp)); (try simp only [wpT_nil])))
    refine cYp (hz) ?_
    ((try simp only [wpAftT_ret, wpAftT_pan, putS, updS, setS]); (repeat (rw [wpT_cons]; simp)); (try simp only [wpT_nil]))
    refine cYo [0, 1] true false (hbu) (fun o h e => e) ?_; simp [D.ren, D.rens, D.okN, D.okNs, Cp.ren, Cp.okN, HO.ren, HO.okN, okA, renA, renO, hOf, handed, D.fgt, D.fgts, List.range_succ, List.idxOf_cons, Out.ren, upO, renO, rdO]
    ((try simp only [wpAftT_ret, wpAftT_pan, putS, updS, setS]); (repeat (rw [wpT_cons]; simp)); (try simp only [wpT_nil]))
    (refine hKT _ _ _ _ (by kernel_rfl) ?_; clear hKT KT; (try simp only [thenD, blockD]))
    (refine hK _ _ _ ?_; clear hK K)
    (refine wpD_seqk fun K hK => ?_; refine wpD_region tyOK ?_; ((repeat (rw [wpS_cons]; simp)); (try simp only [wpS_nil, thenD, blockD])))
    refine cXp (hp) ?_
    ((try simp only [wpAft_ret, wpAft_pan, putS, updS, setS]); (repeat (rw [wpS_cons]; simp)); (try simp only [wpS_nil, thenD, blockD]))
    (refine hK _ _ _ ?_; clear hK K)
    (refine wpD_ret ?_; (try simp only [thenD, blockD]); refine EndQ.ret rfl (.inr ⟨[], by decide, by simp, ?_⟩); simp [Out.mov, movT, movH, movD, D.mov, HO.mov, okM, renM, getW, D.ren, D.rens, D.okN, D.okNs, Cp.ren, Cp.okN, HO.ren, HO.okN, okA, renA, renO, hOf, handed, D.fgt, D.fgts, List.range_succ, List.idxOf_cons, tmOf, Out.fgt, D.fgt, D.fgts])
    exact hEr.symm
  · rw [Cost_no hc]
    have hbu := burn_dead left l once done c (by omega)
    unfold wObjs headD Cs stepsM goneD at hbu ⊢
    refine Spec.movd globPure (wpD_spec tyOK Tryz.func138 rfl (enters _ _ Tryz.func138 rfl (by decide)) rfl rfl ?_)
    (refine wpD_seqk fun K hK => ?_; refine wpD_region tyOK ?_; ((repeat (rw [wpS_cons]; simp)); (try simp only [wpS_nil, thenD, blockD])); refine hK _ _ _ ?_; clear hK K)
    (refine wpD_seqk fun K hK => ?_; refine wpD_drawk tyOK (by kernel_rfl) (by kernel_rfl) fun KT hKT => ?_; ((repeat (rw [wpT_cons]; simp)); (try simp only [wpT_nil])))
    refine cYp (hz) ?_
    ((try simp only [wpAftT_ret, wpAftT_pan, putS, updS, setS]); (repeat (rw [wpT_cons]; simp)); (try simp only [wpT_nil]))
    refine cYo [0, 1] true false (hbu) (fun o h e => e) ?_; simp [D.ren, D.rens, D.okN, D.okNs, Cp.ren, Cp.okN, HO.ren, HO.okN, okA, renA, renO, hOf, handed, D.fgt, D.fgts, List.range_succ, List.idxOf_cons, Out.ren, upO, renO, rdO]
    ((try simp only [wpAftT_ret, wpAftT_pan, putS, updS, setS]); (repeat (refine wpT_late _ _ _ _ (by kernel_rfl) ?_; simp only [putS, List.set, List.nil_append, List.cons_append, Nat.reduceAdd])); (try simp only [wpT_nil]))
    (refine hKT _ _ _ _ (by kernel_rfl) ?_; clear hKT KT; (try simp only [thenD, blockD]))
    simp [killHl]
    ((try simp only [thenD, blockD]); refine EndQ.pan (.inr ⟨[], by decide, by simp, ?_⟩); simp [Out.mov, movT, movH, movD, D.mov, HO.mov, okM, renM, getW, D.ren, D.rens, D.okN, D.okNs, Cp.ren, Cp.okN, HO.ren, HO.okN, okA, renA, renO, hOf, handed, D.fgt, D.fgts, List.range_succ, List.idxOf_cons, tmOf, Out.fgt, D.fgt, D.fgts])
theorem htake_spec (left : Int) (l : List C) (once done : Bool) (hl : left ≤ 9223372036854775807) (t : T) (ht : okS t) :
    Spec Tryz.prog glob 139 [.box 0 0, encT t] (wObjs left l once done) (Cost left l once done t.nsz (encT t)) := by
  have hz := size_spec t ht.1
  rw [sz_true, i64w (by omega) (by have := ht.nsz; omega)] at hz
  have hEt := encT_eq t
  generalize t.nsz = c at hz ⊢
  rw [hEt] at hz ⊢
  by_cases hc : (c : Int) ≤ left
  · rw [Cost_ok hc]
    have hbu := burn_ok left l once done c (by omega) hc hl
    unfold wObjs headD Cs stepsM at hbu ⊢
    refine Spec.movd globPure (wpD_spec tyOK Tryz.func139 rfl (enters _ _ Tryz.func139 rfl (by decide)) rfl rfl ?_)
    (refine wpD_seqk fun K hK => ?_; refine wpD_region tyOK ?_; ((repeat (rw [wpS_cons]; simp)); (try simp only [wpS_nil, thenD, blockD])); refine hK _ _ _ ?_; clear hK K)
    (refine wpD_seqk fun K hK => ?_; refine wpD_drawk tyOK (by kernel_rfl) (by kernel_rfl) fun KT hKT => ?_; ((repeat (rw [wpT_cons]; simp)); (try simp only [wpT_nil])))
    refine cYp (hz) ?_
    ((try simp only [wpAftT_ret, wpAftT_pan, putS, updS, setS]); (repeat (rw [wpT_cons]; simp)); (try simp only [wpT_nil]))
    refine cYo [0, 1] true false (hbu) (fun o h e => e) ?_; simp [D.ren, D.rens, D.okN, D.okNs, Cp.ren, Cp.okN, HO.ren, HO.okN, okA, renA, renO, hOf, handed, D.fgt, D.fgts, List.range_succ, List.idxOf_cons, Out.ren, upO, renO, rdO]
    ((try simp only [wpAftT_ret, wpAftT_pan, putS, updS, setS]); (repeat (rw [wpT_cons]; simp)); (try simp only [wpT_nil]))
    (refine hKT _ _ _ _ (by kernel_rfl) ?_; clear hKT KT; (try simp only [thenD, blockD]))
    (refine hK _ _ _ ?_; clear hK K)
    (refine wpD_seqk fun K hK => ?_; refine wpD_region tyOK ?_; ((repeat (rw [wpS_cons]; simp)); (try simp only [wpS_nil, thenD, blockD])); refine hK _ _ _ ?_; clear hK K)
    (refine wpD_ret ?_; (try simp only [thenD, blockD]); refine EndQ.ret rfl (.inr ⟨[], by decide, by simp, ?_⟩); simp [Out.mov, movT, movH, movD, D.mov, HO.mov, okM, renM, getW, D.ren, D.rens, D.okN, D.okNs, Cp.ren, Cp.okN, HO.ren, HO.okN, okA, renA, renO, hOf, handed, D.fgt, D.fgts, List.range_succ, List.idxOf_cons, tmOf, Out.fgt, D.fgt, D.fgts])
  · rw [Cost_no hc]
    have hbu := burn_dead left l once done c (by omega)
    unfold wObjs headD Cs stepsM goneD at hbu ⊢
    refine Spec.movd globPure (wpD_spec tyOK Tryz.func139 rfl (enters _ _ Tryz.func139 rfl (by decide)) rfl rfl ?_)
    (refine wpD_seqk fun K hK => ?_; refine wpD_region tyOK ?_; ((repeat (rw [wpS_cons]; simp)); (try simp only [wpS_nil, thenD, blockD])); refine hK _ _ _ ?_; clear hK K)
    (refine wpD_seqk fun K hK => ?_; refine wpD_drawk tyOK (by kernel_rfl) (by kernel_rfl) fun KT hKT => ?_; ((repeat (rw [wpT_cons]; simp)); (try simp only [wpT_nil])))
    refine cYp (hz) ?_
    ((try simp only [wpAftT_ret, wpAftT_pan, putS, updS, setS]); (repeat (rw [wpT_cons]; simp)); (try simp only [wpT_nil]))
    refine cYo [0, 1] true false (hbu) (fun o h e => e) ?_; simp [D.ren, D.rens, D.okN, D.okNs, Cp.ren, Cp.okN, HO.ren, HO.okN, okA, renA, renO, hOf, handed, D.fgt, D.fgts, List.range_succ, List.idxOf_cons, Out.ren, upO, renO, rdO]
    ((try simp only [wpAftT_ret, wpAftT_pan, putS, updS, setS]); (repeat (refine wpT_late _ _ _ _ (by kernel_rfl) ?_; simp only [putS, List.set, List.nil_append, List.cons_append, Nat.reduceAdd])); (try simp only [wpT_nil]))
    (refine hKT _ _ _ _ (by kernel_rfl) ?_; clear hKT KT; (try simp only [thenD, blockD]))
    simp [killHl]
    ((try simp only [thenD, blockD]); refine EndQ.pan (.inr ⟨[], by decide, by simp, ?_⟩); simp [Out.mov, movT, movH, movD, D.mov, HO.mov, okM, renM, getW, D.ren, D.rens, D.okN, D.okNs, Cp.ren, Cp.okN, HO.ren, HO.okN, okA, renA, renO, hOf, handed, D.fgt, D.fgts, List.range_succ, List.idxOf_cons, tmOf, Out.fgt, D.fgt, D.fgts])
end Go.Proofs.YtgloldepdhgfaaaGreatDoor
namespace Go.Proofs.YtgloldepdhgfaaaGreatDoor
set_option linter.unusedSimpArgs false
set_option linter.unusedVariables false
open Go.RowKit
def RetP (l : List C) (u : T) (lf : Int) (d : Bool) : Out → List HO → Prop := fun o hc => o.fgt = .ret (encT u) ∧ hc = wObjs lf l false d
def GoneP : Out → List HO → Prop := fun o hc => o = .pan goneD ∧ hc = [.dead, .dead]
/-- what a head's run comes to -/
inductive RunH (l : List C) : T → Int → Bool → (Out → List HO → Prop) → Prop where
  | fin {t u : T} {n : Nat} {lf : Int} {d : Bool} (h : Hd l t n u) (hn : (n : Int) ≤ lf) : RunH l t lf d (RetP l u (lf - n) (d || decide (0 < n)))
  | gone {t : T} {lf q : Int} {d : Bool} (h : GoneAt l t lf q) : RunH l t lf d GoneP
/-- its place is at its head -/
def Ready (l : List C) (t : T) : Prop := hstep l t = ownS l t (placeX t) ∧ t.trunc = t
theorem Ready.none {l : List C} {t : T} (h : spot t = none) : Ready l t := ⟨by rw [hstep_none h]; unfold placeX; rw [h], trunc_none h⟩
theorem Ready.some {l : List C} {t v : T} {i many : Nat} (hs : spot t = some (i, many)) {m : Nat} {x : T} (h : Hd l x m v) : Ready l (t.withT v i many) := by
  obtain ⟨h1, h2⟩ := h.done
  obtain ⟨h3, h4⟩ := ready hs h1 h2
  exact ⟨by rw [h3, place_with hs], h4⟩
theorem RunH.place {l : List C} {t : T} {lf : Int} {d : Bool} {P : Out → List HO → Prop} (h : RunH l t lf d P) (h0 : 0 ≤ lf) {i many : Nat} (hs : spot t = some (i, many)) :
    (∃ q, GoneAt l (t.kid i) lf q ∧ P = GoneP) ∨ ∃ m v, Hd l (t.kid i) m v ∧ (m : Int) ≤ lf ∧ Ready l (t.withT v i many) ∧ RunH l (t.withT v i many) (lf - m) (d || decide (0 < m)) P := by
  cases h with
  | fin h hn =>
    rename_i u n
    obtain ⟨m, v, h1, h2, h3⟩ := h.place hs
    refine .inr ⟨m, v, h1, by omega, .some hs h1, ?_⟩
    have := RunH.fin (lf := lf - m) (d := d || decide (0 < m)) h3 (by omega)
    rw [show lf - (m : Int) - ((n - m : Nat) : Int) = lf - n by omega, Bool.or_assoc, show (decide (0 < m) || decide (0 < n - m)) = decide (0 < n) by rw [← Bool.decide_or]; apply decide_eq_decide.2; omega] at this
    exact this
  | gone h =>
    rcases h.place h0 hs with h1 | ⟨m, v, h1, h2, h3⟩
    · exact .inl ⟨_, h1, rfl⟩
    · exact .inr ⟨m, v, h1, h2, .some hs h1, .gone h3⟩
theorem RunH.own {l : List C} {t : T} {lf : Int} {d : Bool} {P : Out → List HO → Prop} (h : RunH l t lf d P) (hr : Ready l t) :
    match ownS l t (placeX t) with
    | none => P = RetP l t lf d
    | some p => if (p.2 : Int) ≤ lf then RunH l p.1 (lf - p.2) true P else P = GoneP := by
  rw [← hr.1]
  cases h with
  | fin h hn =>
    rename_i u n
    cases h with
    | stop h => rw [h]; simp only; rw [hr.2]; simp
    | @step _ w _ c n h r =>
      have := hstep_pos t h
      rw [h]
      simp only
      rw [if_pos (by omega)]
      have := RunH.fin (lf := lf - c) (d := true) r (by omega)
      rw [show lf - (c : Int) - (n : Int) = lf - ((c + n : Nat) : Int) by omega, Bool.true_or] at this
      rw [show (d || decide (0 < c + n)) = true by rw [decide_eq_true (by omega), Bool.or_true]]
      exact this
  | gone h =>
    cases h with
    | now h hf => rw [h]; simp only; rw [if_neg (by omega)]; trivial
    | later h hf r => rw [h]; simp only; rw [if_pos hf]; exact .gone r
theorem Hd.pot {l : List C} {t u : T} {n : Nat} (h : Hd l t n u) : u.pot ≤ t.pot + 7 * n := by
  induction h with
  | stop h => have := trunc_pot ‹T›; omega
  | step h r ih => have := hstep_pot _ h; omega
theorem Hd.ok {l : List C} (hl : ∀ c, c ∈ l → okC c) {t u : T} {n : Nat} (h : Hd l t n u) : okT t → okT u := by
  induction h with
  | stop h => exact trunc_ok _
  | step h r ih => intro ht; exact ih (hstep_ok hl _ ht h)
/-- how deep its place lies -/
def mu (t : T) : Nat := if spot t = none then 0 else t.deep + 1
theorem mu_kid {t : T} {i many : Nat} (hs : spot t = some (i, many)) : mu (t.kid i) < mu t := by
  have h0 : mu t = t.deep + 1 := by unfold mu; rw [if_neg (by rw [hs]; simp)]
  rw [h0]
  by_cases hi : i < t.ks.length
  · rw [kid_in hi]
    have hd : (t.ks[i]).deep + 1 ≤ t.deep := by
      cases t with
      | mk k n a ls ks => exact T.deep_kid (List.getElem_mem hi)
    unfold mu
    split <;> omega
  · rw [kid_out hi]
    unfold mu
    rw [if_pos zero_spot]
    omega
end Go.Proofs.YtgloldepdhgfaaaGreatDoor
namespace Go.Proofs.YtgloldepdhgfaaaGreatDoor
set_option linter.unusedSimpArgs false
set_option linter.unusedVariables false
open Go.RowKit
/-! levels by their normal forms -/
mutual
def T.nl : T → T
  | .mk k n a ls ks => .mk k n a (ls.map normOf) (T.nls ks)
def T.nls : List T → List T
  | [] => []
  | t :: r => T.nl t :: T.nls r
end
theorem sameLs_nl : ∀ l m : List LV, sameLs l m = true ↔ l.map normOf = m.map normOf
  | [], [] => by simp [sameLs]
  | [], _ :: _ => by simp [sameLs]
  | _ :: _, [] => by simp [sameLs]
  | a :: r, b :: s => by rw [sameLs, Bool.and_eq_true, sameLs_nl r s]; simp
mutual
theorem same_nl : ∀ t u : T, t.sameB u = true ↔ t.nl = u.nl
  | .mk k n a ls ks, .mk k' n' a' ls' ks' => by
    rw [T.sameB, T.nl, T.nl]
    simp only [Bool.and_eq_true, decide_eq_true_eq, T.mk.injEq]
    rw [sameLs_nl, sames_nl ks ks']
    simp [and_assoc]
theorem sames_nl : ∀ l m : List T, T.samesB l m = true ↔ T.nls l = T.nls m
  | [], [] => by rw [T.samesB]; simp
  | [], _ :: _ => by rw [T.samesB, T.nls, T.nls] <;> simp
  | _ :: _, [] => by rw [T.samesB, T.nls, T.nls] <;> simp
  | t :: r, u :: s => by rw [T.samesB, T.nls, T.nls, Bool.and_eq_true, same_nl t u, sames_nl r s]; simp
end
/-! stuck heads -/
inductive Stk (l : List C) : T → Prop where
  | mk {v : T} (h : rootI l v = none) (hp : ∀ i many, spot v = some (i, many) → i < v.ks.length → Stk l (v.kid i)) : Stk l v
theorem own_none {l : List C} {t x : T} : ownS l t x = none ↔ ownI l t x = none := by
  unfold ownS ownI
  repeat' split
  all_goals simp_all
/-- what decides is the same -/
theorem root_none_of {l : List C} {v w : T} (h1 : w.k = v.k) (h2 : w.n = v.n) (h3 : w.a = v.a) (h4 : w.ls = v.ls) (h5 : w.ks.length = v.ks.length) (hp : ∀ i many, spot v = some (i, many) → (w.kid i).k = (v.kid i).k ∧ (w.kid i).n = (v.kid i).n) (h : rootI l v = none) : rootI l w = none := by
  cases hw : rootI l w with
  | none => rfl
  | some u =>
    exfalso
    have key : ∀ x, rootI l v = some x → False := fun x hx => by rw [h] at hx; cases hx
    rcases rootI_cases hw with ⟨e1, e2, -⟩ | ⟨e1, e2, -⟩ | ⟨e1, e2, -⟩ | ⟨e1, -⟩ | ⟨e1, e2⟩ | ⟨e1, e2, -⟩ | ⟨e1, e2, -⟩ | ⟨e1, e2, e3, e4, e5, e6, -⟩
    · have := hp 0 2 (by unfold spot; rw [if_pos (h1 ▸ e1)])
      exact key _ (rootI_of (.inl ⟨h1 ▸ e1, by rw [← this.1]; exact e2, rfl⟩))
    · have := hp 0 1 (by unfold spot; rw [if_neg (by omega), if_pos (by omega)])
      exact key _ (rootI_of (.inr (.inl ⟨h1 ▸ e1, by rw [← this.1]; exact e2, rfl⟩)))
    · have := hp 0 1 (by unfold spot; rw [if_neg (by omega), if_pos (by omega)])
      exact key _ (rootI_of (.inr (.inr (.inl ⟨h1 ▸ e1, by rw [← this.1]; exact e2, rfl⟩))))
    · exact key _ (rootI_of (.inr (.inr (.inr (.inl ⟨h1 ▸ e1, rfl⟩)))))
    · rw [h2, h4] at e2
      exact key _ (rootI_of (.inr (.inr (.inr (.inr (.inl ⟨h1 ▸ e1, e2⟩))))))
    · have := hp 4 5 (by unfold spot; rw [if_neg (by omega), if_neg (by omega), if_pos (by omega)])
      exact key _ (rootI_of (.inr (.inr (.inr (.inr (.inr (.inl ⟨h1 ▸ e1, by rw [← this.1]; exact e2, rfl⟩)))))))
    · have := hp 5 6 (by unfold spot; rw [if_neg (by omega), if_neg (by omega), if_neg (by omega), if_pos (by omega)])
      exact key _ (rootI_of (.inr (.inr (.inr (.inr (.inr (.inr (.inl ⟨h1 ▸ e1, by rw [← this.1]; exact e2, rfl⟩))))))))
    · rw [h3] at e2 e3 e4 e5 e6
      rw [h5] at e3
      have := hp (v.a.toNat + 1) (v.a.toNat + 2) (by unfold spot; rw [if_neg (by omega), if_neg (by omega), if_neg (by omega), if_neg (by omega), if_pos ⟨h1 ▸ e1, e2, e3⟩])
      exact key _ (rootI_of (.inr (.inr (.inr (.inr (.inr (.inr (.inr ⟨h1 ▸ e1, e2, e3, by rw [← this.1]; exact e4, by rw [← this.2]; exact e5, by rw [← this.2]; exact e6, rfl⟩))))))))
/-! terms that come to one -/
def Eqv (l : List C) (p q : T) : Prop := ∃ a, Pars l p.nl a ∧ Pars l q.nl a
theorem Eqv.refl (l : List C) (p : T) : Eqv l p p := ⟨_, .refl _, .refl _⟩
theorem Eqv.symm {l : List C} {p q : T} (h : Eqv l p q) : Eqv l q p := by obtain ⟨a, h1, h2⟩ := h; exact ⟨a, h2, h1⟩
theorem Eqv.trans {l : List C} (hc : Closed l) {p q r : T} (h : Eqv l p q) (g : Eqv l q r) : Eqv l p r := by
  obtain ⟨a, h1, h2⟩ := h
  obtain ⟨b, g1, g2⟩ := g
  obtain ⟨w, w1, w2⟩ := pars_meet hc h2 g1
  exact ⟨w, h1.trans w1, g2.trans w2⟩
end Go.Proofs.YtgloldepdhgfaaaGreatDoor
namespace Go.Proofs.YtgloldepdhgfaaaGreatDoor
set_option linter.unusedSimpArgs false
set_option linter.unusedVariables false
open Go.RowKit
def appliedT (t : T) : T := ofT 6 [t.lift 1 0 0, ofT 1 []]
/-- the parts of a function, a pair; of another one what eta says -/
def partsT (k : Int) (t : T) : List T :=
  if t.k = k then (if k = 13 then [t.kid 0, t.kid 1] else [t.kid 1]) else (if k = 13 then [ofT 14 [t], ofT 15 [t]] else [appliedT t])
def mattersT (t : T) : List T := if t.k = 18 then [t.kid 2, t.kid 3, t.kid 4] else if t.k = 21 then [t.kid 2, t.kid 3, t.kid 5] else t.ks
def alikeT (x y : T) : Prop := x.k = y.k ∧ x.n = y.n ∧ x.a = y.a ∧ x.ks.length = y.ks.length ∧ sameLs x.ls y.ls = true
instance (x y : T) : Decidable (alikeT x y) := by unfold alikeT; infer_instance
/-- what two heads are asked -/
def prs (x y : T) : Option (List T × List T) :=
  if x.k = 5 ∨ y.k = 5 then some (partsT 5 x, partsT 5 y) else if x.k = 13 ∨ y.k = 13 then some (partsT 13 x, partsT 13 y) else if alikeT x y then some (mattersT x, mattersT y) else none
/-- what to bring to the head comes to -/
inductive HdO (l : List C) (t : T) (f : Int) : Option (T × Int) → Prop where
  | fin {m : Nat} {u : T} (h : Hd l t m u) (hm : (m : Int) ≤ f) : HdO l t f (some (u, f - m))
  | gone {q : Int} (h : GoneAt l t f q) : HdO l t f none
/-- whether the terms of two rows are one, one by one: the answer and what is left, or the fuel is gone -/
inductive CR (l : List C) : Nat → List T → List T → Int → Option (Bool × Int) → Prop where
  | nil {h : Nat} {f : Int} : CR l h [] [] f (some (true, f))
  | out {h : Nat} {p q : T} {ps qs : List T} : CR l (h + 1) (p :: ps) (q :: qs) 0 none
  | same {h : Nat} {p q : T} {ps qs : List T} {f : Int} {o : Option (Bool × Int)} (hf : 1 ≤ f) (hs : p.sameB q = true) (hr : CR l (h + 1) ps qs (f - 1) o) : CR l (h + 1) (p :: ps) (q :: qs) f o
  | gone1 {h : Nat} {p q : T} {ps qs : List T} {f : Int} (hf : 1 ≤ f) (hs : p.sameB q = false) (h1 : HdO l p (f - 1) none) : CR l (h + 1) (p :: ps) (q :: qs) f none
  | gone2 {h : Nat} {p q x : T} {ps qs : List T} {f f1 : Int} (hf : 1 ≤ f) (hs : p.sameB q = false) (h1 : HdO l p (f - 1) (some (x, f1))) (h2 : HdO l q f1 none) : CR l (h + 1) (p :: ps) (q :: qs) f none
  | mis {h : Nat} {p q x y : T} {ps qs : List T} {f f1 f2 : Int} (hf : 1 ≤ f) (hs : p.sameB q = false) (h1 : HdO l p (f - 1) (some (x, f1))) (h2 : HdO l q f1 (some (y, f2))) (hp : prs x y = none) : CR l (h + 1) (p :: ps) (q :: qs) f (some (false, f2))
  | kids {h : Nat} {p q x y : T} {ps qs ds bs : List T} {f f1 f2 : Int} {o : Option (Bool × Int)} (hf : 1 ≤ f) (hs : p.sameB q = false) (h1 : HdO l p (f - 1) (some (x, f1))) (h2 : HdO l q f1 (some (y, f2))) (hp : prs x y = some (ds, bs))
      (hk : CR l h ds bs f2 o) (hn : ∀ g, o ≠ some (true, g)) : CR l (h + 1) (p :: ps) (q :: qs) f o
  | yes {h : Nat} {p q x y : T} {ps qs ds bs : List T} {f f1 f2 g : Int} {o : Option (Bool × Int)} (hf : 1 ≤ f) (hs : p.sameB q = false) (h1 : HdO l p (f - 1) (some (x, f1))) (h2 : HdO l q f1 (some (y, f2))) (hp : prs x y = some (ds, bs))
      (hk : CR l h ds bs f2 (some (true, g))) (hr : CR l (h + 1) ps qs g o) : CR l (h + 1) (p :: ps) (q :: qs) f o
/-- whether a term is at most another one -/
inductive LR (l : List C) : Nat → T → T → Int → Option (Bool × Int) → Prop where
  | out {h : Nat} {p q : T} : LR l h p q 0 none
  | same {h : Nat} {p q : T} {f : Int} (hf : 1 ≤ f) (hs : p.sameB q = true) : LR l h p q f (some (true, f - 1))
  | gone1 {h : Nat} {p q : T} {f : Int} (hf : 1 ≤ f) (hs : p.sameB q = false) (h1 : HdO l p (f - 1) none) : LR l h p q f none
  | gone2 {h : Nat} {p q x : T} {f f1 : Int} (hf : 1 ≤ f) (hs : p.sameB q = false) (h1 : HdO l p (f - 1) (some (x, f1))) (h2 : HdO l q f1 none) : LR l h p q f none
  | sort {h : Nat} {p q x y : T} {a b : LV} {f f1 f2 : Int} (hf : 1 ≤ f) (hs : p.sameB q = false) (h1 : HdO l p (f - 1) (some (x, f1))) (h2 : HdO l q f1 (some (y, f2))) (hx : x.k = 2 ∧ x.ls = [a]) (hy : y.k = 2 ∧ y.ls = [b]) : LR l h p q f (some (leqM a b, f2))
  | pino {h : Nat} {p q x y : T} {f f1 f2 : Int} {o : Option (Bool × Int)} (hf : 1 ≤ f) (hs : p.sameB q = false) (h1 : HdO l p (f - 1) (some (x, f1))) (h2 : HdO l q f1 (some (y, f2))) (hx : x.k = 4) (hy : y.k = 4)
      (hk : CR l h [x.kid 0] [y.kid 0] f2 o) (hn : ∀ g, o ≠ some (true, g)) : LR l h p q f o
  | pi {h : Nat} {p q x y : T} {f f1 f2 g : Int} {o : Option (Bool × Int)} (hf : 1 ≤ f) (hs : p.sameB q = false) (h1 : HdO l p (f - 1) (some (x, f1))) (h2 : HdO l q f1 (some (y, f2))) (hx : x.k = 4) (hy : y.k = 4)
      (hk : CR l h [x.kid 0] [y.kid 0] f2 (some (true, g))) (hr : LR l h (x.kid 1) (y.kid 1) g o) : LR l h p q f o
  | one {h : Nat} {p q x y : T} {f f1 f2 : Int} {o : Option (Bool × Int)} (hf : 1 ≤ f) (hs : p.sameB q = false) (h1 : HdO l p (f - 1) (some (x, f1))) (h2 : HdO l q f1 (some (y, f2)))
      (hn : ¬ (x.k = 2 ∧ y.k = 2 ∧ x.ls.length = 1 ∧ y.ls.length = 1)) (hn2 : ¬ (x.k = 4 ∧ y.k = 4)) (hr : CR l h [x] [y] f2 o) : LR l h p q f o
/-! heads -/
theorem hdO_total (l : List C) (t : T) (f : Int) (h0 : 0 ≤ f) : ∃ o, HdO l t f o := by
  rcases hd_or_gone l f.toNat t f h0 (by omega) with ⟨n, u, h, hn⟩ | ⟨q, g⟩
  · exact ⟨_, .fin h hn⟩
  · exact ⟨_, .gone g⟩
theorem goneAt_lt {l : List C} {t : T} {f q : Int} (g : GoneAt l t f q) : ∀ {m : Nat} {u : T}, Hd l t m u → f < m := by
  induction g with
  | now h hf =>
    intro m u hd
    cases hd with
    | stop h3 => rw [h] at h3; cases h3
    | step h3 r => rw [h] at h3; cases h3; omega
  | later h hf r ih =>
    intro m u hd
    cases hd with
    | stop h3 => rw [h] at h3; cases h3
    | step h3 r3 => rw [h] at h3; cases h3; have := ih r3; omega
theorem HdO.le {l : List C} {t u : T} {f g : Int} (h : HdO l t f (some (u, g))) : 0 ≤ g ∧ g ≤ f := by
  cases h with
  | fin h hm => omega
theorem HdO.det {l : List C} {t : T} {f : Int} {o o' : Option (T × Int)} (h : HdO l t f o) (h' : HdO l t f o') : o = o' := by
  cases h with
  | fin h hm =>
    cases h' with
    | fin h' hm' => obtain ⟨rfl, rfl⟩ := h.det h'; rfl
    | gone g => have := goneAt_lt g h; omega
  | gone g =>
    cases h' with
    | fin h' hm' => have := goneAt_lt g h'; omega
    | gone g' => rfl
/-! what the question comes to -/
theorem CR.mono {l : List C} {h : Nat} {ps qs : List T} {f : Int} {o : Option (Bool × Int)} (H : CR l h ps qs f o) : ∀ {h' : Nat}, h ≤ h' → CR l h' ps qs f o := by
  induction H with
  | nil => intro h' _; exact .nil
  | out => intro h' hh; obtain ⟨k, rfl⟩ : ∃ k, h' = k + 1 := ⟨h' - 1, by omega⟩; exact .out
  | same hf hs hr ih => intro h' hh; obtain ⟨k, rfl⟩ : ∃ k, h' = k + 1 := ⟨h' - 1, by omega⟩; exact .same hf hs (ih hh)
  | gone1 hf hs h1 => intro h' hh; obtain ⟨k, rfl⟩ : ∃ k, h' = k + 1 := ⟨h' - 1, by omega⟩; exact .gone1 hf hs h1
  | gone2 hf hs h1 h2 => intro h' hh; obtain ⟨k, rfl⟩ : ∃ k, h' = k + 1 := ⟨h' - 1, by omega⟩; exact .gone2 hf hs h1 h2
  | mis hf hs h1 h2 hp => intro h' hh; obtain ⟨k, rfl⟩ : ∃ k, h' = k + 1 := ⟨h' - 1, by omega⟩; exact .mis hf hs h1 h2 hp
  | kids hf hs h1 h2 hp hk hn ih => intro h' hh; obtain ⟨k, rfl⟩ : ∃ k, h' = k + 1 := ⟨h' - 1, by omega⟩; exact .kids hf hs h1 h2 hp (ih (by omega)) hn
  | yes hf hs h1 h2 hp hk hr ih1 ih2 => intro h' hh; obtain ⟨k, rfl⟩ : ∃ k, h' = k + 1 := ⟨h' - 1, by omega⟩; exact .yes hf hs h1 h2 hp (ih1 (by omega)) (ih2 hh)
theorem CR.det {l : List C} {h : Nat} {ps qs : List T} {f : Int} {o : Option (Bool × Int)} (H : CR l h ps qs f o) : ∀ {h' : Nat} {o' : Option (Bool × Int)}, CR l h' ps qs f o' → o = o' := by
  induction H with
  | nil => intro h' o' K; cases K; rfl
  | out => intro h' o' K; cases K <;> first | rfl | omega
  | same hf hs hr ih =>
    intro h' o' K
    cases K with
    | out => omega
    | same _ _ hr' => exact ih hr'
    | gone1 _ hs' _ | gone2 _ hs' _ _ | mis _ hs' _ _ _ | kids _ hs' _ _ _ _ _ | yes _ hs' _ _ _ _ _ => rw [hs] at hs'; cases hs'
  | gone1 hf hs h1 =>
    intro h' o' K
    cases K with
    | out => rfl
    | same _ hs' _ => rw [hs] at hs'; cases hs'
    | gone1 _ _ _ => rfl
    | gone2 _ _ h1' _ | mis _ _ h1' _ _ | kids _ _ h1' _ _ _ _ | yes _ _ h1' _ _ _ _ => cases h1.det h1'
  | gone2 hf hs h1 h2 =>
    intro h' o' K
    cases K with
    | out => rfl
    | same _ hs' _ => rw [hs] at hs'; cases hs'
    | gone1 _ _ _ => rfl
    | gone2 _ _ _ _ => rfl
    | mis _ _ h1' h2' _ | kids _ _ h1' h2' _ _ _ | yes _ _ h1' h2' _ _ _ => cases h1.det h1'; cases h2.det h2'
  | mis hf hs h1 h2 hp =>
    intro h' o' K
    cases K with
    | out => omega
    | same _ hs' _ => rw [hs] at hs'; cases hs'
    | gone1 _ _ h1' => cases h1.det h1'
    | gone2 _ _ h1' h2' => cases h1.det h1'; cases h2.det h2'
    | mis _ _ h1' h2' _ => cases h1.det h1'; cases h2.det h2'; rfl
    | kids _ _ h1' h2' hp' _ _ | yes _ _ h1' h2' hp' _ _ => cases h1.det h1'; cases h2.det h2'; rw [hp] at hp'; cases hp'
  | kids hf hs h1 h2 hp hk hn ih =>
    intro h' o' K
    cases K with
    | out => omega
    | same _ hs' _ => rw [hs] at hs'; cases hs'
    | gone1 _ _ h1' => cases h1.det h1'
    | gone2 _ _ h1' h2' => cases h1.det h1'; cases h2.det h2'
    | mis _ _ h1' h2' hp' => cases h1.det h1'; cases h2.det h2'; rw [hp] at hp'; cases hp'
    | kids _ _ h1' h2' hp' hk' _ => cases h1.det h1'; cases h2.det h2'; rw [hp] at hp'; cases hp'; exact ih hk'
    | yes _ _ h1' h2' hp' hk' _ => cases h1.det h1'; cases h2.det h2'; rw [hp] at hp'; cases hp'; exact absurd (ih hk') (hn _)
  | yes hf hs h1 h2 hp hk hr ih1 ih2 =>
    intro h' o' K
    cases K with
    | out => omega
    | same _ hs' _ => rw [hs] at hs'; cases hs'
    | gone1 _ _ h1' => cases h1.det h1'
    | gone2 _ _ h1' h2' => cases h1.det h1'; cases h2.det h2'
    | mis _ _ h1' h2' hp' => cases h1.det h1'; cases h2.det h2'; rw [hp] at hp'; cases hp'
    | kids _ _ h1' h2' hp' hk' hn' => cases h1.det h1'; cases h2.det h2'; rw [hp] at hp'; cases hp'; exact absurd (ih1 hk').symm (hn' _)
    | yes _ _ h1' h2' hp' hk' hr' => cases h1.det h1'; cases h2.det h2'; rw [hp] at hp'; cases hp'; cases ih1 hk'; exact ih2 hr'
theorem CR.le {l : List C} {h : Nat} {ps qs : List T} {f : Int} {o : Option (Bool × Int)} (H : CR l h ps qs f o) : 0 ≤ f → ∀ b g, o = some (b, g) → 0 ≤ g ∧ g ≤ f := by
  induction H with
  | nil => intro h0 b g e; cases e; omega
  | out | gone1 _ _ _ | gone2 _ _ _ _ => intro h0 b g e; cases e
  | same hf hs hr ih => intro h0 b g e; have := ih (by omega) b g e; omega
  | mis hf hs h1 h2 hp => intro h0 b g e; cases e; have := h1.le; have := h2.le; omega
  | kids hf hs h1 h2 hp hk hn ih => intro h0 b g e; have := h1.le; have := h2.le; have := ih (by omega) b g e; omega
  | yes hf hs h1 h2 hp hk hr ih1 ih2 => intro h0 b g e; have := h1.le; have := h2.le; have := ih1 (by omega) _ _ rfl; have := ih2 (by omega) b g e; omega
/-- a row is asked one by one -/
theorem CR.split {l : List C} {h : Nat} {p q : T} {ps qs : List T} {f : Int} {o : Option (Bool × Int)} (H : CR l (h + 1) (p :: ps) (q :: qs) f o) :
    (CR l (h + 1) [p] [q] f none ∧ o = none) ∨ (∃ g, CR l (h + 1) [p] [q] f (some (false, g)) ∧ o = some (false, g)) ∨ ∃ g, CR l (h + 1) [p] [q] f (some (true, g)) ∧ CR l (h + 1) ps qs g o := by
  cases H with
  | out => exact .inl ⟨.out, rfl⟩
  | same hf hs hr => exact .inr (.inr ⟨_, .same hf hs .nil, hr⟩)
  | gone1 hf hs h1 => exact .inl ⟨.gone1 hf hs h1, rfl⟩
  | gone2 hf hs h1 h2 => exact .inl ⟨.gone2 hf hs h1 h2, rfl⟩
  | mis hf hs h1 h2 hp => exact .inr (.inl ⟨_, .mis hf hs h1 h2 hp, rfl⟩)
  | kids hf hs h1 h2 hp hk hn =>
    cases o with
    | none => exact .inl ⟨.kids hf hs h1 h2 hp hk hn, rfl⟩
    | some v =>
      obtain ⟨b, g⟩ := v
      cases b with
      | true => exact absurd rfl (hn g)
      | false => exact .inr (.inl ⟨g, .kids hf hs h1 h2 hp hk hn, rfl⟩)
  | yes hf hs h1 h2 hp hk hr => exact .inr (.inr ⟨_, .yes hf hs h1 h2 hp hk .nil, hr⟩)
end Go.Proofs.YtgloldepdhgfaaaGreatDoor
namespace Go.Proofs.YtgloldepdhgfaaaGreatDoor
set_option linter.unusedSimpArgs false
set_option linter.unusedVariables false
open Go.RowKit
theorem eqAll_symm {α : Type} {p : α → α → Bool} (hp : ∀ a b, p a b = p b a) (l m : List α) : eqAll p l m = eqAll p m l := by
  induction l generalizing m with
  | nil => cases m <;> rfl
  | cons a r ih => cases m with
    | nil => rfl
    | cons b s => simp only [eqAll]; rw [hp a b, ih s]
theorem sameLs_symm (l m : List LV) : sameLs l m = sameLs m l := by
  rw [sameLs_all, sameLs_all]
  exact eqAll_symm (fun a b => by simp [eq_comm]) l m
mutual
theorem sameB_symm : ∀ t u : T, t.sameB u = u.sameB t
  | .mk k n a ls ks, .mk k' n' a' ls' ks' => by
    rw [T.sameB, T.sameB, sameLs_symm ls ls', samesB_symm ks ks']
    simp [eq_comm]
theorem samesB_symm : ∀ l m : List T, T.samesB l m = T.samesB m l
  | [], [] => rfl
  | [], _ :: _ => by rw [T.samesB, T.samesB] <;> simp
  | _ :: _, [] => by rw [T.samesB, T.samesB] <;> simp
  | t :: r, u :: s => by rw [T.samesB, T.samesB, sameB_symm t u, samesB_symm r s]
end
mutual
theorem sameB_refl : ∀ t : T, t.sameB t = true
  | .mk k n a ls ks => by rw [T.sameB, sameLs_refl, samesB_refl ks]; simp
theorem samesB_refl : ∀ l : List T, T.samesB l l = true
  | [] => rfl
  | t :: r => by rw [T.samesB, sameB_refl t, samesB_refl r]; rfl
end
theorem alike_symm {x y : T} : alikeT x y ↔ alikeT y x := by
  unfold alikeT
  rw [sameLs_symm x.ls y.ls]
  constructor
  · rintro ⟨a, b, c, d, e⟩; exact ⟨a.symm, b.symm, c.symm, d.symm, e⟩
  · rintro ⟨a, b, c, d, e⟩; exact ⟨a.symm, b.symm, c.symm, d.symm, e⟩
theorem prs_symm (x y : T) : prs y x = (prs x y).map fun v => (v.2, v.1) := by
  unfold prs
  by_cases h5 : x.k = 5 ∨ y.k = 5
  · rw [if_pos h5, if_pos h5.symm]; rfl
  · rw [if_neg h5, if_neg fun h => h5 h.symm]
    by_cases h13 : x.k = 13 ∨ y.k = 13
    · rw [if_pos h13, if_pos h13.symm]; rfl
    · rw [if_neg h13, if_neg fun h => h13 h.symm]
      by_cases ha : alikeT x y
      · rw [if_pos ha, if_pos (alike_symm.1 ha)]; rfl
      · rw [if_neg ha, if_neg fun h => ha (alike_symm.1 h)]; rfl
theorem HdO.cost {l : List C} {t u : T} {f g : Int} (h : HdO l t f (some (u, g))) : ∃ m : Nat, Hd l t m u ∧ g = f - m ∧ (m : Int) ≤ f := by
  generalize ho : some (u, g) = o at h
  cases h with
  | fin h hm => cases ho; exact ⟨_, h, rfl, hm⟩
  | gone g => cases ho
theorem HdO.of {l : List C} {t u : T} {f g : Int} {m : Nat} (h : Hd l t m u) (hg : g = f - m) (hm : (m : Int) ≤ f) : HdO l t f (some (u, g)) := by subst hg; exact .fin h hm
theorem HdO.lt {l : List C} {t u : T} {f : Int} {m : Nat} (h : HdO l t f none) (h2 : Hd l t m u) : f < m := by
  cases h with
  | gone g => exact goneAt_lt g h2
theorem HdO.none_of {l : List C} {t : T} {f : Int} (h0 : 0 ≤ f) (h : ∀ m u, Hd l t m u → f < (m : Nat)) : HdO l t f none := by
  obtain ⟨o, H⟩ := hdO_total l t f h0
  cases o with
  | none => exact H
  | some v => obtain ⟨u, g⟩ := v; obtain ⟨m, h1, -, h2⟩ := H.cost; have := h m u h1; omega
theorem swap2 {l : List C} {p q x y : T} {f f1 f2 : Int} (h1 : HdO l p f (some (x, f1))) (h2 : HdO l q f1 (some (y, f2))) : ∃ f1', HdO l q f (some (y, f1')) ∧ HdO l p f1' (some (x, f2)) := by
  obtain ⟨m, a1, a2, a3⟩ := h1.cost
  obtain ⟨n, b1, b2, b3⟩ := h2.cost
  exact ⟨f - n, .of b1 rfl (by omega), .of a1 (by omega) (by omega)⟩
theorem CR.symm {l : List C} {h : Nat} {ps qs : List T} {f : Int} {o : Option (Bool × Int)} (H : CR l h ps qs f o) : CR l h qs ps f o := by
  induction H with
  | nil => exact .nil
  | out => exact .out
  | same hf hs hr ih => exact .same hf (by rw [sameB_symm]; exact hs) ih
  | @gone1 h p q ps qs f hf hs h1 =>
    have hs' : q.sameB p = false := by rw [sameB_symm]; exact hs
    obtain ⟨o, H⟩ := hdO_total l q (f - 1) (by omega)
    cases o with
    | none => exact .gone1 hf hs' H
    | some v =>
      obtain ⟨y, f2⟩ := v
      have := H.le
      exact .gone2 hf hs' H (.none_of this.1 fun m u hd => by have := h1.lt hd; omega)
  | @gone2 h p q x ps qs f f1 hf hs h1 h2 =>
    have hs' : q.sameB p = false := by rw [sameB_symm]; exact hs
    obtain ⟨m, a1, a2, a3⟩ := h1.cost
    obtain ⟨o, H⟩ := hdO_total l q (f - 1) (by omega)
    cases o with
    | none => exact .gone1 hf hs' H
    | some v =>
      obtain ⟨y, f2⟩ := v
      obtain ⟨n, b1, b2, b3⟩ := H.cost
      have := h2.lt b1
      exact .gone2 hf hs' H (.none_of (by omega) fun m' u hd => by
        obtain ⟨rfl, -⟩ := a1.det hd
        omega)
  | mis hf hs h1 h2 hp =>
    obtain ⟨f1', c1, c2⟩ := swap2 h1 h2
    exact .mis hf (by rw [sameB_symm]; exact hs) c1 c2 (by rw [prs_symm, hp]; rfl)
  | kids hf hs h1 h2 hp hk hn ih =>
    obtain ⟨f1', c1, c2⟩ := swap2 h1 h2
    exact .kids hf (by rw [sameB_symm]; exact hs) c1 c2 (by rw [prs_symm, hp]; rfl) ih hn
  | yes hf hs h1 h2 hp hk hr ih1 ih2 =>
    obtain ⟨f1', c1, c2⟩ := swap2 h1 h2
    exact .yes hf (by rw [sameB_symm]; exact hs) c1 c2 (by rw [prs_symm, hp]; rfl) ih1 ih2
/-! at most -/
theorem LR.mono {l : List C} {h : Nat} {p q : T} {f : Int} {o : Option (Bool × Int)} (H : LR l h p q f o) : ∀ {h' : Nat}, h ≤ h' → LR l h' p q f o := by
  induction H with
  | out => intro h' _; exact .out
  | same hf hs => intro h' _; exact .same hf hs
  | gone1 hf hs h1 => intro h' _; exact .gone1 hf hs h1
  | gone2 hf hs h1 h2 => intro h' _; exact .gone2 hf hs h1 h2
  | sort hf hs h1 h2 hx hy => intro h' _; exact .sort hf hs h1 h2 hx hy
  | pino hf hs h1 h2 hx hy hk hn => intro h' hh; exact .pino hf hs h1 h2 hx hy (hk.mono hh) hn
  | pi hf hs h1 h2 hx hy hk hr ih => intro h' hh; exact .pi hf hs h1 h2 hx hy (hk.mono hh) (ih hh)
  | one hf hs h1 h2 hn hn2 hr => intro h' hh; exact .one hf hs h1 h2 hn hn2 (hr.mono hh)
theorem LR.le {l : List C} {h : Nat} {p q : T} {f : Int} {o : Option (Bool × Int)} (H : LR l h p q f o) : ∀ b g, o = some (b, g) → 0 ≤ g ∧ g ≤ f := by
  induction H with
  | out | gone1 _ _ _ | gone2 _ _ _ _ => intro b g e; cases e
  | same hf hs => intro b g e; cases e; omega
  | sort hf hs h1 h2 hx hy => intro b' g e; cases e; have := h1.le; have := h2.le; omega
  | pino hf hs h1 h2 hx hy hk hn => intro b g e; have := h1.le; have := h2.le; have := hk.le (by omega) b g e; omega
  | pi hf hs h1 h2 hx hy hk hr ih => intro b g e; have := h1.le; have := h2.le; have := hk.le (by omega) _ _ rfl; have := ih b g e; omega
  | one hf hs h1 h2 hn hn2 hr => intro b g e; have := h1.le; have := h2.le; have := hr.le (by omega) b g e; omega
end Go.Proofs.YtgloldepdhgfaaaGreatDoor
namespace Go.Proofs.YtgloldepdhgfaaaGreatDoor
set_option linter.unusedSimpArgs false
set_option linter.unusedVariables false
open Go.RowKit
def T.withKs (t : T) (ks : List T) : T := .mk t.k t.n t.a t.ls ks
/-- the normal forms of some terms, what they cost together (the first number: how deep it goes) -/
inductive Nms (l : List C) : Nat → List T → Nat → List T → Prop where
  | nil {h : Nat} : Nms l h [] 0 []
  | cons {h : Nat} {t u : T} {r ks xs : List T} {m n p : Nat} (hd : Hd l t m u) (hk : Nms l h u.ks n ks) (hr : Nms l (h + 1) r p xs) : Nms l (h + 1) (t :: r) (m + n + p) (u.withKs ks :: xs)
/-- the fuel is gone ahead of that -/
inductive NsGone (l : List C) : Nat → List T → Int → Prop where
  | head {h : Nat} {t : T} {r : List T} {f q : Int} (g : GoneAt l t f q) : NsGone l (h + 1) (t :: r) f
  | kids {h : Nat} {t u : T} {r : List T} {m : Nat} {f : Int} (hd : Hd l t m u) (hm : (m : Int) ≤ f) (g : NsGone l h u.ks (f - m)) : NsGone l (h + 1) (t :: r) f
  | rest {h : Nat} {t u : T} {r ks : List T} {m n : Nat} {f : Int} (hd : Hd l t m u) (hk : Nms l h u.ks n ks) (hm : (m : Int) + n ≤ f) (g : NsGone l (h + 1) r (f - (m + n))) : NsGone l (h + 1) (t :: r) f
theorem Nms.mono {l : List C} {h : Nat} {ts xs : List T} {n : Nat} (H : Nms l h ts n xs) : ∀ {h' : Nat}, h ≤ h' → Nms l h' ts n xs := by
  induction H with
  | nil => intro h' _; exact .nil
  | cons hd hk hr ih1 ih2 =>
    intro h' hh
    obtain ⟨k, rfl⟩ : ∃ k, h' = k + 1 := ⟨h' - 1, by omega⟩
    exact .cons hd (ih1 (by omega)) (ih2 hh)
theorem NsGone.mono {l : List C} {h : Nat} {ts : List T} {f : Int} (H : NsGone l h ts f) : ∀ {h' : Nat}, h ≤ h' → NsGone l h' ts f := by
  induction H with
  | head g => intro h' hh; obtain ⟨k, rfl⟩ : ∃ k, h' = k + 1 := ⟨h' - 1, by omega⟩; exact .head g
  | kids hd hm g ih => intro h' hh; obtain ⟨k, rfl⟩ : ∃ k, h' = k + 1 := ⟨h' - 1, by omega⟩; exact .kids hd hm (ih (by omega))
  | rest hd hk hm g ih => intro h' hh; obtain ⟨k, rfl⟩ : ∃ k, h' = k + 1 := ⟨h' - 1, by omega⟩; exact .rest hd (hk.mono (by omega)) hm (ih hh)
theorem Nms.det {l : List C} {h : Nat} {ts xs : List T} {n : Nat} (H : Nms l h ts n xs) : ∀ {h' m : Nat} {ys : List T}, Nms l h' ts m ys → n = m ∧ xs = ys := by
  induction H with
  | nil => intro h' m ys K; cases K; exact ⟨rfl, rfl⟩
  | cons hd hk hr ih1 ih2 =>
    intro h' m ys K
    cases K with
    | cons hd' hk' hr' =>
      obtain ⟨rfl, rfl⟩ := hd.det hd'
      obtain ⟨rfl, rfl⟩ := ih1 hk'
      obtain ⟨rfl, rfl⟩ := ih2 hr'
      exact ⟨rfl, rfl⟩
theorem Nms.len {l : List C} {h : Nat} {ts xs : List T} {n : Nat} (H : Nms l h ts n xs) : xs.length = ts.length := by
  induction H with
  | nil => rfl
  | cons _ _ _ _ ih => simp [ih]
theorem Hd.zero {l : List C} {t u : T} (h : Hd l t 0 u) : u = t.trunc := by
  generalize hm : (0 : Nat) = m at h
  cases h with
  | stop _ => rfl
  | step h r => have := hstep_pos t h; omega
/-- what is said of each of some terms, is said of all -/
theorem nms_or {l : List C} : ∀ (ts : List T) (f : Int), 0 ≤ f → (∀ t, t ∈ ts → ∀ f' : Int, 0 ≤ f' → f' ≤ f → (∃ h n x, Nms l h [t] n [x] ∧ (n : Int) ≤ f') ∨ ∃ h, NsGone l h [t] f') →
    (∃ h n xs, Nms l h ts n xs ∧ (n : Int) ≤ f) ∨ ∃ h, NsGone l h ts f
  | [], f, h0, _ => .inl ⟨0, 0, [], .nil, h0⟩
  | t :: r, f, h0, H => by
    rcases H t (List.mem_cons_self ..) f h0 (Int.le_refl _) with ⟨h, n, x, hx, hn⟩ | ⟨h, g⟩
    · cases hx with
      | @cons h' _ u _ ks xs m n' p hd hk hr =>
        cases hr
        rcases nms_or r (f - (m + n' : Nat)) (by omega) (fun t' ht' f' a b => H t' (List.mem_cons_of_mem _ ht') f' a (by omega)) with ⟨h2, n2, xs2, hx2, hn2⟩ | ⟨h2, g2⟩
        · exact .inl ⟨max h' h2 + 1, _, _, .cons hd (hk.mono (Nat.le_max_left ..)) (hx2.mono (by have := Nat.le_max_right h' h2; omega)), by omega⟩
        · exact .inr ⟨max h' h2 + 1, .rest hd (hk.mono (Nat.le_max_left ..)) (by omega) (by have x := g2.mono (h' := max h' h2 + 1) (by have := Nat.le_max_right h' h2; omega); rw [Int.natCast_add] at x; exact x)⟩
    · cases g with
      | head g => exact .inr ⟨_, .head (h := 0) g⟩
      | kids hd hm g => exact .inr ⟨_, .kids hd hm g⟩
      | rest hd hk hm g => cases g
theorem ks_pot {t x : T} (h : x ∈ t.ks) : x.pot + 1 ≤ t.pot := by
  cases t with
  | mk k n a ls ks =>
    rw [T.pot]
    have := pots_mem (show x ∈ ks from h)
    omega
/-- a term has a normal form within its fuel, or the fuel is gone -/
theorem nm_or (l : List C) (k : Nat) : ∀ (d : Nat) (t : T) (f : Int), 0 ≤ f → f ≤ k → t.pot ≤ d → (∃ h n x, Nms l h [t] n [x] ∧ (n : Int) ≤ f) ∨ ∃ h, NsGone l h [t] f := by
  induction k using Nat.strongRecOn with
  | ind k ihk =>
    intro d
    induction d with
    | zero => intro t f h0 h1 h2; have := pot_pos t; omega
    | succ d ihd =>
      intro t f h0 h1 h2
      rcases hd_or_gone l f.toNat t f h0 (by omega) with ⟨m, u, hd, hm⟩ | ⟨q, g⟩
      · have key : (∃ h n xs, Nms l h u.ks n xs ∧ (n : Int) ≤ f - m) ∨ ∃ h, NsGone l h u.ks (f - m) := by
          refine nms_or u.ks (f - m) (by omega) fun t' ht' f' a b => ?_
          rcases Nat.eq_zero_or_pos m with rfl | hp
          · have e := hd.zero
            subst e
            have := trunc_pot t
            have := ks_pot ht'
            exact ihd t' f' a (by omega) (by omega)
          · exact ihk (k - 1) (by omega) t'.pot t' f' a (by omega) (Nat.le_refl _)
        rcases key with ⟨h, n, xs, hx, hn⟩ | ⟨h, g⟩
        · exact .inl ⟨h + 1, m + n + 0, _, .cons hd hx .nil, by omega⟩
        · exact .inr ⟨h + 1, .kids hd hm g⟩
      · exact .inr ⟨1, .head (h := 0) g⟩
end Go.Proofs.YtgloldepdhgfaaaGreatDoor
namespace Go.Proofs.YtgloldepdhgfaaaGreatDoor
set_option linter.unusedSimpArgs false
set_option linter.unusedVariables false
open Go.RowKit
/-- a term of a right shape, its numbers in their bounds at so much fuel -/
def okW (f : Int) (t : T) : Prop := ∃ sc : Nat, Ws t sc ∧ sc + t.pot + 8 * f.toNat + 10 ≤ SB
theorem okW.le {f g : Int} {t : T} (h : okW f t) (hg : g ≤ f) : okW g t := by obtain ⟨sc, h1, h2⟩ := h; exact ⟨sc, h1, by omega⟩
/-! rows -/
def EqvL (l : List C) (ps qs : List T) : Prop := ps.length = qs.length ∧ ∀ i, Eqv l (ps.getD i zeroT) (qs.getD i zeroT)
theorem EqvL.refl (l : List C) (ps : List T) : EqvL l ps ps := ⟨rfl, fun _ => .refl _ _⟩
theorem EqvL.cons {l : List C} {p : T} {ps r : List T} (h : EqvL l ps (p :: r)) : ∃ p0 r0, ps = p0 :: r0 ∧ Eqv l p0 p ∧ EqvL l r0 r := by
  obtain ⟨h1, h2⟩ := h
  cases ps with
  | nil => simp at h1
  | cons p0 r0 => exact ⟨p0, r0, rfl, by simpa using h2 0, by simpa using h1, fun i => by simpa using h2 (i + 1)⟩
/-! numbers in their bounds -/
mutual
theorem pot_liftW (n fr : Int) : ∀ (t : T) (d : Int), (T.walk (liftTurn n fr) t d).pot = t.pot
  | .mk k m a ls ks, d => by rw [walk_lift, T.pot, T.pot, pots_liftW n fr k ks 0 d, T.walks_length]
theorem pots_liftW (n fr k : Int) : ∀ (ks : List T) (i : Nat) (d : Int), T.pots (T.walks (liftTurn n fr) k ks i d) = T.pots ks
  | [], _, _ => by rw [T.walks]
  | t :: r, i, d => by rw [T.walks, T.pots, T.pots, pot_liftW n fr t, pots_liftW n fr k r]
end
end Go.Proofs.YtgloldepdhgfaaaGreatDoor
namespace Go.Proofs.YtgloldepdhgfaaaGreatDoor
set_option linter.unusedSimpArgs false
set_option linter.unusedVariables false
open Go.RowKit
/-- nowhere is a step -/
inductive NrmT (l : List C) : T → Prop where
  | mk {t : T} (h : hstep l t = none) (hk : ∀ x, x ∈ t.ks → NrmT l x) : NrmT l t
/-- nowhere is a kid too much or too few -/
inductive WholeT : T → Prop where
  | mk {t : T} (h : t.trunc = t) (hk : ∀ x, x ∈ t.ks → WholeT x) : WholeT t
theorem zero_nrm (l : List C) : NrmT l zeroT := .mk (zero_step l) fun x hx => by cases hx
theorem nms_get {l : List C} {h n : Nat} {ts xs : List T} (H : Nms l h ts n xs) : ∀ i, i < ts.length → ∃ h' m, Nms l h' [ts.getD i zeroT] m [xs.getD i zeroT] := by
  induction H with
  | nil => intro i hi; exact absurd hi (by simp)
  | @cons h t u r ks xs m n p hd hk hr ih1 ih2 =>
    intro i hi
    cases i with
    | zero => exact ⟨h + 1, _, .cons hd hk .nil⟩
    | succ i => obtain ⟨h', m', H⟩ := ih2 i (by simpa using hi); exact ⟨h', m', by simpa using H⟩
theorem own_root_none {l : List C} {t : T} : ownS l t (placeX t) = none ↔ rootI l t = none := own_none
theorem Hd.of_none {l : List C} {p v : T} {m : Nat} (h : hstep l p = none) (hd : Hd l p m v) : m = 0 ∧ v = p.trunc := by
  cases hd with
  | stop _ => exact ⟨rfl, rfl⟩
  | step h' _ => rw [h] at h'; cases h'
/-- kids' normal forms leave a stuck head stuck -/
theorem withKs_stuck {l : List C} (u : T) : hstep l u = none → u.trunc = u → ∀ {h n : Nat} {ks : List T}, Nms l h u.ks n ks → hstep l (u.withKs ks) = none ∧ (u.withKs ks).trunc = u.withKs ks := by
  induction u using T.ind with
  | h k m a ls uks ih =>
    intro hst htr h n ks H
    have hlen : ks.length = uks.length := H.len
    have hsp : spot ((T.mk k m a ls uks).withKs ks) = spot (T.mk k m a ls uks) := spot_congr rfl rfl hlen
    rcases spot_of (.mk k m a ls uks) with hs | ⟨i, many, hs⟩
    · have hs' := hsp.trans hs
      have hn : rootI l (T.mk k m a ls uks) = none := by
        rw [← own_root_none]
        unfold placeX
        rw [hs]
        rw [hstep_none hs] at hst
        exact hst
      refine ⟨?_, trunc_none hs'⟩
      rw [hstep_none hs']
      have := own_root_none.2 (root_none_of (v := T.mk k m a ls uks) (w := (T.mk k m a ls uks).withKs ks) rfl rfl rfl rfl hlen (fun i many e => by rw [hs] at e; cases e) hn)
      unfold placeX at this
      rw [hs'] at this
      exact this
    · have hs' := hsp.trans hs
      have hlt := spot_lt hs
      by_cases hi : i < uks.length
      · have hi0 : i < (T.mk k m a ls uks).ks.length := hi
        rw [trunc_in hs hi0] at htr
        have hmany : uks.length = many := by
          have h1 : ((T.mk k m a ls uks).withT (T.trunc (T.mk k m a ls uks).ks[i]) i many).ks.length = uks.length := by rw [htr]; rfl
          unfold T.withT at h1
          rw [T.ks_mk, withK_len] at h1
          exact h1.symm
        have htk : T.trunc (T.mk k m a ls uks).ks[i] = (T.mk k m a ls uks).ks[i] := by
          have h1 : ((T.mk k m a ls uks).withT (T.trunc (T.mk k m a ls uks).ks[i]) i many).kid i = (T.mk k m a ls uks).kid i := by rw [htr]
          have h2 : ((T.mk k m a ls uks).withT (T.trunc (T.mk k m a ls uks).ks[i]) i many).kid i = T.trunc (T.mk k m a ls uks).ks[i] := by
            unfold T.withT T.kid
            simp only [T.ks_mk]
            rw [withK_get hlt, if_pos rfl]
          rw [← h2, h1, kid_at hi0]
        have huk : hstep l (T.mk k m a ls uks).ks[i] = none := by
          cases hu : hstep l (T.mk k m a ls uks).ks[i] with
          | none => rfl
          | some v => rw [hstep_in hs hi0 (u := v.1) (c := v.2) hu] at hst; cases hst
        obtain ⟨h', m', Hk⟩ := nms_get H i hi
        have Hk : Nms l h' [uks.getD i zeroT] m' [ks.getD i zeroT] := Hk
        rw [getD_in hi] at Hk
        have hi2 : i < ks.length := by omega
        rw [getD_in hi2] at Hk
        generalize hkk : ks[i] = kk at Hk
        cases Hk with
        | @cons h'' _ v _ kks _ m1 n1 _ hd hk hr =>
          cases hr
          obtain ⟨-, hv⟩ := hd.of_none huk
          have hv : v = (T.mk k m a ls uks).ks[i] := hv.trans htk
          subst hv
          obtain ⟨e1, e2⟩ := ih _ (List.getElem_mem hi) huk htk hk
          have e1 : hstep l ((T.mk k m a ls uks).ks[i].withKs kks) = none := e1
          have e2 : T.trunc ((T.mk k m a ls uks).ks[i].withKs kks) = (T.mk k m a ls uks).ks[i].withKs kks := e2
          have hkid : ((T.mk k m a ls uks).withKs ks).kid i = (T.mk k m a ls uks).ks[i].withKs kks := by
            have : ((T.mk k m a ls uks).withKs ks).kid i = ks[i] := kid_at (t := (T.mk k m a ls uks).withKs ks) hi2
            rw [this, hkk]
          have hi3 : i < ((T.mk k m a ls uks).withKs ks).ks.length := hi2
          have hki : ((T.mk k m a ls uks).withKs ks).ks[i] = (T.mk k m a ls uks).ks[i].withKs kks := by rw [← kid_at hi3]; exact hkid
          have hsame : ((T.mk k m a ls uks).withKs ks).withT ((T.mk k m a ls uks).ks[i].withKs kks) i many = (T.mk k m a ls uks).withKs ks := by
            rw [← hkid]
            exact with_same (t := (T.mk k m a ls uks).withKs ks) (by show ks.length = many; omega)
          have hn : rootI l (T.mk k m a ls uks) = none := by
            rw [← own_root_none]
            unfold placeX
            rw [hs]
            rw [hstep_at hs hi0 huk, htk, ← kid_at hi0, with_same (t := T.mk k m a ls uks) hmany] at hst
            exact hst
          have hn2 := own_root_none.2 (root_none_of (v := T.mk k m a ls uks) (w := (T.mk k m a ls uks).withKs ks) rfl rfl rfl rfl hlen (fun j many' e => by
            rw [hs] at e
            cases e
            rw [hkid, kid_at hi0]
            exact ⟨rfl, rfl⟩) hn)
          unfold placeX at hn2
          rw [hs'] at hn2
          simp only at hn2
          rw [hkid] at hn2
          constructor
          · rw [hstep_at hs' hi3 (by rw [hki]; exact e1), hki, e2, hsame]
            exact hn2
          · rw [trunc_in hs' hi3, hki, e2, hsame]
      · have hi0 : ¬ i < (T.mk k m a ls uks).ks.length := hi
        rw [trunc_out hs hi0] at htr
        have h1 : ((T.mk k m a ls uks).withT zeroT i many).ks.length = uks.length := by rw [htr]; rfl
        unfold T.withT at h1
        rw [T.ks_mk, withK_len] at h1
        omega
/-- a normal form is normal -/
theorem nms_norm {l : List C} {h n : Nat} {ts xs : List T} (H : Nms l h ts n xs) : ∀ x, x ∈ xs → NrmT l x ∧ WholeT x := by
  induction H with
  | nil => intro x hx; cases hx
  | @cons h t u r ks xs m n p hd hk hr ih1 ih2 =>
    intro x hx
    rcases List.mem_cons.1 hx with rfl | hx
    · obtain ⟨e1, e2⟩ := hd.done
      obtain ⟨f1, f2⟩ := withKs_stuck u e1 e2 hk
      exact ⟨.mk f1 fun y hy => (ih1 y hy).1, .mk f2 fun y hy => (ih1 y hy).2⟩
    · exact ih2 x hx
/-- and costs nothing more -/
theorem nms_one {l : List C} {h n : Nat} {t x : T} (H : Nms l h [t] n [x]) : ∃ h' u m n' ks, Hd l t m u ∧ Nms l h' u.ks n' ks ∧ n = m + n' ∧ x = u.withKs ks := by
  cases H with
  | cons hd hk hr => cases hr; exact ⟨_, _, _, _, _, hd, hk, by omega, rfl⟩
/-- what is normal costs nothing -/
theorem nrm_trunc {l : List C} {t : T} (h : NrmT l t) : NrmT l t.trunc := by
  induction h with
  | @mk t h hk ih =>
    refine .mk (trunc_stuck t h).1 fun x hx => ?_
    rcases spot_of t with hs | ⟨i, many, hs⟩
    · rw [trunc_none hs] at hx; exact hk x hx
    · have hlt := spot_lt hs
      have hcase : ∀ j, NrmT l (t.ks.getD j zeroT) := fun j => by
        by_cases hj : j < t.ks.length
        · rw [getD_in hj]; exact hk _ (List.getElem_mem hj)
        · rw [getD_out hj]; exact zero_nrm l
      by_cases hi : i < t.ks.length
      · rw [trunc_in hs hi] at hx
        unfold T.withT at hx
        simp only [T.ks_mk] at hx
        unfold withK at hx
        obtain ⟨j, -, rfl⟩ := List.mem_map.1 hx
        split
        · exact ih _ (List.getElem_mem hi)
        · exact hcase j
      · rw [trunc_out hs hi] at hx
        unfold T.withT at hx
        simp only [T.ks_mk] at hx
        unfold withK at hx
        obtain ⟨j, -, rfl⟩ := List.mem_map.1 hx
        split
        · exact zero_nrm l
        · exact hcase j
theorem nrm_cost {l : List C} {h n : Nat} {ts xs : List T} (H : Nms l h ts n xs) : (∀ t, t ∈ ts → NrmT l t) → n = 0 := by
  induction H with
  | nil => intro _; rfl
  | @cons h t u r ks xs m n p hd hk hr ih1 ih2 =>
    intro ht
    have h1 := ht t (List.mem_cons_self ..)
    have hst : hstep l t = none := by cases h1; assumption
    obtain ⟨rfl, rfl⟩ := hd.of_none hst
    have h2 := ih1 fun x hx => by
      cases nrm_trunc h1 with
      | mk _ hk => exact hk x hx
    have h3 := ih2 fun x hx => ht x (List.mem_cons_of_mem _ hx)
    omega
end Go.Proofs.YtgloldepdhgfaaaGreatDoor
namespace Go.Proofs.YtgloldepdhgfaaaGreatDoor
set_option linter.unusedSimpArgs false
set_option linter.unusedVariables false
open Go.RowKit
mutual
theorem D.fgt_of_deep : ∀ d : D, d.deep.fgt = d.deep
  | .agg ds => by rw [D.deep, D.fgt, D.fgts_of_deeps ds]
  | .tuple ds => by rw [D.deep, D.fgt, D.fgts_of_deeps ds]
  | .iface t d => by rw [D.deep, D.fgt, D.fgt_of_deep d]
  | .slice els _ => by rw [D.deep, D.fgt]
  | .fn f a b => by simp [D.deep, D.fgt]
  | .ref d => by simp [D.deep, D.fgt]
  | .mapc ks vs => by simp [D.deep, D.fgt]
  | .junk | .int k n | .bool b | .str s | .nilp | .nilf | .nili | .nilm | .box i o | .map i | .own i n | .ebox i sz k o => by simp [D.deep, D.fgt]
theorem D.fgts_of_deeps : ∀ ds : List D, D.fgts (D.deeps ds) = D.deeps ds
  | [] => by rw [D.deeps, D.fgts]
  | d :: r => by rw [D.deeps, D.fgts, D.fgt_of_deep d, D.fgts_of_deeps r]
end
mutual
theorem D.deep_of_fgt : ∀ d : D, d.fgt.deep = d.deep
  | .agg ds => by rw [D.fgt, D.deep, D.deep, D.deeps_of_fgts ds]
  | .tuple ds => by rw [D.fgt, D.deep, D.deep, D.deeps_of_fgts ds]
  | .iface t d => by rw [D.fgt, D.deep, D.deep, D.deep_of_fgt d]
  | .slice els _ => by rw [D.fgt, D.deep, D.deep]
  | .fn f a b => by simp [D.deep, D.fgt]
  | .ref d => by simp [D.deep, D.fgt]
  | .mapc ks vs => by simp [D.deep, D.fgt]
  | .junk | .int k n | .bool b | .str s | .nilp | .nilf | .nili | .nilm | .box i o | .map i | .own i n | .ebox i sz k o => by simp [D.deep, D.fgt]
theorem D.deeps_of_fgts : ∀ ds : List D, D.deeps (D.fgts ds) = D.deeps ds
  | [] => by rw [D.fgts]
  | d :: r => by rw [D.fgts, D.deeps, D.deeps, D.deep_of_fgt d, D.deeps_of_fgts r]
end
def Out.deep : Out → Out
  | .ret d => .ret d.deep
  | .pan d => .pan d.deep
theorem OutM.deep {ρ : Rho} {w : World} {o : Out} {e : Ending} (h : OutM ρ w o e) : OutM ρ w o.deep e := by
  cases o with
  | ret d => obtain ⟨u, h1, h2⟩ := h; exact ⟨u, h1, Rp_deep _ _ h2⟩
  | pan d => obtain ⟨u, h1, h2⟩ := h; exact ⟨u, h1, Rp_deep _ _ h2⟩
end Go.Proofs.YtgloldepdhgfaaaGreatDoor
namespace Go.Proofs.YtgloldepdhgfaaaGreatDoor
set_option linter.unusedSimpArgs false
set_option linter.unusedVariables false
set_option maxHeartbeats 10000000
set_option maxRecDepth 20000
open Go.RowKit
attribute [local simp] wpAft_ret wpAft_pan wantD evOp opD tmOf putS updS setS hOf isFree isTok fillD TK.isAgg TK.known partD thenD blockD putAll D.ofV inB nilTest isNilS binX binD binE isCst bndD capB IntKind.min IntKind.max IntKind.signed IntKind.bits dstOf late
theorem kidn_spec (t : T) (n : Int) (m : Nat) (h : n = m) : Spec Tryz.prog glob 97 [encT t, .int .i64 n] [] (fun o _ => o.fgt = .ret (encT (t.kid m))) := by
  subst h
  have := kid_spec t m
  rwa [kidI_nat] at this
/-- the constant that a node names -/
def atC (l : List C) (n : Int) (lv : List LV) : Option C := if h : 0 ≤ n ∧ n.toNat < l.length then if (l[n.toNat]'h.2).lv = lv.length then some (l[n.toNat]'h.2) else none else none
theorem atC_low {l : List C} {n : Int} {lv : List LV} (h : ¬ 0 ≤ n) : atC l n lv = none := by unfold atC; rw [dif_neg (fun h2 => h h2.1)]
theorem atC_in {l : List C} {j : Nat} {lv : List LV} (h : j < l.length) : atC l (j : Int) lv = if l[j].lv = lv.length then some l[j] else none := by unfold atC; rw [dif_pos ⟨by omega, by omega⟩]; rfl
theorem atC_out {l : List C} {j : Nat} {lv : List LV} (h : ¬ j < l.length) : atC l (j : Int) lv = none := by unfold atC; rw [dif_neg (fun h2 => h h2.2)]
theorem body_at (l : List C) (n : Int) (lv : List LV) : bodyC l n lv = match atC l n lv with
    | some c => if c.has = true then some (c.bo.levels lv 0) else none
    | none => none := by
  unfold bodyC atC
  split
  · rename_i h
    by_cases h1 : (l[n.toNat]'h.2).lv = lv.length
    · rw [if_pos h1]
      by_cases h2 : (l[n.toNat]'h.2).has = true
      · rw [if_pos ⟨h1, h2⟩]; simp only; rw [if_pos h2]
      · rw [if_neg (fun h3 => h2 h3.2)]; simp only; rw [if_neg h2]
    · rw [if_neg (fun h3 => h1 h3.1), if_neg h1]
  · rfl
theorem atC_mem {l : List C} {n : Int} {lv : List LV} {c : C} (h : atC l n lv = some c) : c ∈ l := by
  unfold atC at h
  split at h
  · split at h
    · cases h; exact List.getElem_mem _
    · cases h
  · cases h
theorem encC_eq (c : C) : encC c = .agg [.int .i64 c.lv, .int .i64 c.ty.k, .int .i64 c.ty.n, .int .i64 c.ty.a, .slice (c.ty.ls.map encL) .any, .slice (c.ty.ks.map encT) .any, .bool c.has, .int .i64 c.bo.k, .int .i64 c.bo.n, .int .i64 c.bo.a, .slice (c.bo.ls.map encL) .any, .slice (c.bo.ks.map encT) .any] := rfl
theorem at_spec (l : List C) (hl : l.length ≤ LMax) (n : Int) (lv : List LV) : Spec Tryz.prog glob 192 [Cs l, .int .i64 n, .slice (lv.map encL) .any] [] (fun o _ => o.fgt = .ret (.tuple [encC ((atC l n lv).getD zeroC), .bool (atC l n lv).isSome])) := by
  unfold LMax at hl
  by_cases h0 : 0 ≤ n
  · obtain ⟨j, rfl⟩ : ∃ j : Nat, n = j := ⟨n.toNat, by omega⟩
    by_cases hj : j < l.length
    · have hj' : (j : Int) < l.length := by omega
      rw [atC_in hj]
      obtain ⟨c, hc⟩ : ∃ c, l[j] = c := ⟨_, rfl⟩
      rw [hc]
      have hE := encC_eq c
      by_cases hlv : c.lv = lv.length
      · rw [if_pos hlv]
        unfold Cs
        refine Spec.movd globPure (wpD_spec tyOK Tryz.func192 rfl (enters _ _ Tryz.func192 rfl (by decide)) rfl rfl ?_)
        (refine wpD_seqk fun K hK => ?_; refine wpD_region tyOK ?_; ((repeat (rw [wpS_cons]; simp)); (try simp only [wpS_nil, thenD, blockD])); refine hK _ _ _ ?_; clear hK K)
        refine wpD_seqk fun K1 hK1 => ?_
        (refine wpD_seqk fun K hK => ?_; refine wpD_region tyOK ?_; ((repeat (rw [wpS_cons]; simp [h0, hj, hj', hc, hE, hlv])); (try simp only [wpS_nil, thenD, blockD])); refine hK _ _ _ ?_; clear hK K)
        refine wpD_part rfl (fun _ => ?_) (fun h => by simp at h)
        (refine wpD_seqk fun K hK => ?_; refine wpD_region tyOK ?_; ((repeat (rw [wpS_cons]; simp [h0, hj, hj', hc, hE, hlv])); (try simp only [wpS_nil, thenD, blockD])); refine hK _ _ _ ?_; clear hK K)
        (refine wpD_ret ?_; (try simp only [thenD, blockD]); refine EndQ.ret rfl (.inl ?_); simp [tmOf, Out.fgt, D.fgt, D.fgts])
        rw [hE, hlv]
      · rw [if_neg hlv]
        unfold Cs
        refine Spec.movd globPure (wpD_spec tyOK Tryz.func192 rfl (enters _ _ Tryz.func192 rfl (by decide)) rfl rfl ?_)
        (refine wpD_seqk fun K hK => ?_; refine wpD_region tyOK ?_; ((repeat (rw [wpS_cons]; simp)); (try simp only [wpS_nil, thenD, blockD])); refine hK _ _ _ ?_; clear hK K)
        refine wpD_seqk fun K1 hK1 => ?_
        (refine wpD_seqk fun K hK => ?_; refine wpD_region tyOK ?_; ((repeat (rw [wpS_cons]; simp [h0, hj, hj', hc, hE, hlv])); (try simp only [wpS_nil, thenD, blockD])); refine hK _ _ _ ?_; clear hK K)
        refine wpD_part rfl (fun h => by simp at h) (fun _ => ?_)
        refine wpD_skip (hK1 _ _ _ ?_)
        (refine wpD_seqk fun K hK => ?_; refine wpD_region tyOK ?_; ((repeat (rw [wpS_cons]; simp)); (try simp only [wpS_nil, thenD, blockD])); refine hK _ _ _ ?_; clear hK K)
        (refine wpD_ret ?_; (try simp only [thenD, blockD]); refine EndQ.ret rfl (.inl ?_); simp [tmOf, Out.fgt, D.fgt, D.fgts])
        rfl
    · have hj' : ¬ (j : Int) < l.length := by omega
      rw [atC_out hj]
      unfold Cs
      refine Spec.movd globPure (wpD_spec tyOK Tryz.func192 rfl (enters _ _ Tryz.func192 rfl (by decide)) rfl rfl ?_)
      (refine wpD_seqk fun K hK => ?_; refine wpD_region tyOK ?_; ((repeat (rw [wpS_cons]; simp)); (try simp only [wpS_nil, thenD, blockD])); refine hK _ _ _ ?_; clear hK K)
      refine wpD_seqk fun K1 hK1 => ?_
      (refine wpD_seqk fun K hK => ?_; refine wpD_region tyOK ?_; ((repeat (rw [wpS_cons]; simp [h0, hj, hj'])); (try simp only [wpS_nil, thenD, blockD])); refine hK _ _ _ ?_; clear hK K)
      refine wpD_part rfl (fun h => by simp at h) (fun _ => ?_)
      refine wpD_skip (hK1 _ _ _ ?_)
      (refine wpD_seqk fun K hK => ?_; refine wpD_region tyOK ?_; ((repeat (rw [wpS_cons]; simp)); (try simp only [wpS_nil, thenD, blockD])); refine hK _ _ _ ?_; clear hK K)
      (refine wpD_ret ?_; (try simp only [thenD, blockD]); refine EndQ.ret rfl (.inl ?_); simp [tmOf, Out.fgt, D.fgt, D.fgts])
      rfl
  · rw [atC_low h0]
    unfold Cs
    refine Spec.movd globPure (wpD_spec tyOK Tryz.func192 rfl (enters _ _ Tryz.func192 rfl (by decide)) rfl rfl ?_)
    (refine wpD_seqk fun K hK => ?_; refine wpD_region tyOK ?_; ((repeat (rw [wpS_cons]; simp)); (try simp only [wpS_nil, thenD, blockD])); refine hK _ _ _ ?_; clear hK K)
    refine wpD_seqk fun K1 hK1 => ?_
    (refine wpD_seqk fun K hK => ?_; refine wpD_region tyOK ?_; ((repeat (rw [wpS_cons]; simp [h0])); (try simp only [wpS_nil, thenD, blockD])); refine hK _ _ _ ?_; clear hK K)
    refine wpD_part rfl (fun h => by simp at h) (fun _ => ?_)
    refine wpD_skip (hK1 _ _ _ ?_)
    (refine wpD_seqk fun K hK => ?_; refine wpD_region tyOK ?_; ((repeat (rw [wpS_cons]; simp)); (try simp only [wpS_nil, thenD, blockD])); refine hK _ _ _ ?_; clear hK K)
    (refine wpD_ret ?_; (try simp only [thenD, blockD]); refine EndQ.ret rfl (.inl ?_); simp [tmOf, Out.fgt, D.fgt, D.fgts])
    rfl
theorem body_spec (l : List C) (hl : okCs l) (n : Int) (lv : List LV) (hv : lv.length ≤ LMax) (hvl : ∀ b, b ∈ lv → b.length ≤ LMax) : Spec Tryz.prog glob 140 [Cs l, .int .i64 n, .slice (lv.map encL) .any] [] (fun o _ => o.fgt = .ret (.tuple [encT ((bodyC l n lv).getD zeroT), .bool (bodyC l n lv).isSome])) := by
  have ha := at_spec l hl.len n lv
  rw [body_at]
  cases hc : atC l n lv with
  | none =>
    rw [hc] at ha
    simp only [Option.getD_none, Option.isSome_none] at ha ⊢
    rw [encZ]
    unfold Cs zeroC at ha
    unfold Cs
    refine Spec.movd globPure (wpD_spec tyOK Tryz.func140 rfl (enters _ _ Tryz.func140 rfl (by decide)) rfl rfl ?_)
    (refine wpD_seqk fun K hK => ?_; refine wpD_region tyOK ?_; ((repeat (rw [wpS_cons]; simp)); (try simp only [wpS_nil, thenD, blockD])); refine hK _ _ _ ?_; clear hK K)
    (refine wpD_seqk fun K hK => ?_; refine wpD_region tyOK ?_; ((repeat (rw [wpS_cons]; simp)); (try simp only [wpS_nil, thenD, blockD])))
    refine cXp (ha) ?_
    ((try simp only [wpAft_ret, wpAft_pan, putS, updS, setS]); (repeat (rw [wpS_cons]; simp)); (try simp only [wpS_nil, thenD, blockD]))
    (refine hK _ _ _ ?_; clear hK K)
    refine wpD_seqk fun K1 hK1 => ?_
    (refine wpD_seqk fun K hK => ?_; refine wpD_region tyOK ?_; ((repeat (rw [wpS_cons]; simp)); (try simp only [wpS_nil, thenD, blockD])); refine hK _ _ _ ?_; clear hK K)
    refine wpD_part rfl (fun _ => ?_) (fun h => by simp at h)
    (refine wpD_seqk fun K hK => ?_; refine wpD_region tyOK ?_; ((repeat (rw [wpS_cons]; simp)); (try simp only [wpS_nil, thenD, blockD])); refine hK _ _ _ ?_; clear hK K)
    (refine wpD_ret ?_; (try simp only [thenD, blockD]); refine EndQ.ret rfl (.inl ?_); simp [tmOf, Out.fgt, D.fgt, D.fgts])
  | some c =>
    rw [hc] at ha
    simp only [Option.getD_some, Option.isSome_some] at ha ⊢
    have hm := atC_mem hc
    have hbo := (hl.ok c hm).2.2
    have hd : c.bo.deep ≤ DM := by have := c.bo.deep_nsz; have := hl.bo c hm; unfold DM; omega
    cases hh : c.has with
    | false =>
      rw [if_neg Bool.false_ne_true]
      simp only [Option.getD_none, Option.isSome_none]
      rw [encZ]
      rw [encC_eq c, hh] at ha
      unfold Cs at ha ⊢
      refine Spec.movd globPure (wpD_spec tyOK Tryz.func140 rfl (enters _ _ Tryz.func140 rfl (by decide)) rfl rfl ?_)
      (refine wpD_seqk fun K hK => ?_; refine wpD_region tyOK ?_; ((repeat (rw [wpS_cons]; simp)); (try simp only [wpS_nil, thenD, blockD])); refine hK _ _ _ ?_; clear hK K)
      (refine wpD_seqk fun K hK => ?_; refine wpD_region tyOK ?_; ((repeat (rw [wpS_cons]; simp)); (try simp only [wpS_nil, thenD, blockD])))
      refine cXp (ha) ?_
      ((try simp only [wpAft_ret, wpAft_pan, putS, updS, setS]); (repeat (rw [wpS_cons]; simp)); (try simp only [wpS_nil, thenD, blockD]))
      (refine hK _ _ _ ?_; clear hK K)
      refine wpD_seqk fun K1 hK1 => ?_
      (refine wpD_seqk fun K hK => ?_; refine wpD_region tyOK ?_; ((repeat (rw [wpS_cons]; simp)); (try simp only [wpS_nil, thenD, blockD])); refine hK _ _ _ ?_; clear hK K)
      refine wpD_part rfl (fun _ => ?_) (fun h => by simp at h)
      (refine wpD_seqk fun K hK => ?_; refine wpD_region tyOK ?_; ((repeat (rw [wpS_cons]; simp)); (try simp only [wpS_nil, thenD, blockD])); refine hK _ _ _ ?_; clear hK K)
      (refine wpD_ret ?_; (try simp only [thenD, blockD]); refine EndQ.ret rfl (.inl ?_); simp [tmOf, Out.fgt, D.fgt, D.fgts])
    | true =>
      rw [if_pos rfl]
      simp only [Option.getD_some, Option.isSome_some]
      have hs := levels_spec c.bo lv hv hvl hd hbo
      rw [encC_eq c, hh] at ha
      rw [encT_eq c.bo] at hs
      generalize c.bo.levels lv 0 = r at hs ⊢
      have hEr := encT_eq r
      unfold Lvs at hs
      unfold Cs at ha ⊢
      refine Spec.movd globPure (wpD_spec tyOK Tryz.func140 rfl (enters _ _ Tryz.func140 rfl (by decide)) rfl rfl ?_)
      (refine wpD_seqk fun K hK => ?_; refine wpD_region tyOK ?_; ((repeat (rw [wpS_cons]; simp)); (try simp only [wpS_nil, thenD, blockD])); refine hK _ _ _ ?_; clear hK K)
      (refine wpD_seqk fun K hK => ?_; refine wpD_region tyOK ?_; ((repeat (rw [wpS_cons]; simp)); (try simp only [wpS_nil, thenD, blockD])))
      refine cXp (ha) ?_
      ((try simp only [wpAft_ret, wpAft_pan, putS, updS, setS]); (repeat (rw [wpS_cons]; simp)); (try simp only [wpS_nil, thenD, blockD]))
      (refine hK _ _ _ ?_; clear hK K)
      refine wpD_seqk fun K1 hK1 => ?_
      (refine wpD_seqk fun K hK => ?_; refine wpD_region tyOK ?_; ((repeat (rw [wpS_cons]; simp)); (try simp only [wpS_nil, thenD, blockD])); refine hK _ _ _ ?_; clear hK K)
      refine wpD_part rfl (fun h => by simp at h) (fun _ => ?_)
      refine wpD_skip (hK1 _ _ _ ?_)
      (refine wpD_seqk fun K hK => ?_; refine wpD_region tyOK ?_; ((repeat (rw [wpS_cons]; simp)); (try simp only [wpS_nil, thenD, blockD])))
      refine cXp (hs) ?_
      ((try simp only [wpAft_ret, wpAft_pan, putS, updS, setS]); (repeat (rw [wpS_cons]; simp)); (try simp only [wpS_nil, thenD, blockD]))
      (refine hK _ _ _ ?_; clear hK K)
      (refine wpD_ret ?_; (try simp only [thenD, blockD]); refine EndQ.ret rfl (.inl ?_); simp [tmOf, Out.fgt, D.fgt, D.fgts])
      exact hEr.symm
theorem happ_spec (left : Int) (l : List C) (once done : Bool) (hl : left ≤ 9223372036854775807) (t x : T) (ht : okS t) (hx : okS x) (h6 : t.k = 6) : Spec Tryz.prog glob 88 [.box 0 0, encT t, encT x] (wObjs left l once done) (OwnP left l once done t (ownS l t x)) := by
  have hEt := encT_eq t
  have hEx := encT_eq x
  unfold ownS
  rw [if_pos h6]
  by_cases hk : x.k = 5
  · rw [if_pos hk]
    have k1 := kidn_spec x 1 1 rfl
    have k2 := kidn_spec t 1 1 rfl
    have hp := hput_spec left l once done hl (x.kid 1) (t.kid 1) (hx.kid 1) (ht.kid 1)
    generalize (x.kid 1).sd (t.kid 1).nsz 0 = c at hp ⊢
    generalize (x.kid 1).put [t.kid 1] 0 = r at hp ⊢
    generalize x.kid 1 = a at k1 hp
    generalize t.kid 1 = b at k2 hp
    have hEr := encT_eq r
    have hEa := encT_eq a
    have hEb := encT_eq b
    rw [hEx, hEa, hk] at k1
    rw [hEt, hEb] at k2
    rw [hEa, hEb, hEr] at hp
    rw [hEt, hEx]
    by_cases hc : (c : Int) ≤ left
    · rw [Cost_ok hc] at hp
      show Spec _ _ _ _ _ (Cost left l once done c _)
      rw [Cost_ok hc]
      unfold wObjs headD Cs stepsM at hp ⊢
      refine Spec.movd globPure (wpD_spec tyOK Tryz.func88 rfl (enters _ _ Tryz.func88 rfl (by decide)) rfl rfl ?_)
      (refine wpD_seqk fun K hK => ?_; refine wpD_region tyOK ?_; ((repeat (rw [wpS_cons]; simp)); (try simp only [wpS_nil, thenD, blockD])); refine hK _ _ _ ?_; clear hK K)
      refine wpD_seqk fun K1 hK1 => ?_
      (refine wpD_seqk fun K hK => ?_; refine wpD_region tyOK ?_; ((repeat (rw [wpS_cons]; simp [hk])); (try simp only [wpS_nil, thenD, blockD])); refine hK _ _ _ ?_; clear hK K)
      refine wpD_part rfl (fun h => by simp at h) (fun _ => ?_)
      refine wpD_skip (hK1 _ _ _ ?_)
      (refine wpD_seqk fun K hK => ?_; refine wpD_drawk tyOK (by kernel_rfl) (by kernel_rfl) fun KT hKT => ?_; ((repeat (rw [wpT_cons]; simp)); (try simp only [wpT_nil])))
      refine cYp (k1) ?_
      ((try simp only [wpAftT_ret, wpAftT_pan, putS, updS, setS]); (repeat (rw [wpT_cons]; simp)); (try simp only [wpT_nil]))
      refine cYp (k2) ?_
      ((try simp only [wpAftT_ret, wpAftT_pan, putS, updS, setS]); (repeat (rw [wpT_cons]; simp)); (try simp only [wpT_nil]))
      refine cYo [0, 1] true true (hp) (fun o h e => e) ?_; simp [D.ren, D.rens, D.okN, D.okNs, Cp.ren, Cp.okN, HO.ren, HO.okN, okA, renA, renO, hOf, handed, D.fgt, D.fgts, List.range_succ, List.idxOf_cons, Out.ren, upO, renO, rdO]
      ((try simp only [wpAftT_ret, wpAftT_pan, putS, updS, setS]); (repeat (rw [wpT_cons]; simp)); (try simp only [wpT_nil]))
      (refine hKT _ _ _ _ (by kernel_rfl) ?_; clear hKT KT; (try simp only [thenD, blockD]))
      (refine hK _ _ _ ?_; clear hK K)
      (refine wpD_ret ?_; (try simp only [thenD, blockD]); refine EndQ.ret rfl (.inr ⟨[], by decide, by simp, ?_⟩); simp [Out.mov, movT, movH, movD, D.mov, HO.mov, okM, renM, getW, D.ren, D.rens, D.okN, D.okNs, Cp.ren, Cp.okN, HO.ren, HO.okN, okA, renA, renO, hOf, handed, D.fgt, D.fgts, List.range_succ, List.idxOf_cons, tmOf, Out.fgt, D.fgt, D.fgts])
      first | done | simp [hEr]
    · rw [Cost_no hc] at hp
      show Spec _ _ _ _ _ (Cost left l once done c _)
      rw [Cost_no hc]
      unfold wObjs headD Cs stepsM goneD at hp
      unfold wObjs headD Cs stepsM goneD
      refine Spec.movd globPure (wpD_spec tyOK Tryz.func88 rfl (enters _ _ Tryz.func88 rfl (by decide)) rfl rfl ?_)
      (refine wpD_seqk fun K hK => ?_; refine wpD_region tyOK ?_; ((repeat (rw [wpS_cons]; simp)); (try simp only [wpS_nil, thenD, blockD])); refine hK _ _ _ ?_; clear hK K)
      refine wpD_seqk fun K1 hK1 => ?_
      (refine wpD_seqk fun K hK => ?_; refine wpD_region tyOK ?_; ((repeat (rw [wpS_cons]; simp [hk])); (try simp only [wpS_nil, thenD, blockD])); refine hK _ _ _ ?_; clear hK K)
      refine wpD_part rfl (fun h => by simp at h) (fun _ => ?_)
      refine wpD_skip (hK1 _ _ _ ?_)
      (refine wpD_seqk fun K hK => ?_; refine wpD_drawk tyOK (by kernel_rfl) (by kernel_rfl) fun KT hKT => ?_; ((repeat (rw [wpT_cons]; simp)); (try simp only [wpT_nil])))
      refine cYp (k1) ?_
      ((try simp only [wpAftT_ret, wpAftT_pan, putS, updS, setS]); (repeat (rw [wpT_cons]; simp)); (try simp only [wpT_nil]))
      refine cYp (k2) ?_
      ((try simp only [wpAftT_ret, wpAftT_pan, putS, updS, setS]); (repeat (rw [wpT_cons]; simp)); (try simp only [wpT_nil]))
      refine cYo [0, 1] true false (hp) (fun o h e => e) ?_; simp [D.ren, D.rens, D.okN, D.okNs, Cp.ren, Cp.okN, HO.ren, HO.okN, okA, renA, renO, hOf, handed, D.fgt, D.fgts, List.range_succ, List.idxOf_cons, Out.ren, upO, renO, rdO]
      ((try simp only [wpAftT_ret, wpAftT_pan, putS, updS, setS]); (repeat (refine wpT_late _ _ _ _ (by kernel_rfl) ?_; simp only [putS, List.set, List.nil_append, List.cons_append, Nat.reduceAdd])); (try simp only [wpT_nil]))
      (refine hKT _ _ _ _ (by kernel_rfl) ?_; clear hKT KT; (try simp only [thenD, blockD]))
      simp [killHl]
      ((try simp only [thenD, blockD]); refine EndQ.pan (.inr ⟨[], by decide, by simp, ?_⟩); simp [Out.mov, movT, movH, movD, D.mov, HO.mov, okM, renM, getW, D.ren, D.rens, D.okN, D.okNs, Cp.ren, Cp.okN, HO.ren, HO.okN, okA, renA, renO, hOf, handed, D.fgt, D.fgts, List.range_succ, List.idxOf_cons, tmOf, Out.fgt, D.fgt, D.fgts])
  · rw [if_neg hk]
    rw [hEt, hEx]
    unfold OwnP wObjs headD Cs stepsM
    refine Spec.movd globPure (wpD_spec tyOK Tryz.func88 rfl (enters _ _ Tryz.func88 rfl (by decide)) rfl rfl ?_)
    (refine wpD_seqk fun K hK => ?_; refine wpD_region tyOK ?_; ((repeat (rw [wpS_cons]; simp)); (try simp only [wpS_nil, thenD, blockD])); refine hK _ _ _ ?_; clear hK K)
    refine wpD_seqk fun K1 hK1 => ?_
    (refine wpD_seqk fun K hK => ?_; refine wpD_region tyOK ?_; ((repeat (rw [wpS_cons]; simp [hk])); (try simp only [wpS_nil, thenD, blockD])); refine hK _ _ _ ?_; clear hK K)
    refine wpD_part rfl (fun _ => ?_) (fun h => by simp at h)
    (refine wpD_seqk fun K hK => ?_; refine wpD_region tyOK ?_; ((repeat (rw [wpS_cons]; simp)); (try simp only [wpS_nil, thenD, blockD])); refine hK _ _ _ ?_; clear hK K)
    (refine wpD_ret ?_; (try simp only [thenD, blockD]); refine EndQ.ret rfl (.inr ⟨[], by decide, by simp, ?_⟩); simp [Out.mov, movT, movH, movD, D.mov, HO.mov, okM, renM, getW, D.ren, D.rens, D.okN, D.okNs, Cp.ren, Cp.okN, HO.ren, HO.okN, okA, renA, renO, hOf, handed, D.fgt, D.fgts, List.range_succ, List.idxOf_cons, tmOf, Out.fgt, D.fgt, D.fgts])
    first | done | simp [hEt]
theorem hlet_spec (left : Int) (l : List C) (once done : Bool) (hl : left ≤ 9223372036854775807) (t x : T) (ht : okS t) (h7 : t.k = 7) : Spec Tryz.prog glob 90 [.box 0 0, encT t, encT x] (wObjs left l once done) (OwnP left l once done t (ownS l t x)) := by
  have hEt := encT_eq t
  have hEx := encT_eq x
  unfold ownS
  rw [if_neg (by omega), if_neg (by omega), if_pos h7]
  have k1 := kidn_spec t 2 2 rfl
  have k2 := kidn_spec t 1 1 rfl
  have hp := hput_spec left l once done hl (t.kid 2) (t.kid 1) (ht.kid 2) (ht.kid 1)
  generalize (t.kid 2).sd (t.kid 1).nsz 0 = c at hp ⊢
  generalize (t.kid 2).put [t.kid 1] 0 = r at hp ⊢
  generalize t.kid 2 = a at k1 hp
  generalize t.kid 1 = b at k2 hp
  have hEr := encT_eq r
  have hEa := encT_eq a
  have hEb := encT_eq b
  rw [hEt, hEa] at k1
  rw [hEt, hEb] at k2
  rw [hEa, hEb, hEr] at hp
  rw [hEt, hEx]
  by_cases hc : (c : Int) ≤ left
  · rw [Cost_ok hc] at hp
    show Spec _ _ _ _ _ (Cost left l once done c _)
    rw [Cost_ok hc]
    unfold wObjs headD Cs stepsM at hp ⊢
    refine Spec.movd globPure (wpD_spec tyOK Tryz.func90 rfl (enters _ _ Tryz.func90 rfl (by decide)) rfl rfl ?_)
    (refine wpD_seqk fun K hK => ?_; refine wpD_region tyOK ?_; ((repeat (rw [wpS_cons]; simp)); (try simp only [wpS_nil, thenD, blockD])); refine hK _ _ _ ?_; clear hK K)
    (refine wpD_seqk fun K hK => ?_; refine wpD_drawk tyOK (by kernel_rfl) (by kernel_rfl) fun KT hKT => ?_; ((repeat (rw [wpT_cons]; simp)); (try simp only [wpT_nil])))
    refine cYp (k1) ?_
    ((try simp only [wpAftT_ret, wpAftT_pan, putS, updS, setS]); (repeat (rw [wpT_cons]; simp)); (try simp only [wpT_nil]))
    refine cYp (k2) ?_
    ((try simp only [wpAftT_ret, wpAftT_pan, putS, updS, setS]); (repeat (rw [wpT_cons]; simp)); (try simp only [wpT_nil]))
    refine cYo [0, 1] true true (hp) (fun o h e => e) ?_; simp [D.ren, D.rens, D.okN, D.okNs, Cp.ren, Cp.okN, HO.ren, HO.okN, okA, renA, renO, hOf, handed, D.fgt, D.fgts, List.range_succ, List.idxOf_cons, Out.ren, upO, renO, rdO]
    ((try simp only [wpAftT_ret, wpAftT_pan, putS, updS, setS]); (repeat (rw [wpT_cons]; simp)); (try simp only [wpT_nil]))
    (refine hKT _ _ _ _ (by kernel_rfl) ?_; clear hKT KT; (try simp only [thenD, blockD]))
    (refine hK _ _ _ ?_; clear hK K)
    (refine wpD_ret ?_; (try simp only [thenD, blockD]); refine EndQ.ret rfl (.inr ⟨[], by decide, by simp, ?_⟩); simp [Out.mov, movT, movH, movD, D.mov, HO.mov, okM, renM, getW, D.ren, D.rens, D.okN, D.okNs, Cp.ren, Cp.okN, HO.ren, HO.okN, okA, renA, renO, hOf, handed, D.fgt, D.fgts, List.range_succ, List.idxOf_cons, tmOf, Out.fgt, D.fgt, D.fgts])
    first | done | simp [hEr]
  · rw [Cost_no hc] at hp
    show Spec _ _ _ _ _ (Cost left l once done c _)
    rw [Cost_no hc]
    unfold wObjs headD Cs stepsM goneD at hp
    unfold wObjs headD Cs stepsM goneD
    refine Spec.movd globPure (wpD_spec tyOK Tryz.func90 rfl (enters _ _ Tryz.func90 rfl (by decide)) rfl rfl ?_)
    (refine wpD_seqk fun K hK => ?_; refine wpD_region tyOK ?_; ((repeat (rw [wpS_cons]; simp)); (try simp only [wpS_nil, thenD, blockD])); refine hK _ _ _ ?_; clear hK K)
    (refine wpD_seqk fun K hK => ?_; refine wpD_drawk tyOK (by kernel_rfl) (by kernel_rfl) fun KT hKT => ?_; ((repeat (rw [wpT_cons]; simp)); (try simp only [wpT_nil])))
    refine cYp (k1) ?_
    ((try simp only [wpAftT_ret, wpAftT_pan, putS, updS, setS]); (repeat (rw [wpT_cons]; simp)); (try simp only [wpT_nil]))
    refine cYp (k2) ?_
    ((try simp only [wpAftT_ret, wpAftT_pan, putS, updS, setS]); (repeat (rw [wpT_cons]; simp)); (try simp only [wpT_nil]))
    refine cYo [0, 1] true false (hp) (fun o h e => e) ?_; simp [D.ren, D.rens, D.okN, D.okNs, Cp.ren, Cp.okN, HO.ren, HO.okN, okA, renA, renO, hOf, handed, D.fgt, D.fgts, List.range_succ, List.idxOf_cons, Out.ren, upO, renO, rdO]
    ((try simp only [wpAftT_ret, wpAftT_pan, putS, updS, setS]); (repeat (refine wpT_late _ _ _ _ (by kernel_rfl) ?_; simp only [putS, List.set, List.nil_append, List.cons_append, Nat.reduceAdd])); (try simp only [wpT_nil]))
    (refine hKT _ _ _ _ (by kernel_rfl) ?_; clear hKT KT; (try simp only [thenD, blockD]))
    simp [killHl]
    ((try simp only [thenD, blockD]); refine EndQ.pan (.inr ⟨[], by decide, by simp, ?_⟩); simp [Out.mov, movT, movH, movD, D.mov, HO.mov, okM, renM, getW, D.ren, D.rens, D.okN, D.okNs, Cp.ren, Cp.okN, HO.ren, HO.okN, okA, renA, renO, hOf, handed, D.fgt, D.fgts, List.range_succ, List.idxOf_cons, tmOf, Out.fgt, D.fgt, D.fgts])
theorem hhalf_spec (left : Int) (l : List C) (once done : Bool) (hl : left ≤ 9223372036854775807) (t x : T) (hx : okS x) (h14 : t.k = 14 ∨ t.k = 15) : Spec Tryz.prog glob 89 [.box 0 0, encT t, encT x] (wObjs left l once done) (OwnP left l once done t (ownS l t x)) := by
  have hEt := encT_eq t
  have hEx := encT_eq x
  unfold ownS
  rw [if_neg (by omega), if_pos h14]
  by_cases hk : x.k = 13
  · rw [if_pos hk]
    by_cases h15 : t.k = 15
    · rw [if_pos h15]
      have k1 := kidn_spec x 1 1 rfl
      have hp := htake_spec left l once done hl (x.kid 1) (hx.kid 1)
      generalize (x.kid 1).nsz = c at hp ⊢
      generalize x.kid 1 = r at k1 hp ⊢
      have hEr := encT_eq r
      rw [hEx, hEr, hk] at k1
      rw [hEr] at hp
      rw [hEt, hEx]
      by_cases hc : (c : Int) ≤ left
      · rw [Cost_ok hc] at hp
        show Spec _ _ _ _ _ (Cost left l once done c _)
        rw [Cost_ok hc]
        unfold wObjs headD Cs stepsM at hp ⊢
        refine Spec.movd globPure (wpD_spec tyOK Tryz.func89 rfl (enters _ _ Tryz.func89 rfl (by decide)) rfl rfl ?_)
        (refine wpD_seqk fun K hK => ?_; refine wpD_region tyOK ?_; ((repeat (rw [wpS_cons]; simp)); (try simp only [wpS_nil, thenD, blockD])); refine hK _ _ _ ?_; clear hK K)
        refine wpD_seqk fun K1 hK1 => ?_
        (refine wpD_seqk fun K hK => ?_; refine wpD_region tyOK ?_; ((repeat (rw [wpS_cons]; simp [hk])); (try simp only [wpS_nil, thenD, blockD])); refine hK _ _ _ ?_; clear hK K)
        refine wpD_part rfl (fun h => by simp at h) (fun _ => ?_)
        refine wpD_skip (hK1 _ _ _ ?_)
        (refine wpD_seqk fun K hK => ?_; refine wpD_region tyOK ?_; ((repeat (rw [wpS_cons]; simp)); (try simp only [wpS_nil, thenD, blockD])); refine hK _ _ _ ?_; clear hK K)
        refine wpD_seqk fun K2 hK2 => ?_
        (refine wpD_seqk fun K hK => ?_; refine wpD_region tyOK ?_; ((repeat (rw [wpS_cons]; simp [h15])); (try simp only [wpS_nil, thenD, blockD])); refine hK _ _ _ ?_; clear hK K)
        refine wpD_part rfl (fun _ => ?_) (fun h => by simp at h)
        (refine wpD_region tyOK ?_; ((repeat (rw [wpS_cons]; simp)); (try simp only [wpS_nil, thenD, blockD])))
        refine hK2 _ _ _ ?_
        (refine wpD_seqk fun K hK => ?_; refine wpD_region tyOK ?_; ((repeat (rw [wpS_cons]; simp)); (try simp only [wpS_nil, thenD, blockD])))
        refine cXp (k1) ?_
        ((try simp only [wpAft_ret, wpAft_pan, putS, updS, setS]); (repeat (rw [wpS_cons]; simp)); (try simp only [wpS_nil, thenD, blockD]))
        refine cXo [0, 1] true (hp) ?_
        (rintro o hc ⟨ho, rfl⟩; refine ⟨true, ?_⟩; rw [show told true o = _ from ho]; clear ho; simp [D.ren, D.rens, D.okN, D.okNs, Cp.ren, Cp.okN, HO.ren, HO.okN, okA, renA, renO, hOf, handed, D.fgt, D.fgts, List.range_succ, List.idxOf_cons, Out.ren, told, Out.fgt, upO, updS, setS])
        ((try simp only [wpAft_ret, wpAft_pan, putS, updS, setS]); (repeat (rw [wpS_cons]; simp)); (try simp only [wpS_nil, thenD, blockD]))
        (refine hK _ _ _ ?_; clear hK K)
        (refine wpD_ret ?_; (try simp only [thenD, blockD]); refine EndQ.ret rfl (.inr ⟨[], by decide, by simp, ?_⟩); simp [Out.mov, movT, movH, movD, D.mov, HO.mov, okM, renM, getW, D.ren, D.rens, D.okN, D.okNs, Cp.ren, Cp.okN, HO.ren, HO.okN, okA, renA, renO, hOf, handed, D.fgt, D.fgts, List.range_succ, List.idxOf_cons, tmOf, Out.fgt, D.fgt, D.fgts])
        first | done | simp [hEr]
      · rw [Cost_no hc] at hp
        show Spec _ _ _ _ _ (Cost left l once done c _)
        rw [Cost_no hc]
        unfold wObjs headD Cs stepsM goneD at hp
        unfold wObjs headD Cs stepsM goneD
        refine Spec.movd globPure (wpD_spec tyOK Tryz.func89 rfl (enters _ _ Tryz.func89 rfl (by decide)) rfl rfl ?_)
        (refine wpD_seqk fun K hK => ?_; refine wpD_region tyOK ?_; ((repeat (rw [wpS_cons]; simp)); (try simp only [wpS_nil, thenD, blockD])); refine hK _ _ _ ?_; clear hK K)
        refine wpD_seqk fun K1 hK1 => ?_
        (refine wpD_seqk fun K hK => ?_; refine wpD_region tyOK ?_; ((repeat (rw [wpS_cons]; simp [hk])); (try simp only [wpS_nil, thenD, blockD])); refine hK _ _ _ ?_; clear hK K)
        refine wpD_part rfl (fun h => by simp at h) (fun _ => ?_)
        refine wpD_skip (hK1 _ _ _ ?_)
        (refine wpD_seqk fun K hK => ?_; refine wpD_region tyOK ?_; ((repeat (rw [wpS_cons]; simp)); (try simp only [wpS_nil, thenD, blockD])); refine hK _ _ _ ?_; clear hK K)
        refine wpD_seqk fun K2 hK2 => ?_
        (refine wpD_seqk fun K hK => ?_; refine wpD_region tyOK ?_; ((repeat (rw [wpS_cons]; simp [h15])); (try simp only [wpS_nil, thenD, blockD])); refine hK _ _ _ ?_; clear hK K)
        refine wpD_part rfl (fun _ => ?_) (fun h => by simp at h)
        (refine wpD_region tyOK ?_; ((repeat (rw [wpS_cons]; simp)); (try simp only [wpS_nil, thenD, blockD])))
        refine hK2 _ _ _ ?_
        (refine wpD_seqk fun K hK => ?_; refine wpD_region tyOK ?_; ((repeat (rw [wpS_cons]; simp)); (try simp only [wpS_nil, thenD, blockD])))
        refine cXp (k1) ?_
        ((try simp only [wpAft_ret, wpAft_pan, putS, updS, setS]); (repeat (rw [wpS_cons]; simp)); (try simp only [wpS_nil, thenD, blockD]))
        refine cXo [0, 1] true (hp) ?_
        (rintro o hc ⟨rfl, rfl⟩; refine ⟨false, ?_⟩; simp [D.ren, D.rens, D.okN, D.okNs, Cp.ren, Cp.okN, HO.ren, HO.okN, okA, renA, renO, hOf, handed, D.fgt, D.fgts, List.range_succ, List.idxOf_cons, Out.ren, told, Out.fgt, upO, updS, setS])
        ((try simp only [thenD, blockD]); refine EndQ.pan (.inr ⟨[], by decide, by simp, ?_⟩); simp [Out.mov, movT, movH, movD, D.mov, HO.mov, okM, renM, getW, D.ren, D.rens, D.okN, D.okNs, Cp.ren, Cp.okN, HO.ren, HO.okN, okA, renA, renO, hOf, handed, D.fgt, D.fgts, List.range_succ, List.idxOf_cons, tmOf, Out.fgt, D.fgt, D.fgts])
    · rw [if_neg h15]
      have k1 := kidn_spec x 0 0 rfl
      have hp := htake_spec left l once done hl (x.kid 0) (hx.kid 0)
      generalize (x.kid 0).nsz = c at hp ⊢
      generalize x.kid 0 = r at k1 hp ⊢
      have hEr := encT_eq r
      rw [hEx, hEr, hk] at k1
      rw [hEr] at hp
      rw [hEt, hEx]
      by_cases hc : (c : Int) ≤ left
      · rw [Cost_ok hc] at hp
        show Spec _ _ _ _ _ (Cost left l once done c _)
        rw [Cost_ok hc]
        unfold wObjs headD Cs stepsM at hp ⊢
        refine Spec.movd globPure (wpD_spec tyOK Tryz.func89 rfl (enters _ _ Tryz.func89 rfl (by decide)) rfl rfl ?_)
        (refine wpD_seqk fun K hK => ?_; refine wpD_region tyOK ?_; ((repeat (rw [wpS_cons]; simp)); (try simp only [wpS_nil, thenD, blockD])); refine hK _ _ _ ?_; clear hK K)
        refine wpD_seqk fun K1 hK1 => ?_
        (refine wpD_seqk fun K hK => ?_; refine wpD_region tyOK ?_; ((repeat (rw [wpS_cons]; simp [hk])); (try simp only [wpS_nil, thenD, blockD])); refine hK _ _ _ ?_; clear hK K)
        refine wpD_part rfl (fun h => by simp at h) (fun _ => ?_)
        refine wpD_skip (hK1 _ _ _ ?_)
        (refine wpD_seqk fun K hK => ?_; refine wpD_region tyOK ?_; ((repeat (rw [wpS_cons]; simp)); (try simp only [wpS_nil, thenD, blockD])); refine hK _ _ _ ?_; clear hK K)
        refine wpD_seqk fun K2 hK2 => ?_
        (refine wpD_seqk fun K hK => ?_; refine wpD_region tyOK ?_; ((repeat (rw [wpS_cons]; simp [h15])); (try simp only [wpS_nil, thenD, blockD])); refine hK _ _ _ ?_; clear hK K)
        refine wpD_part rfl (fun h => by simp at h) (fun _ => ?_)
        refine wpD_skip (hK2 _ _ _ ?_)
        (refine wpD_seqk fun K hK => ?_; refine wpD_region tyOK ?_; ((repeat (rw [wpS_cons]; simp)); (try simp only [wpS_nil, thenD, blockD])))
        refine cXp (k1) ?_
        ((try simp only [wpAft_ret, wpAft_pan, putS, updS, setS]); (repeat (rw [wpS_cons]; simp)); (try simp only [wpS_nil, thenD, blockD]))
        refine cXo [0, 1] true (hp) ?_
        (rintro o hc ⟨ho, rfl⟩; refine ⟨true, ?_⟩; rw [show told true o = _ from ho]; clear ho; simp [D.ren, D.rens, D.okN, D.okNs, Cp.ren, Cp.okN, HO.ren, HO.okN, okA, renA, renO, hOf, handed, D.fgt, D.fgts, List.range_succ, List.idxOf_cons, Out.ren, told, Out.fgt, upO, updS, setS])
        ((try simp only [wpAft_ret, wpAft_pan, putS, updS, setS]); (repeat (rw [wpS_cons]; simp)); (try simp only [wpS_nil, thenD, blockD]))
        (refine hK _ _ _ ?_; clear hK K)
        (refine wpD_ret ?_; (try simp only [thenD, blockD]); refine EndQ.ret rfl (.inr ⟨[], by decide, by simp, ?_⟩); simp [Out.mov, movT, movH, movD, D.mov, HO.mov, okM, renM, getW, D.ren, D.rens, D.okN, D.okNs, Cp.ren, Cp.okN, HO.ren, HO.okN, okA, renA, renO, hOf, handed, D.fgt, D.fgts, List.range_succ, List.idxOf_cons, tmOf, Out.fgt, D.fgt, D.fgts])
        first | done | simp [hEr]
      · rw [Cost_no hc] at hp
        show Spec _ _ _ _ _ (Cost left l once done c _)
        rw [Cost_no hc]
        unfold wObjs headD Cs stepsM goneD at hp
        unfold wObjs headD Cs stepsM goneD
        refine Spec.movd globPure (wpD_spec tyOK Tryz.func89 rfl (enters _ _ Tryz.func89 rfl (by decide)) rfl rfl ?_)
        (refine wpD_seqk fun K hK => ?_; refine wpD_region tyOK ?_; ((repeat (rw [wpS_cons]; simp)); (try simp only [wpS_nil, thenD, blockD])); refine hK _ _ _ ?_; clear hK K)
        refine wpD_seqk fun K1 hK1 => ?_
        (refine wpD_seqk fun K hK => ?_; refine wpD_region tyOK ?_; ((repeat (rw [wpS_cons]; simp [hk])); (try simp only [wpS_nil, thenD, blockD])); refine hK _ _ _ ?_; clear hK K)
        refine wpD_part rfl (fun h => by simp at h) (fun _ => ?_)
        refine wpD_skip (hK1 _ _ _ ?_)
        (refine wpD_seqk fun K hK => ?_; refine wpD_region tyOK ?_; ((repeat (rw [wpS_cons]; simp)); (try simp only [wpS_nil, thenD, blockD])); refine hK _ _ _ ?_; clear hK K)
        refine wpD_seqk fun K2 hK2 => ?_
        (refine wpD_seqk fun K hK => ?_; refine wpD_region tyOK ?_; ((repeat (rw [wpS_cons]; simp [h15])); (try simp only [wpS_nil, thenD, blockD])); refine hK _ _ _ ?_; clear hK K)
        refine wpD_part rfl (fun h => by simp at h) (fun _ => ?_)
        refine wpD_skip (hK2 _ _ _ ?_)
        (refine wpD_seqk fun K hK => ?_; refine wpD_region tyOK ?_; ((repeat (rw [wpS_cons]; simp)); (try simp only [wpS_nil, thenD, blockD])))
        refine cXp (k1) ?_
        ((try simp only [wpAft_ret, wpAft_pan, putS, updS, setS]); (repeat (rw [wpS_cons]; simp)); (try simp only [wpS_nil, thenD, blockD]))
        refine cXo [0, 1] true (hp) ?_
        (rintro o hc ⟨rfl, rfl⟩; refine ⟨false, ?_⟩; simp [D.ren, D.rens, D.okN, D.okNs, Cp.ren, Cp.okN, HO.ren, HO.okN, okA, renA, renO, hOf, handed, D.fgt, D.fgts, List.range_succ, List.idxOf_cons, Out.ren, told, Out.fgt, upO, updS, setS])
        ((try simp only [thenD, blockD]); refine EndQ.pan (.inr ⟨[], by decide, by simp, ?_⟩); simp [Out.mov, movT, movH, movD, D.mov, HO.mov, okM, renM, getW, D.ren, D.rens, D.okN, D.okNs, Cp.ren, Cp.okN, HO.ren, HO.okN, okA, renA, renO, hOf, handed, D.fgt, D.fgts, List.range_succ, List.idxOf_cons, tmOf, Out.fgt, D.fgt, D.fgts])
  · rw [if_neg hk]
    rw [hEt, hEx]
    unfold OwnP wObjs headD Cs stepsM
    refine Spec.movd globPure (wpD_spec tyOK Tryz.func89 rfl (enters _ _ Tryz.func89 rfl (by decide)) rfl rfl ?_)
    (refine wpD_seqk fun K hK => ?_; refine wpD_region tyOK ?_; ((repeat (rw [wpS_cons]; simp)); (try simp only [wpS_nil, thenD, blockD])); refine hK _ _ _ ?_; clear hK K)
    refine wpD_seqk fun K1 hK1 => ?_
    (refine wpD_seqk fun K hK => ?_; refine wpD_region tyOK ?_; ((repeat (rw [wpS_cons]; simp [hk])); (try simp only [wpS_nil, thenD, blockD])); refine hK _ _ _ ?_; clear hK K)
    refine wpD_part rfl (fun _ => ?_) (fun h => by simp at h)
    (refine wpD_seqk fun K hK => ?_; refine wpD_region tyOK ?_; ((repeat (rw [wpS_cons]; simp)); (try simp only [wpS_nil, thenD, blockD])); refine hK _ _ _ ?_; clear hK K)
    (refine wpD_ret ?_; (try simp only [thenD, blockD]); refine EndQ.ret rfl (.inr ⟨[], by decide, by simp, ?_⟩); simp [Out.mov, movT, movH, movD, D.mov, HO.mov, okM, renM, getW, D.ren, D.rens, D.okN, D.okNs, Cp.ren, Cp.okN, HO.ren, HO.okN, okA, renA, renO, hOf, handed, D.fgt, D.fgts, List.range_succ, List.idxOf_cons, tmOf, Out.fgt, D.fgt, D.fgts])
    first | done | simp [hEt]
theorem hpath_spec (left : Int) (l : List C) (once done : Bool) (hl : left ≤ 9223372036854775807) (t x : T) (ht : okS t) (h21 : t.k = 21) : Spec Tryz.prog glob 93 [.box 0 0, encT t, encT x] (wObjs left l once done) (OwnP left l once done t (ownS l t x)) := by
  have hEt := encT_eq t
  have hEx := encT_eq x
  unfold ownS
  rw [if_neg (by omega), if_neg (by omega), if_neg (by omega), if_neg (by omega), if_neg (by omega), if_pos h21]
  by_cases hk : x.k = 20
  · rw [if_pos hk]
    have k1 := kidn_spec t 3 3 rfl
    have hp := htake_spec left l once done hl (t.kid 3) (ht.kid 3)
    generalize (t.kid 3).nsz = c at hp ⊢
    generalize t.kid 3 = r at k1 hp ⊢
    have hEr := encT_eq r
    rw [hEt, hEr] at k1
    rw [hEr] at hp
    rw [hEt, hEx]
    by_cases hc : (c : Int) ≤ left
    · rw [Cost_ok hc] at hp
      show Spec _ _ _ _ _ (Cost left l once done c _)
      rw [Cost_ok hc]
      unfold wObjs headD Cs stepsM at hp ⊢
      refine Spec.movd globPure (wpD_spec tyOK Tryz.func93 rfl (enters _ _ Tryz.func93 rfl (by decide)) rfl rfl ?_)
      (refine wpD_seqk fun K hK => ?_; refine wpD_region tyOK ?_; ((repeat (rw [wpS_cons]; simp)); (try simp only [wpS_nil, thenD, blockD])); refine hK _ _ _ ?_; clear hK K)
      refine wpD_seqk fun K1 hK1 => ?_
      (refine wpD_seqk fun K hK => ?_; refine wpD_region tyOK ?_; ((repeat (rw [wpS_cons]; simp [hk])); (try simp only [wpS_nil, thenD, blockD])); refine hK _ _ _ ?_; clear hK K)
      refine wpD_part rfl (fun h => by simp at h) (fun _ => ?_)
      refine wpD_skip (hK1 _ _ _ ?_)
      (refine wpD_seqk fun K hK => ?_; refine wpD_region tyOK ?_; ((repeat (rw [wpS_cons]; simp)); (try simp only [wpS_nil, thenD, blockD])))
      refine cXp (k1) ?_
      ((try simp only [wpAft_ret, wpAft_pan, putS, updS, setS]); (repeat (rw [wpS_cons]; simp)); (try simp only [wpS_nil, thenD, blockD]))
      refine cXo [0, 1] true (hp) ?_
      (rintro o hc ⟨ho, rfl⟩; refine ⟨true, ?_⟩; rw [show told true o = _ from ho]; clear ho; simp [D.ren, D.rens, D.okN, D.okNs, Cp.ren, Cp.okN, HO.ren, HO.okN, okA, renA, renO, hOf, handed, D.fgt, D.fgts, List.range_succ, List.idxOf_cons, Out.ren, told, Out.fgt, upO, updS, setS])
      ((try simp only [wpAft_ret, wpAft_pan, putS, updS, setS]); (repeat (rw [wpS_cons]; simp)); (try simp only [wpS_nil, thenD, blockD]))
      (refine hK _ _ _ ?_; clear hK K)
      (refine wpD_ret ?_; (try simp only [thenD, blockD]); refine EndQ.ret rfl (.inr ⟨[], by decide, by simp, ?_⟩); simp [Out.mov, movT, movH, movD, D.mov, HO.mov, okM, renM, getW, D.ren, D.rens, D.okN, D.okNs, Cp.ren, Cp.okN, HO.ren, HO.okN, okA, renA, renO, hOf, handed, D.fgt, D.fgts, List.range_succ, List.idxOf_cons, tmOf, Out.fgt, D.fgt, D.fgts])
      first | done | simp [hEr]
    · rw [Cost_no hc] at hp
      show Spec _ _ _ _ _ (Cost left l once done c _)
      rw [Cost_no hc]
      unfold wObjs headD Cs stepsM goneD at hp
      unfold wObjs headD Cs stepsM goneD
      refine Spec.movd globPure (wpD_spec tyOK Tryz.func93 rfl (enters _ _ Tryz.func93 rfl (by decide)) rfl rfl ?_)
      (refine wpD_seqk fun K hK => ?_; refine wpD_region tyOK ?_; ((repeat (rw [wpS_cons]; simp)); (try simp only [wpS_nil, thenD, blockD])); refine hK _ _ _ ?_; clear hK K)
      refine wpD_seqk fun K1 hK1 => ?_
      (refine wpD_seqk fun K hK => ?_; refine wpD_region tyOK ?_; ((repeat (rw [wpS_cons]; simp [hk])); (try simp only [wpS_nil, thenD, blockD])); refine hK _ _ _ ?_; clear hK K)
      refine wpD_part rfl (fun h => by simp at h) (fun _ => ?_)
      refine wpD_skip (hK1 _ _ _ ?_)
      (refine wpD_seqk fun K hK => ?_; refine wpD_region tyOK ?_; ((repeat (rw [wpS_cons]; simp)); (try simp only [wpS_nil, thenD, blockD])))
      refine cXp (k1) ?_
      ((try simp only [wpAft_ret, wpAft_pan, putS, updS, setS]); (repeat (rw [wpS_cons]; simp)); (try simp only [wpS_nil, thenD, blockD]))
      refine cXo [0, 1] true (hp) ?_
      (rintro o hc ⟨rfl, rfl⟩; refine ⟨false, ?_⟩; simp [D.ren, D.rens, D.okN, D.okNs, Cp.ren, Cp.okN, HO.ren, HO.okN, okA, renA, renO, hOf, handed, D.fgt, D.fgts, List.range_succ, List.idxOf_cons, Out.ren, told, Out.fgt, upO, updS, setS])
      ((try simp only [thenD, blockD]); refine EndQ.pan (.inr ⟨[], by decide, by simp, ?_⟩); simp [Out.mov, movT, movH, movD, D.mov, HO.mov, okM, renM, getW, D.ren, D.rens, D.okN, D.okNs, Cp.ren, Cp.okN, HO.ren, HO.okN, okA, renA, renO, hOf, handed, D.fgt, D.fgts, List.range_succ, List.idxOf_cons, tmOf, Out.fgt, D.fgt, D.fgts])
  · rw [if_neg hk]
    rw [hEt, hEx]
    unfold OwnP wObjs headD Cs stepsM
    refine Spec.movd globPure (wpD_spec tyOK Tryz.func93 rfl (enters _ _ Tryz.func93 rfl (by decide)) rfl rfl ?_)
    (refine wpD_seqk fun K hK => ?_; refine wpD_region tyOK ?_; ((repeat (rw [wpS_cons]; simp)); (try simp only [wpS_nil, thenD, blockD])); refine hK _ _ _ ?_; clear hK K)
    refine wpD_seqk fun K1 hK1 => ?_
    (refine wpD_seqk fun K hK => ?_; refine wpD_region tyOK ?_; ((repeat (rw [wpS_cons]; simp [hk])); (try simp only [wpS_nil, thenD, blockD])); refine hK _ _ _ ?_; clear hK K)
    refine wpD_part rfl (fun _ => ?_) (fun h => by simp at h)
    (refine wpD_seqk fun K hK => ?_; refine wpD_region tyOK ?_; ((repeat (rw [wpS_cons]; simp)); (try simp only [wpS_nil, thenD, blockD])); refine hK _ _ _ ?_; clear hK K)
    (refine wpD_ret ?_; (try simp only [thenD, blockD]); refine EndQ.ret rfl (.inr ⟨[], by decide, by simp, ?_⟩); simp [Out.mov, movT, movH, movD, D.mov, HO.mov, okM, renM, getW, D.ren, D.rens, D.okN, D.okNs, Cp.ren, Cp.okN, HO.ren, HO.okN, okA, renA, renO, hOf, handed, D.fgt, D.fgts, List.range_succ, List.idxOf_cons, tmOf, Out.fgt, D.fgt, D.fgts])
    first | done | simp [hEt]
theorem hbranch_spec (left : Int) (l : List C) (once done : Bool) (hl : left ≤ 9223372036854775807) (t x : T) (ht : okS t) (hxn : okS x) (h24 : t.k = 24) (hs : (spot t).isSome = true) : Spec Tryz.prog glob 94 [.box 0 0, encT t, encT x] (wObjs left l once done) (OwnP left l once done t (ownS l t x)) := by
  have hEt := encT_eq t
  have hEx := encT_eq x
  unfold ownS
  rw [if_neg (by omega), if_neg (by omega), if_neg (by omega), if_neg (by omega), if_neg (by omega), if_neg (by omega), if_pos ⟨h24, hs⟩]
  have hta := ht.1.a
  unfold I64 at hta
  by_cases hk : x.k = 23
  · by_cases h0 : 0 ≤ x.n
    · by_cases h1 : x.n < t.a
      · rw [if_pos ⟨hk, h0, h1⟩]
        have hw : IntKind.i64.wrap (x.n + 1) = x.n + 1 := i64w (by omega) (by omega)
        have k1 := kidn_spec t (x.n + 1) (x.n.toNat + 1) (by omega)
        have hp := htake_spec left l once done hl (t.kid (x.n.toNat + 1)) (ht.kid _)
        generalize (t.kid (x.n.toNat + 1)).nsz = c at hp ⊢
        generalize t.kid (x.n.toNat + 1) = r at k1 hp ⊢
        have hEr := encT_eq r
        rw [hEt, hEr] at k1
        rw [hEr] at hp
        rw [hEt, hEx]
        have h0' : ¬ x.n < 0 := by omega
        have h1' : ¬ t.a ≤ x.n := by omega
        by_cases hc : (c : Int) ≤ left
        · rw [Cost_ok hc] at hp
          show Spec _ _ _ _ _ (Cost left l once done c _)
          rw [Cost_ok hc]
          unfold wObjs headD Cs stepsM at hp ⊢
          refine Spec.movd globPure (wpD_spec tyOK Tryz.func94 rfl (enters _ _ Tryz.func94 rfl (by decide)) rfl rfl ?_)
          (refine wpD_seqk fun K hK => ?_; refine wpD_region tyOK ?_; ((repeat (rw [wpS_cons]; simp)); (try simp only [wpS_nil, thenD, blockD])); refine hK _ _ _ ?_; clear hK K)
          refine wpD_seqk fun K1 hK1 => ?_
          (refine wpD_seqk fun K hK => ?_; refine wpD_region tyOK ?_; ((repeat (rw [wpS_cons]; simp [hk, h0, h0', h1, h1'])); (try simp only [wpS_nil, thenD, blockD])); refine hK _ _ _ ?_; clear hK K)
          refine wpD_part rfl (fun h => by simp at h) (fun _ => ?_)
          refine wpD_skip (hK1 _ _ _ ?_)
          (refine wpD_seqk fun K hK => ?_; refine wpD_region tyOK ?_; ((repeat (rw [wpS_cons]; simp [hw])); (try simp only [wpS_nil, thenD, blockD])))
          refine cXp (k1) ?_
          ((try simp only [wpAft_ret, wpAft_pan, putS, updS, setS]); (repeat (rw [wpS_cons]; simp)); (try simp only [wpS_nil, thenD, blockD]))
          refine cXo [0, 1] true (hp) ?_
          (rintro o hc ⟨ho, rfl⟩; refine ⟨true, ?_⟩; rw [show told true o = _ from ho]; clear ho; simp [D.ren, D.rens, D.okN, D.okNs, Cp.ren, Cp.okN, HO.ren, HO.okN, okA, renA, renO, hOf, handed, D.fgt, D.fgts, List.range_succ, List.idxOf_cons, Out.ren, told, Out.fgt, upO, updS, setS])
          ((try simp only [wpAft_ret, wpAft_pan, putS, updS, setS]); (repeat (rw [wpS_cons]; simp)); (try simp only [wpS_nil, thenD, blockD]))
          (refine hK _ _ _ ?_; clear hK K)
          (refine wpD_ret ?_; (try simp only [thenD, blockD]); refine EndQ.ret rfl (.inr ⟨[], by decide, by simp, ?_⟩); simp [Out.mov, movT, movH, movD, D.mov, HO.mov, okM, renM, getW, D.ren, D.rens, D.okN, D.okNs, Cp.ren, Cp.okN, HO.ren, HO.okN, okA, renA, renO, hOf, handed, D.fgt, D.fgts, List.range_succ, List.idxOf_cons, tmOf, Out.fgt, D.fgt, D.fgts])
          first | done | simp [hEr]
        · rw [Cost_no hc] at hp
          show Spec _ _ _ _ _ (Cost left l once done c _)
          rw [Cost_no hc]
          unfold wObjs headD Cs stepsM goneD at hp
          unfold wObjs headD Cs stepsM goneD
          refine Spec.movd globPure (wpD_spec tyOK Tryz.func94 rfl (enters _ _ Tryz.func94 rfl (by decide)) rfl rfl ?_)
          (refine wpD_seqk fun K hK => ?_; refine wpD_region tyOK ?_; ((repeat (rw [wpS_cons]; simp)); (try simp only [wpS_nil, thenD, blockD])); refine hK _ _ _ ?_; clear hK K)
          refine wpD_seqk fun K1 hK1 => ?_
          (refine wpD_seqk fun K hK => ?_; refine wpD_region tyOK ?_; ((repeat (rw [wpS_cons]; simp [hk, h0, h0', h1, h1'])); (try simp only [wpS_nil, thenD, blockD])); refine hK _ _ _ ?_; clear hK K)
          refine wpD_part rfl (fun h => by simp at h) (fun _ => ?_)
          refine wpD_skip (hK1 _ _ _ ?_)
          (refine wpD_seqk fun K hK => ?_; refine wpD_region tyOK ?_; ((repeat (rw [wpS_cons]; simp [hw])); (try simp only [wpS_nil, thenD, blockD])))
          refine cXp (k1) ?_
          ((try simp only [wpAft_ret, wpAft_pan, putS, updS, setS]); (repeat (rw [wpS_cons]; simp)); (try simp only [wpS_nil, thenD, blockD]))
          refine cXo [0, 1] true (hp) ?_
          (rintro o hc ⟨rfl, rfl⟩; refine ⟨false, ?_⟩; simp [D.ren, D.rens, D.okN, D.okNs, Cp.ren, Cp.okN, HO.ren, HO.okN, okA, renA, renO, hOf, handed, D.fgt, D.fgts, List.range_succ, List.idxOf_cons, Out.ren, told, Out.fgt, upO, updS, setS])
          ((try simp only [thenD, blockD]); refine EndQ.pan (.inr ⟨[], by decide, by simp, ?_⟩); simp [Out.mov, movT, movH, movD, D.mov, HO.mov, okM, renM, getW, D.ren, D.rens, D.okN, D.okNs, Cp.ren, Cp.okN, HO.ren, HO.okN, okA, renA, renO, hOf, handed, D.fgt, D.fgts, List.range_succ, List.idxOf_cons, tmOf, Out.fgt, D.fgt, D.fgts])
      · rw [if_neg (fun h => h1 h.2.2)]
        have h0' : ¬ x.n < 0 := by omega
        have h1' : t.a ≤ x.n := by omega
        rw [hEt, hEx]
        unfold OwnP wObjs headD Cs stepsM
        refine Spec.movd globPure (wpD_spec tyOK Tryz.func94 rfl (enters _ _ Tryz.func94 rfl (by decide)) rfl rfl ?_)
        (refine wpD_seqk fun K hK => ?_; refine wpD_region tyOK ?_; ((repeat (rw [wpS_cons]; simp)); (try simp only [wpS_nil, thenD, blockD])); refine hK _ _ _ ?_; clear hK K)
        refine wpD_seqk fun K1 hK1 => ?_
        (refine wpD_seqk fun K hK => ?_; refine wpD_region tyOK ?_; ((repeat (rw [wpS_cons]; simp [hk, h0, h0', h1, h1'])); (try simp only [wpS_nil, thenD, blockD])); refine hK _ _ _ ?_; clear hK K)
        refine wpD_part rfl (fun _ => ?_) (fun h => by simp at h)
        (refine wpD_seqk fun K hK => ?_; refine wpD_region tyOK ?_; ((repeat (rw [wpS_cons]; simp)); (try simp only [wpS_nil, thenD, blockD])); refine hK _ _ _ ?_; clear hK K)
        (refine wpD_ret ?_; (try simp only [thenD, blockD]); refine EndQ.ret rfl (.inr ⟨[], by decide, by simp, ?_⟩); simp [Out.mov, movT, movH, movD, D.mov, HO.mov, okM, renM, getW, D.ren, D.rens, D.okN, D.okNs, Cp.ren, Cp.okN, HO.ren, HO.okN, okA, renA, renO, hOf, handed, D.fgt, D.fgts, List.range_succ, List.idxOf_cons, tmOf, Out.fgt, D.fgt, D.fgts])
        first | done | simp [hEt]
    · rw [if_neg (fun h => h0 h.2.1)]
      have h0' : x.n < 0 := by omega
      rw [hEt, hEx]
      unfold OwnP wObjs headD Cs stepsM
      refine Spec.movd globPure (wpD_spec tyOK Tryz.func94 rfl (enters _ _ Tryz.func94 rfl (by decide)) rfl rfl ?_)
      (refine wpD_seqk fun K hK => ?_; refine wpD_region tyOK ?_; ((repeat (rw [wpS_cons]; simp)); (try simp only [wpS_nil, thenD, blockD])); refine hK _ _ _ ?_; clear hK K)
      refine wpD_seqk fun K1 hK1 => ?_
      (refine wpD_seqk fun K hK => ?_; refine wpD_region tyOK ?_; ((repeat (rw [wpS_cons]; simp [hk, h0, h0'])); (try simp only [wpS_nil, thenD, blockD])); refine hK _ _ _ ?_; clear hK K)
      refine wpD_part rfl (fun _ => ?_) (fun h => by simp at h)
      (refine wpD_seqk fun K hK => ?_; refine wpD_region tyOK ?_; ((repeat (rw [wpS_cons]; simp)); (try simp only [wpS_nil, thenD, blockD])); refine hK _ _ _ ?_; clear hK K)
      (refine wpD_ret ?_; (try simp only [thenD, blockD]); refine EndQ.ret rfl (.inr ⟨[], by decide, by simp, ?_⟩); simp [Out.mov, movT, movH, movD, D.mov, HO.mov, okM, renM, getW, D.ren, D.rens, D.okN, D.okNs, Cp.ren, Cp.okN, HO.ren, HO.okN, okA, renA, renO, hOf, handed, D.fgt, D.fgts, List.range_succ, List.idxOf_cons, tmOf, Out.fgt, D.fgt, D.fgts])
      first | done | simp [hEt]
  · rw [if_neg (fun h => hk h.1)]
    rw [hEt, hEx]
    unfold OwnP wObjs headD Cs stepsM
    refine Spec.movd globPure (wpD_spec tyOK Tryz.func94 rfl (enters _ _ Tryz.func94 rfl (by decide)) rfl rfl ?_)
    (refine wpD_seqk fun K hK => ?_; refine wpD_region tyOK ?_; ((repeat (rw [wpS_cons]; simp)); (try simp only [wpS_nil, thenD, blockD])); refine hK _ _ _ ?_; clear hK K)
    refine wpD_seqk fun K1 hK1 => ?_
    (refine wpD_seqk fun K hK => ?_; refine wpD_region tyOK ?_; ((repeat (rw [wpS_cons]; simp [hk])); (try simp only [wpS_nil, thenD, blockD])); refine hK _ _ _ ?_; clear hK K)
    refine wpD_part rfl (fun _ => ?_) (fun h => by simp at h)
    (refine wpD_seqk fun K hK => ?_; refine wpD_region tyOK ?_; ((repeat (rw [wpS_cons]; simp)); (try simp only [wpS_nil, thenD, blockD])); refine hK _ _ _ ?_; clear hK K)
    (refine wpD_ret ?_; (try simp only [thenD, blockD]); refine EndQ.ret rfl (.inr ⟨[], by decide, by simp, ?_⟩); simp [Out.mov, movT, movH, movD, D.mov, HO.mov, okM, renM, getW, D.ren, D.rens, D.okN, D.okNs, Cp.ren, Cp.okN, HO.ren, HO.okN, okA, renA, renO, hOf, handed, D.fgt, D.fgts, List.range_succ, List.idxOf_cons, tmOf, Out.fgt, D.fgt, D.fgts])
    first | done | simp [hEt]
theorem hconst_spec (left : Int) (l : List C) (once done : Bool) (hl : left ≤ 9223372036854775807) (hcs : okCs l) (t x : T) (ht : okS t) (h3 : t.k = 3) : Spec Tryz.prog glob 91 [.box 0 0, encT t, encT x] (wObjs left l once done) (OwnP left l once done t (ownS l t x)) := by
  have hEt := encT_eq t
  have hEx := encT_eq x
  unfold ownS
  rw [if_neg (by omega), if_neg (by omega), if_neg (by omega), if_pos h3]
  have hb := body_spec l hcs t.n t.ls ht.1.ll (fun b hb => (ht.1.ls b hb).1)
  cases hbo : bodyC l t.n t.ls with
  | none =>
    rw [hbo] at hb
    simp only [Option.getD_none, Option.isSome_none] at hb
    rw [encZ] at hb
    rw [hEt, hEx]
    simp only [Option.map_none]
    unfold Cs at hb
    unfold OwnP wObjs headD Cs stepsM
    refine Spec.movd globPure (wpD_spec tyOK Tryz.func91 rfl (enters _ _ Tryz.func91 rfl (by decide)) rfl rfl ?_)
    (refine wpD_seqk fun K hK => ?_; refine wpD_region tyOK ?_; ((repeat (rw [wpS_cons]; simp)); (try simp only [wpS_nil, thenD, blockD])); refine hK _ _ _ ?_; clear hK K)
    (refine wpD_seqk fun K hK => ?_; refine wpD_drawk tyOK (by kernel_rfl) (by kernel_rfl) fun KT hKT => ?_; ((repeat (rw [wpT_cons]; simp)); (try simp only [wpT_nil])))
    refine cYp (hb) ?_
    ((try simp only [wpAftT_ret, wpAftT_pan, putS, updS, setS]); (repeat (rw [wpT_cons]; simp)); (try simp only [wpT_nil]))
    (refine hKT _ _ _ _ (by kernel_rfl) ?_; clear hKT KT; (try simp only [thenD, blockD]))
    (refine hK _ _ _ ?_; clear hK K)
    refine wpD_seqk fun K1 hK1 => ?_
    (refine wpD_seqk fun K hK => ?_; refine wpD_region tyOK ?_; ((repeat (rw [wpS_cons]; simp)); (try simp only [wpS_nil, thenD, blockD])); refine hK _ _ _ ?_; clear hK K)
    refine wpD_part rfl (fun _ => ?_) (fun h => by simp at h)
    (refine wpD_seqk fun K hK => ?_; refine wpD_region tyOK ?_; ((repeat (rw [wpS_cons]; simp)); (try simp only [wpS_nil, thenD, blockD])); refine hK _ _ _ ?_; clear hK K)
    (refine wpD_ret ?_; (try simp only [thenD, blockD]); refine EndQ.ret rfl (.inr ⟨[], by decide, by simp, ?_⟩); simp [Out.mov, movT, movH, movD, D.mov, HO.mov, okM, renM, getW, D.ren, D.rens, D.okN, D.okNs, Cp.ren, Cp.okN, HO.ren, HO.okN, okA, renA, renO, hOf, handed, D.fgt, D.fgts, List.range_succ, List.idxOf_cons, tmOf, Out.fgt, D.fgt, D.fgts])
    first | done | simp [hEt]
  | some r =>
    rw [hbo] at hb
    simp only [Option.getD_some, Option.isSome_some] at hb
    have hr : okS r := ⟨body_ok hcs.ok hbo, by have := body_nsz hcs.bo hbo; have := pot_le r; unfold PM; omega⟩
    have hp := htake_spec left l once done hl r hr
    simp only [Option.map_some]
    generalize r.nsz = c at hp ⊢
    have hEr := encT_eq r
    rw [hEr] at hp hb
    rw [hEt, hEx]
    unfold Cs at hb
    by_cases hc : (c : Int) ≤ left
    · rw [Cost_ok hc] at hp
      show Spec _ _ _ _ _ (Cost left l once done c _)
      rw [Cost_ok hc]
      unfold wObjs headD Cs stepsM at hp ⊢
      refine Spec.movd globPure (wpD_spec tyOK Tryz.func91 rfl (enters _ _ Tryz.func91 rfl (by decide)) rfl rfl ?_)
      (refine wpD_seqk fun K hK => ?_; refine wpD_region tyOK ?_; ((repeat (rw [wpS_cons]; simp)); (try simp only [wpS_nil, thenD, blockD])); refine hK _ _ _ ?_; clear hK K)
      (refine wpD_seqk fun K hK => ?_; refine wpD_drawk tyOK (by kernel_rfl) (by kernel_rfl) fun KT hKT => ?_; ((repeat (rw [wpT_cons]; simp)); (try simp only [wpT_nil])))
      refine cYp (hb) ?_
      ((try simp only [wpAftT_ret, wpAftT_pan, putS, updS, setS]); (repeat (rw [wpT_cons]; simp)); (try simp only [wpT_nil]))
      (refine hKT _ _ _ _ (by kernel_rfl) ?_; clear hKT KT; (try simp only [thenD, blockD]))
      (refine hK _ _ _ ?_; clear hK K)
      refine wpD_seqk fun K1 hK1 => ?_
      (refine wpD_seqk fun K hK => ?_; refine wpD_region tyOK ?_; ((repeat (rw [wpS_cons]; simp)); (try simp only [wpS_nil, thenD, blockD])); refine hK _ _ _ ?_; clear hK K)
      refine wpD_part rfl (fun h => by simp at h) (fun _ => ?_)
      refine wpD_skip (hK1 _ _ _ ?_)
      (refine wpD_seqk fun K hK => ?_; refine wpD_region tyOK ?_; ((repeat (rw [wpS_cons]; simp)); (try simp only [wpS_nil, thenD, blockD])))
      refine cXo [0, 1] true (hp) ?_
      (rintro o hc ⟨ho, rfl⟩; refine ⟨true, ?_⟩; rw [show told true o = _ from ho]; clear ho; simp [D.ren, D.rens, D.okN, D.okNs, Cp.ren, Cp.okN, HO.ren, HO.okN, okA, renA, renO, hOf, handed, D.fgt, D.fgts, List.range_succ, List.idxOf_cons, Out.ren, told, Out.fgt, upO, updS, setS])
      ((try simp only [wpAft_ret, wpAft_pan, putS, updS, setS]); (repeat (rw [wpS_cons]; simp)); (try simp only [wpS_nil, thenD, blockD]))
      (refine hK _ _ _ ?_; clear hK K)
      (refine wpD_ret ?_; (try simp only [thenD, blockD]); refine EndQ.ret rfl (.inr ⟨[], by decide, by simp, ?_⟩); simp [Out.mov, movT, movH, movD, D.mov, HO.mov, okM, renM, getW, D.ren, D.rens, D.okN, D.okNs, Cp.ren, Cp.okN, HO.ren, HO.okN, okA, renA, renO, hOf, handed, D.fgt, D.fgts, List.range_succ, List.idxOf_cons, tmOf, Out.fgt, D.fgt, D.fgts])
      first | done | simp [hEr]
    · rw [Cost_no hc] at hp
      show Spec _ _ _ _ _ (Cost left l once done c _)
      rw [Cost_no hc]
      unfold wObjs headD Cs stepsM goneD at hp
      unfold wObjs headD Cs stepsM goneD
      refine Spec.movd globPure (wpD_spec tyOK Tryz.func91 rfl (enters _ _ Tryz.func91 rfl (by decide)) rfl rfl ?_)
      (refine wpD_seqk fun K hK => ?_; refine wpD_region tyOK ?_; ((repeat (rw [wpS_cons]; simp)); (try simp only [wpS_nil, thenD, blockD])); refine hK _ _ _ ?_; clear hK K)
      (refine wpD_seqk fun K hK => ?_; refine wpD_drawk tyOK (by kernel_rfl) (by kernel_rfl) fun KT hKT => ?_; ((repeat (rw [wpT_cons]; simp)); (try simp only [wpT_nil])))
      refine cYp (hb) ?_
      ((try simp only [wpAftT_ret, wpAftT_pan, putS, updS, setS]); (repeat (rw [wpT_cons]; simp)); (try simp only [wpT_nil]))
      (refine hKT _ _ _ _ (by kernel_rfl) ?_; clear hKT KT; (try simp only [thenD, blockD]))
      (refine hK _ _ _ ?_; clear hK K)
      refine wpD_seqk fun K1 hK1 => ?_
      (refine wpD_seqk fun K hK => ?_; refine wpD_region tyOK ?_; ((repeat (rw [wpS_cons]; simp)); (try simp only [wpS_nil, thenD, blockD])); refine hK _ _ _ ?_; clear hK K)
      refine wpD_part rfl (fun h => by simp at h) (fun _ => ?_)
      refine wpD_skip (hK1 _ _ _ ?_)
      (refine wpD_seqk fun K hK => ?_; refine wpD_region tyOK ?_; ((repeat (rw [wpS_cons]; simp)); (try simp only [wpS_nil, thenD, blockD])))
      refine cXo [0, 1] true (hp) ?_
      (rintro o hc ⟨rfl, rfl⟩; refine ⟨false, ?_⟩; simp [D.ren, D.rens, D.okN, D.okNs, Cp.ren, Cp.okN, HO.ren, HO.okN, okA, renA, renO, hOf, handed, D.fgt, D.fgts, List.range_succ, List.idxOf_cons, Out.ren, told, Out.fgt, upO, updS, setS])
      ((try simp only [thenD, blockD]); refine EndQ.pan (.inr ⟨[], by decide, by simp, ?_⟩); simp [Out.mov, movT, movH, movD, D.mov, HO.mov, okM, renM, getW, D.ren, D.rens, D.okN, D.okNs, Cp.ren, Cp.okN, HO.ren, HO.okN, okA, renA, renO, hOf, handed, D.fgt, D.fgts, List.range_succ, List.idxOf_cons, tmOf, Out.fgt, D.fgt, D.fgts])
end Go.Proofs.YtgloldepdhgfaaaGreatDoor
namespace Go.Proofs.YtgloldepdhgfaaaGreatDoor
set_option linter.unusedSimpArgs false
set_option linter.unusedVariables false
set_option maxHeartbeats 10000000
set_option maxRecDepth 20000
open Go.RowKit
attribute [local simp] wpAft_ret wpAft_pan wantD evOp opD tmOf putS updS setS hOf isFree isTok fillD TK.isAgg TK.known partD thenD blockD putAll D.ofV inB nilTest isNilS binX binD binE isCst bndD capB IntKind.min IntKind.max IntKind.signed IntKind.bits dstOf late
theorem tree1_spec (t : T) (ht : okS t) (i : Int) (m : Nat) (c : Int) (hi : i = m) : Spec Tryz.prog glob 144 ([.int .i64 i, .int .i64 c] ++ [.ref (encT t)]) [] (fun o _ => o.fgt = .ret (encT ((t.kid m).lift 1 c 0))) := by
  have k1 := kidn_spec t i m hi
  have k2 := lift_spec (t.kid m) 1 c (ht.kid m).deep (ht.kid m).1
  generalize (t.kid m).lift 1 c 0 = r at k2 ⊢
  generalize t.kid m = a at k1 k2
  have hEr := encT_eq r
  rw [encT_eq t, encT_eq a] at k1
  rw [encT_eq a, hEr] at k2
  rw [encT_eq t]
  refine Spec.movd globPure (wpD_spec tyOK Tryz.func144 rfl (enters _ _ Tryz.func144 rfl (by decide)) rfl rfl ?_)
  simp only [List.cons_append, List.nil_append]
  (refine wpD_seqk fun K hK => ?_; refine wpD_region tyOK ?_; ((repeat (rw [wpS_cons]; simp)); (try simp only [wpS_nil, thenD, blockD])); refine hK _ _ _ ?_; clear hK K)
  (refine wpD_seqk fun K hK => ?_; refine wpD_region tyOK ?_; ((repeat (rw [wpS_cons]; simp)); (try simp only [wpS_nil, thenD, blockD])))
  refine cXp (k1) ?_
  ((try simp only [wpAft_ret, wpAft_pan, putS, updS, setS]); (repeat (rw [wpS_cons]; simp)); (try simp only [wpS_nil, thenD, blockD]))
  refine cXp (k2) ?_
  ((try simp only [wpAft_ret, wpAft_pan, putS, updS, setS]); (repeat (rw [wpS_cons]; simp)); (try simp only [wpS_nil, thenD, blockD]))
  (refine hK _ _ _ ?_; clear hK K)
  (refine wpD_ret ?_; (try simp only [thenD, blockD]); refine EndQ.ret rfl (.inl ?_); simp [tmOf, Out.fgt, D.fgt, D.fgts])
  exact hEr.symm
theorem enc_map0 : List.map encT ([] : List T) = [] := rfl
theorem htree_spec (left : Int) (l : List C) (once done : Bool) (hl : left ≤ 9223372036854775807) (t x : T) (ht : okS t) (hx : okS x) (h18 : t.k = 18) : Spec Tryz.prog glob 92 [.box 0 0, encT t, encT x] (wObjs left l once done) (OwnP left l once done t (ownS l t x)) := by
  have hEt := encT_eq t
  have hEx := encT_eq x
  unfold ownS
  rw [if_neg (by omega), if_neg (by omega), if_neg (by omega), if_neg (by omega), if_pos h18]
  by_cases hk : x.k = 17
  · rw [if_pos hk]
    have e8 : T.nszs [x.kid 0, x.kid 1, x.kid 1, t.kid 3, t.kid 3, t.kid 0, t.kid 1, t.kid 2] = (x.kid 0).nsz + (x.kid 1).nsz + (x.kid 1).nsz + (t.kid 3).nsz + (t.kid 3).nsz + (t.kid 0).nsz + (t.kid 1).nsz + (t.kid 2).nsz := by
      simp only [T.nszs]; omega
    have hz := sizes_spec [x.kid 0, x.kid 1, x.kid 1, t.kid 3, t.kid 3, t.kid 0, t.kid 1, t.kid 2] (by unfold LMax; simp) (fun y hy => by
      simp only [List.mem_cons, List.not_mem_nil, or_false] at hy
      rcases hy with rfl | rfl | rfl | rfl | rfl | rfl | rfl | rfl
      · exact (hx.kid _).1
      · exact (hx.kid _).1
      · exact (hx.kid _).1
      · exact (ht.kid _).1
      · exact (ht.kid _).1
      · exact (ht.kid _).1
      · exact (ht.kid _).1
      · exact (ht.kid _).1)
    rw [szs_true _ 0 0 rfl, Nat.zero_add, e8] at hz
    have z1 := (hx.kid 0).nsz
    have z2 := (hx.kid 1).nsz
    have z3 := (ht.kid 3).nsz
    have z4 := (ht.kid 0).nsz
    have z5 := (ht.kid 1).nsz
    have z6 := (ht.kid 2).nsz
    have hsd := (ht.kid 1).sd (hx.kid 0)
    have hs := size2_spec (t.kid 1) (x.kid 0) (ht.kid 1).1 (hx.kid 0).1 (by omega)
    have hcn : treeN t x = 7 + ((x.kid 0).nsz + (x.kid 1).nsz + (x.kid 1).nsz + (t.kid 3).nsz + (t.kid 3).nsz + (t.kid 0).nsz + (t.kid 1).nsz + (t.kid 2).nsz) + (t.kid 1).sd (x.kid 0).nsz 0 := rfl
    generalize hm : (x.kid 0).nsz + (x.kid 1).nsz + (x.kid 1).nsz + (t.kid 3).nsz + (t.kid 3).nsz + (t.kid 0).nsz + (t.kid 1).nsz + (t.kid 2).nsz = m at hz hcn
    generalize (t.kid 1).sd (x.kid 0).nsz 0 = s at hs hcn hsd
    rw [i64w (n := ((m : Nat) : Int)) (by omega) (by omega)] at hz
    have w1 : IntKind.i64.wrap (7 + (m : Int)) = 7 + (m : Int) := i64w (by omega) (by omega)
    have w2 : IntKind.i64.wrap (7 + (m : Int) + (s : Int)) = ((treeN t x : Nat) : Int) := by rw [hcn, i64w (by omega) (by omega)]; push_cast; rfl
    have hR : treeT t x = ofT 6 [ofT 6 [ofT 6 [t.kid 3, x.kid 0], x.kid 1], ofT 5 [(t.kid 1).put [x.kid 0] 0, ofT 18 [(t.kid 0).lift 1 0 0, (t.kid 1).lift 1 1 0, (t.kid 2).lift 1 0 0, (t.kid 3).lift 1 0 0, ofT 6 [(x.kid 1).lift 1 0 0, ofT 1 []]]]] := rfl
    have ka0 := kidn_spec x 0 0 rfl
    have ka1 := kidn_spec x 1 1 rfl
    have k0 := kidn_spec t 0 0 rfl
    have k1 := kidn_spec t 1 1 rfl
    have k2 := kidn_spec t 2 2 rfl
    have k3 := kidn_spec t 3 3 rfl
    have c0 := tree1_spec t ht 0 0 0 rfl
    have c1 := tree1_spec t ht 1 1 1 rfl
    have c2 := tree1_spec t ht 2 2 0 rfl
    have c3 := tree1_spec t ht 3 3 0 rfl
    have cf := lift_spec (x.kid 1) 1 0 (hx.kid 1).deep (hx.kid 1).1
    have op := putT_spec (t.kid 1) [x.kid 0] (by unfold LMax; simp) (fun b hb => by rw [one_mem hb]; exact ⟨(hx.kid 0).1, (hx.kid 0).deep⟩) (ht.kid 1).deep (ht.kid 1).1
    obtain ⟨a, ha⟩ : ∃ y, y = x.kid 0 := ⟨_, rfl⟩
    obtain ⟨g, hg⟩ : ∃ y, y = x.kid 1 := ⟨_, rfl⟩
    obtain ⟨t0, ht0⟩ : ∃ y, y = t.kid 0 := ⟨_, rfl⟩
    obtain ⟨t1, ht1⟩ : ∃ y, y = t.kid 1 := ⟨_, rfl⟩
    obtain ⟨t2, ht2⟩ : ∃ y, y = t.kid 2 := ⟨_, rfl⟩
    obtain ⟨t3, ht3⟩ : ∃ y, y = t.kid 3 := ⟨_, rfl⟩
    obtain ⟨l0, hl0⟩ : ∃ y, y = (t.kid 0).lift 1 0 0 := ⟨_, rfl⟩
    obtain ⟨l1, hl1⟩ : ∃ y, y = (t.kid 1).lift 1 1 0 := ⟨_, rfl⟩
    obtain ⟨l2, hl2⟩ : ∃ y, y = (t.kid 2).lift 1 0 0 := ⟨_, rfl⟩
    obtain ⟨l3, hl3⟩ : ∃ y, y = (t.kid 3).lift 1 0 0 := ⟨_, rfl⟩
    obtain ⟨lf, hlf⟩ : ∃ y, y = (x.kid 1).lift 1 0 0 := ⟨_, rfl⟩
    obtain ⟨v, hv⟩ : ∃ y, y = ofT 1 [] := ⟨_, rfl⟩
    obtain ⟨p1, hp1⟩ : ∃ y, y = ofT 6 [lf, v] := ⟨_, rfl⟩
    obtain ⟨rest, hrest⟩ : ∃ y, y = ofT 18 [l0, l1, l2, l3, p1] := ⟨_, rfl⟩
    obtain ⟨pu, hpu⟩ : ∃ y, y = (t.kid 1).put [x.kid 0] 0 := ⟨_, rfl⟩
    obtain ⟨lam, hlam⟩ : ∃ y, y = ofT 5 [pu, rest] := ⟨_, rfl⟩
    obtain ⟨b1, hb1⟩ : ∃ y, y = ofT 6 [t3, a] := ⟨_, rfl⟩
    obtain ⟨b2, hb2⟩ : ∃ y, y = ofT 6 [b1, g] := ⟨_, rfl⟩
    obtain ⟨r, hr⟩ : ∃ y, y = ofT 6 [b2, lam] := ⟨_, rfl⟩
    have ov := hof_spec 1 []
    have o1 := hof_spec 6 [lf, v]
    have o2 := hof_spec 18 [l0, l1, l2, l3, p1]
    have o3 := hof_spec 5 [pu, rest]
    have o4 := hof_spec 6 [t3, a]
    have o5 := hof_spec 6 [b1, g]
    have o6 := hof_spec 6 [b2, lam]
    rw [← ha] at ka0
    rw [← hg] at ka1
    rw [← ht0] at k0
    rw [← ht1] at k1
    rw [← ht2] at k2
    rw [← ht3] at k3
    rw [← hl0] at c0
    rw [← hl1] at c1
    rw [← hl2] at c2
    rw [← hl3] at c3
    rw [← hlf, ← hg] at cf
    rw [← hv] at ov
    rw [← hp1] at o1
    rw [← hrest] at o2
    rw [← hpu, ← ht1, ← ha] at op
    rw [← hlam] at o3
    rw [← hb1] at o4
    rw [← hb2] at o5
    rw [← hr] at o6
    rw [← ha, ← hg, ← ht0, ← ht1, ← ht2, ← ht3] at hz
    rw [← ht1, ← ha] at hs
    have hRr : treeT t x = r := by rw [hR, ← hv, ← hlf, ← hp1, ← hl0, ← hl1, ← hl2, ← hl3, ← hrest, ← hpu, ← hlam, ← ht3, ← ha, ← hb1, ← hg, ← hb2, ← hr]
    rw [hRr]
    generalize treeN t x = c at w2 ⊢
    unfold Ts at op
    have Ea := encT_eq a
    have Eg := encT_eq g
    have Et0 := encT_eq t0
    have Et1 := encT_eq t1
    have Et2 := encT_eq t2
    have Et3 := encT_eq t3
    have El0 := encT_eq l0
    have El1 := encT_eq l1
    have El2 := encT_eq l2
    have El3 := encT_eq l3
    have Elf := encT_eq lf
    have Ev := encT_eq v
    have Ep1 := encT_eq p1
    have Erest := encT_eq rest
    have Epu := encT_eq pu
    have Elam := encT_eq lam
    have Eb1 := encT_eq b1
    have Eb2 := encT_eq b2
    have Er := encT_eq r
    simp only [List.map_cons, enc_map0] at ov o1 o2 op o3 o4 o5 o6 hz
    simp only [Ea, Eg, Et0, Et1, Et2, Et3, El0, El1, El2, El3, Elf, Ev, Ep1, Erest, Epu, Elam, Eb1, Eb2, Er] at ka0 ka1 k0 k1 k2 k3 c0 c1 c2 c3 cf ov o1 o2 op o3 o4 o5 o6 hz hs
    rw [hEt] at k0 k1 k2 k3 c0 c1 c2 c3
    rw [hEx, hk] at ka0 ka1
    rw [hEt, hEx]
    simp only [List.cons_append, List.nil_append] at c0 c1 c2 c3
    by_cases hc : (c : Int) ≤ left
    · have hp := burn_ok left l once done c (by omega) hc hl
      show Spec _ _ _ _ _ (Cost left l once done c _)
      rw [Cost_ok hc]
      unfold wObjs headD Cs stepsM at hp ⊢
      refine Spec.movd globPure (wpD_spec tyOK Tryz.func92 rfl (enters _ _ Tryz.func92 rfl (by decide)) rfl rfl ?_)
      (refine wpD_seqk fun K hK => ?_; refine wpD_region tyOK ?_; ((repeat (rw [wpS_cons]; simp)); (try simp only [wpS_nil, thenD, blockD])); refine hK _ _ _ ?_; clear hK K)
      (refine wpD_stay (T := tyOf) 2 (ty := 27) (ds := [.int .i64 t.k, .int .i64 t.n, .int .i64 t.a, .slice (t.ls.map encL) .any, .slice (t.ks.map encT) .any]) rfl rfl (by first | exact ⟨rfl, .inr ⟨_, rfl, rfl⟩⟩ | exact ⟨rfl, .inl rfl⟩) ?_; simp [D.frzs, D.frz, HO.frz, dfFrz, refOf, TK.isAgg, FK.isB, FK.isM, FK.isO, D.isLen])
      refine wpD_seqk fun K1 hK1 => ?_
      (refine wpD_seqk fun K hK => ?_; refine wpD_region tyOK ?_; ((repeat (rw [wpS_cons]; simp [hk])); (try simp only [wpS_nil, thenD, blockD])); refine hK _ _ _ ?_; clear hK K)
      refine wpD_part rfl (fun h => by simp at h) (fun _ => ?_)
      refine wpD_skip (hK1 _ _ _ ?_)
      (refine wpD_seqk fun K hK => ?_; refine wpD_drawk tyOK (by kernel_rfl) (by kernel_rfl) fun KT hKT => ?_; ((repeat (rw [wpT_cons]; simp)); (try simp only [wpT_nil])))
      refine cYp (ka0) ?_
      ((try simp only [wpAftT_ret, wpAftT_pan, putS, updS, setS]); (repeat (rw [wpT_cons]; simp)); (try simp only [wpT_nil]))
      refine cYp (ka1) ?_
      ((try simp only [wpAftT_ret, wpAftT_pan, putS, updS, setS]); (repeat (rw [wpT_cons]; simp)); (try simp only [wpT_nil]))
      refine cYp (k3) ?_
      ((try simp only [wpAftT_ret, wpAftT_pan, putS, updS, setS]); (repeat (rw [wpT_cons]; simp)); (try simp only [wpT_nil]))
      (refine hKT _ _ _ _ (by kernel_rfl) ?_; clear hKT KT; (try simp only [thenD, blockD]))
      (refine hK _ _ _ ?_; clear hK K)
      (refine wpD_seqk fun K hK => ?_; refine wpD_drawk tyOK (by kernel_rfl) (by kernel_rfl) fun KT hKT => ?_; ((repeat (rw [wpT_cons]; simp)); (try simp only [wpT_nil])))
      refine cYp (k0) ?_
      ((try simp only [wpAftT_ret, wpAftT_pan, putS, updS, setS]); (repeat (rw [wpT_cons]; simp [w1, w2])); (try simp only [wpT_nil]))
      refine cYp (k1) ?_
      ((try simp only [wpAftT_ret, wpAftT_pan, putS, updS, setS]); (repeat (rw [wpT_cons]; simp [w1, w2])); (try simp only [wpT_nil]))
      refine cYp (k2) ?_
      ((try simp only [wpAftT_ret, wpAftT_pan, putS, updS, setS]); (repeat (rw [wpT_cons]; simp [w1, w2])); (try simp only [wpT_nil]))
      refine cYp (hz) ?_
      ((try simp only [wpAftT_ret, wpAftT_pan, putS, updS, setS]); (repeat (rw [wpT_cons]; simp [w1, w2])); (try simp only [wpT_nil]))
      refine cYp (k1) ?_
      ((try simp only [wpAftT_ret, wpAftT_pan, putS, updS, setS]); (repeat (rw [wpT_cons]; simp [w1, w2])); (try simp only [wpT_nil]))
      refine cYp (hs) ?_
      ((try simp only [wpAftT_ret, wpAftT_pan, putS, updS, setS]); (repeat (rw [wpT_cons]; simp [w1, w2])); (try simp only [wpT_nil]))
      refine cYo [0, 1] true false (hp) (fun o h e => e) ?_; simp [D.ren, D.rens, D.okN, D.okNs, Cp.ren, Cp.okN, HO.ren, HO.okN, okA, renA, renO, hOf, handed, D.fgt, D.fgts, List.range_succ, List.idxOf_cons, Out.ren, upO, renO, rdO]
      ((try simp only [wpAftT_ret, wpAftT_pan, putS, updS, setS]); (repeat (rw [wpT_cons]; simp)); (try simp only [wpT_nil]))
      (refine hKT _ _ _ _ (by kernel_rfl) ?_; clear hKT KT; (try simp only [thenD, blockD]))
      (refine hK _ _ _ ?_; clear hK K)
      (refine wpD_seqk fun K hK => ?_; refine wpD_region tyOK ?_; ((repeat (rw [wpS_cons]; simp)); (try simp only [wpS_nil, thenD, blockD])); refine hK _ _ _ ?_; clear hK K)
      (refine wpD_seqk fun K hK => ?_; refine wpD_drawk tyOK (by kernel_rfl) (by kernel_rfl) fun KT hKT => ?_; ((repeat (rw [wpT_cons]; simp)); (try simp only [wpT_nil])))
      refine cYp (c0) ?_
      ((try simp only [wpAftT_ret, wpAftT_pan, putS, updS, setS]); (repeat (rw [wpT_cons]; simp)); (try simp only [wpT_nil]))
      refine cYp (c1) ?_
      ((try simp only [wpAftT_ret, wpAftT_pan, putS, updS, setS]); (repeat (rw [wpT_cons]; simp)); (try simp only [wpT_nil]))
      refine cYp (c2) ?_
      ((try simp only [wpAftT_ret, wpAftT_pan, putS, updS, setS]); (repeat (rw [wpT_cons]; simp)); (try simp only [wpT_nil]))
      refine cYp (c3) ?_
      ((try simp only [wpAftT_ret, wpAftT_pan, putS, updS, setS]); (repeat (rw [wpT_cons]; simp)); (try simp only [wpT_nil]))
      refine cYp (cf) ?_
      ((try simp only [wpAftT_ret, wpAftT_pan, putS, updS, setS]); (repeat (rw [wpT_cons]; simp)); (try simp only [wpT_nil]))
      refine cYp (ov) ?_
      ((try simp only [wpAftT_ret, wpAftT_pan, putS, updS, setS]); (repeat (rw [wpT_cons]; simp)); (try simp only [wpT_nil]))
      refine cYp (o1) ?_
      ((try simp only [wpAftT_ret, wpAftT_pan, putS, updS, setS]); (repeat (rw [wpT_cons]; simp)); (try simp only [wpT_nil]))
      refine cYp (o2) ?_
      ((try simp only [wpAftT_ret, wpAftT_pan, putS, updS, setS]); (repeat (rw [wpT_cons]; simp)); (try simp only [wpT_nil]))
      (refine hKT _ _ _ _ (by kernel_rfl) ?_; clear hKT KT; (try simp only [thenD, blockD]))
      (refine hK _ _ _ ?_; clear hK K)
      (refine wpD_seqk fun K hK => ?_; refine wpD_drawk tyOK (by kernel_rfl) (by kernel_rfl) fun KT hKT => ?_; ((repeat (rw [wpT_cons]; simp)); (try simp only [wpT_nil])))
      refine cYp (k1) ?_
      ((try simp only [wpAftT_ret, wpAftT_pan, putS, updS, setS]); (repeat (rw [wpT_cons]; simp)); (try simp only [wpT_nil]))
      refine cYp (op) ?_
      ((try simp only [wpAftT_ret, wpAftT_pan, putS, updS, setS]); (repeat (rw [wpT_cons]; simp)); (try simp only [wpT_nil]))
      refine cYp (o3) ?_
      ((try simp only [wpAftT_ret, wpAftT_pan, putS, updS, setS]); (repeat (rw [wpT_cons]; simp)); (try simp only [wpT_nil]))
      (refine hKT _ _ _ _ (by kernel_rfl) ?_; clear hKT KT; (try simp only [thenD, blockD]))
      (refine hK _ _ _ ?_; clear hK K)
      (refine wpD_seqk fun K hK => ?_; refine wpD_drawk tyOK (by kernel_rfl) (by kernel_rfl) fun KT hKT => ?_; ((repeat (rw [wpT_cons]; simp)); (try simp only [wpT_nil])))
      refine cYp (o4) ?_
      ((try simp only [wpAftT_ret, wpAftT_pan, putS, updS, setS]); (repeat (rw [wpT_cons]; simp)); (try simp only [wpT_nil]))
      refine cYp (o5) ?_
      ((try simp only [wpAftT_ret, wpAftT_pan, putS, updS, setS]); (repeat (rw [wpT_cons]; simp)); (try simp only [wpT_nil]))
      refine cYp (o6) ?_
      ((try simp only [wpAftT_ret, wpAftT_pan, putS, updS, setS]); (repeat (rw [wpT_cons]; simp)); (try simp only [wpT_nil]))
      (refine hKT _ _ _ _ (by kernel_rfl) ?_; clear hKT KT; (try simp only [thenD, blockD]))
      (refine hK _ _ _ ?_; clear hK K)
      (refine wpD_ret ?_; (try simp only [thenD, blockD]); refine EndQ.ret rfl (.inr ⟨[], by decide, by simp, ?_⟩); simp [Out.mov, movT, movH, movD, D.mov, HO.mov, okM, renM, getW, D.ren, D.rens, D.okN, D.okNs, Cp.ren, Cp.okN, HO.ren, HO.okN, okA, renA, renO, hOf, handed, D.fgt, D.fgts, List.range_succ, List.idxOf_cons, tmOf, Out.fgt, D.fgt, D.fgts])
      exact Er.symm
    · have hp := burn_dead left l once done c (by omega)
      show Spec _ _ _ _ _ (Cost left l once done c _)
      rw [Cost_no hc]
      unfold wObjs headD Cs stepsM goneD at hp
      unfold wObjs headD Cs stepsM goneD
      refine Spec.movd globPure (wpD_spec tyOK Tryz.func92 rfl (enters _ _ Tryz.func92 rfl (by decide)) rfl rfl ?_)
      (refine wpD_seqk fun K hK => ?_; refine wpD_region tyOK ?_; ((repeat (rw [wpS_cons]; simp)); (try simp only [wpS_nil, thenD, blockD])); refine hK _ _ _ ?_; clear hK K)
      (refine wpD_stay (T := tyOf) 2 (ty := 27) (ds := [.int .i64 t.k, .int .i64 t.n, .int .i64 t.a, .slice (t.ls.map encL) .any, .slice (t.ks.map encT) .any]) rfl rfl (by first | exact ⟨rfl, .inr ⟨_, rfl, rfl⟩⟩ | exact ⟨rfl, .inl rfl⟩) ?_; simp [D.frzs, D.frz, HO.frz, dfFrz, refOf, TK.isAgg, FK.isB, FK.isM, FK.isO, D.isLen])
      refine wpD_seqk fun K1 hK1 => ?_
      (refine wpD_seqk fun K hK => ?_; refine wpD_region tyOK ?_; ((repeat (rw [wpS_cons]; simp [hk])); (try simp only [wpS_nil, thenD, blockD])); refine hK _ _ _ ?_; clear hK K)
      refine wpD_part rfl (fun h => by simp at h) (fun _ => ?_)
      refine wpD_skip (hK1 _ _ _ ?_)
      (refine wpD_seqk fun K hK => ?_; refine wpD_drawk tyOK (by kernel_rfl) (by kernel_rfl) fun KT hKT => ?_; ((repeat (rw [wpT_cons]; simp)); (try simp only [wpT_nil])))
      refine cYp (ka0) ?_
      ((try simp only [wpAftT_ret, wpAftT_pan, putS, updS, setS]); (repeat (rw [wpT_cons]; simp)); (try simp only [wpT_nil]))
      refine cYp (ka1) ?_
      ((try simp only [wpAftT_ret, wpAftT_pan, putS, updS, setS]); (repeat (rw [wpT_cons]; simp)); (try simp only [wpT_nil]))
      refine cYp (k3) ?_
      ((try simp only [wpAftT_ret, wpAftT_pan, putS, updS, setS]); (repeat (rw [wpT_cons]; simp)); (try simp only [wpT_nil]))
      (refine hKT _ _ _ _ (by kernel_rfl) ?_; clear hKT KT; (try simp only [thenD, blockD]))
      (refine hK _ _ _ ?_; clear hK K)
      (refine wpD_seqk fun K hK => ?_; refine wpD_drawk tyOK (by kernel_rfl) (by kernel_rfl) fun KT hKT => ?_; ((repeat (rw [wpT_cons]; simp)); (try simp only [wpT_nil])))
      refine cYp (k0) ?_
      ((try simp only [wpAftT_ret, wpAftT_pan, putS, updS, setS]); (repeat (rw [wpT_cons]; simp [w1, w2])); (try simp only [wpT_nil]))
      refine cYp (k1) ?_
      ((try simp only [wpAftT_ret, wpAftT_pan, putS, updS, setS]); (repeat (rw [wpT_cons]; simp [w1, w2])); (try simp only [wpT_nil]))
      refine cYp (k2) ?_
      ((try simp only [wpAftT_ret, wpAftT_pan, putS, updS, setS]); (repeat (rw [wpT_cons]; simp [w1, w2])); (try simp only [wpT_nil]))
      refine cYp (hz) ?_
      ((try simp only [wpAftT_ret, wpAftT_pan, putS, updS, setS]); (repeat (rw [wpT_cons]; simp [w1, w2])); (try simp only [wpT_nil]))
      refine cYp (k1) ?_
      ((try simp only [wpAftT_ret, wpAftT_pan, putS, updS, setS]); (repeat (rw [wpT_cons]; simp [w1, w2])); (try simp only [wpT_nil]))
      refine cYp (hs) ?_
      ((try simp only [wpAftT_ret, wpAftT_pan, putS, updS, setS]); (repeat (rw [wpT_cons]; simp [w1, w2])); (try simp only [wpT_nil]))
      refine cYo [0, 1] true false (hp) (fun o h e => e) ?_; simp [D.ren, D.rens, D.okN, D.okNs, Cp.ren, Cp.okN, HO.ren, HO.okN, okA, renA, renO, hOf, handed, D.fgt, D.fgts, List.range_succ, List.idxOf_cons, Out.ren, upO, renO, rdO]
      ((try simp only [wpAftT_ret, wpAftT_pan, putS, updS, setS]); (repeat (refine wpT_late _ _ _ _ (by kernel_rfl) ?_; simp only [putS, List.set, List.nil_append, List.cons_append, Nat.reduceAdd])); (try simp only [wpT_nil]))
      (refine hKT _ _ _ _ (by kernel_rfl) ?_; clear hKT KT; (try simp only [thenD, blockD]))
      simp [killHl]
      ((try simp only [thenD, blockD]); refine EndQ.pan (.inr ⟨[], by decide, by simp, ?_⟩); simp [Out.mov, movT, movH, movD, D.mov, HO.mov, okM, renM, getW, D.ren, D.rens, D.okN, D.okNs, Cp.ren, Cp.okN, HO.ren, HO.okN, okA, renA, renO, hOf, handed, D.fgt, D.fgts, List.range_succ, List.idxOf_cons, tmOf, Out.fgt, D.fgt, D.fgts])
  · rw [if_neg hk]
    rw [hEt, hEx]
    unfold OwnP wObjs headD Cs stepsM
    refine Spec.movd globPure (wpD_spec tyOK Tryz.func92 rfl (enters _ _ Tryz.func92 rfl (by decide)) rfl rfl ?_)
    (refine wpD_seqk fun K hK => ?_; refine wpD_region tyOK ?_; ((repeat (rw [wpS_cons]; simp)); (try simp only [wpS_nil, thenD, blockD])); refine hK _ _ _ ?_; clear hK K)
    refine wpD_seqk fun K1 hK1 => ?_
    (refine wpD_seqk fun K hK => ?_; refine wpD_region tyOK ?_; ((repeat (rw [wpS_cons]; simp [hk])); (try simp only [wpS_nil, thenD, blockD])); refine hK _ _ _ ?_; clear hK K)
    refine wpD_part rfl (fun _ => ?_) (fun h => by simp at h)
    (refine wpD_seqk fun K hK => ?_; refine wpD_region tyOK ?_; ((repeat (rw [wpS_cons]; simp)); (try simp only [wpS_nil, thenD, blockD])); refine hK _ _ _ ?_; clear hK K)
    (refine wpD_ret ?_; (try simp only [thenD, blockD]); refine EndQ.ret rfl (.inr ⟨[], by decide, by simp, ?_⟩); simp [Out.mov, movT, movH, movD, D.mov, HO.mov, okM, renM, getW, D.ren, D.rens, D.okN, D.okNs, Cp.ren, Cp.okN, HO.ren, HO.okN, okA, renA, renO, hOf, handed, D.fgt, D.fgts, List.range_succ, List.idxOf_cons, tmOf, Out.fgt, D.fgt, D.fgts])
    first | done | simp [hEt]
end Go.Proofs.YtgloldepdhgfaaaGreatDoor
