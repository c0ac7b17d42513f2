/-
  Plain laws of lifting and putting (no program).
-/
import Derived.Test.YtmghkfiepcomgaaDoorTput
import Derived.Test.YtmghkfiepcomgaaDoorTame
namespace Go.Proofs.YtmghkfiepcomgaaDoor
open Go.RowKit

theorem walk_inl {f : Turn} {k n a : Int} {ls : List LV} {ks : List T} {d : Int} {u : T} (h : f d (.mk k n a ls ks) = .inl u) : T.walk f (.mk k n a ls ks) d = u := by rw [T.walk, h]
theorem walk_inr {f : Turn} {k n a : Int} {ls : List LV} {ks : List T} {d : Int} {x : Int × List LV} (h : f d (.mk k n a ls ks) = .inr x) : T.walk f (.mk k n a ls ks) d = .mk k x.1 a x.2 (T.walks f k ks 0 d) := by rw [T.walk, h]

theorem walk_lift (m fr k n a : Int) (ls : List LV) (ks : List T) (d : Int) : T.walk (liftTurn m fr) (.mk k n a ls ks) d = .mk k (liftNum m fr d k n) a ls (T.walks (liftTurn m fr) k ks 0 d) := by rw [T.walk]; rfl

theorem put_hit (bys : List T) (d k n a : Int) (ls : List LV) (ks : List T) (h1 : k = 1 ∧ d ≤ n) (i : Nat) (hi : i < bys.length) (hn : (n - d).toNat + i + 1 = bys.length) : putTurn bys d (.mk k n a ls ks) = .inl ((bys[i]).lift d 0 0) := by
  unfold putTurn
  show (if k = 1 ∧ d ≤ n then (if h : (n - d).toNat < bys.length then _ else _) else _) = _
  rw [if_pos h1, dif_pos (by omega)]
  have : bys.length - 1 - (n - d).toNat = i := by omega
  simp only [T.n, this]
theorem put_over (bys : List T) (d k n a : Int) (ls : List LV) (ks : List T) (h1 : k = 1 ∧ d ≤ n) (hn : bys.length ≤ n - d) (hb : n ≤ 2000000000000000) (hb2 : -2000000000000000 ≤ d) (hl : bys.length ≤ 2000000000000000) : putTurn bys d (.mk k n a ls ks) = .inr (n - bys.length, ls) := by
  unfold putTurn
  show (if k = 1 ∧ d ≤ n then (if h : (n - d).toNat < bys.length then _ else _) else _) = _
  rw [if_pos h1, dif_neg (by omega)]
  show Sum.inr (wrap64 (n - bys.length), ls) = _
  rw [IntWalk.wrap64_in _ (by omega)]
theorem put_low (bys : List T) (d k n a : Int) (ls : List LV) (ks : List T) (h1 : ¬ (k = 1 ∧ d ≤ n)) : putTurn bys d (.mk k n a ls ks) = .inr (n, ls) := by
  unfold putTurn
  show (if k = 1 ∧ d ≤ n then _ else _) = _
  rw [if_neg h1]; rfl

theorem walks_comp {f g h : Turn} {k d1 d2 d3 : Int} (ks : List T) : ∀ i, (∀ j t, t ∈ ks → T.walk g (T.walk f t (belowZ d1 k j)) (belowZ d2 k j) = T.walk h t (belowZ d3 k j)) → T.walks g k (T.walks f k ks i d1) i d2 = T.walks h k ks i d3 := by
  induction ks with
  | nil => intro i _; simp [T.walks]
  | cons t r ih =>
    intro i H
    simp only [T.walks]
    rw [H i t List.mem_cons_self, ih (i + 1) (fun j t ht => H j t (List.mem_cons_of_mem _ ht))]

theorem walks_comp2 {f g f' g' : Turn} {k d1 d2 d3 d4 : Int} (ks : List T) : ∀ i, (∀ j t, t ∈ ks → T.walk g (T.walk f t (belowZ d1 k j)) (belowZ d2 k j) = T.walk g' (T.walk f' t (belowZ d3 k j)) (belowZ d4 k j)) →
    T.walks g k (T.walks f k ks i d1) i d2 = T.walks g' k (T.walks f' k ks i d3) i d4 := by
  induction ks with
  | nil => intro i _; simp [T.walks]
  | cons t r ih =>
    intro i H
    simp only [T.walks]
    rw [H i t List.mem_cons_self, ih (i + 1) (fun j t ht => H j t (List.mem_cons_of_mem _ ht))]

theorem belowZ_eq {d k : Int} {i : Nat} (h : 0 ≤ d ∧ d ≤ 4000000000000) : belowZ d k i = if bindsZ k i then d + 1 else d := by
  unfold belowZ
  split
  · exact IntWalk.wrap64_in _ (by omega)
  · rfl

theorem belowZ_add {d c k : Int} {i : Nat} (h1 : 0 ≤ d) (h2 : 0 ≤ c) (h : d + c ≤ 4000000000000) : belowZ (d + c) k i = d + belowZ c k i := by
  rw [belowZ_eq (by omega), belowZ_eq (by omega)]
  split <;> omega

theorem w64 {n : Int} (h1 : -4000000000000000 ≤ n) (h2 : n ≤ 4000000000000000) : wrap64 n = n := IntWalk.wrap64_in _ (by omega)

/-- a depth at which a term as deep fits -/
def Fits (d : Int) (t : T) : Prop := 0 ≤ d ∧ d + t.deep ≤ DM
theorem Fits.kid {d k n a : Int} {ls : List LV} {ks : List T} (h : Fits d (.mk k n a ls ks)) {t : T} (ht : t ∈ ks) (i : Nat) : Fits (belowZ d k i) t := belowZ_ok h (T.deep_kid ht)
theorem Fits.le {d : Int} {t : T} (h : Fits d t) : 0 ≤ d ∧ d ≤ 1099511627776 := by unfold Fits DM at h; omega

/-- lifting by n, putting n terms: the term, lifted by 0 -/
theorem put_lift (bys : List T) (hb : bys.length ≤ LM) (t : T) : ∀ d, t.Tame → Fits d t → (T.walk (liftTurn bys.length 0) t d).put bys d = T.walk (liftTurn 0 0) t d := by
  induction t using T.ind with
  | h k n a ls ks ih =>
    intro d ht hd
    have hd' := hd.le
    unfold LM at hb
    have htame := (T.Tame_eq _).1 ht
    simp only [T.k, T.n, T.ks] at htame
    have hks : T.walks (putTurn bys) k (T.walks (liftTurn bys.length 0) k ks 0 d) 0 d = T.walks (liftTurn 0 0) k ks 0 d :=
      walks_comp ks 0 (fun j t hm => ih t hm _ (T.Tames_mem htame.2 hm) (hd.kid hm j))
    rw [walk_lift, walk_lift]
    unfold T.put
    by_cases h1 : k = 1 ∧ d ≤ n
    · have h2 := htame.1 h1.1
      have e1 : liftNum bys.length 0 d k n = n + bys.length := by
        unfold liftNum
        rw [w64 (by omega) (by omega), w64 (by omega) (by omega), if_pos ⟨h1.1, h1.2, by omega⟩]
      have e2 : liftNum 0 0 d k n = n := by
        unfold liftNum
        rw [w64 (by omega) (by omega), w64 (by omega) (by omega), if_pos ⟨h1.1, h1.2, by omega⟩]; omega
      rw [e1, e2, walk_inr (put_over bys d k (n + bys.length) a ls _ ⟨h1.1, by omega⟩ (by omega) (by omega) (by omega) (by omega)), hks]
      simp only [Int.add_sub_cancel]
    · have e1 : ∀ m, liftNum m 0 d k n = n := fun m => by unfold liftNum; rw [if_neg (fun h => h1 ⟨h.1, h.2.1⟩)]
      rw [e1, e1, walk_inr (put_low bys d k n a ls _ h1), hks]

theorem lift_lift (c d : Int) (hc : 0 ≤ c) (hd : 0 ≤ d) (hcd : c + d ≤ 2000000000000) (b : T) : ∀ e, b.Tame → Fits e b → T.walk (liftTurn d 0) (T.walk (liftTurn c 0) b e) (c + e) = T.walk (liftTurn (c + d) 0) b e := by
  induction b using T.ind with
  | h k n a ls ks ih =>
    intro e ht he
    have he' := he.le
    have htame := (T.Tame_eq _).1 ht
    simp only [T.k, T.n, T.ks] at htame
    have hks : T.walks (liftTurn d 0) k (T.walks (liftTurn c 0) k ks 0 e) 0 (c + e) = T.walks (liftTurn (c + d) 0) k ks 0 e :=
      walks_comp ks 0 (fun j t hm => by rw [belowZ_add hc he'.1 (by omega)]; exact ih t hm _ (T.Tames_mem htame.2 hm) (he.kid hm j))
    rw [walk_lift, walk_lift, walk_lift, hks]
    have : liftNum d 0 (c + e) k (liftNum c 0 e k n) = liftNum (c + d) 0 e k n := by
      by_cases h1 : k = 1 ∧ e ≤ n
      · have h2 := htame.1 h1.1
        have e1 : liftNum c 0 e k n = n + c := by
          unfold liftNum
          rw [w64 (by omega) (by omega), w64 (by omega) (by omega), if_pos ⟨h1.1, h1.2, by omega⟩]
        rw [e1]
        unfold liftNum
        rw [w64 (by omega) (by omega), w64 (by omega) (by omega), w64 (by omega) (by omega), w64 (by omega) (by omega), if_pos ⟨h1.1, by omega, by omega⟩, if_pos ⟨h1.1, h1.2, by omega⟩]
        omega
      · have e1 : ∀ m, liftNum m 0 e k n = n := fun m => by unfold liftNum; rw [if_neg (fun h => h1 ⟨h.1, h.2.1⟩)]
        rw [e1, e1]
        unfold liftNum
        rw [if_neg (fun h => h1 ⟨h.1, by have := h.2.1; omega⟩)]
    rw [this]

/-- put in what was lifted -/
theorem put_lift_one (b : T) (hb : b.Tame) (hbd : Fits 0 b) (d : Int) (hd : 0 ≤ d) (hd2 : d ≤ 1000000000000) (a : T) : ∀ c, a.Tame → Fits c a → T.walk (putTurn [b]) (T.walk (liftTurn d 0) a c) (d + c) = T.walk (liftTurn d 0) (T.walk (putTurn [b]) a c) c := by
  induction a using T.ind with
  | h k n a ls ks ih =>
    intro c ht hc
    have hc' := hc.le
    have htame := (T.Tame_eq _).1 ht
    simp only [T.k, T.n, T.ks] at htame
    have hks : T.walks (putTurn [b]) k (T.walks (liftTurn d 0) k ks 0 c) 0 (d + c) = T.walks (liftTurn d 0) k (T.walks (putTurn [b]) k ks 0 c) 0 c :=
      walks_comp2 ks 0 (fun j t hm => by rw [belowZ_add hd hc'.1 (by omega)]; exact ih t hm _ (T.Tames_mem htame.2 hm) (hc.kid hm j))
    rw [walk_lift]
    by_cases h1 : k = 1 ∧ c ≤ n
    · have h2 := htame.1 h1.1
      have e1 : liftNum d 0 c k n = n + d := by
        unfold liftNum
        rw [w64 (by omega) (by omega), w64 (by omega) (by omega), if_pos ⟨h1.1, h1.2, by omega⟩]
      rw [e1]
      by_cases h3 : n = c
      · rw [walk_inl (put_hit [b] (d + c) k (n + d) a ls _ ⟨h1.1, by omega⟩ 0 (by simp) (by simp; omega)), walk_inl (put_hit [b] c k n a ls _ h1 0 (by simp) (by simp; omega))]
        have := lift_lift c d hc'.1 hd (by omega) b 0 hb hbd
        rw [Int.add_zero] at this
        simp only [List.getElem_cons_zero]
        unfold T.lift
        rw [this, Int.add_comm]
      · rw [walk_inr (put_over [b] (d + c) k (n + d) a ls _ ⟨h1.1, by omega⟩ (by simp; omega) (by omega) (by omega) (by simp)), walk_inr (put_over [b] c k n a ls _ h1 (by simp; omega) (by omega) (by omega) (by simp)), hks]
        dsimp only
        rw [walk_lift]
        have : liftNum d 0 c k (n - 1) = n + d - 1 := by
          unfold liftNum
          rw [w64 (by omega) (by omega), w64 (by omega) (by omega), if_pos ⟨h1.1, by omega, by omega⟩]
          omega
        simp only [List.length_cons, List.length_nil]
        rw [show (n - ((0 + 1 : Nat) : Int)) = n - 1 from by omega, this]
        congr 1
    · have e1 : ∀ m, liftNum m 0 c k n = n := fun m => by unfold liftNum; rw [if_neg (fun h => h1 ⟨h.1, h.2.1⟩)]
      rw [e1, walk_inr (put_low [b] (d + c) k n a ls _ (fun h => h1 ⟨h.1, by have := h.2; omega⟩)), walk_inr (put_low [b] c k n a ls _ h1), hks]
      dsimp only
      rw [walk_lift, e1]

/-- putting one, then another one, is putting both, the one with the other put within -/
theorem put_put (a b : T) (ha : a.Tame) (hb : b.Tame) (had : Fits 0 a) (hbd : Fits 0 b) (t : T) : ∀ d, t.Tame → Fits d t → T.walk (putTurn [b]) (T.walk (putTurn [a]) t d) d = T.walk (putTurn [b, T.put a [b] 0]) t d := by
  induction t using T.ind with
  | h k n x ls ks ih =>
    intro d ht hd
    have hd' := hd.le
    have hd2 : d ≤ 1000000000000 ∨ 1000000000000 < d := by omega
    have htame := (T.Tame_eq _).1 ht
    simp only [T.k, T.n, T.ks] at htame
    have hks : T.walks (putTurn [b]) k (T.walks (putTurn [a]) k ks 0 d) 0 d = T.walks (putTurn [b, T.put a [b] 0]) k ks 0 d :=
      walks_comp ks 0 (fun j t hm => ih t hm _ (T.Tames_mem htame.2 hm) (hd.kid hm j))
    by_cases h1 : k = 1 ∧ d ≤ n
    · have h2 := htame.1 h1.1
      by_cases h3 : n = d
      · rw [walk_inl (put_hit [a] d k n x ls _ h1 0 (by simp) (by simp; omega)), walk_inl (put_hit [b, T.put a [b] 0] d k n x ls _ h1 1 (by simp) (by simp; omega))]
        have := put_lift_one b hb hbd d hd'.1 (by omega) a 0 ha had
        rw [Int.add_zero] at this
        simpa [T.lift, T.put] using this
      · rw [walk_inr (put_over [a] d k n x ls _ h1 (by simp; omega) (by omega) (by omega) (by simp))]
        dsimp only
        rw [show (n - (([a] : List T).length : Int)) = n - 1 from by simp]
        by_cases h4 : n = d + 1
        · rw [walk_inl (put_hit [b] d k (n - 1) x ls _ ⟨h1.1, by omega⟩ 0 (by simp) (by simp; omega)), walk_inl (put_hit [b, T.put a [b] 0] d k n x ls _ h1 0 (by simp) (by simp; omega))]
          simp
        · rw [walk_inr (put_over [b] d k (n - 1) x ls _ ⟨h1.1, by omega⟩ (by simp; omega) (by omega) (by omega) (by simp)), walk_inr (put_over [b, T.put a [b] 0] d k n x ls _ h1 (by simp; omega) (by omega) (by omega) (by simp)), hks]
          congr 1
          simp; omega
    · rw [walk_inr (put_low [a] d k n x ls _ h1)]
      dsimp only
      rw [walk_inr (put_low [b] d k n x ls _ h1), walk_inr (put_low [b, T.put a [b] 0] d k n x ls _ h1), hks]

/-! depths -/
theorem deep_walks {f : Turn} {B : Nat} {k d : Int} (ks : List T) : ∀ i, (∀ j t, t ∈ ks → (T.walk f t (belowZ d k j)).deep ≤ t.deep + B) → T.deeps (T.walks f k ks i d) ≤ T.deeps ks + B := by
  induction ks with
  | nil => intro i _; simp [T.walks, T.deeps]
  | cons t r ih =>
    intro i H
    simp only [T.walks, T.deeps]
    have h1 := H i t List.mem_cons_self
    have h2 := ih (i + 1) (fun j t ht => H j t (List.mem_cons_of_mem _ ht))
    omega
theorem deep_lift (n fr : Int) (t : T) : ∀ d, (T.walk (liftTurn n fr) t d).deep ≤ t.deep := by
  induction t using T.ind with
  | h k m a ls ks ih =>
    intro d
    rw [walk_lift, T.deep, T.deep]
    have := deep_walks (f := liftTurn n fr) (B := 0) (k := k) (d := d) ks 0 (fun j t ht => ih t ht _)
    omega
theorem deep_put (bys : List T) (B : Nat) (hB : ∀ b, b ∈ bys → b.deep ≤ B) (t : T) : ∀ d, (T.walk (putTurn bys) t d).deep ≤ t.deep + B := by
  induction t using T.ind with
  | h k m a ls ks ih =>
    intro d
    rw [T.walk]
    cases hturn : putTurn bys d (.mk k m a ls ks) with
    | inl u =>
      unfold putTurn at hturn
      split at hturn
      · split at hturn
        · injection hturn with h
          subst h
          dsimp only
          rename_i hlt
          have h1 := hB _ (List.getElem_mem (l := bys) (n := bys.length - 1 - ((T.mk k m a ls ks).n - d).toNat) (by omega))
          have h2 := deep_lift d 0 (bys[bys.length - 1 - ((T.mk k m a ls ks).n - d).toNat]'(by omega)) 0
          unfold T.lift
          omega
        · cases hturn
      · cases hturn
    | inr x =>
      dsimp only
      rw [T.deep, T.deep]
      have := deep_walks (f := putTurn bys) (B := B) (k := k) (d := d) ks 0 (fun j t ht => ih t ht _)
      omega
end Go.Proofs.YtmghkfiepcomgaaDoor
