/-
  MC4: the texts Pka Pkb Ccd Ccm Dfo Pkc Dro Ddl Pkd Pkp Pkm Pks Pkr Pke Pkf Pkw Pkg Pkh Pki Pkj Kse, one behind the other.
-/
import Derived.Test.YtgloldepdhgfaaaDoorMC3
namespace Go.Proofs.YtgloldepdhgfaaaDoor
set_option linter.unusedSimpArgs false
set_option linter.unusedVariables false
open Go.RowKit
/-- a number's bytes -/
def numB (n : Nat) : List Int := if n < 128 then [(n : Int)] else ((n % 128 + 128 : Nat) : Int) :: numB (n / 128)
termination_by n
decreasing_by omega
theorem numB_small {n : Nat} (h : n < 128) : numB n = [(n : Int)] := by rw [numB, if_pos h]
theorem numB_big {n : Nat} (h : ¬ n < 128) : numB n = ((n % 128 + 128 : Nat) : Int) :: numB (n / 128) := by rw [numB, if_neg h]
def bytesOk (s : List Int) : Prop := ∀ c, c ∈ s → 0 ≤ c ∧ c < 256
theorem numB_ok (n : Nat) : bytesOk (numB n) := by
  induction n using Nat.strongRecOn with
  | ind n ih =>
    by_cases h : n < 128
    · rw [numB_small h]; intro c hc; rw [List.mem_singleton.1 hc]; omega
    · rw [numB_big h]
      intro c hc
      rcases List.mem_cons.1 hc with rfl | hc
      · omega
      · exact ih (n / 128) (by omega) c hc
theorem numB_pos (n : Nat) : 0 < (numB n).length := by
  by_cases h : n < 128
  · rw [numB_small h]; simp
  · rw [numB_big h]; simp
theorem bytesOk.app {a b : List Int} (h : bytesOk a) (g : bytesOk b) : bytesOk (a ++ b) := fun c hc => (List.mem_append.1 hc).elim (h c) (g c)
theorem bytesOk.right {a b : List Int} (h : bytesOk (a ++ b)) : bytesOk b := fun c hc => h c (List.mem_append_right _ hc)
theorem bytesOk.flat {α : Type} {f : α → List Int} {l : List α} (h : ∀ x, x ∈ l → bytesOk (f x)) : bytesOk (l.flatMap f) := fun c hc => by
  obtain ⟨x, hx, hc⟩ := List.mem_flatMap.1 hc
  exact h x hx c hc
/-- a number, got: so many bytes may come, so many came, what they are -/
def numG : Nat → Nat → Int → Int → List Int → Option (Int × List Int)
  | 0, _, _, _, _ => none
  | _ + 1, _, _, _, [] => none
  | m + 1, i, acc, most, c :: r =>
    if acc + (c % 128) * 128 ^ i ≤ most then (if c < 128 then (if 0 < c ∨ i = 0 then some (acc + (c % 128) * 128 ^ i, r) else none) else numG m (i + 1) (acc + (c % 128) * 128 ^ i) most r) else none
def numR (most : Int) (s : List Int) : Option (Int × List Int) := numG 4 0 0 most s
theorem numG_put (m : Nat) : ∀ (i n : Nat) (acc most : Int) (b : List Int), 0 < m → n < 128 ^ m → (0 < n ∨ i = 0) → acc + n * 128 ^ i ≤ most → numG m i acc most (numB n ++ b) = some (acc + n * 128 ^ i, b) := by
  induction m with
  | zero => intro i n acc most b h0; omega
  | succ m ih =>
    intro i n acc most b _ hn hp hm
    by_cases h : n < 128
    · rw [numB_small h, List.cons_append, List.nil_append, numG]
      have e : ((n : Int) % 128) = n := by omega
      rw [e, if_pos hm, if_pos (by omega : (n : Int) < 128), if_pos (by omega)]
    · rw [numB_big h, List.cons_append, numG]
      have e : (((n % 128 + 128 : Nat) : Int) % 128) = ((n % 128 : Nat) : Int) := by omega
      have hq : (0 : Int) ≤ 128 ^ i := Int.pow_nonneg (by omega)
      have hs : (n : Int) * 128 ^ i = ((n % 128 : Nat) : Int) * 128 ^ i + ((n / 128 : Nat) : Int) * 128 ^ (i + 1) := by
        have h1 : (n : Int) = ((n % 128 : Nat) : Int) + ((n / 128 : Nat) : Int) * 128 := by omega
        calc (n : Int) * 128 ^ i = (((n % 128 : Nat) : Int) + ((n / 128 : Nat) : Int) * 128) * 128 ^ i := by rw [← h1]
          _ = ((n % 128 : Nat) : Int) * 128 ^ i + ((n / 128 : Nat) : Int) * 128 ^ (i + 1) := by rw [Int.add_mul, Int.mul_assoc, Int.pow_succ, Int.mul_comm 128]
      have hnn : (0 : Int) ≤ ((n / 128 : Nat) : Int) * 128 ^ (i + 1) := Int.mul_nonneg (by omega) (Int.pow_nonneg (by omega))
      rw [e, if_pos (by omega), if_neg (by omega)]
      have hlt : n / 128 < 128 ^ m := by
        rw [Nat.pow_succ] at hn
        exact Nat.div_lt_of_lt_mul (by rw [Nat.mul_comm]; exact hn)
      have hm0 : 0 < m := by
        rcases Nat.eq_zero_or_pos m with e | e
        · subst e; simp at hlt; omega
        · exact e
      rw [ih (i + 1) (n / 128) _ most b hm0 hlt (by omega) (by omega)]
      congr 2
      omega
theorem numR_put {n : Nat} {most : Int} (b : List Int) (h : (n : Int) ≤ most) (h2 : most ≤ 1048576) : numR most (numB n ++ b) = some ((n : Int), b) := by
  have := numG_put 4 0 n 0 most b (by omega) (by omega) (.inr rfl) (by simpa using h)
  simpa [numR] using this
theorem numG_got (m : Nat) : ∀ (i : Nat) (acc most : Int) (s : List Int) {v : Int} {r : List Int}, bytesOk s → numG m i acc most s = some (v, r) → v ≤ most ∧ ∃ n : Nat, v = acc + n * 128 ^ i ∧ s = numB n ++ r ∧ (0 < n ∨ i = 0) := by
  induction m with
  | zero => intro i acc most s v r _ h; rw [numG] at h; cases h
  | succ m ih =>
    intro i acc most s v r hs h
    cases s with
    | nil => rw [numG] at h; cases h
    | cons c s =>
      have hc := hs c (List.mem_cons_self ..)
      rw [numG] at h
      split at h
      · rename_i hm
        split at h
        · rename_i h1
          split at h
          · rename_i h2
            cases h
            refine ⟨hm, c.toNat, ?_, ?_, by omega⟩
            · have e : c % 128 = ((c.toNat : Nat) : Int) := by omega
              rw [e]
            · rw [numB_small (by omega)]
              have : ((c.toNat : Nat) : Int) = c := by omega
              rw [this]; rfl
          · cases h
        · rename_i h1
          obtain ⟨g1, n, g2, g3, g4⟩ := ih (i + 1) _ most s (fun x hx => hs x (List.mem_cons_of_mem _ hx)) h
          have hn : 0 < n := by omega
          have hcm : c % 128 = c - 128 := by omega
          refine ⟨g1, (c - 128).toNat + 128 * n, ?_, ?_, by omega⟩
          · rw [g2, hcm]
            have h3 : (((c - 128).toNat + 128 * n : Nat) : Int) = (c - 128) + n * 128 := by omega
            rw [h3, Int.add_mul, Int.mul_assoc, Int.pow_succ, Int.mul_comm 128]
            omega
          · rw [numB_big (by omega), g3]
            have h4 : ((c - 128).toNat + 128 * n) % 128 = (c - 128).toNat := by omega
            have h5 : ((c - 128).toNat + 128 * n) / 128 = n := by omega
            rw [h4, h5]
            have h6 : ((((c - 128).toNat) + 128 : Nat) : Int) = c := by omega
            rw [h6]; rfl
      · cases h
theorem numR_got {most v : Int} {s r : List Int} (hs : bytesOk s) (h : numR most s = some (v, r)) : 0 ≤ v ∧ v ≤ most ∧ s = numB v.toNat ++ r := by
  obtain ⟨h1, n, h2, h3, -⟩ := numG_got 4 0 0 most s hs h
  have : v = n := by simpa using h2
  subst this
  exact ⟨by omega, h1, by simpa using h3⟩
/-- so many, one behind the other -/
def timesR {α σ : Type} (f : σ → Option (α × σ)) : Nat → σ → Option (List α × σ)
  | 0, s => some ([], s)
  | m + 1, s => match f s with
    | none => none
    | some (x, s1) => match timesR f m s1 with
      | none => none
      | some (l, s2) => some (x :: l, s2)
theorem timesR_put {α : Type} {f : List Int → Option (α × List Int)} {g : α → List Int} : ∀ (l : List α) (b : List Int), (∀ x, x ∈ l → ∀ b, f (g x ++ b) = some (x, b)) → timesR f l.length (l.flatMap g ++ b) = some (l, b)
  | [], b, _ => rfl
  | x :: r, b, h => by
    rw [List.flatMap_cons, List.length_cons, timesR, List.append_assoc, h x (List.mem_cons_self ..), ]
    dsimp only
    rw [timesR_put r b fun y hy => h y (List.mem_cons_of_mem _ hy)]
theorem timesR_got {α : Type} {f : List Int → Option (α × List Int)} {g : α → List Int} {P : α → Prop} (hf : ∀ s x r, bytesOk s → f s = some (x, r) → P x ∧ s = g x ++ r) : ∀ (m : Nat) (s : List Int) {l : List α} {r : List Int}, bytesOk s → timesR f m s = some (l, r) → l.length = m ∧ (∀ x, x ∈ l → P x) ∧ s = l.flatMap g ++ r
  | 0, s, l, r, _, h => by rw [timesR] at h; cases h; exact ⟨rfl, fun _ h => (by cases h), rfl⟩
  | m + 1, s, l, r, hs, h => by
    rw [timesR] at h
    split at h
    · cases h
    · rename_i x s1 h1
      split at h
      · cases h
      · rename_i l1 s2 h2
        cases h
        obtain ⟨g1, g2⟩ := hf _ _ _ hs h1
        obtain ⟨k1, k2, k3⟩ := timesR_got hf m s1 (by rw [g2] at hs; exact hs.right) h2
        refine ⟨by rw [List.length_cons, k1], fun y hy => ?_, by rw [List.flatMap_cons, List.append_assoc, ← k3, ← g2]⟩
        rcases List.mem_cons.1 hy with rfl | hy
        · exact g1
        · exact k2 y hy
/-! levels -/
def partB (p : Int × Int) : List Int := numB p.1.toNat ++ numB p.2.toNat
def levB (l : LV) : List Int := numB l.length ++ l.flatMap partB
def partR (s : List Int) : Option ((Int × Int) × List Int) := match numR 1048576 s with
  | none => none
  | some (v, s) => match numR 1048576 s with
    | none => none
    | some (p, s) => some ((v, p), s)
def levelR (s : List Int) : Option (LV × List Int) := match numR 9 s with
  | none => none
  | some (m, s) => timesR partR m.toNat s
def smallI (n : Int) : Prop := 0 ≤ n ∧ n ≤ 1048576
theorem numR_putI {n most : Int} (b : List Int) (h0 : 0 ≤ n) (h : n ≤ most) (h2 : most ≤ 1048576) : numR most (numB n.toNat ++ b) = some (n, b) := by
  have := numR_put (n := n.toNat) b (by omega) h2
  rwa [show ((n.toNat : Nat) : Int) = n by omega] at this
theorem partR_put {p : Int × Int} (h : smallI p.1 ∧ smallI p.2) (b : List Int) : partR (partB p ++ b) = some (p, b) := by
  unfold partR partB
  rw [List.append_assoc, numR_putI _ h.1.1 h.1.2 (Int.le_refl _)]
  dsimp only
  rw [numR_putI _ h.2.1 h.2.2 (Int.le_refl _)]
theorem partR_got (s : List Int) (p : Int × Int) (r : List Int) (hs : bytesOk s) (h : partR s = some (p, r)) : (smallI p.1 ∧ smallI p.2) ∧ s = partB p ++ r := by
  unfold partR at h
  split at h
  · cases h
  · rename_i v s1 h1
    split at h
    · cases h
    · rename_i q s2 h2
      cases h
      obtain ⟨a1, a2, a3⟩ := numR_got hs h1
      obtain ⟨b1, b2, b3⟩ := numR_got (by rw [a3] at hs; exact hs.right) h2
      exact ⟨⟨⟨a1, a2⟩, b1, b2⟩, by unfold partB; rw [List.append_assoc, ← b3, ← a3]⟩
def levOk (l : LV) : Prop := l.length ≤ 9 ∧ ∀ p, p ∈ l → smallI p.1 ∧ smallI p.2
theorem levelR_put {l : LV} (h : levOk l) (b : List Int) : levelR (levB l ++ b) = some (l, b) := by
  unfold levelR levB
  rw [List.append_assoc, numR_put _ (by have := h.1; omega) (by omega)]
  dsimp only
  rw [Int.toNat_natCast]
  exact timesR_put l b fun p hp b => partR_put (h.2 p hp) b
theorem levelR_got (s : List Int) (l : LV) (r : List Int) (hs : bytesOk s) (h : levelR s = some (l, r)) : levOk l ∧ s = levB l ++ r := by
  unfold levelR at h
  split at h
  · cases h
  · rename_i m s1 h1
    obtain ⟨a1, a2, a3⟩ := numR_got hs h1
    obtain ⟨b1, b2, b3⟩ := timesR_got partR_got _ s1 (by rw [a3] at hs; exact hs.right) h
    refine ⟨⟨by omega, b2⟩, ?_⟩
    unfold levB
    rw [b1, List.append_assoc, ← b3, ← a3]
/-! terms -/
def hNum (k : Int) : Bool := decide (k = 1) || decide (k = 3) || decide (k = 8) || decide (k = 9) || decide (k = 10) || decide (k = 22) || decide (k = 23)
def hAt (k : Int) : Bool := decide (k = 8) || decide (k = 9) || decide (k = 10) || decide (k = 11) || decide (k = 23) || decide (k = 24)
def hMany (k : Int) : Bool := decide (k = 3) || decide (k = 8) || decide (k = 9) || decide (k = 10)
def hKids (k a : Int) : Int := if k = 4 ∨ k = 5 ∨ k = 6 ∨ k = 12 ∨ k = 13 ∨ k = 16 ∨ k = 17 then 2 else if k = 7 ∨ k = 19 then 3 else if k = 14 ∨ k = 15 then 1 else if k = 18 then 5 else if k = 21 then 6 else if k = 24 then a + 2 else 0
mutual
def termB : T → List Int
  | .mk k n a ls ks => numB k.toNat ++ ((if hNum k then numB n.toNat else []) ++ ((if hAt k then numB a.toNat else []) ++ ((if hMany k then numB ls.length else []) ++ (ls.flatMap levB ++ termsB ks))))
def termsB : List T → List Int
  | [] => []
  | t :: r => termB t ++ termsB r
end
theorem termsB_flat : ∀ ks : List T, termsB ks = ks.flatMap termB
  | [] => by rw [termsB]; rfl
  | t :: r => by rw [termsB, termsB_flat r]; rfl
/-- what may or may not be there -/
def mayR (c : Bool) (most d : Int) (s : List Int) : Option (Int × List Int) := if c then numR most s else some (d, s)
def nodeR : Nat → Int × List Int → Option (T × (Int × List Int))
  | 0, _ => none
  | d + 1, (nd, s) => if nd - 1 < 0 then none else match numR 24 s with
    | none => none
    | some (k, s) => if k < 1 then none else match mayR (hNum k) 1048576 0 s with
      | none => none
      | some (n, s) => match mayR (hAt k) 1048576 0 s with
        | none => none
        | some (a, s) => match mayR (hMany k) 10 (if k = 2 then 1 else 0) s with
          | none => none
          | some (q, s) => match timesR levelR q.toNat s with
            | none => none
            | some (ls, s) => match timesR (nodeR d) (hKids k a).toNat (nd - 1, s) with
              | none => none
              | some (ks, st) => some (.mk k n a ls ks, st)
theorem mayR_put {c : Bool} {most d n : Int} (b : List Int) (h0 : 0 ≤ n) (h : n ≤ most) (h2 : most ≤ 1048576) (hd : c = false → n = d) : mayR c most d ((if c then numB n.toNat else []) ++ b) = some (n, b) := by
  unfold mayR
  cases c with
  | true => exact numR_putI b h0 h h2
  | false => simp [hd rfl]
theorem mayR_got {c : Bool} {most d n : Int} {s r : List Int} (hs : bytesOk s) (h : mayR c most d s = some (n, r)) : (c = true → 0 ≤ n ∧ n ≤ most) ∧ (c = false → n = d) ∧ s = (if c then numB n.toNat else []) ++ r := by
  unfold mayR at h
  cases c with
  | true =>
    obtain ⟨a1, a2, a3⟩ := numR_got hs (by simpa using h)
    exact ⟨fun _ => ⟨a1, a2⟩, fun h => (by cases h), by simpa using a3⟩
  | false =>
    simp only [Bool.false_eq_true, if_false, Option.some.injEq, Prod.mk.injEq] at h
    obtain ⟨rfl, rfl⟩ := h
    exact ⟨fun h => (by cases h), fun _ => rfl, by simp⟩
/-- what a node asks to be put and got -/
def packN (t : T) : Prop := 1 ≤ t.k ∧ t.k ≤ 24 ∧ smallI t.n ∧ smallI t.a ∧ (hNum t.k = false → t.n = 0) ∧ (hAt t.k = false → t.a = 0) ∧ t.ls.length ≤ 10 ∧ (hMany t.k = false → (t.ls.length : Int) = if t.k = 2 then 1 else 0) ∧ (∀ l, l ∈ t.ls → levOk l) ∧ (t.ks.length : Int) = hKids t.k t.a
inductive PackT : T → Prop where
  | mk {t : T} (h : packN t) (hk : ∀ x, x ∈ t.ks → PackT x) : PackT t
mutual
def T.nsz' : T → Nat
  | .mk _ _ _ _ ks => 1 + T.nszs' ks
def T.nszs' : List T → Nat
  | [] => 0
  | t :: r => T.nsz' t + T.nszs' r
end
theorem timesR_nodes {f : Int × List Int → Option (T × (Int × List Int))} : ∀ (l : List T) (nd : Int) (b : List Int), (T.nszs' l : Int) ≤ nd → (∀ x, x ∈ l → ∀ nd b, (x.nsz' : Int) ≤ nd → f (nd, termB x ++ b) = some (x, (nd - x.nsz', b))) → timesR f l.length (nd, termsB l ++ b) = some (l, (nd - T.nszs' l, b))
  | [], nd, b, _, _ => by rw [termsB, T.nszs']; simp [timesR]
  | x :: r, nd, b, hn, h => by
    rw [T.nszs'] at hn
    rw [termsB, List.length_cons, timesR, List.append_assoc, h x (List.mem_cons_self ..) nd _ (by omega)]
    dsimp only
    rw [timesR_nodes r (nd - x.nsz') b (by omega) fun y hy => h y (List.mem_cons_of_mem _ hy), T.nszs']
    dsimp only
    congr 3
    omega
theorem nodeR_put (d : Nat) : ∀ (t : T) (nd : Int) (b : List Int), PackT t → t.deep ≤ d → (t.nsz' : Int) ≤ nd → nodeR d (nd, termB t ++ b) = some (t, (nd - t.nsz', b)) := by
  induction d with
  | zero => intro t nd b _ hd; cases t; rw [T.deep] at hd; omega
  | succ d ih =>
    intro t nd b hp hd hn
    obtain ⟨h, hk⟩ := hp
    obtain ⟨k, n, a, ls, ks⟩ := t
    simp only [packN, T.k_mk, T.n_mk, T.a_mk, T.ls_mk, T.ks_mk] at h hk
    obtain ⟨h1, h2, h3, h4, h5, h6, h7, h8, h9, h10⟩ := h
    rw [T.deep] at hd
    rw [T.nsz'] at hn ⊢
    rw [nodeR, termB, if_neg (by omega), List.append_assoc, numR_putI _ (by omega) h2 (by omega)]
    dsimp only
    rw [if_neg (by omega), List.append_assoc, mayR_put _ h3.1 h3.2 (Int.le_refl _) h5]
    dsimp only
    rw [List.append_assoc, mayR_put _ h4.1 h4.2 (Int.le_refl _) h6]
    dsimp only
    have hq := mayR_put (c := hMany k) (most := 10) (d := if k = 2 then 1 else 0) (n := (ls.length : Int)) ((ls.flatMap levB ++ termsB ks) ++ b) (by omega) (by omega) (by omega) h8
    rw [Int.toNat_natCast] at hq
    rw [List.append_assoc, hq]
    dsimp only
    rw [Int.toNat_natCast, List.append_assoc, timesR_put ls _ fun l hl b => levelR_put (h9 l hl) b]
    dsimp only
    rw [show (hKids k a).toNat = ks.length by omega]
    rw [timesR_nodes ks (nd - 1) b (by omega) fun x hx nd b hnd => ih x nd b (hk x hx) (by have := T.deep_mem hx; omega) hnd]
    dsimp only
    congr 3
    omega
theorem timesR_gotN {f : Int × List Int → Option (T × (Int × List Int))} (hf : ∀ nd s x nd' r, bytesOk s → f (nd, s) = some (x, (nd', r)) → s = termB x ++ r) : ∀ (m : Nat) (nd : Int) (s : List Int) {l : List T} {nd' : Int} {r : List Int}, bytesOk s → timesR f m (nd, s) = some (l, (nd', r)) → l.length = m ∧ s = termsB l ++ r
  | 0, nd, s, l, nd', r, _, h => by rw [timesR] at h; cases h; exact ⟨rfl, by rw [termsB]; rfl⟩
  | m + 1, nd, s, l, nd', r, hs, h => by
    rw [timesR] at h
    split at h
    · cases h
    · rename_i x st1 h1
      obtain ⟨nd1, s1⟩ := st1
      split at h
      · cases h
      · rename_i l1 st2 h2
        obtain ⟨nd2, s2⟩ := st2
        cases h
        have g2 := hf _ _ _ _ _ hs h1
        obtain ⟨k1, k3⟩ := timesR_gotN hf m nd1 s1 (by rw [g2] at hs; exact hs.right) h2
        exact ⟨by rw [List.length_cons, k1], by rw [termsB, List.append_assoc, ← k3, ← g2]⟩
theorem nodeR_got (d : Nat) : ∀ (nd : Int) (s : List Int) (t : T) (nd' : Int) (r : List Int), bytesOk s → nodeR d (nd, s) = some (t, (nd', r)) → s = termB t ++ r := by
  induction d with
  | zero => intro nd s t nd' r _ h; rw [nodeR] at h; cases h
  | succ d ih =>
    intro nd s t nd' r hs h
    rw [nodeR] at h
    split at h
    · cases h
    split at h
    · cases h
    rename_i k s1 e1
    obtain ⟨a1, a2, a3⟩ := numR_got hs e1
    have hs1 : bytesOk s1 := by rw [a3] at hs; exact hs.right
    split at h
    · cases h
    split at h
    · cases h
    rename_i n s2 e2
    obtain ⟨b1, b2, b3⟩ := mayR_got hs1 e2
    have hs2 : bytesOk s2 := by rw [b3] at hs1; exact hs1.right
    split at h
    · cases h
    rename_i a s3 e3
    obtain ⟨c1, c2, c3⟩ := mayR_got hs2 e3
    have hs3 : bytesOk s3 := by rw [c3] at hs2; exact hs2.right
    split at h
    · cases h
    rename_i q s4 e4
    obtain ⟨d1, d2, d3⟩ := mayR_got hs3 e4
    have hs4 : bytesOk s4 := by rw [d3] at hs3; exact hs3.right
    split at h
    · cases h
    rename_i ls s5 e5
    obtain ⟨f1, f2, f3⟩ := timesR_got levelR_got _ s4 hs4 e5
    have hs5 : bytesOk s5 := by rw [f3] at hs4; exact hs4.right
    split at h
    · cases h
    rename_i ks st e6
    obtain ⟨nd2, s6⟩ := st
    cases h
    obtain ⟨g1, g2⟩ := timesR_gotN (fun nd s x nd' r => ih nd s x nd' r) _ _ s5 hs5 e6
    have hq : (if hMany k then numB q.toNat else []) = (if hMany k then numB ls.length else []) := by rw [f1]
    rw [hq] at d3
    rw [termB, List.append_assoc, List.append_assoc, List.append_assoc, List.append_assoc, List.append_assoc, ← g2, ← f3, ← d3, ← c3, ← b3, ← a3]
/-- a right term, got -/
def termR (s : List Int) : Option (T × List Int) := match nodeR 400 (20000, s) with
  | none => none
  | some (t, (_, r)) => if t.right = true then some (t, r) else none
theorem termR_got (s : List Int) (t : T) (r : List Int) (hs : bytesOk s) (h : termR s = some (t, r)) : t.right = true ∧ s = termB t ++ r := by
  unfold termR at h
  split at h
  · cases h
  · rename_i u nd q e
    split at h
    · rename_i h1
      cases h
      exact ⟨h1, nodeR_got 400 _ _ _ _ _ hs e⟩
    · cases h
end Go.Proofs.YtgloldepdhgfaaaDoor
namespace Go.Proofs.YtgloldepdhgfaaaDoor
set_option linter.unusedSimpArgs false
set_option linter.unusedVariables false
open Go.RowKit
theorem kind_tab {k : Int} (h1 : 1 ≤ k) (h2 : k ≤ 24) : ((kindAt k).1 = true → hNum k = true) ∧ ((kindAt k).2.1 = true → hAt k = true) ∧ (hMany k = false → (kindAt k).2.2.1 = if k = 2 then 1 else 0) ∧ (k ≠ 24 → ∀ a, hKids k a = (kindAt k).2.2.2.1) ∧ (k = 24 → (kindAt k).2.2.2.1 = 2 ∧ ∀ a, hKids k a = a + 2) := by
  have : k = 1 ∨ k = 2 ∨ k = 3 ∨ k = 4 ∨ k = 5 ∨ k = 6 ∨ k = 7 ∨ k = 8 ∨ k = 9 ∨ k = 10 ∨ k = 11 ∨ k = 12 ∨ k = 13 ∨ k = 14 ∨ k = 15 ∨ k = 16 ∨ k = 17 ∨ k = 18 ∨ k = 19 ∨ k = 20 ∨ k = 21 ∨ k = 22 ∨ k = 23 ∨ k = 24 := by omega
  rcases this with rfl | rfl | rfl | rfl | rfl | rfl | rfl | rfl | rfl | rfl | rfl | rfl | rfl | rfl | rfl | rfl | rfl | rfl | rfl | rfl | rfl | rfl | rfl | rfl
  all_goals exact ⟨by decide, by decide, by decide, fun _ a => by first | rfl | (exfalso; contradiction), fun h => by first | exact ⟨rfl, fun a => rfl⟩ | (exfalso; revert h; decide)⟩
theorem levelRight_ok {l : LV} (h : levelRight l 9 = true) : levOk l := by
  unfold levelRight at h
  simp only [Bool.and_eq_true, decide_eq_true_eq, Bool.not_eq_true', List.any_eq_false] at h
  refine ⟨h.1.2, fun p hp => ?_⟩
  have := h.2 p hp
  unfold partBad at this
  simp only [Bool.or_eq_true, decide_eq_true_eq, not_or] at this
  unfold smallI
  omega
theorem nodeT_pack {t : T} (h : nodeT t = true) : packN t := by
  unfold nodeT nodeIn nodeHas outNum at h
  simp only [Bool.and_eq_true, Bool.or_eq_true, decide_eq_true_eq, Bool.not_eq_true', List.any_eq_false, Bool.or_eq_false_iff, decide_eq_false_iff_not] at h
  obtain ⟨⟨⟨⟨a1, a2⟩, ⟨a3, a4⟩, a5, a6⟩, ⟨⟨⟨b1, b2⟩, b3⟩, b4⟩, b5⟩, c⟩ := h
  obtain ⟨k1, k2, k3, k4, k5⟩ := kind_tab a1 a2
  refine ⟨a1, a2, ⟨by omega, by omega⟩, ⟨by omega, by omega⟩, fun hn => b2.resolve_right fun e => ?_, fun hn => b3.resolve_right fun e => ?_, ?_, fun hm => ?_, fun l hl => levelRight_ok ?_, ?_⟩
  · rw [k1 e] at hn; cases hn
  · rw [k2 e] at hn; cases hn
  · unfold nodeMost at b5
    split at b5 <;> omega
  · rw [← k3 hm]
    rcases b4 with e | e
    · have := k3 hm
      split at this <;> omega
    · exact e
  · have := c l hl
    simpa using this
  · rw [b1]
    unfold nodeKids
    by_cases h24 : t.k = 24
    · obtain ⟨q1, q2⟩ := k5 h24
      rw [if_pos h24, q1, q2, i64w (by omega) (by omega)]
      omega
    · rw [if_neg h24, k4 h24]
theorem cnts_right {ks : List T} (ih : ∀ t, t ∈ ks → ∀ deep c : Int, 1 ≤ deep → deep ≤ 401 → 0 ≤ c → c ≤ 20000 → (t.cnt deep c).1 = true → PackT t ∧ deep + t.deep ≤ 401 ∧ (t.cnt deep c).2 = c + t.nsz' ∧ c + t.nsz' ≤ 20000) :
    ∀ (deep c : Int), 1 ≤ deep → deep ≤ 401 → 0 ≤ c → c ≤ 20000 → (T.cnts ks deep c).1 = true → (∀ t, t ∈ ks → PackT t) ∧ deep + T.deeps ks ≤ 401 ∧ (T.cnts ks deep c).2 = c + T.nszs' ks ∧ c + T.nszs' ks ≤ 20000 := by
  induction ks with
  | nil =>
    intro deep c d0 d1 h0 h1 h
    refine ⟨fun _ h => (by cases h), ?_, ?_, ?_⟩
    · rw [T.deeps]; omega
    · rw [T.cnts, T.nszs']; simp
    · rw [T.nszs']; omega
  | cons t r ihr =>
    intro deep c d0 d1 h0 h1 h
    rw [T.cnts] at h ⊢
    by_cases hb : (t.cnt deep c).1 = true
    · rw [if_pos hb] at h ⊢
      obtain ⟨p1, p2, p3, p4⟩ := ih t (List.mem_cons_self ..) deep c d0 d1 h0 h1 hb
      rw [p3] at h ⊢
      obtain ⟨q1, q2, q3, q4⟩ := ihr (fun x hx => ih x (List.mem_cons_of_mem _ hx)) deep (c + t.nsz') d0 d1 (by omega) (by omega) h
      refine ⟨fun x hx => ?_, ?_, ?_, ?_⟩
      · rcases List.mem_cons.1 hx with rfl | hx
        · exact p1
        · exact q1 x hx
      · rw [T.deeps]; omega
      · rw [q3, T.nszs']; omega
      · rw [T.nszs']; omega
    · rw [if_neg hb] at h; cases h
theorem cnt_right (t : T) : ∀ deep c : Int, 1 ≤ deep → deep ≤ 401 → 0 ≤ c → c ≤ 20000 → (t.cnt deep c).1 = true → PackT t ∧ deep + t.deep ≤ 401 ∧ (t.cnt deep c).2 = c + t.nsz' ∧ c + t.nsz' ≤ 20000 := by
  induction t using T.ind with
  | h k n a ls ks ih =>
    intro deep c d0 d1 h0 h1 h
    rw [T.cnt] at h ⊢
    (try dsimp only at h ⊢)
    rw [i64w (n := c + 1) (by omega) (by omega), i64w (n := deep + 1) (by omega) (by omega)] at h ⊢
    by_cases hc : deep ≤ 400 ∧ c + 1 ≤ 20000 ∧ nodeT (.mk k n a ls ks) = true
    · rw [if_pos hc] at h ⊢
      obtain ⟨q1, q2, q3, q4⟩ := cnts_right ih (deep + 1) (c + 1) (by omega) (by omega) (by omega) (by omega) h
      refine ⟨.mk (nodeT_pack hc.2.2) q1, ?_, ?_, ?_⟩
      · rw [T.deep]; omega
      · rw [q3, T.nsz']; omega
      · rw [T.nsz']; omega
    · rw [if_neg hc] at h; cases h
theorem right_pack {t : T} (h : t.right = true) : PackT t ∧ t.deep ≤ 400 ∧ t.nsz' ≤ 20000 := by
  obtain ⟨a, b, c, d⟩ := cnt_right t 1 0 (by omega) (by omega) (by omega) (by omega) h
  exact ⟨a, by omega, by omega⟩
theorem termR_put {t : T} (h : t.right = true) (b : List Int) : termR (termB t ++ b) = some (t, b) := by
  obtain ⟨h1, h2, h3⟩ := right_pack h
  unfold termR
  rw [nodeR_put 400 t 20000 b h1 h2 (by omega)]
  dsimp only
  rw [if_pos h]
theorem termR_pos {t : T} : 0 < (termB t).length := by
  cases t with
  | mk k n a ls ks => rw [termB, List.length_append]; have := numB_pos k.toNat; omega
mutual
theorem termB_ok : ∀ t : T, bytesOk (termB t)
  | .mk k n a ls ks => by
    rw [termB]
    refine (numB_ok _).app ((show bytesOk _ from ?_).app ((show bytesOk _ from ?_).app ((show bytesOk _ from ?_).app ((bytesOk.flat fun l _ => (numB_ok _).app (bytesOk.flat fun p _ => (numB_ok _).app (numB_ok _))).app (termsB_ok ks)))))
    · split
      · exact numB_ok _
      · exact fun _ h => by cases h
    · split
      · exact numB_ok _
      · exact fun _ h => by cases h
    · split
      · exact numB_ok _
      · exact fun _ h => by cases h
theorem termsB_ok : ∀ ks : List T, bytesOk (termsB ks)
  | [] => by rw [termsB]; exact fun _ h => by cases h
  | t :: r => by rw [termsB]; exact (termB_ok t).app (termsB_ok r)
end
/-! declarations -/
/-- a declaration -/
structure De where
  kd : Int
  lv : Int
  ty : T
  bo : T
  ps : List T
  so : LV
  ms : List (List T)
  cs : List (Int × T)
def zeroTm : T := .mk 0 0 0 [] []
def zeroDe : De := ⟨0, 0, zeroTm, zeroTm, [], [], [], []⟩
def bareT (t : T) : Bool := decide (t.k = 0) && decide (t.n = 0) && decide (t.a = 0) && decide (t.ls.length = 0) && decide (t.ks.length = 0)
def termsOk (most : Int) (l : List T) : Bool := decide ((l.length : Int) ≤ most) && l.all T.right
def blockOk (d : De) : Bool := bareT d.ty && bareT d.bo && termsOk 6 d.ps && (levelRight d.so 9 && decide (0 < d.ms.length) && decide (d.ms.length ≤ 8) && decide (d.cs.length ≤ 16)) && d.ms.all (termsOk 6) && d.cs.all fun c => decide (0 ≤ c.1) && decide (c.1 < d.ms.length) && c.2.right
def rightDe (d : De) : Bool := decide (0 ≤ d.lv) && decide (d.lv ≤ 8) && (if d.kd = 3 then blockOk d else decide (d.ps.length + d.so.length + d.ms.length + d.cs.length = 0) && (decide (d.kd = 1) || decide (d.kd = 2)) && d.ty.right && (if d.kd = 1 then bareT d.bo else d.bo.right))
def rowB (l : List T) : List Int := numB l.length ++ l.flatMap termB
def ctorB (c : Int × T) : List Int := numB c.1.toNat ++ termB c.2
def declB (d : De) : List Int := numB d.kd.toNat ++ (numB d.lv.toNat ++ (if d.kd = 1 then termB d.ty else if d.kd = 2 then termB d.ty ++ termB d.bo else rowB d.ps ++ (levB d.so ++ (numB d.ms.length ++ (d.ms.flatMap rowB ++ (numB d.cs.length ++ d.cs.flatMap ctorB))))))
def rowR' (most : Int) (s : List Int) : Option (List T × List Int) := match numR most s with
  | none => none
  | some (m, s) => timesR termR m.toNat s
def ctorR (s : List Int) : Option ((Int × T) × List Int) := match numR 8 s with
  | none => none
  | some (m, s) => match termR s with
    | none => none
    | some (t, s) => some ((m, t), s)
def blockR (kd lv : Int) (s : List Int) : Option (De × List Int) := match rowR' 6 s with
  | none => none
  | some (ps, s) => match levelR s with
    | none => none
    | some (so, s) => match numR 8 s with
      | none => none
      | some (m, s) => match timesR (rowR' 6) m.toNat s with
        | none => none
        | some (ms, s) => match numR 16 s with
          | none => none
          | some (q, s) => match timesR ctorR q.toNat s with
            | none => none
            | some (cs, s) => some (⟨kd, lv, zeroTm, zeroTm, ps, so, ms, cs⟩, s)
def bodyDe (kd lv : Int) (s : List Int) : Option (De × List Int) :=
  if kd = 1 then (match termR s with | none => none | some (t, s) => some (⟨kd, lv, t, zeroTm, [], [], [], []⟩, s))
  else if kd = 2 then (match termR s with | none => none | some (t, s) => match termR s with | none => none | some (u, s) => some (⟨kd, lv, t, u, [], [], [], []⟩, s))
  else if kd = 3 then blockR kd lv s else some (⟨kd, lv, zeroTm, zeroTm, [], [], [], []⟩, s)
def declR' (s : List Int) : Option (De × List Int) := match numR 3 s with
  | none => none
  | some (kd, s) => match numR 8 s with
    | none => none
    | some (lv, s) => match bodyDe kd lv s with
      | none => none
      | some (d, s) => if rightDe d = true then some (d, s) else none
theorem bareT_eq {t : T} (h : bareT t = true) : t = zeroTm := by
  unfold bareT at h
  simp only [Bool.and_eq_true, decide_eq_true_eq] at h
  obtain ⟨k, n, a, ls, ks⟩ := t
  simp only [T.k_mk, T.n_mk, T.a_mk, T.ls_mk, T.ks_mk] at h
  obtain ⟨⟨⟨⟨rfl, rfl⟩, rfl⟩, h4⟩, h5⟩ := h
  rw [List.eq_nil_of_length_eq_zero h4, List.eq_nil_of_length_eq_zero h5]
  rfl
theorem rowR_put {l : List T} {most : Int} (h : termsOk most l = true) (hm : most ≤ 1048576) (b : List Int) : rowR' most (rowB l ++ b) = some (l, b) := by
  unfold termsOk at h
  simp only [Bool.and_eq_true, decide_eq_true_eq, List.all_eq_true] at h
  unfold rowR' rowB
  rw [List.append_assoc, numR_put _ h.1 hm]
  dsimp only
  rw [Int.toNat_natCast]
  exact timesR_put l b fun t ht b => termR_put (h.2 t ht) b
theorem rowR_got {most : Int} (s : List Int) (l : List T) (r : List Int) (hs : bytesOk s) (h : rowR' most s = some (l, r)) : termsOk most l = true ∧ s = rowB l ++ r := by
  unfold rowR' at h
  split at h
  · cases h
  · rename_i m s1 h1
    obtain ⟨a1, a2, a3⟩ := numR_got hs h1
    obtain ⟨b1, b2, b3⟩ := timesR_got (P := fun t => t.right = true) termR_got _ s1 (by rw [a3] at hs; exact hs.right) h
    refine ⟨?_, ?_⟩
    · unfold termsOk
      simp only [Bool.and_eq_true, decide_eq_true_eq, List.all_eq_true]
      exact ⟨by omega, b2⟩
    · unfold rowB
      rw [b1, List.append_assoc, ← b3, ← a3]
theorem ctorR_put {c : Int × T} (h0 : 0 ≤ c.1) (h1 : c.1 ≤ 8) (h : c.2.right = true) (b : List Int) : ctorR (ctorB c ++ b) = some (c, b) := by
  unfold ctorR ctorB
  rw [List.append_assoc, numR_putI _ h0 h1 (by omega)]
  dsimp only
  rw [termR_put h]
theorem ctorR_got (s : List Int) (c : Int × T) (r : List Int) (hs : bytesOk s) (h : ctorR s = some (c, r)) : True ∧ s = ctorB c ++ r := by
  unfold ctorR at h
  split at h
  · cases h
  · rename_i m s1 h1
    obtain ⟨a1, a2, a3⟩ := numR_got hs h1
    split at h
    · cases h
    · rename_i t s2 h2
      cases h
      obtain ⟨b1, b2⟩ := termR_got _ _ _ (by rw [a3] at hs; exact hs.right) h2
      refine ⟨trivial, ?_⟩
      unfold ctorB
      rw [List.append_assoc, ← b2, ← a3]
theorem declR_put {d : De} (h : rightDe d = true) (b : List Int) : declR' (declB d ++ b) = some (d, b) := by
  have hr := h
  unfold rightDe at h
  simp only [Bool.and_eq_true, decide_eq_true_eq] at h
  obtain ⟨⟨h1, h2⟩, h3⟩ := h
  have hkd : 0 ≤ d.kd ∧ d.kd ≤ 3 := by
    split at h3
    · omega
    · simp only [Bool.and_eq_true, Bool.or_eq_true, decide_eq_true_eq] at h3
      omega
  have hb : bodyDe d.kd d.lv ((if d.kd = 1 then termB d.ty else if d.kd = 2 then termB d.ty ++ termB d.bo else rowB d.ps ++ (levB d.so ++ (numB d.ms.length ++ (d.ms.flatMap rowB ++ (numB d.cs.length ++ d.cs.flatMap ctorB))))) ++ b) = some (d, b) := by
    obtain ⟨kd, lv, ty, bo, ps, so, ms, cs⟩ := d
    dsimp only at h3 hkd hr ⊢
    unfold bodyDe
    by_cases k1 : kd = 1
    · subst k1
      simp only [Bool.and_eq_true, Bool.or_eq_true, decide_eq_true_eq, reduceCtorEq, if_false, if_true, Int.reduceEq] at h3
      obtain ⟨⟨⟨q1, q2⟩, q3⟩, q4⟩ := h3
      rw [if_pos rfl, if_pos rfl, termR_put q3, bareT_eq q4, List.eq_nil_of_length_eq_zero (l := ps) (by omega), List.eq_nil_of_length_eq_zero (l := so) (by omega), List.eq_nil_of_length_eq_zero (l := ms) (by omega), List.eq_nil_of_length_eq_zero (l := cs) (by omega)]
    by_cases k2 : kd = 2
    · subst k2
      simp only [Bool.and_eq_true, Bool.or_eq_true, decide_eq_true_eq, reduceCtorEq, if_false, if_true, Int.reduceEq] at h3
      obtain ⟨⟨⟨q1, q2⟩, q3⟩, q4⟩ := h3
      rw [if_neg k1, if_neg k1, if_pos rfl, if_pos rfl, List.append_assoc, termR_put q3]
      dsimp only
      rw [termR_put q4, List.eq_nil_of_length_eq_zero (l := ps) (by omega), List.eq_nil_of_length_eq_zero (l := so) (by omega), List.eq_nil_of_length_eq_zero (l := ms) (by omega), List.eq_nil_of_length_eq_zero (l := cs) (by omega)]
    by_cases k3 : kd = 3
    · subst k3
      rw [if_pos rfl] at h3
      unfold blockOk at h3
      simp only [Bool.and_eq_true, decide_eq_true_eq, List.all_eq_true] at h3
      obtain ⟨⟨⟨⟨⟨q1, q2⟩, q3⟩, ⟨⟨q4, q5⟩, q6⟩, q7⟩, q8⟩, q9⟩ := h3
      rw [if_neg k1, if_neg k1, if_neg k2, if_neg k2, if_pos rfl]
      unfold blockR
      rw [List.append_assoc, rowR_put q3 (by omega)]
      dsimp only
      rw [List.append_assoc, levelR_put (levelRight_ok q4)]
      dsimp only
      rw [List.append_assoc, numR_put _ (by omega) (by omega)]
      dsimp only
      rw [Int.toNat_natCast, List.append_assoc, timesR_put ms _ fun l hl b => rowR_put (q8 l hl) (by omega) b]
      dsimp only
      rw [List.append_assoc, numR_put _ (by omega) (by omega)]
      dsimp only
      rw [Int.toNat_natCast, timesR_put cs _ fun c hc b => ctorR_put (q9 c hc).1.1 (by have := (q9 c hc).1.2; omega) (q9 c hc).2 b]
      dsimp only
      rw [bareT_eq q1, bareT_eq q2]
    · rw [if_neg k3] at h3
      simp only [Bool.and_eq_true, Bool.or_eq_true, decide_eq_true_eq] at h3
      omega
  unfold declR' declB
  rw [List.append_assoc, numR_putI _ hkd.1 hkd.2 (by omega)]
  dsimp only
  rw [List.append_assoc, numR_putI _ h1 h2 (by omega)]
  dsimp only
  rw [hb]
  dsimp only
  rw [if_pos hr]
theorem declR_got {s r : List Int} {d : De} (hs : bytesOk s) (h : declR' s = some (d, r)) : rightDe d = true ∧ s = declB d ++ r := by
  unfold declR' at h
  split at h
  · cases h
  rename_i kd s1 e1
  obtain ⟨a1, a2, a3⟩ := numR_got hs e1
  have hs1 : bytesOk s1 := by rw [a3] at hs; exact hs.right
  split at h
  · cases h
  rename_i lv s2 e2
  obtain ⟨b1, b2, b3⟩ := numR_got hs1 e2
  have hs2 : bytesOk s2 := by rw [b3] at hs1; exact hs1.right
  split at h
  · cases h
  rename_i d0 s3 e3
  split at h
  · rename_i hr
    cases h
    refine ⟨hr, ?_⟩
    have key : d.kd = kd ∧ d.lv = lv ∧ s2 = (if d.kd = 1 then termB d.ty else if d.kd = 2 then termB d.ty ++ termB d.bo else rowB d.ps ++ (levB d.so ++ (numB d.ms.length ++ (d.ms.flatMap rowB ++ (numB d.cs.length ++ d.cs.flatMap ctorB))))) ++ r := by
      unfold bodyDe at e3
      by_cases k1 : kd = 1
      · rw [if_pos k1] at e3
        split at e3
        · cases e3
        · rename_i t s4 e4
          cases e3
          obtain ⟨-, c2⟩ := termR_got _ _ _ hs2 e4
          exact ⟨rfl, rfl, by dsimp only; rw [if_pos k1]; exact c2⟩
      rw [if_neg k1] at e3
      by_cases k2 : kd = 2
      · rw [if_pos k2] at e3
        split at e3
        · cases e3
        · rename_i t s4 e4
          split at e3
          · cases e3
          · rename_i u s5 e5
            cases e3
            obtain ⟨-, c2⟩ := termR_got _ _ _ hs2 e4
            obtain ⟨-, c3⟩ := termR_got _ _ _ (by rw [c2] at hs2; exact hs2.right) e5
            exact ⟨rfl, rfl, by dsimp only; rw [if_neg k1, if_pos k2, List.append_assoc, ← c3, ← c2]⟩
      rw [if_neg k2] at e3
      by_cases k3 : kd = 3
      · rw [if_pos k3] at e3
        unfold blockR at e3
        split at e3
        · cases e3
        rename_i ps s4 e4
        obtain ⟨-, c4⟩ := rowR_got _ _ _ hs2 e4
        have hs4 : bytesOk s4 := by rw [c4] at hs2; exact hs2.right
        split at e3
        · cases e3
        rename_i so s5 e5
        obtain ⟨-, c5⟩ := levelR_got _ _ _ hs4 e5
        have hs5 : bytesOk s5 := by rw [c5] at hs4; exact hs4.right
        split at e3
        · cases e3
        rename_i m s6 e6
        obtain ⟨m1, m2, c6⟩ := numR_got hs5 e6
        have hs6 : bytesOk s6 := by rw [c6] at hs5; exact hs5.right
        split at e3
        · cases e3
        rename_i ms s7 e7
        obtain ⟨l7, -, c7⟩ := timesR_got rowR_got _ s6 hs6 e7
        have hs7 : bytesOk s7 := by rw [c7] at hs6; exact hs6.right
        split at e3
        · cases e3
        rename_i q s8 e8
        obtain ⟨q1, q2, c8⟩ := numR_got hs7 e8
        have hs8 : bytesOk s8 := by rw [c8] at hs7; exact hs7.right
        split at e3
        · cases e3
        rename_i cs s9 e9
        obtain ⟨l9, -, c9⟩ := timesR_got (P := fun _ => True) ctorR_got _ s8 hs8 e9
        cases e3
        refine ⟨rfl, rfl, ?_⟩
        dsimp only
        rw [if_neg k1, if_neg k2, l7, l9]
        simp only [List.append_assoc]
        rw [← c9, ← c8, ← c7, ← c6, ← c5, ← c4]
      · rw [if_neg k3] at e3
        cases e3
        exfalso
        unfold rightDe at hr
        dsimp only at hr
        rw [if_neg k3] at hr
        simp only [Bool.and_eq_true, Bool.or_eq_true, decide_eq_true_eq] at hr
        omega
    obtain ⟨p1, p2, p3⟩ := key
    unfold declB
    rw [p1, p2] at *
    rw [List.append_assoc, List.append_assoc, ← p3, ← b3, ← a3]
  · cases h
end Go.Proofs.YtgloldepdhgfaaaDoor
namespace Go.Proofs.YtgloldepdhgfaaaDoor
set_option linter.unusedSimpArgs false
set_option linter.unusedVariables false
open Go.RowKit
def bareB (t : T) : Bool := decide (t.n = 0) && decide (t.a = 0) && decide (t.ls = [])
def variableB (sc : Int) (t : T) : Bool := decide (0 ≤ t.n) && decide (t.n < sc) && decide (t.a = 0) && decide (t.ls = [])
def finB (t : T) : Bool := decide (0 ≤ t.n) && decide (t.a = 0) && decide (t.ls = [])
def elemB (t : T) : Bool := decide (0 ≤ t.n) && decide (t.n < t.a) && decide (t.ls = [])
def branchesB (t : T) : Bool := decide (t.n = 0) && decide (0 ≤ t.a) && decide (t.ls = [])
def sortB (n : Int) (t : T) : Bool := decide (t.n = 0) && decide (t.a = 0) && decide (t.ls.length = 1) && (t.ls.all fun l => levelRight l n)
def constB (n : Int) (cs : List Int) (t : T) : Bool := decide (0 ≤ t.n) && decide (t.n < cs.length) && decide (t.a = 0) && decide ((t.ls.length : Int) = cs.getD t.n.toNat 0) && (t.ls.all fun l => levelRight l n)
/-- what a kind asks of its term; how many kids -/
def askC (n sc : Int) (cs : List Int) (t : T) : Bool :=
  if t.k = 1 then variableB sc t else if t.k = 2 then sortB n t else if t.k = 3 then constB n cs t else if t.k = 22 then finB t else if t.k = 23 then elemB t else if t.k = 24 then branchesB t else bareB t
def askN (k a : Int) : Int :=
  if k = 7 ∨ k = 19 then 3 else if k = 14 ∨ k = 15 then 1 else if k = 18 then 5 else if k = 21 then 6 else if k = 24 then IntKind.i64.wrap (a + 2) else if k = 1 ∨ k = 2 ∨ k = 3 ∨ k = 20 ∨ k = 22 ∨ k = 23 then 0 else 2
def inCore (k : Int) : Bool := (decide (1 ≤ k) && decide (k ≤ 7)) || (decide (12 ≤ k) && decide (k ≤ 24))
/-- a node, but for its kids -/
def nodeB (n sc : Int) (cs : List Int) (t : T) : Bool := inCore t.k && askC n sc cs t && decide ((t.ks.length : Int) = askN t.k t.a)
mutual
def coreB (n : Int) (cs : List Int) : T → Int → Bool
  | .mk k m a ls ks, sc => nodeB n sc cs (.mk k m a ls ks) && coreKs n cs ks k 0 sc
def coreKs (n : Int) (cs : List Int) : List T → Int → Nat → Int → Bool
  | [], _, _, _ => true
  | t :: r, k, i, sc => coreB n cs t (belowD sc k i) && coreKs n cs r k (i + 1) sc
end
end Go.Proofs.YtgloldepdhgfaaaDoor
namespace Go.Proofs.YtgloldepdhgfaaaDoor
set_option linter.unusedSimpArgs false
set_option linter.unusedVariables false
set_option maxHeartbeats 10000000
set_option maxRecDepth 20000
open Go.RowKit
attribute [local simp] wpAft_ret wpAft_pan wantD evOp opD tmOf putS updS setS hOf isFree isTok fillD TK.isAgg TK.known partD thenD blockD putAll D.ofV inB nilTest isNilS binX binD binE isCst bndD capB IntKind.min IntKind.max IntKind.signed IntKind.bits dstOf late
def idxOf (b : Bool) : List Bool → Int → Int
  | [], _ => -1
  | x :: r, i => if b = x then i else idxOf b r (i + 1)
theorem idxOf_at {b : Bool} {l : List Bool} {k : Nat} (h : k < l.length) : idxOf b (l.drop k) k = if b = l[k] then (k : Int) else idxOf b (l.drop (k + 1)) ((k + 1 : Nat) : Int) := by
  rw [List.drop_eq_getElem_cons h, idxOf]; simp
theorem indexB_spec (l : List Bool) (b : Bool) (hl : l.length ≤ LMax) : Spec Tryd.prog glob 85 [Bools l, .bool b] [] (fun o _ => o.fgt = .ret (.int .i64 (idxOf b l 0))) := by
  obtain ⟨R, hR⟩ : ∃ R, R = idxOf b l 0 := ⟨_, rfl⟩
  rw [← hR]
  refine Spec.movd globPure (wpD_spec tyOK Tryd.func85 rfl (enters _ _ Tryd.func85 rfl (by decide)) rfl rfl ?_)
  unfold Bools
  (refine wpD_seqk fun K hK => ?_; refine wpD_region tyOK ?_; ((repeat (rw [wpS_cons]; simp)); (try simp only [wpS_nil, thenD, blockD])); refine hK _ _ _ ?_; clear hK K)
  refine wpD_seqk fun K1 hK1 => ?_
  (refine wpD_seqk fun K hK => ?_; refine wpD_region tyOK ?_; ((repeat (rw [wpS_cons]; simp)); (try simp only [wpS_nil, thenD, blockD])); refine hK _ _ _ ?_; clear hK K)
  refine wpD_rangeJ tyOK globPure (ti := 3) (tk := 8) (tn := 7) (td := 9) (ts := 18) [4, 5, 8, 9, 10, 11, 12, 13, 14, 15, 16, 17, 18] [] (l.length) (fun k ys hl => ys = [] ∧ R = idxOf b (l.drop k) k ∧ hl = []) rfl rfl rfl rfl rfl rfl rfl rfl rfl rfl rfl rfl (by simp) (by decide) rfl (by first | assumption | omega | (unfold LMax; omega)) rfl (by kernel_rfl) (by decide) ?_ ?_ ?_
  · exact ⟨rfl, hR, rfl⟩
  · rintro i ys hl A hi ⟨rfl, hF, rfl⟩ hA hA2
    simp only [putAll, List.set, List.map_cons, List.map_nil, List.cons_append, List.nil_append]
    have hi' : (i : Int) < l.length := by omega
    rw [idxOf_at hi] at hF
    obtain ⟨x, hx⟩ : ∃ x, l[i] = x := ⟨_, rfl⟩
    rw [hx] at hF
    (refine wpD_seqk fun K hK => ?_; refine wpD_region tyOK ?_; ((repeat (rw [wpS_cons]; simp)); (try simp only [wpS_nil, thenD, blockD])); refine hK _ _ _ ?_; clear hK K)
    (refine wpD_seqk fun K hK => ?_; refine wpD_region tyOK ?_; ((repeat (rw [wpS_cons]; simp [hi, hi', hx, pairX])); (try simp only [wpS_nil, thenD, blockD])); refine hK _ _ _ ?_; clear hK K)
    by_cases hb : b = x
    · rw [if_pos hb] at hF
      subst hb
      refine wpD_part rfl (fun _ => ?_) (fun h => absurd h (by simp))
      (refine wpD_seqk fun K hK => ?_; refine wpD_region tyOK ?_; ((repeat (rw [wpS_cons]; simp)); (try simp only [wpS_nil, thenD, blockD])); refine hK _ _ _ ?_; clear hK K)
      (refine wpD_ret ?_; (try simp only [thenD, blockD]); refine EndQ.ret rfl (.inl ?_); simp [tmOf, Out.fgt, D.fgt, D.fgts])
      exact hF.symm
    · rw [if_neg hb] at hF
      refine wpD_part rfl (fun h => absurd (by simpa using h) hb) (fun _ => ?_)
      refine wpD_skip ?_
      (refine hA2 ([]) _ _ _ (LeT.refl _) (by decide) (by simp) (by simp [movT, movH, movD, D.mov, HO.mov, okM, renM, getW, D.ren, D.rens, D.okN, D.okNs, Cp.ren, Cp.okN, HO.ren, HO.okN, okA, renA, renO, hOf, handed, D.fgt, D.fgts, List.range_succ, List.idxOf_cons, putAll]) ?_ rfl; simp [movT, movH, movD, D.mov, HO.mov, okM, renM, getW, D.ren, D.rens, D.okN, D.okNs, Cp.ren, Cp.okN, HO.ren, HO.okN, okA, renA, renO, hOf, handed, D.fgt, D.fgts, List.range_succ, List.idxOf_cons])
      exact hF
  · rintro ys hl tl' ⟨rfl, hF, rfl⟩ htl
    refine hK1 _ _ _ (wpD_weakL htl ?_)
    simp only [putAll, List.set, List.map_cons, List.map_nil, List.cons_append, List.nil_append]
    rw [List.drop_length, idxOf] at hF
    subst hF
    (refine wpD_seqk fun K hK => ?_; refine wpD_region tyOK ?_; ((repeat (rw [wpS_cons]; simp)); (try simp only [wpS_nil, thenD, blockD])); refine hK _ _ _ ?_; clear hK K)
    (refine wpD_ret ?_; (try simp only [thenD, blockD]); refine EndQ.ret rfl (.inl ?_); simp [tmOf, Out.fgt, D.fgt, D.fgts])
theorem idx_mem : ∀ (l : List Bool) (b : Bool) (i : Int), 0 ≤ i → (0 ≤ idxOf b l i ↔ b ∈ l)
  | [], b, i, h => by simp [idxOf]
  | x :: r, b, i, h => by
    rw [idxOf]
    by_cases hx : b = x
    · simp [hx, h]
    · rw [if_neg hx, idx_mem r b (i + 1) (by omega)]; simp [hx]
theorem containsB_spec (l : List Bool) (b : Bool) (hl : l.length ≤ LMax) : Spec Tryd.prog glob 73 [Bools l, .bool b] [] (fun o _ => o.fgt = .ret (.bool (decide (b ∈ l)))) := by
  refine Spec.movd globPure (wpD_spec tyOK Tryd.func73 rfl (enters _ _ Tryd.func73 rfl (by decide)) rfl rfl ?_)
  unfold Bools
  (refine wpD_seqk fun K hK => ?_; refine wpD_region tyOK ?_; ((repeat (rw [wpS_cons]; simp)); (try simp only [wpS_nil, thenD, blockD])); refine hK _ _ _ ?_; clear hK K)
  (refine wpD_seqk fun K hK => ?_; refine wpD_region tyOK ?_; ((repeat (rw [wpS_cons]; simp)); (try simp only [wpS_nil, thenD, blockD])))
  refine CallX.pure globPure (indexB_spec l b hl) ?_ (by simp [D.fgts, D.fgt, Bools]) (by simp [D.pures, D.pure, Cp.free, D.pures_map, Bools]) (by simp [Out.pure, D.pure, D.pures, Cp.free, D.pures_map, Bools])
  ((try simp only [wpAft_ret, wpAft_pan, putS, updS, setS]); (repeat (rw [wpS_cons]; simp)); (try simp only [wpS_nil, thenD, blockD]))
  (refine hK _ _ _ ?_; clear hK K)
  (refine wpD_ret ?_; (try simp only [thenD, blockD]); refine EndQ.ret rfl (.inl ?_); simp [tmOf, Out.fgt, D.fgt, D.fgts])
  exact idx_mem l b 0 (by omega)
end Go.Proofs.YtgloldepdhgfaaaDoor
namespace Go.Proofs.YtgloldepdhgfaaaDoor
set_option linter.unusedSimpArgs false
set_option linter.unusedVariables false
open Go.RowKit
theorem wpD_fgtO {P : Program} {G : Nat → Option D} {M : Nat} {Q : DQ} {tl : List D} {hl : List HO} {df : Df} {c : Code} (i : Nat) {ty : TypeId} {ds : List D} (hi : hOf hl i = .cells ty ds) (h : wpD P G M c Q tl (hl.set i (.cells ty (D.fgts ds))) df) : wpD P G M c Q tl hl df := fun ρ0 w0 H0 ρ w a hbs hst => by
  have hlt : i < hl.length := by
    rcases Nat.lt_or_ge i hl.length with h | h
    · exact h
    · unfold hOf at hi; rw [List.getD_eq_getElem?_getD, List.getElem?_eq_none h] at hi; cases hi
  refine h ρ0 w0 H0 ρ w a hbs ?_
  have hH : ∀ k, hOf (hl.set i (.cells ty (D.fgts ds))) k = if k = i then .cells ty (D.fgts ds) else hOf hl k := fun k => by
    unfold hOf
    rw [List.getD_eq_getElem?_getD, List.getD_eq_getElem?_getD]
    by_cases hk : k = i
    · subst hk
      rw [if_pos rfl, List.getElem?_set_self hlt]; rfl
    · rw [if_neg hk, List.getElem?_set_ne (fun e => hk e.symm)]
  have hlv : ∀ k, (hOf (hl.set i (.cells ty (D.fgts ds))) k).live = (hOf hl k).live := fun k => by
    rw [hH k]
    split
    · rename_i hk; subst hk; rw [hi]; rfl
    · rfl
  have hL : ∀ b, Live ρ (hOf (hl.set i (.cells ty (D.fgts ds)))) b → Live ρ (hOf hl) b := fun b ⟨k, f, q1, q2⟩ => ⟨k, f, q1, by rw [← hlv k]; exact q2⟩
  have hR := hst.rel
  refine ⟨⟨fun k hk => hR.free k ?_, hR.fresh, fun k b f hk => ?_, fun k l b f g e1 e2 e3 e4 => hR.inj k l b f g e1 e2 (by rw [← hlv k]; exact e3) (by rw [← hlv l]; exact e4), hR.glob⟩, ⟨hst.ex.grow, hst.ex.frame, fun b hb hlt => hst.ex.live b (hL b hb) hlt⟩, hst.tmp, hst.size, hst.df⟩
  · rw [hH k] at hk
    split at hk
    · cases hk
    · exact hk
  · rw [hH k]
    have h2 := hR.obj k b f hk
    split
    · rename_i hki
      subst hki
      rw [hi] at h2
      obtain ⟨c0, vs, q1, q2⟩ := h2
      exact ⟨c0, vs, q1, RpL_fgt _ _ q2⟩
    · exact h2
mutual
theorem D.fgt_of_deep : ∀ d : D, d.deep.fgt = d.deep
  | .agg ds => by rw [D.deep, D.fgt, D.fgts_of_deeps ds]
  | .tuple ds => by rw [D.deep, D.fgt, D.fgts_of_deeps ds]
  | .iface t d => by rw [D.deep, D.fgt, D.fgt_of_deep d]
  | .slice els _ => by rw [D.deep, D.fgt]
  | .fn f a b => by simp [D.deep, D.fgt]
  | .ref d => by simp [D.deep, D.fgt]
  | .mapc ks vs => by simp [D.deep, D.fgt]
  | .lent els sp => by simp [D.deep, D.fgt]
  | .junk | .int k n | .bool b | .str s | .nilp | .nilf | .nili | .nilm | .box i o | .map i | .own i n | .ebox i sz k o => by simp [D.deep, D.fgt]
theorem D.fgts_of_deeps : ∀ ds : List D, D.fgts (D.deeps ds) = D.deeps ds
  | [] => by rw [D.deeps, D.fgts]
  | d :: r => by rw [D.deeps, D.fgts, D.fgt_of_deep d, D.fgts_of_deeps r]
end
mutual
theorem D.deep_of_fgt : ∀ d : D, d.fgt.deep = d.deep
  | .agg ds => by rw [D.fgt, D.deep, D.deep, D.deeps_of_fgts ds]
  | .tuple ds => by rw [D.fgt, D.deep, D.deep, D.deeps_of_fgts ds]
  | .iface t d => by rw [D.fgt, D.deep, D.deep, D.deep_of_fgt d]
  | .slice els _ => by rw [D.fgt, D.deep, D.deep]
  | .fn f a b => by simp [D.deep, D.fgt]
  | .ref d => by simp [D.deep, D.fgt]
  | .mapc ks vs => by simp [D.deep, D.fgt]
  | .lent els sp => by simp [D.deep, D.fgt]
  | .junk | .int k n | .bool b | .str s | .nilp | .nilf | .nili | .nilm | .box i o | .map i | .own i n | .ebox i sz k o => by simp [D.deep, D.fgt]
theorem D.deeps_of_fgts : ∀ ds : List D, D.deeps (D.fgts ds) = D.deeps ds
  | [] => by rw [D.fgts]
  | d :: r => by rw [D.fgts, D.deeps, D.deeps, D.deep_of_fgt d, D.deeps_of_fgts r]
end
def Out.deep : Out → Out
  | .ret d => .ret d.deep
  | .pan d => .pan d.deep
theorem OutM.deep {ρ : Rho} {w : World} {o : Out} {e : Ending} (h : OutM ρ w o e) : OutM ρ w o.deep e := by
  cases o with
  | ret d => obtain ⟨u, h1, h2⟩ := h; exact ⟨u, h1, Rp_deep _ _ h2⟩
  | pan d => obtain ⟨u, h1, h2⟩ := h; exact ⟨u, h1, Rp_deep _ _ h2⟩
end Go.Proofs.YtgloldepdhgfaaaDoor
namespace Go.Proofs.YtgloldepdhgfaaaDoor
set_option linter.unusedSimpArgs false
set_option linter.unusedVariables false
set_option linter.unusedSimpArgs false
set_option linter.unusedVariables false
set_option maxHeartbeats 10000000
set_option maxRecDepth 20000
open Go.RowKit
attribute [local simp] wpAft_ret wpAft_pan wantD evOp opD tmOf putS updS setS hOf isFree isTok fillD TK.isAgg TK.known partD thenD blockD putAll D.ofV inB nilTest isNilS binX binD binE isCst bndD capB IntKind.min IntKind.max IntKind.signed IntKind.bits dstOf late
def pnoneD : D := .iface 113 (.agg [])
theorem pmust_ok (l : List Bool) (h : l.all id = true) (hl : l.length ≤ LMax := by simp [LMax]) : Spec Tryd.prog glob 48 [Bools l] [] (fun o _ => o.fgt = .ret (.tuple [])) := by
  have hm : ¬ false ∈ l := by simpa using h
  refine Spec.movd globPure (wpD_spec tyOK Tryd.func48 rfl (enters _ _ Tryd.func48 rfl (by decide)) rfl rfl ?_)
  unfold Bools
  (refine wpD_seqk fun K hK => ?_; refine wpD_region tyOK ?_; ((repeat (rw [wpS_cons]; simp)); (try simp only [wpS_nil, thenD, blockD])))
  refine CallX.pure globPure (containsB_spec l false hl) ?_ (by simp [D.fgts, D.fgt, Bools]) (by simp [D.pures, D.pure, Cp.free, D.pures_map, Bools]) (by simp [Out.pure, D.pure, D.pures, Cp.free, D.pures_map, Bools])
  ((try simp only [wpAft_ret, wpAft_pan, putS, updS, setS]); (repeat (rw [wpS_cons]; simp)); (try simp only [wpS_nil, thenD, blockD]))
  (refine hK _ _ _ ?_; clear hK K)
  refine wpD_part rfl (fun h => absurd (by simpa using h) hm) (fun _ => ?_)
  refine wpD_skip ?_
  ((try simp only [thenD, blockD]); refine EndQ.nrm rfl (.inl ?_); simp [tmOf, Out.fgt, D.fgt, D.fgts])
theorem pmust_no (l : List Bool) (h : l.all id = false) (hl : l.length ≤ LMax := by simp [LMax]) : Spec Tryd.prog glob 48 [Bools l] [] (fun o _ => o.fgt = .pan pnoneD) := by
  have hm : false ∈ l := by simpa using h
  refine Spec.movd globPure (wpD_spec tyOK Tryd.func48 rfl (enters _ _ Tryd.func48 rfl (by decide)) rfl rfl ?_)
  unfold Bools
  (refine wpD_seqk fun K hK => ?_; refine wpD_region tyOK ?_; ((repeat (rw [wpS_cons]; simp)); (try simp only [wpS_nil, thenD, blockD])))
  refine CallX.pure globPure (containsB_spec l false hl) ?_ (by simp [D.fgts, D.fgt, Bools]) (by simp [D.pures, D.pure, Cp.free, D.pures_map, Bools]) (by simp [Out.pure, D.pure, D.pures, Cp.free, D.pures_map, Bools])
  ((try simp only [wpAft_ret, wpAft_pan, putS, updS, setS]); (repeat (rw [wpS_cons]; simp)); (try simp only [wpS_nil, thenD, blockD]))
  (refine hK _ _ _ ?_; clear hK K)
  refine wpD_part rfl (fun _ => ?_) (fun h => absurd hm (by simpa using h))
  (refine wpD_region tyOK ?_; ((repeat (rw [wpS_cons]; simp)); (try simp only [wpS_nil, thenD, blockD])))
  ((try simp only [thenD, blockD]); refine EndQ.pan (.inl ?_); simp [Out.fgt, D.fgt, D.fgts])
  simp [pnoneD]
/-- a function of a number of kids -/
def soF (n : Int) : D := .fn (.func 86) [] [.ref (.int .i64 n)]
theorem so_spec (n : Int) : Spec Tryd.prog glob 76 [.int .i64 n] [] (fun o _ => o.fgt = .ret (soF n)) := by
  unfold soF
  refine Spec.movd globPure (wpD_spec tyOK Tryd.func76 rfl (enters _ _ Tryd.func76 rfl (by decide)) rfl rfl ?_)
  (refine wpD_seqk fun K hK => ?_; refine wpD_region tyOK ?_; ((repeat (rw [wpS_cons]; simp)); (try simp only [wpS_nil, thenD, blockD])); refine hK _ _ _ ?_; clear hK K)
  (refine wpD_seqk fun K hK => ?_; refine wpD_region tyOK ?_; ((repeat (rw [wpS_cons]; simp)); (try simp only [wpS_nil, thenD, blockD])); refine hK _ _ _ ?_; clear hK K)
  (refine wpD_stay (T := tyOf) 0 (ty := 3) (ds := [.int .i64 n]) rfl rfl (by first | exact ⟨rfl, .inr ⟨_, rfl, rfl⟩⟩ | exact ⟨rfl, .inl rfl⟩) ?_; simp [D.frzs, D.frz, HO.frz, dfFrz, refOf, TK.isAgg, FK.isB, FK.isM, FK.isO, D.isLen])
  (refine wpD_ret ?_; (try simp only [thenD, blockD]); refine EndQ.ret rfl (.inl ?_); simp [tmOf, Out.fgt, D.fgt, D.fgts])
theorem so1_spec (n a : Int) : Spec Tryd.prog glob 86 [.int .i64 a, .ref (.int .i64 n)] [] (fun o _ => o.fgt = .ret (.int .i64 n)) := by
  refine Spec.movd globPure (wpD_spec tyOK Tryd.func86 rfl (enters _ _ Tryd.func86 rfl (by decide)) rfl rfl ?_)
  (refine wpD_seqk fun K hK => ?_; refine wpD_region tyOK ?_; ((repeat (rw [wpS_cons]; simp)); (try simp only [wpS_nil, thenD, blockD])); refine hK _ _ _ ?_; clear hK K)
  (refine wpD_seqk fun K hK => ?_; refine wpD_region tyOK ?_; ((repeat (rw [wpS_cons]; simp)); (try simp only [wpS_nil, thenD, blockD])); refine hK _ _ _ ?_; clear hK K)
  (refine wpD_ret ?_; (try simp only [thenD, blockD]); refine EndQ.ret rfl (.inl ?_); simp [tmOf, Out.fgt, D.fgt, D.fgts])
theorem k1_spec (a : Int) : Spec Tryd.prog glob 77 [.int .i64 a] [] (fun o _ => o.fgt = .ret (.int .i64 (IntKind.i64.wrap (a + 2)))) := by
  refine Spec.movd globPure (wpD_spec tyOK Tryd.func77 rfl (enters _ _ Tryd.func77 rfl (by decide)) rfl rfl ?_)
  (refine wpD_seqk fun K hK => ?_; refine wpD_region tyOK ?_; ((repeat (rw [wpS_cons]; simp)); (try simp only [wpS_nil, thenD, blockD])); refine hK _ _ _ ?_; clear hK K)
  (refine wpD_seqk fun K hK => ?_; refine wpD_region tyOK ?_; ((repeat (rw [wpS_cons]; simp)); (try simp only [wpS_nil, thenD, blockD])); refine hK _ _ _ ?_; clear hK K)
  (refine wpD_ret ?_; (try simp only [thenD, blockD]); refine EndQ.ret rfl (.inl ?_); simp [tmOf, Out.fgt, D.fgt, D.fgts])
def hasD (n a o m : Bool) (f : D) : D := .agg [.bool n, .bool a, .bool o, .bool m, f]
def caseF : D := .fn (.func 77) [] []
def kindsE : List (D × D) := [(.int .i64 1, hasD true false false false (soF 0)), (.int .i64 2, hasD false false true false (soF 0)), (.int .i64 3, hasD true false false true (soF 0)), (.int .i64 7, hasD false false false false (soF 3)), (.int .i64 11, hasD false true false false (soF 0)),
  (.int .i64 14, hasD false false false false (soF 1)), (.int .i64 15, hasD false false false false (soF 1)), (.int .i64 18, hasD false false false false (soF 5)), (.int .i64 19, hasD false false false false (soF 3)), (.int .i64 20, hasD false false false false (soF 0)), (.int .i64 21, hasD false false false false (soF 6)),
  (.int .i64 22, hasD true false false false (soF 0)), (.int .i64 23, hasD true true false false (soF 0)), (.int .i64 24, hasD false true false false caseF), (.int .i64 8, hasD true true false true (soF 0)), (.int .i64 9, hasD true true false true (soF 0)), (.int .i64 10, hasD true true false true (soF 0)),
  (.int .i64 4, hasD false false false false (soF 2)), (.int .i64 5, hasD false false false false (soF 2)), (.int .i64 6, hasD false false false false (soF 2)), (.int .i64 12, hasD false false false false (soF 2)), (.int .i64 13, hasD false false false false (soF 2)), (.int .i64 16, hasD false false false false (soF 2)), (.int .i64 17, hasD false false false false (soF 2))]
theorem kpk_spec : Spec Tryd.prog glob 54 [] [] (fun o _ => o.fgt = .ret (.mapc (kindsE.map (·.1)) (kindsE.map (·.2)))) := by
  have s0 := so_spec 0
  have s1 := so_spec 1
  have s2 := so_spec 2
  have s3 := so_spec 3
  have s5 := so_spec 5
  have s6 := so_spec 6
  unfold soF at s0 s1 s2 s3 s5 s6
  refine Spec.movd globPure (wpD_spec tyOK Tryd.func54 rfl (enters _ _ Tryd.func54 rfl (by decide)) rfl rfl ?_)
  (refine wpD_seqk fun K hK => ?_; refine wpD_region tyOK ?_; ((repeat (rw [wpS_cons]; simp)); (try simp only [wpS_nil, thenD, blockD])); refine hK _ _ _ ?_; clear hK K)
  (refine wpD_seqk fun K hK => ?_; refine wpD_region tyOK ?_; ((repeat (rw [wpS_cons]; simp)); (try simp only [wpS_nil, thenD, blockD])))
  refine cXp (s0) ?_
  ((try simp only [wpAft_ret, wpAft_pan, putS, updS, setS]); (repeat (rw [wpS_cons]; simp [LMax, findD, keyEq, isIntK])); (try simp only [wpS_nil, thenD, blockD]))
  refine cXp (s0) ?_
  ((try simp only [wpAft_ret, wpAft_pan, putS, updS, setS]); (repeat (rw [wpS_cons]; simp [LMax, findD, keyEq, isIntK])); (try simp only [wpS_nil, thenD, blockD]))
  refine cXp (s0) ?_
  ((try simp only [wpAft_ret, wpAft_pan, putS, updS, setS]); (repeat (rw [wpS_cons]; simp [LMax, findD, keyEq, isIntK])); (try simp only [wpS_nil, thenD, blockD]))
  refine cXp (s3) ?_
  ((try simp only [wpAft_ret, wpAft_pan, putS, updS, setS]); (repeat (rw [wpS_cons]; simp [LMax, findD, keyEq, isIntK])); (try simp only [wpS_nil, thenD, blockD]))
  refine cXp (s0) ?_
  ((try simp only [wpAft_ret, wpAft_pan, putS, updS, setS]); (repeat (rw [wpS_cons]; simp [LMax, findD, keyEq, isIntK])); (try simp only [wpS_nil, thenD, blockD]))
  refine cXp (s1) ?_
  ((try simp only [wpAft_ret, wpAft_pan, putS, updS, setS]); (repeat (rw [wpS_cons]; simp [LMax, findD, keyEq, isIntK])); (try simp only [wpS_nil, thenD, blockD]))
  refine cXp (s1) ?_
  ((try simp only [wpAft_ret, wpAft_pan, putS, updS, setS]); (repeat (rw [wpS_cons]; simp [LMax, findD, keyEq, isIntK])); (try simp only [wpS_nil, thenD, blockD]))
  refine cXp (s5) ?_
  ((try simp only [wpAft_ret, wpAft_pan, putS, updS, setS]); (repeat (rw [wpS_cons]; simp [LMax, findD, keyEq, isIntK])); (try simp only [wpS_nil, thenD, blockD]))
  refine cXp (s3) ?_
  ((try simp only [wpAft_ret, wpAft_pan, putS, updS, setS]); (repeat (rw [wpS_cons]; simp [LMax, findD, keyEq, isIntK])); (try simp only [wpS_nil, thenD, blockD]))
  refine cXp (s0) ?_
  ((try simp only [wpAft_ret, wpAft_pan, putS, updS, setS]); (repeat (rw [wpS_cons]; simp [LMax, findD, keyEq, isIntK])); (try simp only [wpS_nil, thenD, blockD]))
  refine cXp (s6) ?_
  ((try simp only [wpAft_ret, wpAft_pan, putS, updS, setS]); (repeat (rw [wpS_cons]; simp [LMax, findD, keyEq, isIntK])); (try simp only [wpS_nil, thenD, blockD]))
  refine cXp (s0) ?_
  ((try simp only [wpAft_ret, wpAft_pan, putS, updS, setS]); (repeat (rw [wpS_cons]; simp [LMax, findD, keyEq, isIntK])); (try simp only [wpS_nil, thenD, blockD]))
  refine cXp (s0) ?_
  ((try simp only [wpAft_ret, wpAft_pan, putS, updS, setS]); (repeat (rw [wpS_cons]; simp [LMax, findD, keyEq, isIntK])); (try simp only [wpS_nil, thenD, blockD]))
  (refine hK _ _ _ ?_; clear hK K)
  refine wpD_seqk fun K1 hK1 => ?_
  (refine wpD_seqk fun K hK => ?_; refine wpD_region tyOK ?_; ((repeat (rw [wpS_cons]; simp)); (try simp only [wpS_nil, thenD, blockD])); refine hK _ _ _ ?_; clear hK K)
  refine wpD_rangeJ tyOK globPure (ti := 3) (tk := 37) (tn := 36) (td := 38) (ts := 45) [3, 37, 38, 39, 40, 41, 42, 43, 44, 45] [] (3) (fun k ys hl => ys = [] ∧ hl = [.mp (kindsE.take (14 + k))]) rfl rfl rfl rfl rfl rfl rfl rfl rfl rfl rfl rfl (by simp) (by decide) rfl (by first | assumption | omega | (unfold LMax; omega)) rfl (by kernel_rfl) (by decide) ?_ ?_ ?_
  · exact ⟨rfl, rfl⟩
  · rintro i ys hl A hi ⟨rfl, rfl⟩ hA hA2
    simp only [putAll, List.set, List.map_cons, List.map_nil, List.cons_append, List.nil_append]
    have hi' : i = 0 ∨ i = 1 ∨ i = 2 := by omega
    rcases hi' with rfl | rfl | rfl
    · simp only [kindsE, hasD, soF, caseF, List.take]
      (refine wpD_seqk fun K hK => ?_; refine wpD_region tyOK ?_; ((repeat (rw [wpS_cons]; simp)); (try simp only [wpS_nil, thenD, blockD])); refine hK _ _ _ ?_; clear hK K)
      (refine wpD_region tyOK ?_; ((repeat (rw [wpS_cons]; simp)); (try simp only [wpS_nil, thenD, blockD])))
      refine cXp (s0) ?_
      ((try simp only [wpAft_ret, wpAft_pan, putS, updS, setS]); (repeat (rw [wpS_cons]; simp [LMax, findD, keyEq, isIntK])); (try simp only [wpS_nil, thenD, blockD]))
      (refine hA _ _ _ (LeT.refl _) (by kernel_rfl) ?_ rfl; simp only [getW, List.map_cons, List.map_nil])
      exact ⟨trivial, rfl⟩
    · simp only [kindsE, hasD, soF, caseF, List.take]
      (refine wpD_seqk fun K hK => ?_; refine wpD_region tyOK ?_; ((repeat (rw [wpS_cons]; simp)); (try simp only [wpS_nil, thenD, blockD])); refine hK _ _ _ ?_; clear hK K)
      (refine wpD_region tyOK ?_; ((repeat (rw [wpS_cons]; simp)); (try simp only [wpS_nil, thenD, blockD])))
      refine cXp (s0) ?_
      ((try simp only [wpAft_ret, wpAft_pan, putS, updS, setS]); (repeat (rw [wpS_cons]; simp [LMax, findD, keyEq, isIntK])); (try simp only [wpS_nil, thenD, blockD]))
      (refine hA _ _ _ (LeT.refl _) (by kernel_rfl) ?_ rfl; simp only [getW, List.map_cons, List.map_nil])
      exact ⟨trivial, rfl⟩
    · simp only [kindsE, hasD, soF, caseF, List.take]
      (refine wpD_seqk fun K hK => ?_; refine wpD_region tyOK ?_; ((repeat (rw [wpS_cons]; simp)); (try simp only [wpS_nil, thenD, blockD])); refine hK _ _ _ ?_; clear hK K)
      (refine wpD_region tyOK ?_; ((repeat (rw [wpS_cons]; simp)); (try simp only [wpS_nil, thenD, blockD])))
      refine cXp (s0) ?_
      ((try simp only [wpAft_ret, wpAft_pan, putS, updS, setS]); (repeat (rw [wpS_cons]; simp [LMax, findD, keyEq, isIntK])); (try simp only [wpS_nil, thenD, blockD]))
      (refine hA _ _ _ (LeT.refl _) (by kernel_rfl) ?_ rfl; simp only [getW, List.map_cons, List.map_nil])
      exact ⟨trivial, rfl⟩
  · rintro ys hl tl' ⟨rfl, rfl⟩ htl
    refine hK1 _ _ _ (wpD_weakL htl ?_)
    simp only [putAll, List.set, List.map_cons, List.map_nil, List.cons_append, List.nil_append]
    clear hK1 K1
    refine wpD_seqk fun K1 hK1 => ?_
    (refine wpD_seqk fun K hK => ?_; refine wpD_region tyOK ?_; ((repeat (rw [wpS_cons]; simp)); (try simp only [wpS_nil, thenD, blockD])); refine hK _ _ _ ?_; clear hK K)
    refine wpD_rangeJ tyOK globPure (ti := 3) (tk := 48) (tn := 47) (td := 49) (ts := 56) [5, 48, 49, 50, 51, 52, 53, 54, 55, 56] [] (7) (fun k ys hl => ys = [] ∧ hl = [.mp (kindsE.take (17 + k))]) rfl rfl rfl rfl rfl rfl rfl rfl rfl rfl rfl rfl (by simp) (by decide) rfl (by first | assumption | omega | (unfold LMax; omega)) rfl (by kernel_rfl) (by decide) ?_ ?_ ?_
    · exact ⟨rfl, rfl⟩
    · rintro i ys hl A hi ⟨rfl, rfl⟩ hA hA2
      simp only [putAll, List.set, List.map_cons, List.map_nil, List.cons_append, List.nil_append]
      have hi' : i = 0 ∨ i = 1 ∨ i = 2 ∨ i = 3 ∨ i = 4 ∨ i = 5 ∨ i = 6 := by omega
      rcases hi' with rfl | rfl | rfl | rfl | rfl | rfl | rfl
      · simp only [kindsE, hasD, soF, caseF, List.take]
        (refine wpD_seqk fun K hK => ?_; refine wpD_region tyOK ?_; ((repeat (rw [wpS_cons]; simp)); (try simp only [wpS_nil, thenD, blockD])); refine hK _ _ _ ?_; clear hK K)
        (refine wpD_region tyOK ?_; ((repeat (rw [wpS_cons]; simp)); (try simp only [wpS_nil, thenD, blockD])))
        refine cXp (s2) ?_
        ((try simp only [wpAft_ret, wpAft_pan, putS, updS, setS]); (repeat (rw [wpS_cons]; simp [LMax, findD, keyEq, isIntK])); (try simp only [wpS_nil, thenD, blockD]))
        (refine hA _ _ _ (LeT.refl _) (by kernel_rfl) ?_ rfl; simp only [getW, List.map_cons, List.map_nil])
        exact ⟨trivial, rfl⟩
      · simp only [kindsE, hasD, soF, caseF, List.take]
        (refine wpD_seqk fun K hK => ?_; refine wpD_region tyOK ?_; ((repeat (rw [wpS_cons]; simp)); (try simp only [wpS_nil, thenD, blockD])); refine hK _ _ _ ?_; clear hK K)
        (refine wpD_region tyOK ?_; ((repeat (rw [wpS_cons]; simp)); (try simp only [wpS_nil, thenD, blockD])))
        refine cXp (s2) ?_
        ((try simp only [wpAft_ret, wpAft_pan, putS, updS, setS]); (repeat (rw [wpS_cons]; simp [LMax, findD, keyEq, isIntK])); (try simp only [wpS_nil, thenD, blockD]))
        (refine hA _ _ _ (LeT.refl _) (by kernel_rfl) ?_ rfl; simp only [getW, List.map_cons, List.map_nil])
        exact ⟨trivial, rfl⟩
      · simp only [kindsE, hasD, soF, caseF, List.take]
        (refine wpD_seqk fun K hK => ?_; refine wpD_region tyOK ?_; ((repeat (rw [wpS_cons]; simp)); (try simp only [wpS_nil, thenD, blockD])); refine hK _ _ _ ?_; clear hK K)
        (refine wpD_region tyOK ?_; ((repeat (rw [wpS_cons]; simp)); (try simp only [wpS_nil, thenD, blockD])))
        refine cXp (s2) ?_
        ((try simp only [wpAft_ret, wpAft_pan, putS, updS, setS]); (repeat (rw [wpS_cons]; simp [LMax, findD, keyEq, isIntK])); (try simp only [wpS_nil, thenD, blockD]))
        (refine hA _ _ _ (LeT.refl _) (by kernel_rfl) ?_ rfl; simp only [getW, List.map_cons, List.map_nil])
        exact ⟨trivial, rfl⟩
      · simp only [kindsE, hasD, soF, caseF, List.take]
        (refine wpD_seqk fun K hK => ?_; refine wpD_region tyOK ?_; ((repeat (rw [wpS_cons]; simp)); (try simp only [wpS_nil, thenD, blockD])); refine hK _ _ _ ?_; clear hK K)
        (refine wpD_region tyOK ?_; ((repeat (rw [wpS_cons]; simp)); (try simp only [wpS_nil, thenD, blockD])))
        refine cXp (s2) ?_
        ((try simp only [wpAft_ret, wpAft_pan, putS, updS, setS]); (repeat (rw [wpS_cons]; simp [LMax, findD, keyEq, isIntK])); (try simp only [wpS_nil, thenD, blockD]))
        (refine hA _ _ _ (LeT.refl _) (by kernel_rfl) ?_ rfl; simp only [getW, List.map_cons, List.map_nil])
        exact ⟨trivial, rfl⟩
      · simp only [kindsE, hasD, soF, caseF, List.take]
        (refine wpD_seqk fun K hK => ?_; refine wpD_region tyOK ?_; ((repeat (rw [wpS_cons]; simp)); (try simp only [wpS_nil, thenD, blockD])); refine hK _ _ _ ?_; clear hK K)
        (refine wpD_region tyOK ?_; ((repeat (rw [wpS_cons]; simp)); (try simp only [wpS_nil, thenD, blockD])))
        refine cXp (s2) ?_
        ((try simp only [wpAft_ret, wpAft_pan, putS, updS, setS]); (repeat (rw [wpS_cons]; simp [LMax, findD, keyEq, isIntK])); (try simp only [wpS_nil, thenD, blockD]))
        (refine hA _ _ _ (LeT.refl _) (by kernel_rfl) ?_ rfl; simp only [getW, List.map_cons, List.map_nil])
        exact ⟨trivial, rfl⟩
      · simp only [kindsE, hasD, soF, caseF, List.take]
        (refine wpD_seqk fun K hK => ?_; refine wpD_region tyOK ?_; ((repeat (rw [wpS_cons]; simp)); (try simp only [wpS_nil, thenD, blockD])); refine hK _ _ _ ?_; clear hK K)
        (refine wpD_region tyOK ?_; ((repeat (rw [wpS_cons]; simp)); (try simp only [wpS_nil, thenD, blockD])))
        refine cXp (s2) ?_
        ((try simp only [wpAft_ret, wpAft_pan, putS, updS, setS]); (repeat (rw [wpS_cons]; simp [LMax, findD, keyEq, isIntK])); (try simp only [wpS_nil, thenD, blockD]))
        (refine hA _ _ _ (LeT.refl _) (by kernel_rfl) ?_ rfl; simp only [getW, List.map_cons, List.map_nil])
        exact ⟨trivial, rfl⟩
      · simp only [kindsE, hasD, soF, caseF, List.take]
        (refine wpD_seqk fun K hK => ?_; refine wpD_region tyOK ?_; ((repeat (rw [wpS_cons]; simp)); (try simp only [wpS_nil, thenD, blockD])); refine hK _ _ _ ?_; clear hK K)
        (refine wpD_region tyOK ?_; ((repeat (rw [wpS_cons]; simp)); (try simp only [wpS_nil, thenD, blockD])))
        refine cXp (s2) ?_
        ((try simp only [wpAft_ret, wpAft_pan, putS, updS, setS]); (repeat (rw [wpS_cons]; simp [LMax, findD, keyEq, isIntK])); (try simp only [wpS_nil, thenD, blockD]))
        (refine hA _ _ _ (LeT.refl _) (by kernel_rfl) ?_ rfl; simp only [getW, List.map_cons, List.map_nil])
        exact ⟨trivial, rfl⟩
    · rintro ys hl tl' ⟨rfl, rfl⟩ htl
      refine hK1 _ _ _ (wpD_weakL htl ?_)
      simp only [putAll, List.set, List.map_cons, List.map_nil, List.cons_append, List.nil_append]
      clear hK1 K1
      (refine wpD_seqk fun K hK => ?_; refine wpD_region tyOK ?_; ((repeat (rw [wpS_cons]; simp)); (try simp only [wpS_nil, thenD, blockD])); refine hK _ _ _ ?_; clear hK K)
      refine wpD_staym 0 (es := kindsE) (by kernel_rfl) ?_
      simp [D.frzs, D.frz, HO.frz, dfFrz]
      (refine wpD_ret ?_; (try simp only [thenD, blockD]); refine EndQ.ret rfl (.inl ?_); simp [tmOf, Out.fgt, D.fgt, D.fgts])
      rfl
end Go.Proofs.YtgloldepdhgfaaaDoor
namespace Go.Proofs.YtgloldepdhgfaaaDoor
set_option linter.unusedSimpArgs false
set_option linter.unusedVariables false
open Go.RowKit
def swp (i n k : Nat) : Nat := if k = i then n else k
section
variable {P : Program} {G : Nat → Option D} {H : Nat → HO} {M : Nat} {Q : DX → List D → List HO → Df → Prop} {tl : List D} {hl : List HO} {df : Df}
theorem wpD_renO {c : Code} (i : Nat) {sz : Nat} {els : List D} (hi : hOf hl i = HO.row sz els)
    (h : wpD P G M c Q (D.rens (swp i hl.length) tl) (((hl.set i HO.dead) ++ [HO.row sz els]).map (HO.ren (swp i hl.length))) df) : wpD P G M c Q tl hl df := fun ρ0 w0 H0 ρ w a hbs hst => by
  have hlt : i < hl.length := by
    rcases Nat.lt_or_ge i hl.length with h | h
    · exact h
    · unfold hOf at hi; rw [List.getD_eq_getElem?_getD, List.getElem?_eq_none h] at hi; cases hi
  have hf : hOf hl hl.length = .free := by unfold hOf; rw [List.getD_eq_getElem?_getD, List.getElem?_eq_none (Nat.le_refl _)]; rfl
  obtain ⟨r1, r2⟩ := Ex.rename hst.rel hf (by rw [hi]; rfl)
  have hH : ∀ k, setH (setH (hOf hl) i .dead) hl.length (hOf hl i) k = hOf ((hl.set i HO.dead) ++ [HO.row sz els]) k := fun k => by
    unfold setH
    by_cases h1 : k = hl.length
    · rw [if_pos h1, h1, hi]
      unfold hOf
      rw [List.getD_eq_getElem?_getD, List.getElem?_append_right (by rw [List.length_set]; exact Nat.le_refl _), List.length_set, Nat.sub_self]; rfl
    · rw [if_neg h1]
      by_cases h2 : k = i
      · rw [if_pos h2, h2]
        unfold hOf
        rw [List.getD_eq_getElem?_getD, List.getElem?_append_left (by rw [List.length_set]; exact hlt), List.getElem?_set_self hlt]; rfl
      · rw [if_neg h2]
        unfold hOf
        rw [List.getD_eq_getElem?_getD, List.getD_eq_getElem?_getD]
        rcases Nat.lt_or_ge k hl.length with h3 | h3
        · rw [List.getElem?_append_left (by rw [List.length_set]; exact h3), List.getElem?_set_ne (fun e => h2 e.symm)]
        · rw [List.getElem?_eq_none h3, List.getElem?_eq_none (by rw [List.length_append, List.length_set]; simp; omega)]
  have hH' : setH (setH (hOf hl) i .dead) hl.length (hOf hl i) = hOf ((hl.set i HO.dead) ++ [HO.row sz els]) := funext hH
  rw [hH'] at r1 r2
  generalize (hl.set i HO.dead) ++ [HO.row sz els] = hl2 at r1 r2 h
  have hn : ∀ k, (fun _ : Nat => true) k = true → ∀ x, (ρ.as hl.length i).nm k = some x → (ρ.as hl.length i).nm (swp i hl.length k) = some x := fun k _ x hx => by
    unfold swp
    split
    · rename_i e
      subst e
      have : k ≠ hl.length := by omega
      simp only [Rho.as, if_neg this] at hx
      simp only [Rho.as, if_true]
      exact hx
    · exact hx
  have hHr : ∀ k, hOf (hl2.map (HO.ren (swp i hl.length))) k = (hOf hl2 k).ren (swp i hl.length) := fun k => by
    unfold hOf
    rw [List.getD_eq_getElem?_getD, List.getD_eq_getElem?_getD, List.getElem?_map]
    cases hl2[k]? <;> rfl
  have hlv : ∀ k, (hOf (hl2.map (HO.ren (swp i hl.length))) k).live = (hOf hl2 k).live := fun k => by rw [hHr k]; exact HO.ren_live _ _
  have hL : ∀ b, Live (ρ.as hl.length i) (hOf (hl2.map (HO.ren (swp i hl.length)))) b → Live (ρ.as hl.length i) (hOf hl2) b := fun b ⟨k, f, q1, q2⟩ => ⟨k, f, q1, by rw [← hlv k]; exact q2⟩
  have hl1 : (D.rens (swp i hl.length) tl).length = tl.length := D.rens_length ..
  have := h ρ0 w0 H0 (ρ.as hl.length i) w a hbs (by
    rw [hl1]
    have hE := hst.ex.trans r2
    refine ⟨⟨fun k hk => r1.free k ?_, r1.fresh, fun k b f hk => ?_, fun k l b f g e1 e2 e3 e4 => r1.inj k l b f g e1 e2 (by rw [← hlv k]; exact e3) (by rw [← hlv l]; exact e4), r1.glob⟩, ⟨hE.grow, fun b hb hnl => hE.frame b hb hnl, fun b hb hlt => hE.live b (hL b hb) hlt⟩, fun k => ?_, hst.size, hst.df.grow r2.grow⟩
    · rw [hHr k] at hk
      exact HO.ren_free hk
    · rw [hHr k]
      exact ObjAt.ren hn rfl (by
        cases hOf hl2 k with
        | cells ty ds => exact okNs_all ds
        | mp es => simp [HO.okN, okN_all, okNs_all]
        | row sz els => simp [HO.okN, okN_all, okNs_all]
        | tok => rfl
        | dead => rfl
        | free => rfl) (r1.obj k b f hk)
    · have h2 := hst.tmp k
      unfold tmOf at h2 ⊢
      rw [D.rens_map, List.getD_eq_getElem?_getD, List.getElem?_map]
      rw [List.getD_eq_getElem?_getD] at h2
      cases hk : tl[k]? with
      | none => show Rp _ w .junk _; rw [Rp]; trivial
      | some x =>
        rw [hk] at h2
        exact Rp_ren hn rfl _ _ (okN_all x) (Rp.grow r2.grow _ _ h2))
  rw [hl1] at this
  exact this
end
end Go.Proofs.YtgloldepdhgfaaaDoor
namespace Go.Proofs.YtgloldepdhgfaaaDoor
set_option linter.unusedSimpArgs false
set_option linter.unusedVariables false
open Go.RowKit
section
variable {G : Nat → Option D} {tl : List D} {hl : List HO} {P : Program} {Q : DQ} {M : Nat} {df : Df}
variable {T : TypeId → Ty}
end
section
variable {P : Program} {G : Nat → Option D} {M : Nat} {Q : DQ} {tl tl' : List D} {hl : List HO} {df : Df}
end
end Go.Proofs.YtgloldepdhgfaaaDoor
namespace Go.Proofs.YtgloldepdhgfaaaDoor
set_option linter.unusedSimpArgs false
set_option linter.unusedVariables false
set_option linter.unusedSimpArgs false
set_option linter.unusedVariables false
set_option maxHeartbeats 10000000
set_option maxRecDepth 20000
open Go.RowKit
attribute [local simp] wpAft_ret wpAft_pan wantD evOp opD tmOf putS updS setS hOf isFree isTok fillD TK.isAgg TK.known partD thenD blockD putAll D.ofV inB nilTest isNilS binX binD binE isCst bndD capB IntKind.min IntKind.max IntKind.signed IntKind.bits dstOf late
/-- bytes -/
def byD (B : List Int) : List D := B.map (D.int .u8)
theorem byD_pures (B : List Int) : D.pures (byD B) = true := by unfold byD; rw [D.pures_map]; simp [D.pure]
@[simp high] theorem byD_len (B : List Int) : (byD B).length = B.length := by unfold byD; simp
@[simp high] theorem byD_low (m : Nat) (B : List Int) : D.lows m (byD B) = true := D.lows_pure m _ (byD_pures B)
@[simp high] theorem byD_okN (p : Nat → Bool) (B : List Int) : D.okNs p (byD B) = true := D.okNs_pure p _ (byD_pures B)
@[simp high] theorem byD_ren (σ : Nat → Nat) (B : List Int) : D.rens σ (byD B) = byD B := D.rens_pure σ _ (byD_pures B)
@[simp high] theorem byD_renm (σ : Nat → Nat) (B : List Int) : (byD B).map (D.ren σ) = byD B := by rw [← D.rens_map]; exact byD_ren σ B
theorem byD_snoc (B : List Int) (c : Int) : byD B ++ [D.int .u8 c] = byD (B ++ [c]) := by unfold byD; simp
theorem byD_mem {B : List Int} {x : D} (h : x ∈ byD B) : x.size = 1 := by
  unfold byD at h
  obtain ⟨c, -, rfl⟩ := List.mem_map.1 h
  rfl
theorem byD_one (B : List Int) : (∀ x : D, x ∈ byD B → x.size = 1) = True := eq_true fun x h => byD_mem h
@[simp high] theorem byD_cells (B : List Int) : (byD B).flatMap D.cells = byD B := by
  unfold byD
  induction B with
  | nil => rfl
  | cons c r ih => rw [List.map_cons, List.flatMap_cons, ih]; rfl
/-- the table of kinds, as it stays -/
def kmD : D := .mapc (kindsE.map (·.1)) (kindsE.map (·.2))
theorem kmD_pure : kmD.pure = true := by kernel_rfl
@[simp high] theorem kmD_one : kmD.one = true := rfl
@[simp high] theorem kmD_cells : kmD.cells = [kmD] := rfl
@[simp high] theorem kmD_size : kmD.size = 1 := rfl
@[simp high] theorem kmD_fgt : kmD.fgt = kmD := rfl
@[simp high] theorem kmD_ren (σ : Nat → Nat) : D.ren σ kmD = kmD := D.ren_pure σ _ kmD_pure
@[simp high] theorem kmD_okN (p : Nat → Bool) : kmD.okN p = true := D.okN_pure p _ kmD_pure
@[simp high] theorem kmD_low (m : Nat) : kmD.low m = true := D.low_pure m _ kmD_pure
@[simp high] theorem kmD_pure' : kmD.pure = true := kmD_pure
/-- a writer that is handed in, and as it comes back -/
def WO (B : List Int) : List HO := [.cells 103 [.own 1 B.length, kmD], .row 1 (byD B)]
def WP (B : List Int) : List HO := [.cells 103 [.own 2 B.length, kmD], .dead, .row 1 (byD B)]
def numI (n : Int) : List Int := numB n.toNat
theorem u8or (k : Fin 256) : IntKind.u8.wrap (((BitVec.ofInt 8 (((k : Nat) : Int))) ||| 128#8).toNat : Int) = (((k : Nat) % 128 + 128 : Nat) : Int) := by
  revert k; decide +kernel
theorem u8or' (m : Nat) : IntKind.u8.wrap (((BitVec.ofInt IntKind.u8.bits ((m : Int) % 256)) ||| BitVec.ofInt IntKind.u8.bits 128).toNat : Int) = ((m % 128 + 128 : Nat) : Int) := by
  have := u8or ⟨m % 256, by omega⟩
  simp only [Int.natCast_emod] at this
  rw [show ((256 : Nat) : Int) = 256 from rfl] at this
  exact this.trans (by omega)
theorem u8wm (m : Nat) : IntKind.u8.wrap (m : Int) = (m : Int) % 256 := by
  unfold IntKind.wrap
  simp
theorem wput_spec (l : List Int) (hl : l.length ≤ 10) (h : ∀ n, n ∈ l → smallI n) (B : List Int) (hB : (B ++ l.flatMap numI).length ≤ LMax) : Spec Tryd.prog glob 55 [.box 0 0, Ints l] (WO B) (fun o hc => o = .ret (.tuple []) ∧ hc = WP (B ++ l.flatMap numI)) := by
  have hlm : l.length ≤ LMax := by unfold LMax; omega
  unfold WO WP Ints
  refine Spec.movd globPure (wpD_spec tyOK Tryd.func55 rfl (enters _ _ Tryd.func55 rfl (by decide)) rfl rfl ?_)
  refine wpD_renO 1 rfl ?_
  simp [D.rens, D.ren, swp, HO.ren]
  (refine wpD_seqk fun K hK => ?_; refine wpD_region tyOK ?_; ((repeat (rw [wpS_cons]; simp)); (try simp only [wpS_nil, thenD, blockD])); refine hK _ _ _ ?_; clear hK K)
  refine wpD_rangeJ tyOK globPure (ti := 3) (tk := 8) (tn := 7) (td := 9) (ts := 39) [5, 8, 9, 10, 11, 12, 13, 14, 15, 16, 17, 18, 19, 20, 21, 22, 23, 24, 25, 26, 27, 28, 29, 30, 31, 32, 33, 34, 35, 36, 37, 38, 39] [] (l.length) (fun k ys hl => ys = [] ∧ hl = [.cells 103 [.own 2 (B ++ (l.take k).flatMap numI).length, kmD], .dead, .row 1 (byD (B ++ (l.take k).flatMap numI))]) rfl rfl rfl rfl rfl rfl rfl rfl rfl rfl rfl rfl (by simp) (by decide) rfl (by first | assumption | omega | (unfold LMax; omega)) rfl (by kernel_rfl) (by decide) ?_ ?_ ?_
  · exact ⟨rfl, by simp⟩
  · rintro i ys hl' A hi ⟨rfl, rfl⟩ hA hA2
    simp only [putAll, List.set, List.map_cons, List.map_nil, List.cons_append, List.nil_append]
    have hi' : (i : Int) < l.length := by omega
    obtain ⟨v, hv⟩ : ∃ v, l[i] = v := ⟨_, rfl⟩
    have hsm := h v (by rw [← hv]; exact List.getElem_mem hi)
    obtain ⟨B0, hB0⟩ : ∃ B0, B0 = B ++ (l.take i).flatMap numI := ⟨_, rfl⟩
    rw [← hB0]
    (refine wpD_seqk fun K hK => ?_; refine wpD_region tyOK ?_; ((repeat (rw [wpS_cons]; simp [hi, hi', hv])); (try simp only [wpS_nil, thenD, blockD])); refine hK _ _ _ ?_; clear hK K)
    refine wpD_seqk fun K1 hK1 => ?_
    refine wpD_block ?_
    have hv0 : 0 ≤ v ∧ v ≤ 1048576 := hsm
    have hBl : (B0 ++ numI v).length ≤ LMax := by
      refine Nat.le_trans ?_ hB
      have e : l.flatMap numI = (l.take i).flatMap numI ++ (numI v ++ (l.drop (i + 1)).flatMap numI) := by
        conv => lhs; rw [← List.take_append_drop i l, List.flatMap_append, List.drop_eq_getElem_cons hi, List.flatMap_cons, hv]
      rw [e, hB0]
      simp only [List.length_append]
      omega
    clear hA
    refine wpD_loopMJ globPure [12, 13, 14, 15, 16, 17, 18, 19, 20, 21, 22, 23, 24, 25, 26, 27] [5] (fun n ys hl => ∃ (m : Nat) (C : List Int), ys = [.int .i64 m] ∧ C ++ numB m = B0 ++ numI v ∧ n = m ∧ m ≤ 1048576 ∧ hl = [.cells 103 [.own 2 C.length, kmD], .dead, .row 1 (byD C)]) (v.toNat) (by kernel_rfl) ?_ ?_
    · exact ⟨v.toNat, B0, by simp [getW]; omega, rfl, rfl, by omega, rfl⟩
    · have hO2 := hA2
      rintro m ys1 hl1 A1 hA hA2 ⟨_, C, rfl, hC, rfl, hm, rfl⟩
      simp only [putAll, List.set, List.map_cons, List.map_nil, List.cons_append, List.nil_append]
      refine wpD_seqk fun K2 hK2 => ?_
      by_cases hm8 : m < 128
      · have h1 : ¬ (128 : Int) ≤ (m : Int) := by omega
        (refine wpD_seqk fun K hK => ?_; refine wpD_region tyOK ?_; ((repeat (rw [wpS_cons]; simp [h1])); (try simp only [wpS_nil, thenD, blockD])); refine hK _ _ _ ?_; clear hK K)
        refine wpD_part rfl (fun h => by simp at h) (fun _ => ?_)
        refine wpD_exit ?_
        refine hK1 _ _ _ ?_
        clear hK2 K2
        have hA2 := hO2
        clear hO2 hA
        have hw : IntKind.u8.wrap (m : Int) = m := by rw [u8wm]; omega
        have hCl : C.length + 1 ≤ LMax := by
          rw [← hC, List.length_append] at hBl
          have := numB_pos m
          omega
        (refine wpD_region tyOK ?_; ((repeat (rw [wpS_cons]; simp [hw, hCl, byD_one])); (try simp only [wpS_nil, thenD, blockD])))
        (refine hA2 ([3]) _ _ _ (LeT.refl _) (by decide) (by simp) (by simp [movT, movH, movD, D.mov, HO.mov, okM, renM, getW, D.ren, D.rens, D.okN, D.okNs, Cp.ren, Cp.okN, HO.ren, HO.okN, okA, renA, renO, hOf, handed, D.fgt, D.fgts, List.range_succ, List.idxOf_cons, putAll]) ?_ rfl; simp [movT, movH, movD, D.mov, HO.mov, okM, renM, getW, D.ren, D.rens, D.okN, D.okNs, Cp.ren, Cp.okN, HO.ren, HO.okN, okA, renA, renO, hOf, handed, D.fgt, D.fgts, List.range_succ, List.idxOf_cons])
        have e : B ++ (l.take (i + 1)).flatMap numI = C ++ [(m : Int)] := by
          rw [List.take_succ_eq_append_getElem hi, List.flatMap_append, ← List.append_assoc, ← hB0, hv, List.flatMap_singleton, ← hC, numB_small hm8]
        rw [e, ← byD_snoc]
        refine ⟨?_, rfl⟩
        have e2 := congrArg List.length e
        rw [List.length_append, List.length_append, List.length_flatMap] at e2
        rw [← List.map_take]
        exact e2.symm
      · have h1 : (128 : Int) ≤ (m : Int) := by omega
        (refine wpD_seqk fun K hK => ?_; refine wpD_region tyOK ?_; ((repeat (rw [wpS_cons]; simp [h1])); (try simp only [wpS_nil, thenD, blockD])); refine hK _ _ _ ?_; clear hK K)
        refine wpD_part rfl (fun _ => ?_) (fun h => by simp at h)
        refine wpD_skip (hK2 _ _ _ ?_)
        clear hK2 K2
        have hw := u8wm m
        have ho := u8or' m
        have hCl : C.length + 1 ≤ LMax := by
          rw [← hC, List.length_append] at hBl
          have := numB_pos m
          omega
        refine wpD_seqk fun K3 hK3 => ?_
        refine wpD_block ?_
        (refine wpD_region tyOK ?_; ((repeat (rw [wpS_cons]; simp [hw, ↓ho, hCl, byD_one])); (try simp only [wpS_nil, thenD, blockD])))
        refine hK3 _ _ _ ?_
        clear hK3 K3
        have hfd : (m : Int).fdiv 128 = ((m / 128 : Nat) : Int) := by rw [Int.fdiv_eq_ediv]; simp
        (refine wpD_region tyOK ?_; ((repeat (rw [wpS_cons]; simp [hfd])); (try simp only [wpS_nil, thenD, blockD])))
        (refine hA2 ([3]) (m / 128) _ _ _ (LeT.refl _) (by decide) (by simp) (by omega) (by simp [movT, movH, movD, D.mov, HO.mov, okM, renM, getW, D.ren, D.rens, D.okN, D.okNs, Cp.ren, Cp.okN, HO.ren, HO.okN, okA, renA, renO, hOf, handed, D.fgt, D.fgts, List.range_succ, List.idxOf_cons, putAll]) ?_; simp [movT, movH, movD, D.mov, HO.mov, okM, renM, getW, D.ren, D.rens, D.okN, D.okNs, Cp.ren, Cp.okN, HO.ren, HO.okN, okA, renA, renO, hOf, handed, D.fgt, D.fgts, List.range_succ, List.idxOf_cons])
        refine ⟨m / 128, by simp, C ++ [((m % 128 + 128 : Nat) : Int)], ?_, rfl, by omega, by simp, ?_⟩
        · rw [← hC, numB_big hm8]; simp
        · rw [← byD_snoc]; simp
  · rintro ys hl' tl' ⟨rfl, rfl⟩ htl
    rw [List.take_length]
    ((try simp only [thenD, blockD]); refine EndQ.nrm rfl (.inl ?_); simp [tmOf, Out.fgt, D.fgt, D.fgts])
end Go.Proofs.YtgloldepdhgfaaaDoor
namespace Go.Proofs.YtgloldepdhgfaaaDoor
set_option linter.unusedSimpArgs false
set_option linter.unusedVariables false
set_option linter.unusedSimpArgs false
set_option linter.unusedVariables false
set_option maxHeartbeats 10000000
set_option maxRecDepth 20000
open Go.RowKit
attribute [local simp] wpAft_ret wpAft_pan wantD evOp opD tmOf putS updS setS hOf isFree isTok fillD TK.isAgg TK.known partD thenD blockD putAll D.ofV inB nilTest isNilS binX binD binE isCst bndD capB IntKind.min IntKind.max IntKind.signed IntKind.bits dstOf late
/-- a reader: the bytes that are left, of so many; how many nodes may come -/
def RO (s : List Int) (all nd : Int) : List HO := [.cells 98 [.slice (byD s) .any, .int .i64 all, kmD, .int .i64 nd]]
/-- what a reader's function tells, and the reader behind it -/
def RdP {α : Type} (enc : α → D) (all : Int) : Option (α × (Int × List Int)) → Out → List HO → Prop
  | some (x, (nd, s)) => fun o hc => o.fgt = .ret (enc x) ∧ hc = RO s all nd
  | none => fun o hc => o = .pan pnoneD ∧ hc = [.dead]
def RdQ {α : Type} (enc : α → D) (all : Int) : Option (α × (Int × List Int)) → Out → List HO → Prop
  | some (x, (nd, s)) => fun o hc => o.fgt = .ret (enc x) ∧ hc = RO s all nd
  | none => fun o hc => o = .pan pnoneD ∧ hc.length = 1
theorem Spec.deadP {P : Program} {G : Nat → Option D} {f : FuncId} {args : List D} {objs : List HO} {Post Post' : Out → List HO → Prop} (h : Spec P G f args objs Post) (hP : ∀ o hc, Post o hc → ∃ hc', (∀ r, hOf hc' r = hOf hc r ∨ hOf hc' r = .dead) ∧ Post' o hc') : Spec P G f args objs Post' := fun ρ w vs hR hv => by
  obtain ⟨h1, h2⟩ := h ρ w vs hR hv
  refine ⟨h1, h2.mono ?_⟩
  rintro e w' ⟨ρ', out, hc, hp, hm, hr, hx⟩
  obtain ⟨hc', hk, hp'⟩ := hP out hc hp
  exact ⟨ρ', out, hc', hp', hm, hr.kill hk, hx.kill hk⟩
theorem Spec.kill {g : FuncId} {args : List D} {objs : List HO} (h : Spec Tryd.prog glob g args objs (fun o hc => o = .pan pnoneD ∧ hc.length = 1)) : Spec Tryd.prog glob g args objs (fun o hc => o = .pan pnoneD ∧ hc = [.dead]) :=
  Spec.deadP (Post := fun o hc => o = .pan pnoneD ∧ hc.length = 1) h fun o hc hp => ⟨[.dead], fun r => by
    match r with
    | 0 => exact .inr rfl
    | r + 1 => exact .inl (by unfold hOf; rw [List.getD_eq_getElem?_getD, List.getD_eq_getElem?_getD, List.getElem?_eq_none (by simp), List.getElem?_eq_none (by have := hp.2; omega)]), hp.1, rfl⟩
theorem RdP.of {α : Type} {enc : α → D} {all : Int} {g : FuncId} {args : List D} {objs : List HO} : ∀ {R : Option (α × (Int × List Int))}, Spec Tryd.prog glob g args objs (RdQ enc all R) → Spec Tryd.prog glob g args objs (RdP enc all R)
  | some _, h => h
  | none, h => Spec.kill h
/-- where nodes don't matter -/
def withN {α : Type} (nd : Int) (r : Option (α × List Int)) : Option (α × (Int × List Int)) := match r with
  | none => none
  | some (x, s) => some (x, (nd, s))
theorem pnoneD_pure : pnoneD.pure = true := by kernel_rfl
@[simp high] theorem pnoneD_pure' : pnoneD.pure = true := pnoneD_pure
@[simp high] theorem pnoneD_okN (p : Nat → Bool) : pnoneD.okN p = true := D.okN_pure p _ pnoneD_pure
@[simp high] theorem pnoneD_ren (σ : Nat → Nat) : D.ren σ pnoneD = pnoneD := D.ren_pure σ _ pnoneD_pure
@[simp high] theorem pnoneD_low (m : Nat) : pnoneD.low m = true := D.low_pure m _ pnoneD_pure
@[simp high] theorem pnoneD_fgt : pnoneD.fgt = pnoneD := rfl
@[simp high] theorem byD_pure (B : List Int) : D.pures (byD B) = true := byD_pures B
theorem byD_cons (c : Int) (r : List Int) : byD (c :: r) = .int .u8 c :: byD r := rfl
theorem rnext_some (c : Int) (r : List Int) (all nd : Int) : Spec Tryd.prog glob 81 [.box 0 0] (RO (c :: r) all nd) (fun o hc => o = .ret (.int .u8 c) ∧ hc = RO r all nd) := by
  have h0 : (0 : Int) < (r.length : Int) + 1 := by omega
  have ht : (byD r).take r.length = byD r := by rw [← byD_len r, List.take_length]
  unfold RO
  rw [byD_cons]
  refine Spec.movd globPure (wpD_spec tyOK Tryd.func81 rfl (enters _ _ Tryd.func81 rfl (by decide)) rfl rfl ?_)
  (refine wpD_seqk fun K hK => ?_; refine wpD_region tyOK ?_; ((repeat (rw [wpS_cons]; simp)); (try simp only [wpS_nil, thenD, blockD])); refine hK _ _ _ ?_; clear hK K)
  (refine wpD_seqk fun K hK => ?_; refine wpD_region tyOK ?_; ((repeat (rw [wpS_cons]; simp [h0])); (try simp only [wpS_nil, thenD, blockD])))
  refine CallX.pure globPure (pmust_ok [true] rfl) ?_ (by simp [D.fgts, D.fgt, Bools]) (by simp [D.pures, D.pure, Cp.free, D.pures_map, Bools]) (by simp [Out.pure, D.pure, D.pures, Cp.free, D.pures_map, Bools])
  ((try simp only [wpAft_ret, wpAft_pan, putS, updS, setS]); (repeat (rw [wpS_cons]; simp)); (try simp only [wpS_nil, thenD, blockD]))
  (refine hK _ _ _ ?_; clear hK K)
  (refine wpD_seqk fun K hK => ?_; refine wpD_region tyOK ?_; ((repeat (rw [wpS_cons]; simp [byD_one])); (try simp only [wpS_nil, thenD, blockD])); refine hK _ _ _ ?_; clear hK K)
  (refine wpD_seqk fun K hK => ?_; refine wpD_region tyOK ?_; ((repeat (rw [wpS_cons]; simp [byD_one, ht])); (try simp only [wpS_nil, thenD, blockD])); refine hK _ _ _ ?_; clear hK K)
  (refine wpD_seqk fun K hK => ?_; refine wpD_region tyOK ?_; ((repeat (rw [wpS_cons]; simp)); (try simp only [wpS_nil, thenD, blockD])); refine hK _ _ _ ?_; clear hK K)
  (refine wpD_ret ?_; (try simp only [thenD, blockD]); refine EndQ.ret rfl (.inr ⟨[], by decide, by simp, ?_⟩); simp [Out.mov, movT, movH, movD, D.mov, HO.mov, okM, renM, getW, D.ren, D.rens, D.okN, D.okNs, Cp.ren, Cp.okN, HO.ren, HO.okN, okA, renA, renO, hOf, handed, D.fgt, D.fgts, List.range_succ, List.idxOf_cons, tmOf, Out.fgt, D.fgt, D.fgts])
theorem rnext_none (all nd : Int) : Spec Tryd.prog glob 81 [.box 0 0] (RO [] all nd) (fun o hc => o = .pan pnoneD ∧ hc = [.dead]) := by
  refine Spec.kill ?_
  unfold RO
  rw [show byD [] = [] from rfl]
  refine Spec.movd globPure (wpD_spec tyOK Tryd.func81 rfl (enters _ _ Tryd.func81 rfl (by decide)) rfl rfl ?_)
  (refine wpD_seqk fun K hK => ?_; refine wpD_region tyOK ?_; ((repeat (rw [wpS_cons]; simp)); (try simp only [wpS_nil, thenD, blockD])); refine hK _ _ _ ?_; clear hK K)
  (refine wpD_seqk fun K hK => ?_; refine wpD_region tyOK ?_; ((repeat (rw [wpS_cons]; simp)); (try simp only [wpS_nil, thenD, blockD])))
  refine CallX.pure globPure (pmust_no [false] rfl) ?_ (by simp [D.fgts, D.fgt, Bools, pnoneD]) (by simp [D.pures, D.pure, Cp.free, D.pures_map, Bools, pnoneD]) (by simp [Out.pure, D.pure, D.pures, Cp.free, D.pures_map, Bools, pnoneD])
  ((try simp only [wpAft_ret, wpAft_pan, putS, updS, setS]); (repeat (rw [wpS_cons]; simp)); (try simp only [wpS_nil, thenD, blockD]))
  ((try simp only [thenD, blockD]); refine EndQ.pan (.inr ⟨[], by decide, by simp, ?_⟩); simp [Out.mov, movT, movH, movD, D.mov, HO.mov, okM, renM, getW, D.ren, D.rens, D.okN, D.okNs, Cp.ren, Cp.okN, HO.ren, HO.okN, okA, renA, renO, hOf, handed, D.fgt, D.fgts, List.range_succ, List.idxOf_cons, tmOf, Out.fgt, D.fgt, D.fgts])
theorem u8and (k : Fin 256) : IntKind.u8.wrap (((BitVec.ofInt 8 ((k : Nat) : Int)) &&& 127#8).toNat : Int) = (((k : Nat) % 128 : Nat) : Int) := by
  revert k; decide +kernel
theorem u8and' {c : Int} (h : 0 ≤ c ∧ c < 256) : IntKind.u8.wrap (((BitVec.ofInt IntKind.u8.bits c) &&& BitVec.ofInt IntKind.u8.bits 127).toNat : Int) = c % 128 := by
  have := u8and ⟨c.toNat, by omega⟩
  simp only [Int.toNat_of_nonneg h.1, Int.natCast_emod] at this
  exact this.trans (by omega)
theorem i64or {i a x : Nat} (hi : i ≤ 3) (ha : a < 128 ^ i) (hx : x < 128) : IntKind.i64.wrap (((BitVec.ofInt IntKind.i64.bits (a : Int)) ||| BitVec.ofInt IntKind.i64.bits ((x * 128 ^ i : Nat) : Int)).toNat : Int) = ((a + x * 128 ^ i : Nat) : Int) := by
  have hp : 128 ^ i ≤ 2097152 := Nat.pow_le_pow_right (n := 128) (by decide) hi
  have hm : x * 128 ^ i ≤ 127 * 128 ^ i := Nat.mul_le_mul_right _ (by omega)
  show IntKind.i64.wrap (((BitVec.ofInt 64 (a : Int)) ||| BitVec.ofInt 64 ((x * 128 ^ i : Nat) : Int)).toNat : Int) = _
  rw [BitVec.toNat_or, BitVec.ofInt_natCast, BitVec.ofInt_natCast, BitVec.toNat_ofNat, BitVec.toNat_ofNat, Nat.mod_eq_of_lt (by omega), Nat.mod_eq_of_lt (by omega)]
  have e : 128 ^ i = 2 ^ (7 * i) := by rw [Nat.pow_mul]
  rw [e] at ha hm hp ⊢
  rw [Nat.mul_comm x] at hm ⊢
  rw [Nat.or_comm, ← Nat.two_pow_add_eq_or_of_lt ha x, Nat.add_comm]
  exact i64w (by omega) (by omega)
end Go.Proofs.YtgloldepdhgfaaaDoor
namespace Go.Proofs.YtgloldepdhgfaaaDoor
set_option linter.unusedSimpArgs false
set_option linter.unusedVariables false
open Go.RowKit
/-- the declarations that bytes are, so many at most -/
def allR : Nat → List Int → Option (List De)
  | 0, s => if s.isEmpty then some [] else none
  | m + 1, s => if s.isEmpty then some [] else match declR' s with
    | none => none
    | some (d, r) => match allR m r with
      | none => none
      | some l => some (d :: l)
theorem declB_pos (d : De) : 0 < (declB d).length := by
  unfold declB
  rw [List.length_append]
  have := numB_pos d.kd.toNat
  omega
theorem declB_ne (d : De) (r : List Int) : (declB d ++ r).isEmpty = false := by
  have := declB_pos d
  cases h : declB d with
  | nil => rw [h] at this; simp at this
  | cons => rfl
theorem allR_put : ∀ (l : List De) (m : Nat), l.length ≤ m → (∀ d, d ∈ l → rightDe d = true) → allR m (l.flatMap declB) = some l
  | [], 0, _, _ => rfl
  | [], _ + 1, _, _ => rfl
  | d :: r, 0, h, _ => by simp at h
  | d :: r, m + 1, h, hr => by
    rw [List.flatMap_cons, allR, declB_ne, declR_put (hr d List.mem_cons_self)]
    simp only [Bool.false_eq_true, if_false]
    rw [allR_put r m (by simpa using h) fun x hx => hr x (List.mem_cons_of_mem _ hx)]
theorem allR_got : ∀ (m : Nat) (s : List Int) (l : List De), bytesOk s → allR m s = some l → l.length ≤ m ∧ (∀ d, d ∈ l → rightDe d = true) ∧ s = l.flatMap declB
  | 0, s, l, hs, h => by
    rw [allR] at h
    cases s with
    | nil => simp at h; subst h; exact ⟨Nat.le_refl _, (fun _ h => nomatch h), rfl⟩
    | cons => simp at h
  | m + 1, s, l, hs, h => by
    rw [allR] at h
    cases s with
    | nil => simp at h; subst h; exact ⟨Nat.zero_le _, (fun _ h => nomatch h), rfl⟩
    | cons c q =>
      simp only [List.isEmpty_cons, Bool.false_eq_true, if_false] at h
      split at h
      · cases h
      · rename_i d r hd
        obtain ⟨h1, h2⟩ := declR_got hs hd
        split at h
        · cases h
        · rename_i l2 hl
          cases h
          rw [h2] at hs
          obtain ⟨a, b, c⟩ := allR_got m r l2 hs.right hl
          refine ⟨by simpa using a, fun x hx => ?_, ?_⟩
          · rcases List.mem_cons.1 hx with rfl | hx
            · exact h1
            · exact b x hx
          · rw [h2, List.flatMap_cons, ← c]
/-- what beginnings of bytes are -/
theorem all_prefix : ∀ (few l : List De) (r : List Int), (∀ d, d ∈ few → rightDe d = true) → (∀ d, d ∈ l → rightDe d = true) → l.flatMap declB = few.flatMap declB ++ r → few = l.take few.length ∧ (r ≠ [] → few.length < l.length)
  | [], l, r, _, _, h => by
    refine ⟨by simp, fun hr => ?_⟩
    cases l with
    | nil => simp at h; exact absurd h.symm (by simpa using hr)
    | cons => simp
  | f :: fs, [], r, _, _, h => by
    have := congrArg List.length h
    have := declB_pos f
    simp [List.flatMap_cons] at *
    omega
  | f :: fs, d :: ds, r, hf, hl, h => by
    rw [List.flatMap_cons, List.flatMap_cons, List.append_assoc] at h
    have h1 := declR_put (hl d List.mem_cons_self) (ds.flatMap declB)
    rw [h, declR_put (hf f List.mem_cons_self)] at h1
    obtain ⟨rfl, h2⟩ := Prod.mk.inj (Option.some.inj h1)
    obtain ⟨a, b⟩ := all_prefix fs ds r (fun x hx => hf x (List.mem_cons_of_mem _ hx)) (fun x hx => hl x (List.mem_cons_of_mem _ hx)) h2.symm
    refine ⟨?_, fun hr => ?_⟩
    · rw [List.length_cons, List.take_succ_cons, ← a]
    · have := b hr
      simp
      exact this
/-! how many bytes -/
theorem numB_le : ∀ (m n : Nat), n < 128 ^ (m + 1) → (numB n).length ≤ m + 1
  | 0, n, h => by rw [numB_small (by simpa using h)]; simp
  | m + 1, n, h => by
    by_cases h1 : n < 128
    · rw [numB_small h1]; simp
    · rw [numB_big h1, List.length_cons]
      have := numB_le m (n / 128) (by rw [Nat.div_lt_iff_lt_mul (by decide)]; rw [Nat.pow_succ] at h; exact h)
      omega
theorem numB_le3 {n : Int} (h : n ≤ 1048576) : (numB n.toNat).length ≤ 3 := numB_le 2 _ (by omega)
theorem len_flat {α : Type} {f : α → List Int} {K : Nat} : ∀ (l : List α), (∀ x, x ∈ l → (f x).length ≤ K) → (l.flatMap f).length ≤ K * l.length
  | [], _ => by simp
  | a :: r, h => by
    rw [List.flatMap_cons, List.length_append, List.length_cons, Nat.mul_succ]
    have := h a List.mem_cons_self
    have := len_flat r fun x hx => h x (List.mem_cons_of_mem _ hx)
    omega
theorem levB_le {l : LV} (h : levOk l) : (levB l).length ≤ 57 := by
  obtain ⟨h1, h2⟩ := h
  unfold levB
  rw [List.length_append]
  have a := numB_le 2 l.length (by omega)
  have b := len_flat (K := 6) l (f := partB) fun p hp => by
    unfold partB
    rw [List.length_append]
    have := numB_le3 (h2 p hp).1.2
    have := numB_le3 (h2 p hp).2.2
    omega
  omega
theorem lens_flat {ks : List T} (h : ∀ t, t ∈ ks → (termB t).length ≤ 582 * t.nsz') : (termsB ks).length ≤ 582 * T.nszs' ks := by
  induction ks with
  | nil => rw [termsB]; simp
  | cons t r ih =>
    rw [termsB, T.nszs', List.length_append]
    have := h t List.mem_cons_self
    have := ih fun x hx => h x (List.mem_cons_of_mem _ hx)
    omega
theorem may_len {c : Bool} {n : Nat} (h : n ≤ 1048576) : (if c then numB n else []).length ≤ 3 := by
  cases c with
  | true => exact numB_le 2 n (by omega)
  | false => simp
theorem termB_le {t : T} (h : PackT t) : (termB t).length ≤ 582 * t.nsz' := by
  induction h with
  | @mk t hp hk ih =>
    obtain ⟨k, n, a, ls, ks⟩ := t
    obtain ⟨h1, h2, hn, ha, -, -, hls, -, hlv, -⟩ := hp
    simp only [T.k_mk, T.n_mk, T.a_mk, T.ls_mk, T.ks_mk] at *
    rw [termB, T.nsz']
    simp only [List.length_append]
    have e1 : (numB k.toNat).length ≤ 3 := numB_le3 (by omega)
    have e2 := may_len (c := hNum k) (n := n.toNat) (by have := hn.2; omega)
    have e3 := may_len (c := hAt k) (n := a.toNat) (by have := ha.2; omega)
    have e4 := may_len (c := hMany k) (n := ls.length) (by omega)
    have e5 := len_flat (K := 57) ls (f := levB) fun l hl => levB_le (hlv l hl)
    have e6 := lens_flat ih
    omega
theorem termB_right {t : T} (h : t.right = true) : (termB t).length ≤ 11640000 := by
  obtain ⟨h1, h2, h3⟩ := right_pack h
  have := termB_le h1
  omega
theorem rowB_right {l : List T} {most : Int} (hm : most ≤ 16) (h : termsOk most l = true) : (rowB l).length ≤ 3 + 11640000 * most.toNat := by
  unfold termsOk at h
  rw [Bool.and_eq_true, decide_eq_true_eq, List.all_eq_true] at h
  unfold rowB
  rw [List.length_append]
  have := numB_le 2 l.length (by omega)
  have := len_flat (K := 11640000) l (f := termB) fun t ht => termB_right (h.2 t ht)
  omega
theorem declB_right {d : De} (h : rightDe d = true) : (declB d).length ≤ 1000000000 := by
  unfold rightDe at h
  rw [Bool.and_eq_true, Bool.and_eq_true, decide_eq_true_eq, decide_eq_true_eq] at h
  obtain ⟨⟨h0, h1⟩, h⟩ := h
  unfold declB
  simp only [List.length_append]
  have e1 : (numB d.lv.toNat).length ≤ 3 := numB_le3 (by omega)
  by_cases k3 : d.kd = 3
  · rw [if_pos k3] at h
    unfold blockOk at h
    simp only [Bool.and_eq_true, decide_eq_true_eq, List.all_eq_true] at h
    obtain ⟨⟨⟨⟨_, hps⟩, ⟨⟨⟨hso, _⟩, hm⟩, hc⟩⟩, hms⟩, hcs⟩ := h
    have e2 : (numB d.kd.toNat).length ≤ 3 := numB_le3 (by omega)
    rw [if_neg (by omega), if_neg (by omega)]
    simp only [List.length_append]
    have a1 := rowB_right (by omega) hps
    have a2 := levB_le (levelRight_ok hso)
    have a3 := numB_le 2 d.ms.length (by omega)
    have a4 := len_flat (K := 69840003) d.ms (f := rowB) fun r hr => by have := rowB_right (by omega) (hms r hr); simpa using this
    have a5 := numB_le 2 d.cs.length (by omega)
    have a6 := len_flat (K := 11640003) d.cs (f := ctorB) fun c hc' => by
      have q := hcs c hc'
      unfold ctorB
      rw [List.length_append]
      have := numB_le3 (n := c.1) (by omega)
      have := termB_right q.2
      omega
    have : (6 : Int).toNat = 6 := rfl
    omega
  · rw [if_neg k3] at h
    simp only [Bool.and_eq_true, Bool.or_eq_true, decide_eq_true_eq] at h
    obtain ⟨⟨⟨_, hk⟩, ht⟩, hb⟩ := h
    have e2 : (numB d.kd.toNat).length ≤ 3 := numB_le3 (by omega)
    have := termB_right ht
    by_cases k1 : d.kd = 1
    · rw [if_pos k1]; omega
    · rw [if_neg k1, if_pos (by omega), List.length_append]
      rw [if_neg k1] at hb
      have := termB_right hb
      omega
theorem allB_right {l : List De} (h : ∀ d, d ∈ l → rightDe d = true) : (l.flatMap declB).length ≤ 1000000000 * l.length := len_flat l fun d hd => declB_right (h d hd)
end Go.Proofs.YtgloldepdhgfaaaDoor
namespace Go.Proofs.YtgloldepdhgfaaaDoor
set_option linter.unusedSimpArgs false
set_option linter.unusedVariables false
open Go.RowKit
/-- nodes and bytes that are left -/
abbrev NS := Int × List Int
def dropN {α : Type} (r : Option (α × NS)) : Option (α × List Int) := match r with
  | none => none
  | some (x, (_, s)) => some (x, s)
def termN (s : List Int) : Option (T × NS) := match nodeR 400 (20000, s) with
  | none => none
  | some (t, st) => if t.right = true then some (t, st) else none
def rowN (most : Int) (st : NS) : Option (List T × NS) := match numR most st.2 with
  | none => none
  | some (m, s) => timesR (fun st => termN st.2) m.toNat (st.1, s)
def ctorN (st : NS) : Option ((Int × T) × NS) := match numR 8 st.2 with
  | none => none
  | some (m, s) => match termN s with
    | none => none
    | some (t, st) => some ((m, t), st)
def blockN (kd lv : Int) (st : NS) : Option (De × NS) := match rowN 6 st with
  | none => none
  | some (ps, st) => match levelR st.2 with
    | none => none
    | some (so, s) => match numR 8 s with
      | none => none
      | some (m, s) => match timesR (rowN 6) m.toNat (st.1, s) with
        | none => none
        | some (ms, st) => match numR 16 st.2 with
          | none => none
          | some (q, s) => match timesR ctorN q.toNat (st.1, s) with
            | none => none
            | some (cs, st) => some (⟨kd, lv, zeroTm, zeroTm, ps, so, ms, cs⟩, st)
def bodyN (kd lv : Int) (st : NS) : Option (De × NS) :=
  if kd = 1 then (match termN st.2 with | none => none | some (t, st) => some (⟨kd, lv, t, zeroTm, [], [], [], []⟩, st))
  else if kd = 2 then (match termN st.2 with | none => none | some (t, st) => match termN st.2 with | none => none | some (u, st) => some (⟨kd, lv, t, u, [], [], [], []⟩, st))
  else if kd = 3 then blockN kd lv st else some (⟨kd, lv, zeroTm, zeroTm, [], [], [], []⟩, st)
def declN (st : NS) : Option (De × NS) := match numR 3 st.2 with
  | none => none
  | some (kd, s) => match numR 8 s with
    | none => none
    | some (lv, s) => match bodyN kd lv (st.1, s) with
      | none => none
      | some (d, st) => if rightDe d = true then some (d, st) else none
theorem timesR_drop {α : Type} {f : NS → Option (α × NS)} {g : List Int → Option (α × List Int)} (h : ∀ st, dropN (f st) = g st.2) : ∀ (n : Nat) (st : NS), dropN (timesR f n st) = timesR g n st.2
  | 0, st => rfl
  | n + 1, st => by
    rw [timesR, timesR, ← h st]
    cases hf : f st with
    | none => rfl
    | some p =>
      obtain ⟨x, st2⟩ := p
      obtain ⟨nd2, s2⟩ := st2
      simp only [dropN]
      rw [← timesR_drop h n (nd2, s2)]
      cases ht : timesR f n (nd2, s2) with
      | none => rfl
      | some q => rfl
theorem termN_drop (s : List Int) : dropN (termN s) = termR s := by
  unfold termN termR
  cases h : nodeR 400 (20000, s) with
  | none => rfl
  | some p =>
    obtain ⟨t, nd, r⟩ := p
    dsimp only
    split <;> rfl
theorem rowN_drop (most : Int) (st : NS) : dropN (rowN most st) = rowR' most st.2 := by
  unfold rowN rowR'
  cases numR most st.2 with
  | none => rfl
  | some p => exact timesR_drop (fun st => termN_drop st.2) _ _
theorem ctorN_drop (st : NS) : dropN (ctorN st) = ctorR st.2 := by
  unfold ctorN ctorR
  cases numR 8 st.2 with
  | none => rfl
  | some p =>
    dsimp only
    rw [← termN_drop]
    cases termN p.2 with
    | none => rfl
    | some q => rfl
theorem blockN_drop (kd lv : Int) (st : NS) : dropN (blockN kd lv st) = blockR kd lv st.2 := by
  unfold blockN blockR
  rw [← rowN_drop]
  cases rowN 6 st with
  | none => rfl
  | some p =>
    obtain ⟨ps, st⟩ := p
    simp only [dropN]
    cases levelR st.2 with
    | none => rfl
    | some p =>
      obtain ⟨so, s⟩ := p
      dsimp only
      cases numR 8 s with
      | none => rfl
      | some p =>
        obtain ⟨m, s⟩ := p
        dsimp only
        rw [← timesR_drop (rowN_drop 6) m.toNat (st.1, s)]
        cases timesR (rowN 6) m.toNat (st.1, s) with
        | none => rfl
        | some p =>
          obtain ⟨ms, st⟩ := p
          simp only [dropN]
          cases numR 16 st.2 with
          | none => rfl
          | some p =>
            obtain ⟨q, s⟩ := p
            dsimp only
            rw [← timesR_drop ctorN_drop q.toNat (st.1, s)]
            cases timesR ctorN q.toNat (st.1, s) with
            | none => rfl
            | some p => rfl
theorem bodyN_drop (kd lv : Int) (st : NS) : dropN (bodyN kd lv st) = bodyDe kd lv st.2 := by
  unfold bodyN bodyDe
  split
  · rw [← termN_drop]
    cases termN st.2 with
    | none => rfl
    | some p => rfl
  split
  · rw [← termN_drop]
    cases termN st.2 with
    | none => rfl
    | some p =>
      simp only [dropN]
      rw [← termN_drop]
      cases termN p.2.2 with
      | none => rfl
      | some q => rfl
  split
  · exact blockN_drop kd lv st
  · rfl
theorem declN_drop (st : NS) : dropN (declN st) = declR' st.2 := by
  unfold declN declR'
  cases numR 3 st.2 with
  | none => rfl
  | some p =>
    obtain ⟨kd, s⟩ := p
    dsimp only
    cases numR 8 s with
    | none => rfl
    | some p =>
      obtain ⟨lv, s⟩ := p
      dsimp only
      rw [← bodyN_drop kd lv (st.1, s)]
      cases bodyN kd lv (st.1, s) with
      | none => rfl
      | some p =>
        obtain ⟨d, nd, r⟩ := p
        by_cases h : rightDe d = true <;> simp [dropN, h]
/-- what is left are the last bytes -/
theorem bytes_left {s b r : List Int} (hs : bytesOk s) (h : s = b ++ r) : bytesOk r := by rw [h] at hs; exact hs.right
theorem levelR_ok {l : LV} {s r : List Int} (hs : bytesOk s) (h : levelR s = some (l, r)) : bytesOk r := bytes_left hs (levelR_got s l r hs h).2
theorem nodeR_ok {d : Nat} {nd nd' : Int} {t : T} {s r : List Int} (hs : bytesOk s) (h : nodeR d (nd, s) = some (t, (nd', r))) : bytesOk r := bytes_left hs (nodeR_got d nd s t nd' r hs h)
theorem drop_some {α : Type} {o : Option (α × NS)} {x : α} {nd : Int} {s : List Int} (h : o = some (x, (nd, s))) : dropN o = some (x, s) := by rw [h]; rfl
theorem termN_got {s r : List Int} {t : T} {nd : Int} (hs : bytesOk s) (h : termN s = some (t, (nd, r))) : t.right = true ∧ bytesOk r := by
  have h2 := drop_some h
  rw [termN_drop] at h2
  obtain ⟨a, b⟩ := termR_got s t r hs h2
  exact ⟨a, bytes_left hs b⟩
theorem rowN_got {most nd nd' : Int} {s r : List Int} {l : List T} (hs : bytesOk s) (h : rowN most (nd, s) = some (l, (nd', r))) : termsOk most l = true ∧ bytesOk r := by
  have h2 := drop_some h
  rw [rowN_drop] at h2
  obtain ⟨a, b⟩ := rowR_got s l r hs h2
  exact ⟨a, bytes_left hs b⟩
theorem declN_got {nd nd' : Int} {s r : List Int} {d : De} (hs : bytesOk s) (h : declN (nd, s) = some (d, (nd', r))) : rightDe d = true ∧ s = declB d ++ r := by
  have h2 := drop_some h
  rw [declN_drop] at h2
  exact declR_got hs h2
end Go.Proofs.YtgloldepdhgfaaaDoor
namespace Go.Proofs.YtgloldepdhgfaaaDoor
set_option linter.unusedSimpArgs false
set_option linter.unusedVariables false
set_option linter.unusedSimpArgs false
set_option linter.unusedVariables false
set_option maxHeartbeats 10000000
set_option maxRecDepth 20000
open Go.RowKit
attribute [local simp] wpAft_ret wpAft_pan wantD evOp opD tmOf putS updS setS hOf isFree isTok fillD TK.isAgg TK.known partD thenD blockD putAll D.ofV inB nilTest isNilS binX binD binE isCst bndD capB IntKind.min IntKind.max IntKind.signed IntKind.bits dstOf late
def intD (n : Int) : D := .int .i64 n
theorem numG_u (m i : Nat) (acc most c : Int) (r : List Int) : numG (m + 1) i acc most (c :: r) = if acc + (c % 128) * 128 ^ i ≤ most then (if c < 128 then (if 0 < c ∨ i = 0 then some (acc + (c % 128) * 128 ^ i, r) else none) else numG m (i + 1) (acc + (c % 128) * 128 ^ i) most r) else none := rfl
theorem rnumber_spec (most : Int) (s : List Int) (hs : bytesOk s) (all nd : Int) : Spec Tryd.prog glob 65 [.box 0 0, .int .i64 most] (RO s all nd) (RdP intD all (withN nd (numR most s))) := by
  refine RdP.of ?_
  obtain ⟨R, hR⟩ : ∃ R, R = numR most s := ⟨_, rfl⟩
  rw [← hR]
  unfold RO
  refine Spec.movd globPure (wpD_spec tyOK Tryd.func65 rfl (enters _ _ Tryd.func65 rfl (by decide)) rfl rfl ?_)
  (refine wpD_seqk fun K hK => ?_; refine wpD_region tyOK ?_; ((repeat (rw [wpS_cons]; simp)); (try simp only [wpS_nil, thenD, blockD])); refine hK _ _ _ ?_; clear hK K)
  (refine wpD_seqk fun K hK => ?_; refine wpD_region tyOK ?_; ((repeat (rw [wpS_cons]; simp)); (try simp only [wpS_nil, thenD, blockD])); refine hK _ _ _ ?_; clear hK K)
  refine wpD_block ?_
  refine wpD_loopWJ [6, 7, 8, 9, 10, 11, 12, 13, 14, 15, 16, 17, 18, 19, 20, 21, 22, 23, 24, 25, 26, 27, 28, 29, 30, 31, 32, 33, 34, 35, 36, 37, 38, 39] [4, 5] (fun n ys hl => ∃ (i a : Nat) (s' : List Int), ys = [.int .i64 a, .int .i64 ((7 * i : Nat) : Int)] ∧ n + i = 4 ∧ a < 128 ^ i ∧ bytesOk s' ∧ R = numG n i a most s' ∧ hl = [.cells 98 [.slice (byD s') .any, .int .i64 all, kmD, .int .i64 nd]]) (4) (by kernel_rfl) ?_ ?_
  · exact ⟨0, 0, s, rfl, rfl, by simp, hs, hR, rfl⟩
  · rintro n ys hl A hA ⟨i, a, s', rfl, hn, ha, hs', hF, rfl⟩
    simp only [putAll, List.set, List.map_cons, List.map_nil, List.cons_append, List.nil_append]
    refine wpD_seqk fun K1 hK1 => ?_
    refine wpD_block ?_
    cases n with
    | zero =>
      have h4 : i = 4 := by omega
      subst h4
      have hq : R = none := hF
      subst hq
      (refine wpD_seqk fun K hK => ?_; refine wpD_region tyOK ?_; ((repeat (rw [wpS_cons]; simp)); (try simp only [wpS_nil, thenD, blockD])))
      refine CallX.pure globPure (pmust_no [false] rfl) ?_ (by simp [D.fgts, D.fgt, Bools, pnoneD]) (by simp [D.pures, D.pure, Cp.free, D.pures_map, Bools, pnoneD]) (by simp [Out.pure, D.pure, D.pures, Cp.free, D.pures_map, Bools, pnoneD])
      ((try simp only [wpAft_ret, wpAft_pan, putS, updS, setS]); (repeat (rw [wpS_cons]; simp)); (try simp only [wpS_nil, thenD, blockD]))
      ((try simp only [thenD, blockD]); refine EndQ.pan (.inr ⟨[], by decide, by simp, ?_⟩); simp [Out.mov, movT, movH, movD, D.mov, HO.mov, okM, renM, getW, D.ren, D.rens, D.okN, D.okNs, Cp.ren, Cp.okN, HO.ren, HO.okN, okA, renA, renO, hOf, handed, D.fgt, D.fgts, List.range_succ, List.idxOf_cons, tmOf, Out.fgt, D.fgt, D.fgts])
      exact ⟨rfl, rfl⟩
    | succ n =>
      have hi : i ≤ 3 := by omega
      have hi' : ((7 * i : Nat) : Int) ≤ 21 := by omega
      have hi2 : 7 * (i : Int) ≤ 21 := by omega
      have hi3 : i ≤ 3 := hi
      (refine wpD_seqk fun K hK => ?_; refine wpD_region tyOK ?_; ((repeat (rw [wpS_cons]; simp [hi', hi2, hi3])); (try simp only [wpS_nil, thenD, blockD])))
      refine CallX.pure globPure (pmust_ok [true] rfl) ?_ (by simp [D.fgts, D.fgt, Bools]) (by simp [D.pures, D.pure, Cp.free, D.pures_map, Bools]) (by simp [Out.pure, D.pure, D.pures, Cp.free, D.pures_map, Bools])
      ((try simp only [wpAft_ret, wpAft_pan, putS, updS, setS]); (repeat (rw [wpS_cons]; simp)); (try simp only [wpS_nil, thenD, blockD]))
      (refine hK _ _ _ ?_; clear hK K)
      cases s' with
      | nil =>
        have hq : R = none := hF
        subst hq
        have c1 := rnext_none all nd
        unfold RO at c1
        (refine wpD_seqk fun K hK => ?_; refine wpD_region tyOK ?_; ((repeat (rw [wpS_cons]; simp)); (try simp only [wpS_nil, thenD, blockD])))
        refine cXo [0] true (c1) ?_
        (rintro o hc ⟨rfl, rfl⟩; refine ⟨false, ?_⟩; simp [D.ren, D.rens, D.okN, D.okNs, Cp.ren, Cp.okN, HO.ren, HO.okN, okA, renA, renO, hOf, handed, D.fgt, D.fgts, List.range_succ, List.idxOf_cons, Out.ren, told, Out.fgt, upO, updS, setS])
        ((try simp only [thenD, blockD]); refine EndQ.pan (.inr ⟨[], by decide, by simp, ?_⟩); simp [Out.mov, movT, movH, movD, D.mov, HO.mov, okM, renM, getW, D.ren, D.rens, D.okN, D.okNs, Cp.ren, Cp.okN, HO.ren, HO.okN, okA, renA, renO, hOf, handed, D.fgt, D.fgts, List.range_succ, List.idxOf_cons, tmOf, Out.fgt, D.fgt, D.fgts])
        exact ⟨rfl, rfl⟩
      | cons c r =>
        have hc : 0 ≤ c ∧ c < 256 := hs' c List.mem_cons_self
        have hr : bytesOk r := fun x hx => hs' x (List.mem_cons_of_mem _ hx)
        have c1 := rnext_some c r all nd
        unfold RO at c1
        rw [numG_u] at hF
        (refine wpD_seqk fun K hK => ?_; refine wpD_region tyOK ?_; ((repeat (rw [wpS_cons]; simp)); (try simp only [wpS_nil, thenD, blockD])))
        refine cXo [0] true (c1) ?_
        (rintro o hc ⟨rfl, rfl⟩; refine ⟨false, ?_⟩; simp [D.ren, D.rens, D.okN, D.okNs, Cp.ren, Cp.okN, HO.ren, HO.okN, okA, renA, renO, hOf, handed, D.fgt, D.fgts, List.range_succ, List.idxOf_cons, Out.ren, told, Out.fgt, upO, updS, setS])
        (refine hK _ _ _ ?_; clear hK K)
        have q1 := u8and' hc
        have q2 : IntKind.i64.wrap (c % 128) = c % 128 := i64w (by omega) (by omega)
        obtain ⟨x, hx⟩ : ∃ x : Nat, c % 128 = (x : Int) := ⟨(c % 128).toNat, by omega⟩
        have hx2 : x < 128 := by omega
        have hp : 128 ^ i ≤ 2097152 := Nat.pow_le_pow_right (n := 128) (by decide) hi
        have hp0 : 0 < 128 ^ i := Nat.pow_pos (by decide)
        have hm : x * 128 ^ i ≤ 127 * 128 ^ i := Nat.mul_le_mul_right _ (by omega)
        have e7 : (2 : Int) ^ (7 * i) = ((128 ^ i : Nat) : Int) := by rw [Int.natCast_pow]; rw [Int.pow_mul]; rfl
        have q3 : IntKind.i64.wrap ((x : Int) * ((128 ^ i : Nat) : Int)) = ((x * 128 ^ i : Nat) : Int) := by rw [← Int.natCast_mul]; exact i64w (by omega) (by omega)
        have q4 := i64or hi ha hx2
        have q5 : min (7 * i) 64 = 7 * i := by omega
        rw [hx] at q1 q2 hF
        obtain ⟨v, hv⟩ : ∃ v : Nat, v = a + x * 128 ^ i := ⟨_, rfl⟩
        have e8 : (a : Int) + (x : Int) * 128 ^ i = (v : Int) := by rw [hv]; simp
        have q6 : ((a + x * 128 ^ i : Nat) : Int) = v := by rw [hv]
        rw [e8] at hF
        rw [q6] at q4
        have hvl : v < 128 ^ (i + 1) := by rw [hv, Nat.pow_succ]; omega
        clear q6
        obtain ⟨Y, hY⟩ : ∃ Y : Int, Y = ((x * 128 ^ i : Nat) : Int) := ⟨_, rfl⟩
        obtain ⟨a1, ha1⟩ : ∃ a1 : Int, a1 = (a : Int) := ⟨_, rfl⟩
        have qS : IntKind.i64.wrap ((x : Int) * 2 ^ min (7 * (i : Int)).toNat 64) = Y := by
          have h5 : min (7 * (i : Int)).toNat 64 = 7 * i := by omega
          rw [h5, e7, q3, hY]
        rw [← hY, ← ha1] at q4
        rw [← ha1]
        clear q3 q5 e7
        have hnn : (0 : Int) ≤ 7 * (i : Int) := by omega
        (refine wpD_seqk fun K hK => ?_; refine wpD_region tyOK ?_; ((repeat (rw [wpS_cons]; simp [↓q1, q2, qS, ↓q4, hnn])); (try simp only [wpS_nil, thenD, blockD])); refine hK _ _ _ ?_; clear hK K)
        by_cases hvm : (v : Int) ≤ most
        · rw [if_pos hvm] at hF
          (refine wpD_seqk fun K hK => ?_; refine wpD_region tyOK ?_; ((repeat (rw [wpS_cons]; simp [hvm])); (try simp only [wpS_nil, thenD, blockD])))
          refine CallX.pure globPure (pmust_ok [true] rfl) ?_ (by simp [D.fgts, D.fgt, Bools]) (by simp [D.pures, D.pure, Cp.free, D.pures_map, Bools]) (by simp [Out.pure, D.pure, D.pures, Cp.free, D.pures_map, Bools])
          ((try simp only [wpAft_ret, wpAft_pan, putS, updS, setS]); (repeat (rw [wpS_cons]; simp)); (try simp only [wpS_nil, thenD, blockD]))
          (refine hK _ _ _ ?_; clear hK K)
          by_cases h128 : c < 128
          · rw [if_pos h128] at hF
            (refine wpD_seqk fun K hK => ?_; refine wpD_region tyOK ?_; ((repeat (rw [wpS_cons]; simp [h128])); (try simp only [wpS_nil, thenD, blockD])); refine hK _ _ _ ?_; clear hK K)
            refine wpD_part rfl (fun _ => ?_) (fun h => by simp at h)
            by_cases h0 : 0 < c
            · rw [if_pos (.inl h0)] at hF
              (refine wpD_seqk fun K hK => ?_; refine wpD_region tyOK ?_; ((repeat (rw [wpS_cons]; simp [h0])); (try simp only [wpS_nil, thenD, blockD])))
              refine CallX.pure globPure (pmust_ok [true] rfl) ?_ (by simp [D.fgts, D.fgt, Bools]) (by simp [D.pures, D.pure, Cp.free, D.pures_map, Bools]) (by simp [Out.pure, D.pure, D.pures, Cp.free, D.pures_map, Bools])
              ((try simp only [wpAft_ret, wpAft_pan, putS, updS, setS]); (repeat (rw [wpS_cons]; simp)); (try simp only [wpS_nil, thenD, blockD]))
              (refine hK _ _ _ ?_; clear hK K)
              (refine wpD_seqk fun K hK => ?_; refine wpD_region tyOK ?_; ((repeat (rw [wpS_cons]; simp)); (try simp only [wpS_nil, thenD, blockD])); refine hK _ _ _ ?_; clear hK K)
              (refine wpD_ret ?_; (try simp only [thenD, blockD]); refine EndQ.ret rfl (.inr ⟨[], by decide, by simp, ?_⟩); simp [Out.mov, movT, movH, movD, D.mov, HO.mov, okM, renM, getW, D.ren, D.rens, D.okN, D.okNs, Cp.ren, Cp.okN, HO.ren, HO.okN, okA, renA, renO, hOf, handed, D.fgt, D.fgts, List.range_succ, List.idxOf_cons, tmOf, Out.fgt, D.fgt, D.fgts])
              subst hF
              exact ⟨rfl, rfl⟩
            · by_cases hi0 : i = 0
              · rw [if_pos (.inr hi0)] at hF
                have hz : ((7 * i : Nat) : Int) = 0 := by omega
                have hz2 : 7 * (i : Int) = 0 := by omega
                (refine wpD_seqk fun K hK => ?_; refine wpD_region tyOK ?_; ((repeat (rw [wpS_cons]; simp [h0, hz, hz2, hi0])); (try simp only [wpS_nil, thenD, blockD])))
                refine CallX.pure globPure (pmust_ok [true] rfl) ?_ (by simp [D.fgts, D.fgt, Bools]) (by simp [D.pures, D.pure, Cp.free, D.pures_map, Bools]) (by simp [Out.pure, D.pure, D.pures, Cp.free, D.pures_map, Bools])
                ((try simp only [wpAft_ret, wpAft_pan, putS, updS, setS]); (repeat (rw [wpS_cons]; simp)); (try simp only [wpS_nil, thenD, blockD]))
                (refine hK _ _ _ ?_; clear hK K)
                (refine wpD_seqk fun K hK => ?_; refine wpD_region tyOK ?_; ((repeat (rw [wpS_cons]; simp)); (try simp only [wpS_nil, thenD, blockD])); refine hK _ _ _ ?_; clear hK K)
                (refine wpD_ret ?_; (try simp only [thenD, blockD]); refine EndQ.ret rfl (.inr ⟨[], by decide, by simp, ?_⟩); simp [Out.mov, movT, movH, movD, D.mov, HO.mov, okM, renM, getW, D.ren, D.rens, D.okN, D.okNs, Cp.ren, Cp.okN, HO.ren, HO.okN, okA, renA, renO, hOf, handed, D.fgt, D.fgts, List.range_succ, List.idxOf_cons, tmOf, Out.fgt, D.fgt, D.fgts])
                subst hF
                exact ⟨rfl, rfl⟩
              · rw [if_neg (by omega)] at hF
                have hz : ¬ ((7 * i : Nat) : Int) = 0 := by omega
                have hz2 : ¬ 7 * (i : Int) = 0 := by omega
                subst hF
                (refine wpD_seqk fun K hK => ?_; refine wpD_region tyOK ?_; ((repeat (rw [wpS_cons]; simp [h0, hz, hz2, hi0])); (try simp only [wpS_nil, thenD, blockD])))
                refine CallX.pure globPure (pmust_no [false] rfl) ?_ (by simp [D.fgts, D.fgt, Bools, pnoneD]) (by simp [D.pures, D.pure, Cp.free, D.pures_map, Bools, pnoneD]) (by simp [Out.pure, D.pure, D.pures, Cp.free, D.pures_map, Bools, pnoneD])
                ((try simp only [wpAft_ret, wpAft_pan, putS, updS, setS]); (repeat (rw [wpS_cons]; simp)); (try simp only [wpS_nil, thenD, blockD]))
                ((try simp only [thenD, blockD]); refine EndQ.pan (.inr ⟨[], by decide, by simp, ?_⟩); simp [Out.mov, movT, movH, movD, D.mov, HO.mov, okM, renM, getW, D.ren, D.rens, D.okN, D.okNs, Cp.ren, Cp.okN, HO.ren, HO.okN, okA, renA, renO, hOf, handed, D.fgt, D.fgts, List.range_succ, List.idxOf_cons, tmOf, Out.fgt, D.fgt, D.fgts])
                exact ⟨rfl, rfl⟩
          · rw [if_neg h128] at hF
            (refine wpD_seqk fun K hK => ?_; refine wpD_region tyOK ?_; ((repeat (rw [wpS_cons]; simp [h128])); (try simp only [wpS_nil, thenD, blockD])); refine hK _ _ _ ?_; clear hK K)
            refine wpD_part rfl (fun h => by simp at h) (fun _ => ?_)
            refine wpD_skip (hK1 _ _ _ ?_)
            clear hK1 K1
            have hw1 : IntKind.i64.wrap (((7 * i : Nat) : Int) + 7) = ((7 * (i + 1) : Nat) : Int) := (i64w (by omega) (by omega)).trans (by omega)
            have hw2 : IntKind.i64.wrap (7 * (i : Int) + 7) = ((7 * (i + 1) : Nat) : Int) := (i64w (by omega) (by omega)).trans (by omega)
            (refine wpD_region tyOK ?_; ((repeat (rw [wpS_cons]; simp [hw1, hw2])); (try simp only [wpS_nil, thenD, blockD])))
            refine hA (n) _ _ _ (LeT.refl _) (by omega) (by kernel_rfl) ?_
            exact ⟨i + 1, v, r, rfl, by omega, hvl, hr, hF, rfl⟩
        · rw [if_neg hvm] at hF
          subst hF
          (refine wpD_seqk fun K hK => ?_; refine wpD_region tyOK ?_; ((repeat (rw [wpS_cons]; simp [hvm])); (try simp only [wpS_nil, thenD, blockD])))
          refine CallX.pure globPure (pmust_no [false] rfl) ?_ (by simp [D.fgts, D.fgt, Bools, pnoneD]) (by simp [D.pures, D.pure, Cp.free, D.pures_map, Bools, pnoneD]) (by simp [Out.pure, D.pure, D.pures, Cp.free, D.pures_map, Bools, pnoneD])
          ((try simp only [wpAft_ret, wpAft_pan, putS, updS, setS]); (repeat (rw [wpS_cons]; simp)); (try simp only [wpS_nil, thenD, blockD]))
          ((try simp only [thenD, blockD]); refine EndQ.pan (.inr ⟨[], by decide, by simp, ?_⟩); simp [Out.mov, movT, movH, movD, D.mov, HO.mov, okM, renM, getW, D.ren, D.rens, D.okN, D.okNs, Cp.ren, Cp.okN, HO.ren, HO.okN, okA, renA, renO, hOf, handed, D.fgt, D.fgts, List.range_succ, List.idxOf_cons, tmOf, Out.fgt, D.fgt, D.fgts])
          exact ⟨rfl, rfl⟩
def appR {α σ : Type} (acc : List α) (r : Option (List α × σ)) : Option (List α × σ) := match r with
  | none => none
  | some (l, s) => some (acc ++ l, s)
theorem appR_nil {α σ : Type} (r : Option (List α × σ)) : appR [] r = r := by cases r <;> rfl
theorem appR_end {α σ : Type} (f : σ → Option (α × σ)) (acc : List α) (s : σ) : appR acc (timesR f 0 s) = some (acc, s) := by rw [timesR]; simp [appR]
theorem appR_none {α σ : Type} {f : σ → Option (α × σ)} {acc : List α} {s : σ} {n : Nat} (h : f s = none) : appR acc (timesR f (n + 1) s) = none := by rw [timesR, h]; rfl
theorem appR_some {α σ : Type} {f : σ → Option (α × σ)} {acc : List α} {s s1 : σ} {x : α} {n : Nat} (h : f s = some (x, s1)) : appR acc (timesR f (n + 1) s) = appR (acc ++ [x]) (timesR f n s1) := by
  rw [timesR, h]
  dsimp only
  cases timesR f n s1 with
  | none => rfl
  | some p => simp [appR]
theorem numR_lo {most v : Int} {s r : List Int} (hs : bytesOk s) (h : numR most s = some (v, r)) : 0 ≤ v ∧ v ≤ most ∧ bytesOk r := by
  obtain ⟨a, b, c⟩ := numR_got hs h
  exact ⟨a, b, by rw [c] at hs; exact hs.right⟩
theorem rlevel_spec (s : List Int) (hs : bytesOk s) (all nd : Int) : Spec Tryd.prog glob 83 [.box 0 0] (RO s all nd) (RdP encL all (withN nd (levelR s))) := by
  refine RdP.of ?_
  obtain ⟨R, hR⟩ : ∃ R, R = levelR s := ⟨_, rfl⟩
  rw [← hR]
  unfold levelR at hR
  have c0 := rnumber_spec 9 s hs all nd
  unfold RO
  unfold RO at c0
  refine Spec.movd globPure (wpD_spec tyOK Tryd.func83 rfl (enters _ _ Tryd.func83 rfl (by decide)) rfl rfl ?_)
  (refine wpD_seqk fun K hK => ?_; refine wpD_region tyOK ?_; ((repeat (rw [wpS_cons]; simp)); (try simp only [wpS_nil, thenD, blockD])); refine hK _ _ _ ?_; clear hK K)
  refine wpD_tokO 1 0 (ty := 30) (ds := [.slice [] .full]) rfl ?_
  simp [D.tokd]
  refine wpD_seqk fun K1 hK1 => ?_
  cases hn0 : numR 9 s with
  | none =>
    rw [hn0] at c0 hR
    replace hR : R = none := hR
    subst hR
    unfold withN RdP at c0
    (refine wpD_seqk fun K hK => ?_; refine wpD_region tyOK ?_; ((repeat (rw [wpS_cons]; simp)); (try simp only [wpS_nil, thenD, blockD])))
    refine cXo [0] true (c0) ?_
    (rintro o hc ⟨rfl, rfl⟩; refine ⟨false, ?_⟩; simp [D.ren, D.rens, D.okN, D.okNs, Cp.ren, Cp.okN, HO.ren, HO.okN, okA, renA, renO, hOf, handed, D.fgt, D.fgts, List.range_succ, List.idxOf_cons, Out.ren, told, Out.fgt, upO, updS, setS])
    ((try simp only [thenD, blockD]); refine EndQ.pan (.inr ⟨[], by decide, by simp, ?_⟩); simp [Out.mov, movT, movH, movD, D.mov, HO.mov, okM, renM, getW, D.ren, D.rens, D.okN, D.okNs, Cp.ren, Cp.okN, HO.ren, HO.okN, okA, renA, renO, hOf, handed, D.fgt, D.fgts, List.range_succ, List.idxOf_cons, tmOf, Out.fgt, D.fgt, D.fgts])
    exact ⟨rfl, rfl⟩
  | some p =>
    obtain ⟨v, s1⟩ := p
    obtain ⟨hv0, hv1, hs1⟩ := numR_lo hs hn0
    rw [hn0] at c0 hR
    obtain ⟨m, rfl⟩ : ∃ m : Nat, v = m := ⟨v.toNat, by omega⟩
    replace hR : R = timesR partR m s1 := hR
    unfold withN RdP intD at c0
    dsimp only at c0
    rw [RO] at c0
    (refine wpD_seqk fun K hK => ?_; refine wpD_region tyOK ?_; ((repeat (rw [wpS_cons]; simp)); (try simp only [wpS_nil, thenD, blockD])))
    refine cXo [0] true (c0) ?_
    (rintro o hc ⟨ho, rfl⟩; refine ⟨true, ?_⟩; rw [show told true o = _ from ho]; clear ho; simp [D.ren, D.rens, D.okN, D.okNs, Cp.ren, Cp.okN, HO.ren, HO.okN, okA, renA, renO, hOf, handed, D.fgt, D.fgts, List.range_succ, List.idxOf_cons, Out.ren, told, Out.fgt, upO, updS, setS])
    (refine hK _ _ _ ?_; clear hK K)
    have hb0 : IntKind.i64.wrap (m : Int) = m := i64w (by omega) (by omega)
    clear c0
    refine wpD_rangeJ tyOK globPure (ti := 3) (tk := 6) (tn := 5) (td := 7) (ts := 20) [3, 6, 7, 8, 9, 10, 11, 12, 13, 14, 15, 16, 17, 18, 19, 20] [] (m) (fun k ys hl => ∃ (acc : LV) (s' : List Int), ys = [] ∧ acc.length = k ∧ bytesOk s' ∧ R = appR acc (timesR partR (m - k) s') ∧ hl = [.cells 98 [.slice (byD s') .any, .int .i64 all, kmD, .int .i64 nd], .cells 30 [.slice (acc.map encP) (.tok 2)], .tok]) rfl rfl rfl rfl rfl rfl rfl rfl rfl rfl rfl rfl (by simp) (by decide) rfl (by first | assumption | omega | (unfold LMax; omega)) rfl (by kernel_rfl) (by decide) ?_ ?_ ?_
    · exact ⟨[], s1, rfl, rfl, hs1, by rw [appR_nil]; exact hR, rfl⟩
    · rintro i ys hl A hi ⟨acc, s', rfl, hal, hs', hF, rfl⟩ hA hA2
      simp only [putAll, List.set, List.map_cons, List.map_nil, List.cons_append, List.nil_append]
      rw [show m - i = (m - (i + 1)) + 1 by omega] at hF
      have hi' : (i : Int) < m := by omega
      have hel : acc.length + 1 ≤ LMax := by unfold LMax; omega
      have c1 := rnumber_spec 1048576 s' hs' all nd
      unfold RO at c1
      cases hn1 : numR 1048576 s' with
      | none =>
        rw [appR_none (by unfold partR; rw [hn1])] at hF
        subst hF
        rw [hn1] at c1
        unfold withN RdP at c1
        (refine wpD_seqk fun K hK => ?_; refine wpD_region tyOK ?_; ((repeat (rw [wpS_cons]; simp)); (try simp only [wpS_nil, thenD, blockD])))
        refine cXo [0] true (c1) ?_
        (rintro o hc ⟨rfl, rfl⟩; refine ⟨false, ?_⟩; simp [D.ren, D.rens, D.okN, D.okNs, Cp.ren, Cp.okN, HO.ren, HO.okN, okA, renA, renO, hOf, handed, D.fgt, D.fgts, List.range_succ, List.idxOf_cons, Out.ren, told, Out.fgt, upO, updS, setS])
        ((try simp only [thenD, blockD]); refine EndQ.pan (.inr ⟨[], by decide, by simp, ?_⟩); simp [Out.mov, movT, movH, movD, D.mov, HO.mov, okM, renM, getW, D.ren, D.rens, D.okN, D.okNs, Cp.ren, Cp.okN, HO.ren, HO.okN, okA, renA, renO, hOf, handed, D.fgt, D.fgts, List.range_succ, List.idxOf_cons, tmOf, Out.fgt, D.fgt, D.fgts])
        exact ⟨rfl, rfl⟩
      | some p =>
        obtain ⟨v, s2⟩ := p
        obtain ⟨-, -, hs2⟩ := numR_lo hs' hn1
        rw [hn1] at c1
        unfold withN RdP intD at c1
        dsimp only at c1
        rw [RO] at c1
        have c2 := rnumber_spec 1048576 s2 hs2 all nd
        unfold RO at c2
        (refine wpD_seqk fun K hK => ?_; refine wpD_region tyOK ?_; ((repeat (rw [wpS_cons]; simp)); (try simp only [wpS_nil, thenD, blockD])))
        refine cXo [0] true (c1) ?_
        (rintro o hc ⟨ho, rfl⟩; refine ⟨true, ?_⟩; rw [show told true o = _ from ho]; clear ho; simp [D.ren, D.rens, D.okN, D.okNs, Cp.ren, Cp.okN, HO.ren, HO.okN, okA, renA, renO, hOf, handed, D.fgt, D.fgts, List.range_succ, List.idxOf_cons, Out.ren, told, Out.fgt, upO, updS, setS])
        ((try simp only [wpAft_ret, wpAft_pan, putS, updS, setS]); (repeat (rw [wpS_cons]; simp)); (try simp only [wpS_nil, thenD, blockD]))
        (refine hK _ _ _ ?_; clear hK K)
        cases hn2 : numR 1048576 s2 with
        | none =>
          rw [appR_none (by unfold partR; rw [hn1]; dsimp only; rw [hn2])] at hF
          subst hF
          rw [hn2] at c2
          unfold withN RdP at c2
          (refine wpD_seqk fun K hK => ?_; refine wpD_region tyOK ?_; ((repeat (rw [wpS_cons]; simp)); (try simp only [wpS_nil, thenD, blockD])))
          refine cXo [0] true (c2) ?_
          (rintro o hc ⟨rfl, rfl⟩; refine ⟨false, ?_⟩; simp [D.ren, D.rens, D.okN, D.okNs, Cp.ren, Cp.okN, HO.ren, HO.okN, okA, renA, renO, hOf, handed, D.fgt, D.fgts, List.range_succ, List.idxOf_cons, Out.ren, told, Out.fgt, upO, updS, setS])
          ((try simp only [thenD, blockD]); refine EndQ.pan (.inr ⟨[], by decide, by simp, ?_⟩); simp [Out.mov, movT, movH, movD, D.mov, HO.mov, okM, renM, getW, D.ren, D.rens, D.okN, D.okNs, Cp.ren, Cp.okN, HO.ren, HO.okN, okA, renA, renO, hOf, handed, D.fgt, D.fgts, List.range_succ, List.idxOf_cons, tmOf, Out.fgt, D.fgt, D.fgts])
          exact ⟨rfl, rfl⟩
        | some p =>
          obtain ⟨u, s3⟩ := p
          obtain ⟨-, -, hs3⟩ := numR_lo hs2 hn2
          rw [appR_some (x := (v, u)) (s1 := s3) (by unfold partR; rw [hn1]; dsimp only; rw [hn2])] at hF
          rw [hn2] at c2
          unfold withN RdP intD at c2
          dsimp only at c2
          rw [RO] at c2
          (refine wpD_seqk fun K hK => ?_; refine wpD_region tyOK ?_; ((repeat (rw [wpS_cons]; simp)); (try simp only [wpS_nil, thenD, blockD])))
          refine cXo [0] true (c2) ?_
          (rintro o hc ⟨ho, rfl⟩; refine ⟨true, ?_⟩; rw [show told true o = _ from ho]; clear ho; simp [D.ren, D.rens, D.okN, D.okNs, Cp.ren, Cp.okN, HO.ren, HO.okN, okA, renA, renO, hOf, handed, D.fgt, D.fgts, List.range_succ, List.idxOf_cons, Out.ren, told, Out.fgt, upO, updS, setS])
          ((try simp only [wpAft_ret, wpAft_pan, putS, updS, setS]); (repeat (rw [wpS_cons]; simp)); (try simp only [wpS_nil, thenD, blockD]))
          (refine hK _ _ _ ?_; clear hK K)
          (refine wpD_region tyOK ?_; ((repeat (rw [wpS_cons]; simp [hel])); (try simp only [wpS_nil, thenD, blockD])))
          (refine hA2 ([1, 4]) _ _ _ (LeT.refl _) (by decide) (by simp) (by simp [movT, movH, movD, D.mov, HO.mov, okM, renM, getW, D.ren, D.rens, D.okN, D.okNs, Cp.ren, Cp.okN, HO.ren, HO.okN, okA, renA, renO, hOf, handed, D.fgt, D.fgts, List.range_succ, List.idxOf_cons, putAll]) ?_ rfl; simp [movT, movH, movD, D.mov, HO.mov, okM, renM, getW, D.ren, D.rens, D.okN, D.okNs, Cp.ren, Cp.okN, HO.ren, HO.okN, okA, renA, renO, hOf, handed, D.fgt, D.fgts, List.range_succ, List.idxOf_cons])
          refine ⟨acc ++ [(v, u)], by simp [hal], s3, hs3, hF, rfl, ?_⟩
          rw [show List.map encP acc ++ [D.agg [.int .i64 v, .int .i64 u]] = (acc ++ [(v, u)]).map encP by simp [encP]]
          exact mapP_ren _ _
    · rintro ys hl' tl' ⟨acc, s', rfl, hal, hs', hF, rfl⟩ htl
      rw [Nat.sub_self, appR_end] at hF
      subst hF
      refine hK1 _ _ _ (wpD_weakL htl ?_)
      simp only [putAll, List.set, List.map_cons, List.map_nil, List.cons_append, List.nil_append]
      refine wpD_fgtO 1 (ty := 30) (ds := [.slice (acc.map encP) (.tok 2)]) rfl ?_
      simp [D.fgts, D.fgt]
      (refine wpD_seqk fun K hK => ?_; refine wpD_region tyOK ?_; ((repeat (rw [wpS_cons]; simp)); (try simp only [wpS_nil, thenD, blockD])); refine hK _ _ _ ?_; clear hK K)
      (refine wpD_ret ?_; (try simp only [thenD, blockD]); refine EndQ.ret rfl (.inr ⟨[], by decide, by simp, ?_⟩); simp [Out.mov, movT, movH, movD, D.mov, HO.mov, okM, renM, getW, D.ren, D.rens, D.okN, D.okNs, Cp.ren, Cp.okN, HO.ren, HO.okN, okA, renA, renO, hOf, handed, D.fgt, D.fgts, List.range_succ, List.idxOf_cons, tmOf, Out.fgt, D.fgt, D.fgts])
      exact ⟨rfl, rfl⟩
end Go.Proofs.YtgloldepdhgfaaaDoor
namespace Go.Proofs.YtgloldepdhgfaaaDoor
set_option linter.unusedSimpArgs false
set_option linter.unusedVariables false
set_option linter.unusedSimpArgs false
set_option linter.unusedVariables false
set_option maxHeartbeats 10000000
set_option maxRecDepth 20000
open Go.RowKit
attribute [local simp] wpAft_ret wpAft_pan wantD evOp opD tmOf putS updS setS hOf isFree isTok fillD TK.isAgg TK.known partD thenD blockD putAll D.ofV inB nilTest isNilS binX binD binE isCst bndD capB IntKind.min IntKind.max IntKind.signed IntKind.bits dstOf late
theorem wlevel_spec (l : LV) (hl : levOk l) (B : List Int) (hB : (B ++ levB l).length ≤ LMax) : Spec Tryd.prog glob 57 [.box 0 0, encL l] (WO B) (fun o hc => o = .ret (.tuple []) ∧ hc = WP (B ++ levB l)) := by
  obtain ⟨h9, hps⟩ := hl
  have hlm : l.length ≤ LMax := by unfold LMax; omega
  have c0 := wput_spec [(l.length : Int)] (by simp) (by intro n hn; rw [List.mem_singleton.1 hn]; exact ⟨by omega, by omega⟩) B (Nat.le_trans (by unfold levB numI; simp) hB)
  have e0 : ([(l.length : Int)].flatMap numI) = numB l.length := by unfold numI; simp
  rw [e0] at c0
  unfold Ints at c0
  unfold WO WP at c0
  unfold WO WP encL
  refine Spec.movd globPure (wpD_spec tyOK Tryd.func57 rfl (enters _ _ Tryd.func57 rfl (by decide)) rfl rfl ?_)
  (refine wpD_seqk fun K hK => ?_; refine wpD_region tyOK ?_; ((repeat (rw [wpS_cons]; simp)); (try simp only [wpS_nil, thenD, blockD])); refine hK _ _ _ ?_; clear hK K)
  (refine wpD_seqk fun K hK => ?_; refine wpD_region tyOK ?_; ((repeat (rw [wpS_cons]; simp)); (try simp only [wpS_nil, thenD, blockD])))
  refine cXo [0, 1] true (c0) ?_
  (rintro o hc ⟨rfl, rfl⟩; refine ⟨false, ?_⟩; simp [D.ren, D.rens, D.okN, D.okNs, Cp.ren, Cp.okN, HO.ren, HO.okN, okA, renA, renO, hOf, handed, D.fgt, D.fgts, List.range_succ, List.idxOf_cons, Out.ren, told, Out.fgt, upO, updS, setS])
  (refine hK _ _ _ ?_; clear hK K)
  have hb0 : IntKind.i64.wrap (l.length : Int) = l.length := i64w (by omega) (by omega)
  (refine wpD_seqk fun K hK => ?_; refine wpD_region tyOK ?_; ((repeat (rw [wpS_cons]; simp)); (try simp only [wpS_nil, thenD, blockD])); refine hK _ _ _ ?_; clear hK K)
  refine wpD_rangeJ tyOK globPure (ti := 3) (tk := 15) (tn := 14) (td := 16) (ts := 26) [5, 15, 16, 17, 18, 19, 20, 21, 22, 23, 24, 25, 26] [] (l.length) (fun k ys hl => ys = [] ∧ hl = [.cells 103 [.own 3 (B ++ numB l.length ++ (l.take k).flatMap partB).length, kmD], .dead, .cells 30 [.slice (l.map encP) .any], .row 1 (byD (B ++ numB l.length ++ (l.take k).flatMap partB))]) rfl rfl rfl rfl rfl rfl rfl rfl rfl rfl rfl rfl (by simp) (by decide) rfl (by first | assumption | omega | (unfold LMax; omega)) rfl (by kernel_rfl) (by decide) ?_ ?_ ?_
  · exact ⟨rfl, by simp⟩
  · rintro i ys hl' A hi ⟨rfl, rfl⟩ hA hA2
    simp only [putAll, List.set, List.map_cons, List.map_nil, List.cons_append, List.nil_append]
    have hi' : (i : Int) < l.length := by omega
    obtain ⟨v, hv⟩ : ∃ v, l[i] = v := ⟨_, rfl⟩
    obtain ⟨hv1, hv2⟩ := hps v (by rw [← hv]; exact List.getElem_mem hi)
    obtain ⟨B0, hB0⟩ : ∃ B0, B0 = B ++ numB l.length ++ (l.take i).flatMap partB := ⟨_, rfl⟩
    rw [← hB0]
    have e1 : ([v.1, v.2].flatMap numI) = partB v := by unfold numI partB; simp
    have hBl : (B0 ++ partB v).length ≤ LMax := by
      refine Nat.le_trans ?_ hB
      have e : l.flatMap partB = (l.take i).flatMap partB ++ (partB v ++ (l.drop (i + 1)).flatMap partB) := by
        conv => lhs; rw [← List.take_append_drop i l, List.flatMap_append, List.drop_eq_getElem_cons hi, List.flatMap_cons, hv]
      unfold levB
      rw [e, hB0]
      simp only [List.length_append]
      omega
    have c1 := wput_spec [v.1, v.2] (by simp) (by intro n hn; simp at hn; rcases hn with rfl | rfl; exact hv1; exact hv2) B0 (by rw [e1]; exact hBl)
    rw [e1] at c1
    unfold Ints WO WP at c1
    (refine wpD_seqk fun K hK => ?_; refine wpD_region tyOK ?_; ((repeat (rw [wpS_cons]; simp [hi, hi', hv, encP])); (try simp only [wpS_nil, thenD, blockD])); refine hK _ _ _ ?_; clear hK K)
    (refine wpD_region tyOK ?_; ((repeat (rw [wpS_cons]; simp)); (try simp only [wpS_nil, thenD, blockD])))
    refine cXo [0, 3] true (c1) ?_
    (rintro o hc ⟨rfl, rfl⟩; refine ⟨false, ?_⟩; simp [D.ren, D.rens, D.okN, D.okNs, Cp.ren, Cp.okN, HO.ren, HO.okN, okA, renA, renO, hOf, handed, D.fgt, D.fgts, List.range_succ, List.idxOf_cons, Out.ren, told, Out.fgt, upO, updS, setS])
    (refine hA2 ([2, 5]) _ _ _ (LeT.refl _) (by decide) (by simp) (by simp [movT, movH, movD, D.mov, HO.mov, okM, renM, getW, D.ren, D.rens, D.okN, D.okNs, Cp.ren, Cp.okN, HO.ren, HO.okN, okA, renA, renO, hOf, handed, D.fgt, D.fgts, List.range_succ, List.idxOf_cons, putAll]) ?_ rfl; simp [movT, movH, movD, D.mov, HO.mov, okM, renM, getW, D.ren, D.rens, D.okN, D.okNs, Cp.ren, Cp.okN, HO.ren, HO.okN, okA, renA, renO, hOf, handed, D.fgt, D.fgts, List.range_succ, List.idxOf_cons])
    have e : B ++ numB l.length ++ (l.take (i + 1)).flatMap partB = B0 ++ partB v := by
      rw [List.take_succ_eq_append_getElem hi, List.flatMap_append, ← List.append_assoc, ← hB0, hv, List.flatMap_singleton]
    rw [List.append_assoc] at e
    refine ⟨?_, by rw [e]⟩
    have e2 := congrArg List.length e
    rw [List.length_append, List.length_append, List.length_append, List.length_flatMap] at e2
    rw [← List.map_take]
    exact e2.symm
  · rintro ys hl' tl' ⟨rfl, rfl⟩ htl
    rw [List.take_length]
    ((try simp only [thenD, blockD]); refine EndQ.nrm rfl (.inr ⟨[3], by decide, by simp, ?_⟩); simp [Out.mov, movT, movH, movD, D.mov, HO.mov, okM, renM, getW, D.ren, D.rens, D.okN, D.okNs, Cp.ren, Cp.okN, HO.ren, HO.okN, okA, renA, renO, hOf, handed, D.fgt, D.fgts, List.range_succ, List.idxOf_cons, tmOf, Out.fgt, D.fgt, D.fgts])
    unfold levB
    refine ⟨?_, rfl⟩
    rw [List.length_append, List.length_flatMap]
end Go.Proofs.YtgloldepdhgfaaaDoor
namespace Go.Proofs.YtgloldepdhgfaaaDoor
set_option linter.unusedSimpArgs false
set_option linter.unusedVariables false
set_option linter.unusedSimpArgs false
set_option linter.unusedVariables false
set_option maxHeartbeats 10000000
set_option maxRecDepth 20000
open Go.RowKit
attribute [local simp] wpAft_ret wpAft_pan wantD evOp opD tmOf putS updS setS hOf isFree isTok fillD TK.isAgg TK.known partD thenD blockD putAll D.ofV inB nilTest isNilS binX binD binE isCst bndD capB IntKind.min IntKind.max IntKind.signed IntKind.bits dstOf late
def hOne (k : Int) : Bool := decide (k = 2)
def kidF (k : Int) : D := if k = 24 then caseF else soF (hKids k 0)
def hasK (k : Int) : D := hasD (hNum k) (hAt k) (hOne k) (hMany k) (kidF k)
def kindsL : List Int := [1, 2, 3, 4, 5, 6, 7, 8, 9, 10, 11, 12, 13, 14, 15, 16, 17, 18, 19, 20, 21, 22, 23, 24]
theorem kinds_find' : (kindsL.map fun k => findD (.int .i64 k) kindsE) = kindsL.map fun k => some (hasK k) := by kernel_rfl
theorem kinds_find {k : Int} (h1 : 1 ≤ k) (h2 : k ≤ 24) : findD (.int .i64 k) kindsE = some (hasK k) := by
  refine List.map_inj_left.1 kinds_find' k ?_
  simp only [kindsL, List.mem_cons, List.not_mem_nil, or_false]
  omega
theorem kidF_pure (k : Int) : (kidF k).pure = true := by unfold kidF; split <;> rfl
@[simp high] theorem kidF_one (k : Int) : (kidF k).one = true := by unfold kidF; split <;> rfl
@[simp high] theorem kidF_cells (k : Int) : (kidF k).cells = [kidF k] := by unfold kidF; split <;> rfl
@[simp high] theorem kidF_size (k : Int) : (kidF k).size = 1 := by unfold kidF; split <;> rfl
@[simp high] theorem kidF_fgt (k : Int) : (kidF k).fgt = kidF k := by unfold kidF; split <;> rfl
@[simp high] theorem kidF_ren (k : Int) (σ : Nat → Nat) : D.ren σ (kidF k) = kidF k := D.ren_pure σ _ (kidF_pure k)
@[simp high] theorem kidF_okN (k : Int) (p : Nat → Bool) : (kidF k).okN p = true := D.okN_pure p _ (kidF_pure k)
@[simp high] theorem kidF_low (k : Int) (m : Nat) : (kidF k).low m = true := D.low_pure m _ (kidF_pure k)
theorem kmD_split : ∃ ka kb, kmD = .mapc ka kb ∧ ka.zip kb = kindsE ∧ ka.length = kb.length := ⟨_, _, rfl, by kernel_rfl, by kernel_rfl⟩
theorem kindsE_all : (kindsE.all fun p => isIntK .i64 p.1) = true := by kernel_rfl
theorem hKids_le {k a : Int} (h : smallI a) : hKids k a ≤ 1048578 := by
  obtain ⟨h1, h2⟩ := h
  unfold hKids
  repeat' split
  all_goals omega
theorem encL_eq (l : LV) : encL l = .agg [.slice (l.map encP) .any] := rfl
theorem wterm_spec {t : T} (ht : PackT t) : ∀ (B : List Int) (hB : (B ++ termB t).length ≤ LMax), Spec Tryd.prog glob 31 [.box 0 0, encT t] (WO B) (fun o hc => o = .ret (.tuple []) ∧ hc = WP (B ++ termB t)) := by
  induction ht with
  | @mk t ht hk ih =>
  intro B hB
  obtain ⟨kk, n, a, ls, ks⟩ := t
  obtain ⟨hk1, hk2, hn, ha, hn0, ha0, hls, hls2, hlv, hks⟩ := ht
  simp only [T.k, T.n, T.a, T.ls, T.ks] at hk1 hk2 hn ha hn0 ha0 hls hls2 hlv hks ih
  have hE := encT_eq (T.mk kk n a ls ks)
  simp only [T.k, T.n, T.a, T.ls, T.ks] at hE
  rw [hE]
  unfold WO WP
  refine Spec.movd globPure (wpD_spec tyOK Tryd.func31 rfl (enters _ _ Tryd.func31 rfl (by decide)) rfl rfl ?_)
  (refine wpD_seqk fun K hK => ?_; refine wpD_region tyOK ?_; ((repeat (rw [wpS_cons]; simp)); (try simp only [wpS_nil, thenD, blockD])); refine hK _ _ _ ?_; clear hK K)
  obtain ⟨ka, kb, hkm, hz, hzl⟩ := kmD_split
  have hf := kinds_find hk1 hk2
  have hall := kindsE_all
  simp only [hasK, hasD] at hf
  rw [hkm]
  (refine wpD_seqk fun K hK => ?_; refine wpD_drawk tyOK (by kernel_rfl) (by kernel_rfl) fun KT hKT => ?_; ((repeat (rw [wpT_cons]; simp [hz, hzl, hall, hf])); (try simp only [wpT_nil])))
  (refine hKT _ _ _ _ (by kernel_rfl) ?_; clear hKT KT; (try simp only [thenD, blockD]))
  (refine hK _ _ _ ?_; clear hK K)
  obtain ⟨o1, ho1⟩ : ∃ o, o = if hNum kk then numB n.toNat else [] := ⟨_, rfl⟩
  obtain ⟨o2, ho2⟩ : ∃ o, o = if hAt kk then numB a.toNat else [] := ⟨_, rfl⟩
  obtain ⟨o3, ho3⟩ : ∃ o, o = if hMany kk then numB ls.length else [] := ⟨_, rfl⟩
  have hT : termB (T.mk kk n a ls ks) = numB kk.toNat ++ (o1 ++ (o2 ++ (o3 ++ (ls.flatMap levB ++ ks.flatMap termB)))) := by rw [termB, termsB_flat, ho1, ho2, ho3]
  rw [hT] at hB
  rw [hT]
  simp only [← hkm]
  clear hkm hz hzl hf hall hT
  obtain ⟨B1, hB1⟩ : ∃ b, b = B ++ numB kk.toNat := ⟨_, rfl⟩
  obtain ⟨B2, hB2⟩ : ∃ b, b = B1 ++ o1 := ⟨_, rfl⟩
  obtain ⟨B3, hB3⟩ : ∃ b, b = B2 ++ o2 := ⟨_, rfl⟩
  obtain ⟨B4, hB4⟩ : ∃ b, b = B3 ++ o3 := ⟨_, rfl⟩
  have eB : B ++ (numB kk.toNat ++ (o1 ++ (o2 ++ (o3 ++ (ls.flatMap levB ++ ks.flatMap termB))))) = B4 ++ (ls.flatMap levB ++ ks.flatMap termB) := by rw [hB4, hB3, hB2, hB1]; simp
  rw [eB] at hB
  rw [eB]
  clear eB
  have hL : B4.length + ((ls.flatMap levB).length + (ks.flatMap termB).length) ≤ LMax := by rw [← List.length_append, ← List.length_append]; exact hB
  have hL4 : B4.length = B3.length + o3.length := by rw [hB4, List.length_append]
  have hL3 : B3.length = B2.length + o2.length := by rw [hB3, List.length_append]
  have hL2 : B2.length = B1.length + o1.length := by rw [hB2, List.length_append]
  have hL1 : B1.length = B.length + (numB kk.toNat).length := by rw [hB1, List.length_append]
  have c0 := wput_spec [kk] (by simp) (by intro v hv; rw [List.mem_singleton.1 hv]; exact ⟨by omega, by omega⟩) B (by rw [List.length_append]; simp [numI]; omega)
  have e0 : ([kk].flatMap numI) = numB kk.toNat := by unfold numI; simp
  rw [e0, ← hB1] at c0
  unfold Ints WO WP at c0
  refine wpD_seqk fun K hK => ?_
  (refine wpD_region tyOK ?_; ((repeat (rw [wpS_cons]; simp)); (try simp only [wpS_nil, thenD, blockD])))
  refine cXo [0, 1] true (c0) ?_
  (rintro o hc ⟨rfl, rfl⟩; refine ⟨false, ?_⟩; simp [D.ren, D.rens, D.okN, D.okNs, Cp.ren, Cp.okN, HO.ren, HO.okN, okA, renA, renO, hOf, handed, D.fgt, D.fgts, List.range_succ, List.idxOf_cons, Out.ren, told, Out.fgt, upO, updS, setS])
  (refine hK _ _ _ ?_; clear hK K)
  refine wpD_seqm globPure [21, 22, 23, 24, 25, 26, 27] (List.replicate 7 .junk) [.cells 103 [.own 4 B2.length, kmD], .dead, .cells 27 [.int .i64 kk, .int .i64 n, .int .i64 a, .slice (ls.map encL) .any, .slice (ks.map encT) .any], .cells 111 [.bool (hNum kk), .bool (hAt kk), .bool (hOne kk), .bool (hMany kk), kidF kk], .row 1 (byD B2)] ?_ ?_
  rotate_left
  · intro K hK hK2
    (refine wpD_seqk fun K hK => ?_; refine wpD_region tyOK ?_; ((repeat (rw [wpS_cons]; simp)); (try simp only [wpS_nil, thenD, blockD])); refine hK _ _ _ ?_; clear hK K)
    refine wpD_part rfl (fun h => ?_) (fun h => ?_)
    · have e1 : o1 = numB (n).toNat := by rw [ho1]; simp [h]
      have c := wput_spec [n] (by simp) (by intro v hv; rw [List.mem_singleton.1 hv]; exact hn) B1 (by rw [List.length_append]; simp only [List.flatMap_cons, List.flatMap_nil, List.append_nil, numI]; rw [← e1]; omega)
      have e : ([n].flatMap numI) = o1 := by rw [e1]; simp [numI]
      rw [e, ← hB2] at c
      unfold Ints WO WP at c
      (refine wpD_region tyOK ?_; ((repeat (rw [wpS_cons]; simp)); (try simp only [wpS_nil, thenD, blockD])))
      refine cXo [0, 4] true (c) ?_
      (rintro o hc ⟨rfl, rfl⟩; refine ⟨false, ?_⟩; simp [D.ren, D.rens, D.okN, D.okNs, Cp.ren, Cp.okN, HO.ren, HO.okN, okA, renA, renO, hOf, handed, D.fgt, D.fgts, List.range_succ, List.idxOf_cons, Out.ren, told, Out.fgt, upO, updS, setS])
      refine hK2 [2, 3, 5] _ _ (by decide) (by simp) ?_ ?_
      · simp [leT, putAll, movT, movH, movD, D.mov, HO.mov, okM, renM, getW, D.ren, D.rens, D.okN, D.okNs, Cp.ren, Cp.okN, HO.ren, HO.okN, okA, renA, renO, hOf, handed, D.fgt, D.fgts, List.range_succ, List.idxOf_cons, List.replicate]
      · simp [movT, movH, movD, D.mov, HO.mov, okM, renM, getW, D.ren, D.rens, D.okN, D.okNs, Cp.ren, Cp.okN, HO.ren, HO.okN, okA, renA, renO, hOf, handed, D.fgt, D.fgts, List.range_succ, List.idxOf_cons]
    · have e : B2 = B1 := by rw [hB2, ho1]; simp [h]
      rw [e] at hK
      refine wpD_skip (hK _ ?_)
      simp [leT, putAll, List.replicate]
  simp only [putAll, List.replicate, List.set]
  refine wpD_seqm globPure [28, 29, 30, 31, 32, 33, 34] (List.replicate 7 .junk) [.cells 103 [.own 4 B3.length, kmD], .dead, .cells 27 [.int .i64 kk, .int .i64 n, .int .i64 a, .slice (ls.map encL) .any, .slice (ks.map encT) .any], .cells 111 [.bool (hNum kk), .bool (hAt kk), .bool (hOne kk), .bool (hMany kk), kidF kk], .row 1 (byD B3)] ?_ ?_
  rotate_left
  · intro K hK hK2
    (refine wpD_seqk fun K hK => ?_; refine wpD_region tyOK ?_; ((repeat (rw [wpS_cons]; simp)); (try simp only [wpS_nil, thenD, blockD])); refine hK _ _ _ ?_; clear hK K)
    refine wpD_part rfl (fun h => ?_) (fun h => ?_)
    · have e1 : o2 = numB (a).toNat := by rw [ho2]; simp [h]
      have c := wput_spec [a] (by simp) (by intro v hv; rw [List.mem_singleton.1 hv]; exact ha) B2 (by rw [List.length_append]; simp only [List.flatMap_cons, List.flatMap_nil, List.append_nil, numI]; rw [← e1]; omega)
      have e : ([a].flatMap numI) = o2 := by rw [e1]; simp [numI]
      rw [e, ← hB3] at c
      unfold Ints WO WP at c
      (refine wpD_region tyOK ?_; ((repeat (rw [wpS_cons]; simp)); (try simp only [wpS_nil, thenD, blockD])))
      refine cXo [0, 4] true (c) ?_
      (rintro o hc ⟨rfl, rfl⟩; refine ⟨false, ?_⟩; simp [D.ren, D.rens, D.okN, D.okNs, Cp.ren, Cp.okN, HO.ren, HO.okN, okA, renA, renO, hOf, handed, D.fgt, D.fgts, List.range_succ, List.idxOf_cons, Out.ren, told, Out.fgt, upO, updS, setS])
      refine hK2 [2, 3, 5] _ _ (by decide) (by simp) ?_ ?_
      · simp [leT, putAll, movT, movH, movD, D.mov, HO.mov, okM, renM, getW, D.ren, D.rens, D.okN, D.okNs, Cp.ren, Cp.okN, HO.ren, HO.okN, okA, renA, renO, hOf, handed, D.fgt, D.fgts, List.range_succ, List.idxOf_cons, List.replicate]
      · simp [movT, movH, movD, D.mov, HO.mov, okM, renM, getW, D.ren, D.rens, D.okN, D.okNs, Cp.ren, Cp.okN, HO.ren, HO.okN, okA, renA, renO, hOf, handed, D.fgt, D.fgts, List.range_succ, List.idxOf_cons]
    · have e : B3 = B2 := by rw [hB3, ho2]; simp [h]
      rw [e] at hK
      refine wpD_skip (hK _ ?_)
      simp [leT, putAll, List.replicate]
  simp only [putAll, List.replicate, List.set]
  refine wpD_seqm globPure [35, 36, 37, 38, 39, 40, 41, 42] (List.replicate 8 .junk) [.cells 103 [.own 4 B4.length, kmD], .dead, .cells 27 [.int .i64 kk, .int .i64 n, .int .i64 a, .slice (ls.map encL) .any, .slice (ks.map encT) .any], .cells 111 [.bool (hNum kk), .bool (hAt kk), .bool (hOne kk), .bool (hMany kk), kidF kk], .row 1 (byD B4)] ?_ ?_
  rotate_left
  · intro K hK hK2
    (refine wpD_seqk fun K hK => ?_; refine wpD_region tyOK ?_; ((repeat (rw [wpS_cons]; simp)); (try simp only [wpS_nil, thenD, blockD])); refine hK _ _ _ ?_; clear hK K)
    refine wpD_part rfl (fun h => ?_) (fun h => ?_)
    · have e1 : o3 = numB ((ls.length : Int)).toNat := by rw [ho3]; simp [h]
      have c := wput_spec [(ls.length : Int)] (by simp) (by intro v hv; rw [List.mem_singleton.1 hv]; exact ⟨by omega, by omega⟩) B3 (by rw [List.length_append]; simp only [List.flatMap_cons, List.flatMap_nil, List.append_nil, numI]; rw [← e1]; omega)
      have e : ([(ls.length : Int)].flatMap numI) = o3 := by rw [e1]; simp [numI]
      rw [e, ← hB4] at c
      unfold Ints WO WP at c
      (refine wpD_region tyOK ?_; ((repeat (rw [wpS_cons]; simp)); (try simp only [wpS_nil, thenD, blockD])))
      refine cXo [0, 4] true (c) ?_
      (rintro o hc ⟨rfl, rfl⟩; refine ⟨false, ?_⟩; simp [D.ren, D.rens, D.okN, D.okNs, Cp.ren, Cp.okN, HO.ren, HO.okN, okA, renA, renO, hOf, handed, D.fgt, D.fgts, List.range_succ, List.idxOf_cons, Out.ren, told, Out.fgt, upO, updS, setS])
      refine hK2 [2, 3, 5] _ _ (by decide) (by simp) ?_ ?_
      · simp [leT, putAll, movT, movH, movD, D.mov, HO.mov, okM, renM, getW, D.ren, D.rens, D.okN, D.okNs, Cp.ren, Cp.okN, HO.ren, HO.okN, okA, renA, renO, hOf, handed, D.fgt, D.fgts, List.range_succ, List.idxOf_cons, List.replicate]
      · simp [movT, movH, movD, D.mov, HO.mov, okM, renM, getW, D.ren, D.rens, D.okN, D.okNs, Cp.ren, Cp.okN, HO.ren, HO.okN, okA, renA, renO, hOf, handed, D.fgt, D.fgts, List.range_succ, List.idxOf_cons]
    · have e : B4 = B3 := by rw [hB4, ho3]; simp [h]
      rw [e] at hK
      refine wpD_skip (hK _ ?_)
      simp [leT, putAll, List.replicate]
  simp only [putAll, List.replicate, List.set]
  obtain ⟨hlm0, hLm0⟩ : ls.length ≤ LMax ∧ (B4 ++ ls.flatMap levB).length ≤ LMax := ⟨by unfold LMax; omega, by rw [List.length_append]; omega⟩
  have hb0 : IntKind.i64.wrap (ls.length : Int) = ls.length := i64w (by unfold LMax at hlm0; omega) (by unfold LMax at hlm0; omega)
  refine wpD_seqk fun K1 hK1 => ?_
  (refine wpD_seqk fun K hK => ?_; refine wpD_region tyOK ?_; ((repeat (rw [wpS_cons]; simp)); (try simp only [wpS_nil, thenD, blockD])); refine hK _ _ _ ?_; clear hK K)
  refine wpD_rangeJ tyOK globPure (ti := 3) (tk := 46) (tn := 45) (td := 47) (ts := 53) [6, 46, 47, 48, 49, 50, 51, 52, 53] [] (ls.length) (fun k ys hl => ys = [] ∧ hl = [.cells 103 [.own 4 (B4 ++ (ls.take k).flatMap levB).length, kmD], .dead, .cells 27 [.int .i64 kk, .int .i64 n, .int .i64 a, .slice (ls.map encL) .any, .slice (ks.map encT) .any], .cells 111 [.bool (hNum kk), .bool (hAt kk), .bool (hOne kk), .bool (hMany kk), kidF kk], .row 1 (byD (B4 ++ (ls.take k).flatMap levB))]) rfl rfl rfl rfl rfl rfl rfl rfl rfl rfl rfl rfl (by simp) (by decide) rfl (by first | assumption | omega | (unfold LMax; omega)) rfl (by kernel_rfl) (by decide) ?_ ?_ ?_
  · exact ⟨rfl, by simp⟩
  · rintro i ys hl' A hi ⟨rfl, rfl⟩ hA hA2
    simp only [putAll, List.set, List.map_cons, List.map_nil, List.cons_append, List.nil_append]
    have hi' : (i : Int) < ls.length := by omega
    obtain ⟨v, hv⟩ : ∃ v, ls[i] = v := ⟨_, rfl⟩
    have hvm : v ∈ ls := by rw [← hv]; exact List.getElem_mem hi
    obtain ⟨B0, hB0⟩ : ∃ B0, B0 = B4 ++ (ls.take i).flatMap levB := ⟨_, rfl⟩
    rw [← hB0]
    have hBl : (B0 ++ levB v).length ≤ LMax := by
      refine Nat.le_trans ?_ hLm0
      have e : ls.flatMap levB = (ls.take i).flatMap levB ++ (levB v ++ (ls.drop (i + 1)).flatMap levB) := by
        conv => lhs; rw [← List.take_append_drop i ls, List.flatMap_append, List.drop_eq_getElem_cons hi, List.flatMap_cons, hv]
      rw [e, hB0]
      simp only [List.length_append]
      omega
    have c1 := wlevel_spec v (hlv v hvm) B0 hBl
    have hEv := encL_eq v
    rw [hEv] at c1
    unfold WO WP at c1
    (refine wpD_seqk fun K hK => ?_; refine wpD_region tyOK ?_; ((repeat (rw [wpS_cons]; simp [hi, hi', hv, hEv])); (try simp only [wpS_nil, thenD, blockD])); refine hK _ _ _ ?_; clear hK K)
    (refine wpD_region tyOK ?_; ((repeat (rw [wpS_cons]; simp)); (try simp only [wpS_nil, thenD, blockD])))
    refine cXo [0, 4] true (c1) ?_
    (rintro o hc ⟨rfl, rfl⟩; refine ⟨false, ?_⟩; simp [D.ren, D.rens, D.okN, D.okNs, Cp.ren, Cp.okN, HO.ren, HO.okN, okA, renA, renO, hOf, handed, D.fgt, D.fgts, List.range_succ, List.idxOf_cons, Out.ren, told, Out.fgt, upO, updS, setS])
    (refine hA2 ([2, 3, 6]) _ _ _ (LeT.refl _) (by decide) (by simp) (by simp [movT, movH, movD, D.mov, HO.mov, okM, renM, getW, D.ren, D.rens, D.okN, D.okNs, Cp.ren, Cp.okN, HO.ren, HO.okN, okA, renA, renO, hOf, handed, D.fgt, D.fgts, List.range_succ, List.idxOf_cons, putAll]) ?_ rfl; simp [movT, movH, movD, D.mov, HO.mov, okM, renM, getW, D.ren, D.rens, D.okN, D.okNs, Cp.ren, Cp.okN, HO.ren, HO.okN, okA, renA, renO, hOf, handed, D.fgt, D.fgts, List.range_succ, List.idxOf_cons])
    have e : B4 ++ (ls.take (i + 1)).flatMap levB = B0 ++ levB v := by
      rw [List.take_succ_eq_append_getElem hi, List.flatMap_append, ← List.append_assoc, ← hB0, hv, List.flatMap_singleton]
    refine ⟨?_, by rw [e]⟩
    have e2 := congrArg List.length e
    rw [List.length_append, List.length_append, List.length_flatMap] at e2
    rw [← List.map_take]
    exact e2.symm
  · rintro ys hl' tl' ⟨rfl, rfl⟩ htl
    rw [List.take_length]
    refine hK1 _ _ _ (wpD_weakL htl ?_)
    simp only [putAll, List.set, List.map_cons, List.map_nil, List.cons_append, List.nil_append]
    clear hK1 K1 htl
    obtain ⟨B5, hB5⟩ : ∃ b, b = B4 ++ ls.flatMap levB := ⟨_, rfl⟩
    have hL5 : B5.length = B4.length + (ls.flatMap levB).length := by rw [hB5, List.length_append]
    rw [← List.append_assoc, ← hB5]
    obtain ⟨hlm1, hLm1⟩ : ks.length ≤ LMax ∧ (B5 ++ ks.flatMap termB).length ≤ LMax := ⟨by have := hKids_le (k := kk) ha; unfold LMax; omega, by rw [List.length_append]; omega⟩
    have hb1 : IntKind.i64.wrap (ks.length : Int) = ks.length := i64w (by unfold LMax at hlm1; omega) (by unfold LMax at hlm1; omega)
    (refine wpD_seqk fun K hK => ?_; refine wpD_region tyOK ?_; ((repeat (rw [wpS_cons]; simp)); (try simp only [wpS_nil, thenD, blockD])); refine hK _ _ _ ?_; clear hK K)
    refine wpD_rangeJ tyOK globPure (ti := 3) (tk := 57) (tn := 56) (td := 58) (ts := 64) [8, 57, 58, 59, 60, 61, 62, 63, 64] [] (ks.length) (fun k ys hl => ys = [] ∧ hl = [.cells 103 [.own 4 (B5 ++ (ks.take k).flatMap termB).length, kmD], .dead, .cells 27 [.int .i64 kk, .int .i64 n, .int .i64 a, .slice (ls.map encL) .any, .slice (ks.map encT) .any], .cells 111 [.bool (hNum kk), .bool (hAt kk), .bool (hOne kk), .bool (hMany kk), kidF kk], .row 1 (byD (B5 ++ (ks.take k).flatMap termB))]) rfl rfl rfl rfl rfl rfl rfl rfl rfl rfl rfl rfl (by simp) (by decide) rfl (by first | assumption | omega | (unfold LMax; omega)) rfl (by kernel_rfl) (by decide) ?_ ?_ ?_
    · exact ⟨rfl, by simp⟩
    · rintro i ys hl' A hi ⟨rfl, rfl⟩ hA hA2
      simp only [putAll, List.set, List.map_cons, List.map_nil, List.cons_append, List.nil_append]
      have hi' : (i : Int) < ks.length := by omega
      obtain ⟨v, hv⟩ : ∃ v, ks[i] = v := ⟨_, rfl⟩
      have hvm : v ∈ ks := by rw [← hv]; exact List.getElem_mem hi
      obtain ⟨B0, hB0⟩ : ∃ B0, B0 = B5 ++ (ks.take i).flatMap termB := ⟨_, rfl⟩
      rw [← hB0]
      have hBl : (B0 ++ termB v).length ≤ LMax := by
        refine Nat.le_trans ?_ hLm1
        have e : ks.flatMap termB = (ks.take i).flatMap termB ++ (termB v ++ (ks.drop (i + 1)).flatMap termB) := by
          conv => lhs; rw [← List.take_append_drop i ks, List.flatMap_append, List.drop_eq_getElem_cons hi, List.flatMap_cons, hv]
        rw [e, hB0]
        simp only [List.length_append]
        omega
      have c1 := ih v hvm B0 hBl
      have hEv := encT_eq v
      rw [hEv] at c1
      unfold WO WP at c1
      (refine wpD_seqk fun K hK => ?_; refine wpD_region tyOK ?_; ((repeat (rw [wpS_cons]; simp [hi, hi', hv, hEv])); (try simp only [wpS_nil, thenD, blockD])); refine hK _ _ _ ?_; clear hK K)
      (refine wpD_region tyOK ?_; ((repeat (rw [wpS_cons]; simp)); (try simp only [wpS_nil, thenD, blockD])))
      refine cXo [0, 4] true (c1) ?_
      (rintro o hc ⟨rfl, rfl⟩; refine ⟨false, ?_⟩; simp [D.ren, D.rens, D.okN, D.okNs, Cp.ren, Cp.okN, HO.ren, HO.okN, okA, renA, renO, hOf, handed, D.fgt, D.fgts, List.range_succ, List.idxOf_cons, Out.ren, told, Out.fgt, upO, updS, setS])
      (refine hA2 ([2, 3, 6]) _ _ _ (LeT.refl _) (by decide) (by simp) (by simp [movT, movH, movD, D.mov, HO.mov, okM, renM, getW, D.ren, D.rens, D.okN, D.okNs, Cp.ren, Cp.okN, HO.ren, HO.okN, okA, renA, renO, hOf, handed, D.fgt, D.fgts, List.range_succ, List.idxOf_cons, putAll]) ?_ rfl; simp [movT, movH, movD, D.mov, HO.mov, okM, renM, getW, D.ren, D.rens, D.okN, D.okNs, Cp.ren, Cp.okN, HO.ren, HO.okN, okA, renA, renO, hOf, handed, D.fgt, D.fgts, List.range_succ, List.idxOf_cons])
      have e : B5 ++ (ks.take (i + 1)).flatMap termB = B0 ++ termB v := by
        rw [List.take_succ_eq_append_getElem hi, List.flatMap_append, ← List.append_assoc, ← hB0, hv, List.flatMap_singleton]
      refine ⟨?_, by rw [e]⟩
      have e2 := congrArg List.length e
      rw [List.length_append, List.length_append, List.length_flatMap] at e2
      rw [← List.map_take]
      exact e2.symm
    · rintro ys hl' tl' ⟨rfl, rfl⟩ htl
      rw [List.take_length]
      ((try simp only [thenD, blockD]); refine EndQ.nrm rfl (.inr ⟨[4], by decide, by simp, ?_⟩); simp [Out.mov, movT, movH, movD, D.mov, HO.mov, okM, renM, getW, D.ren, D.rens, D.okN, D.okNs, Cp.ren, Cp.okN, HO.ren, HO.okN, okA, renA, renO, hOf, handed, D.fgt, D.fgts, List.range_succ, List.idxOf_cons, tmOf, Out.fgt, D.fgt, D.fgts])
end Go.Proofs.YtgloldepdhgfaaaDoor
namespace Go.Proofs.YtgloldepdhgfaaaDoor
set_option linter.unusedSimpArgs false
set_option linter.unusedVariables false
set_option linter.unusedSimpArgs false
set_option linter.unusedVariables false
set_option maxHeartbeats 10000000
set_option maxRecDepth 20000
open Go.RowKit
attribute [local simp] wpAft_ret wpAft_pan wantD evOp opD tmOf putS updS setS hOf isFree isTok fillD TK.isAgg TK.known partD thenD blockD putAll D.ofV inB nilTest isNilS binX binD binE isCst bndD capB IntKind.min IntKind.max IntKind.signed IntKind.bits dstOf late
theorem timesR_nd {α : Type} {f : NS → Option (α × NS)} (hf : ∀ st x st', 0 ≤ st.1 → f st = some (x, st') → 0 ≤ st'.1 ∧ st'.1 ≤ st.1) : ∀ (n : Nat) (st : NS) (l : List α) (st' : NS), 0 ≤ st.1 → timesR f n st = some (l, st') → 0 ≤ st'.1 ∧ st'.1 ≤ st.1
  | 0, st, l, st', h0, h => by cases h; omega
  | n + 1, st, l, st', h0, h => by
    rw [timesR] at h
    split at h
    · cases h
    · rename_i x s1 hx
      have h1 := hf _ _ _ h0 hx
      split at h
      · cases h
      · rename_i l2 s2 hl
        have h2 := timesR_nd hf n s1 l2 s2 h1.1 hl
        cases h
        omega
theorem nodeR_nd : ∀ (d : Nat) (st : NS) (t : T) (st' : NS), 0 ≤ st.1 → nodeR d st = some (t, st') → 0 ≤ st'.1 ∧ st'.1 ≤ st.1
  | 0, st, t, st', h0, h => by cases h
  | d + 1, (nd, s), t, st', h0, h => by
    rw [nodeR] at h
    split at h
    · cases h
    split at h
    · cases h
    split at h
    · cases h
    split at h
    · cases h
    split at h
    · cases h
    split at h
    · cases h
    split at h
    · cases h
    split at h
    · cases h
    · rename_i ks st2 hk
      have hq := timesR_nd (fun st x st' a b => nodeR_nd d st x st' a b) _ _ _ _ (by dsimp only; omega) hk
      cases h
      dsimp only at *
      omega
def kidsR (k n a : Int) (ls : List LV) : Option (List T × NS) → Option (T × NS)
  | none => none
  | some (ks, st) => some (.mk k n a ls ks, st)
def lvsR (d : Nat) (k n a nd : Int) : Option (List LV × List Int) → Option (T × NS)
  | none => none
  | some (ls, s) => kidsR k n a ls (timesR (nodeR d) (hKids k a).toNat (nd, s))
theorem nodeR_u (d : Nat) (nd : Int) (s : List Int) : nodeR (d + 1) (nd, s) = if nd - 1 < 0 then none else match numR 24 s with
    | none => none
    | some (k, s) => if k < 1 then none else match mayR (hNum k) 1048576 0 s with
      | none => none
      | some (n, s) => match mayR (hAt k) 1048576 0 s with
        | none => none
        | some (a, s) => match mayR (hMany k) 10 (if k = 2 then 1 else 0) s with
          | none => none
          | some (q, s) => lvsR d k n a (nd - 1) (timesR levelR q.toNat s) := by
  rw [nodeR]
  unfold lvsR kidsR
  rfl
theorem zero_find : findD (.int .i64 0) kindsE = none := by kernel_rfl
theorem mayR_none {c : Bool} {most d : Int} {s : List Int} (h : mayR c most d s = none) : c = true ∧ numR most s = none := by
  unfold mayR at h
  cases c with
  | true => exact ⟨rfl, h⟩
  | false => cases h
theorem mayR_some {c : Bool} {most d v : Int} {s r : List Int} (h : mayR c most d s = some (v, r)) : (c = true ∧ numR most s = some (v, r)) ∨ (c = false ∧ v = d ∧ r = s) := by
  unfold mayR at h
  cases c with
  | true => exact .inl ⟨rfl, h⟩
  | false => cases h; exact .inr ⟨rfl, rfl, rfl⟩
theorem mayR_lo {c : Bool} {most d v : Int} {s r : List Int} (hs : bytesOk s) (hd : 0 ≤ d ∧ d ≤ most) (h : mayR c most d s = some (v, r)) : 0 ≤ v ∧ v ≤ most ∧ bytesOk r := by
  rcases mayR_some h with ⟨-, h⟩ | ⟨-, rfl, rfl⟩
  · exact numR_lo hs h
  · exact ⟨hd.1, hd.2, hs⟩
theorem hKids_lo {k a : Int} (h : 0 ≤ a) : 0 ≤ hKids k a := by
  unfold hKids
  repeat' split
  all_goals omega
theorem hKids_at {k a : Int} (h : k ≠ 24) : hKids k a = hKids k 0 := by
  unfold hKids
  simp only [if_neg h]
theorem rnode_spec (all : Int) : ∀ (d : Nat), d ≤ 400 → ∀ (nd : Int), 0 ≤ nd → nd ≤ 20000 → ∀ (s : List Int), bytesOk s → Spec Tryd.prog glob 72 [.box 0 0, .int .i64 d] (RO s all nd) (RdP encT all (nodeR d (nd, s))) := by
  intro d
  induction d with
  | zero =>
    intro _ nd h0 h1 s hs
    rw [nodeR]
    refine Spec.kill ?_
    have hw : IntKind.i64.wrap (nd - 1) = nd - 1 := i64w (by omega) (by omega)
    have p1 := pmust_no [false, decide (0 ≤ nd - 1)] rfl
    unfold RO
    refine Spec.movd globPure (wpD_spec tyOK Tryd.func72 rfl (enters _ _ Tryd.func72 rfl (by decide)) rfl rfl ?_)
    (refine wpD_seqk fun K hK => ?_; refine wpD_region tyOK ?_; ((repeat (rw [wpS_cons]; simp)); (try simp only [wpS_nil, thenD, blockD])); refine hK _ _ _ ?_; clear hK K)
    (refine wpD_seqk fun K hK => ?_; refine wpD_region tyOK ?_; ((repeat (rw [wpS_cons]; simp [hw])); (try simp only [wpS_nil, thenD, blockD])); refine hK _ _ _ ?_; clear hK K)
    (refine wpD_seqk fun K hK => ?_; refine wpD_region tyOK ?_; ((repeat (rw [wpS_cons]; simp)); (try simp only [wpS_nil, thenD, blockD])))
    refine CallX.pure globPure (p1) ?_ (by simp [D.fgts, D.fgt, Bools, pnoneD]) (by simp [D.pures, D.pure, Cp.free, D.pures_map, Bools, pnoneD]) (by simp [Out.pure, D.pure, D.pures, Cp.free, D.pures_map, Bools, pnoneD])
    ((try simp only [wpAft_ret, wpAft_pan, putS, updS, setS]); (repeat (rw [wpS_cons]; simp)); (try simp only [wpS_nil, thenD, blockD]))
    ((try simp only [thenD, blockD]); refine EndQ.pan (.inr ⟨[], by decide, by simp, ?_⟩); simp [Out.mov, movT, movH, movD, D.mov, HO.mov, okM, renM, getW, D.ren, D.rens, D.okN, D.okNs, Cp.ren, Cp.okN, HO.ren, HO.okN, okA, renA, renO, hOf, handed, D.fgt, D.fgts, List.range_succ, List.idxOf_cons, tmOf, Out.fgt, D.fgt, D.fgts])
  | succ d ih =>
  intro hd nd h0 h1 s hs
  refine RdP.of ?_
  obtain ⟨R, hR⟩ : ∃ R, R = nodeR (d + 1) (nd, s) := ⟨_, rfl⟩
  rw [← hR]
  rw [nodeR_u] at hR
  have hw : IntKind.i64.wrap (nd - 1) = nd - 1 := i64w (by omega) (by omega)
  have hdw : IntKind.i64.wrap (((d + 1 : Nat) : Int) - 1) = d := (i64w (by omega) (by omega)).trans (by omega)
  have hdw2 : IntKind.i64.wrap ((d : Int) + 1 - 1) = d := (i64w (by omega) (by omega)).trans (by omega)
  have hdp : (0 : Int) < (d : Int) + 1 := by omega
  unfold RO
  refine Spec.movd globPure (wpD_spec tyOK Tryd.func72 rfl (enters _ _ Tryd.func72 rfl (by decide)) rfl rfl ?_)
  (refine wpD_seqk fun K hK => ?_; refine wpD_region tyOK ?_; ((repeat (rw [wpS_cons]; simp)); (try simp only [wpS_nil, thenD, blockD])); refine hK _ _ _ ?_; clear hK K)
  refine wpD_tokO 1 3 (ty := 27) (ds := [.int .i64 0, .int .i64 0, .int .i64 0, .slice [] .full, .slice [] .full]) rfl ?_
  simp [D.tokd]
  refine wpD_tokO 1 4 (ty := 27) (ds := [.int .i64 0, .int .i64 0, .int .i64 0, .slice [] (.tok 2), .slice [] .full]) rfl ?_
  simp [D.tokd]
  (refine wpD_seqk fun K hK => ?_; refine wpD_region tyOK ?_; ((repeat (rw [wpS_cons]; simp [hw])); (try simp only [wpS_nil, thenD, blockD])); refine hK _ _ _ ?_; clear hK K)
  by_cases hn0 : nd - 1 < 0
  · rw [if_pos hn0] at hR
    subst hR
    have hn1 : ¬ 0 ≤ nd - 1 := by omega
    have hn2 : ¬ 1 ≤ nd := by omega
    have p1 := pmust_no [true, false] rfl
    (refine wpD_seqk fun K hK => ?_; refine wpD_region tyOK ?_; ((repeat (rw [wpS_cons]; simp [hdp, hn1, hn2])); (try simp only [wpS_nil, thenD, blockD])))
    refine CallX.pure globPure (p1) ?_ (by simp [D.fgts, D.fgt, Bools, pnoneD]) (by simp [D.pures, D.pure, Cp.free, D.pures_map, Bools, pnoneD]) (by simp [Out.pure, D.pure, D.pures, Cp.free, D.pures_map, Bools, pnoneD])
    ((try simp only [wpAft_ret, wpAft_pan, putS, updS, setS]); (repeat (rw [wpS_cons]; simp)); (try simp only [wpS_nil, thenD, blockD]))
    ((try simp only [thenD, blockD]); refine EndQ.pan (.inr ⟨[], by decide, by simp, ?_⟩); simp [Out.mov, movT, movH, movD, D.mov, HO.mov, okM, renM, getW, D.ren, D.rens, D.okN, D.okNs, Cp.ren, Cp.okN, HO.ren, HO.okN, okA, renA, renO, hOf, handed, D.fgt, D.fgts, List.range_succ, List.idxOf_cons, tmOf, Out.fgt, D.fgt, D.fgts])
    exact ⟨rfl, rfl⟩
  rw [if_neg hn0] at hR
  have hn1 : 0 ≤ nd - 1 := by omega
  have hn2 : 1 ≤ nd := by omega
  have p1 := pmust_ok [true, true] rfl
  (refine wpD_seqk fun K hK => ?_; refine wpD_region tyOK ?_; ((repeat (rw [wpS_cons]; simp [hdp, hn1, hn2])); (try simp only [wpS_nil, thenD, blockD])))
  refine CallX.pure globPure (p1) ?_ (by simp [D.fgts, D.fgt, Bools]) (by simp [D.pures, D.pure, Cp.free, D.pures_map, Bools]) (by simp [Out.pure, D.pure, D.pures, Cp.free, D.pures_map, Bools])
  ((try simp only [wpAft_ret, wpAft_pan, putS, updS, setS]); (repeat (rw [wpS_cons]; simp)); (try simp only [wpS_nil, thenD, blockD]))
  (refine hK _ _ _ ?_; clear hK K)
  clear p1 hdp hn2
  have c1 := rnumber_spec 24 s hs all (nd - 1)
  unfold RO at c1
  cases q1 : numR 24 s with
  | none =>
    rw [q1] at hR c1
    replace hR : R = none := hR
    subst hR
    unfold withN RdP at c1
    (refine wpD_seqk fun K hK => ?_; refine wpD_region tyOK ?_; ((repeat (rw [wpS_cons]; simp)); (try simp only [wpS_nil, thenD, blockD])))
    refine cXo [0] true (c1) ?_
    (rintro o hc ⟨rfl, rfl⟩; refine ⟨false, ?_⟩; simp [D.ren, D.rens, D.okN, D.okNs, Cp.ren, Cp.okN, HO.ren, HO.okN, okA, renA, renO, hOf, handed, D.fgt, D.fgts, List.range_succ, List.idxOf_cons, Out.ren, told, Out.fgt, upO, updS, setS])
    ((try simp only [thenD, blockD]); refine EndQ.pan (.inr ⟨[], by decide, by simp, ?_⟩); simp [Out.mov, movT, movH, movD, D.mov, HO.mov, okM, renM, getW, D.ren, D.rens, D.okN, D.okNs, Cp.ren, Cp.okN, HO.ren, HO.okN, okA, renA, renO, hOf, handed, D.fgt, D.fgts, List.range_succ, List.idxOf_cons, tmOf, Out.fgt, D.fgt, D.fgts])
    exact ⟨rfl, rfl⟩
  | some p =>
  obtain ⟨kk, s1⟩ := p
  obtain ⟨hk0, hk1, hs1⟩ := numR_lo hs q1
  rw [q1] at hR c1
  dsimp only at hR
  unfold withN RdP intD at c1
  dsimp only at c1
  rw [RO] at c1
  (refine wpD_seqk fun K hK => ?_; refine wpD_region tyOK ?_; ((repeat (rw [wpS_cons]; simp)); (try simp only [wpS_nil, thenD, blockD])))
  refine cXo [0] true (c1) ?_
  (rintro o hc ⟨ho, rfl⟩; refine ⟨true, ?_⟩; rw [show told true o = _ from ho]; clear ho; simp [D.ren, D.rens, D.okN, D.okNs, Cp.ren, Cp.okN, HO.ren, HO.okN, okA, renA, renO, hOf, handed, D.fgt, D.fgts, List.range_succ, List.idxOf_cons, Out.ren, told, Out.fgt, upO, updS, setS])
  ((try simp only [wpAft_ret, wpAft_pan, putS, updS, setS]); (repeat (rw [wpS_cons]; simp)); (try simp only [wpS_nil, thenD, blockD]))
  (refine hK _ _ _ ?_; clear hK K)
  clear c1
  obtain ⟨ka, kb, hkm, hz, hzl⟩ := kmD_split
  have hall := kindsE_all
  by_cases hk : kk < 1
  · rw [if_pos hk] at hR
    subst hR
    obtain rfl : kk = 0 := by omega
    have hf := zero_find
    have p1 := pmust_no [false] rfl
    rw [hkm]
    (refine wpD_seqk fun K hK => ?_; refine wpD_drawk tyOK (by kernel_rfl) (by kernel_rfl) fun KT hKT => ?_; ((repeat (rw [wpT_cons]; simp [hz, hzl, hall, hf])); (try simp only [wpT_nil])))
    (refine hKT _ _ _ _ (by kernel_rfl) ?_; clear hKT KT; (try simp only [thenD, blockD]))
    (refine hK _ _ _ ?_; clear hK K)
    simp only [← hkm]
    (refine wpD_seqk fun K hK => ?_; refine wpD_region tyOK ?_; ((repeat (rw [wpS_cons]; simp)); (try simp only [wpS_nil, thenD, blockD])))
    refine CallX.pure globPure (p1) ?_ (by simp [D.fgts, D.fgt, Bools, pnoneD]) (by simp [D.pures, D.pure, Cp.free, D.pures_map, Bools, pnoneD]) (by simp [Out.pure, D.pure, D.pures, Cp.free, D.pures_map, Bools, pnoneD])
    ((try simp only [wpAft_ret, wpAft_pan, putS, updS, setS]); (repeat (rw [wpS_cons]; simp)); (try simp only [wpS_nil, thenD, blockD]))
    ((try simp only [thenD, blockD]); refine EndQ.pan (.inr ⟨[], by decide, by simp, ?_⟩); simp [Out.mov, movT, movH, movD, D.mov, HO.mov, okM, renM, getW, D.ren, D.rens, D.okN, D.okNs, Cp.ren, Cp.okN, HO.ren, HO.okN, okA, renA, renO, hOf, handed, D.fgt, D.fgts, List.range_succ, List.idxOf_cons, tmOf, Out.fgt, D.fgt, D.fgts])
    exact ⟨rfl, rfl⟩
  rw [if_neg hk] at hR
  have hf := kinds_find (k := kk) (by omega) hk1
  simp only [hasK, hasD] at hf
  rw [hkm]
  (refine wpD_seqk fun K hK => ?_; refine wpD_drawk tyOK (by kernel_rfl) (by kernel_rfl) fun KT hKT => ?_; ((repeat (rw [wpT_cons]; simp [hz, hzl, hall, hf])); (try simp only [wpT_nil])))
  (refine hKT _ _ _ _ (by kernel_rfl) ?_; clear hKT KT; (try simp only [thenD, blockD]))
  (refine hK _ _ _ ?_; clear hK K)
  simp only [← hkm]
  clear hkm hz hzl hf hall
  have p1 := pmust_ok [true] rfl
  (refine wpD_seqk fun K hK => ?_; refine wpD_region tyOK ?_; ((repeat (rw [wpS_cons]; simp)); (try simp only [wpS_nil, thenD, blockD])))
  refine CallX.pure globPure (p1) ?_ (by simp [D.fgts, D.fgt, Bools]) (by simp [D.pures, D.pure, Cp.free, D.pures_map, Bools]) (by simp [Out.pure, D.pure, D.pures, Cp.free, D.pures_map, Bools])
  ((try simp only [wpAft_ret, wpAft_pan, putS, updS, setS]); (repeat (rw [wpS_cons]; simp)); (try simp only [wpS_nil, thenD, blockD]))
  (refine hK _ _ _ ?_; clear hK K)
  --PART2
  cases hm1 : mayR (hNum kk) 1048576 0 s1 with
  | none =>
    rw [hm1] at hR
    replace hR : R = none := hR
    subst hR
    obtain ⟨e1, e2⟩ := mayR_none hm1
    have c := rnumber_spec 1048576 s1 hs1 all (nd - 1)
    rw [e2] at c
    unfold withN RdP RO at c
    refine wpD_seqk fun K1 hK1 => ?_
    (refine wpD_seqk fun K hK => ?_; refine wpD_region tyOK ?_; ((repeat (rw [wpS_cons]; simp [e1])); (try simp only [wpS_nil, thenD, blockD])); refine hK _ _ _ ?_; clear hK K)
    refine wpD_part rfl (fun _ => ?_) (fun h => by simp at h)
    (refine wpD_region tyOK ?_; ((repeat (rw [wpS_cons]; simp)); (try simp only [wpS_nil, thenD, blockD])))
    refine cXo [0] true (c) ?_
    (rintro o hc ⟨rfl, rfl⟩; refine ⟨false, ?_⟩; simp [D.ren, D.rens, D.okN, D.okNs, Cp.ren, Cp.okN, HO.ren, HO.okN, okA, renA, renO, hOf, handed, D.fgt, D.fgts, List.range_succ, List.idxOf_cons, Out.ren, told, Out.fgt, upO, updS, setS])
    ((try simp only [thenD, blockD]); refine EndQ.pan (.inr ⟨[], by decide, by simp, ?_⟩); simp [Out.mov, movT, movH, movD, D.mov, HO.mov, okM, renM, getW, D.ren, D.rens, D.okN, D.okNs, Cp.ren, Cp.okN, HO.ren, HO.okN, okA, renA, renO, hOf, handed, D.fgt, D.fgts, List.range_succ, List.idxOf_cons, tmOf, Out.fgt, D.fgt, D.fgts])
    exact ⟨rfl, rfl⟩
  | some p =>
  obtain ⟨n, s2⟩ := p
  obtain ⟨hn0, hn1, hs2⟩ := mayR_lo hs1 (by omega) hm1
  rw [hm1] at hR
  dsimp only at hR
  refine wpD_seqm globPure [40, 41, 42, 43, 44] (List.replicate 5 .junk) [.cells 98 [.slice (byD s2) .any, .int .i64 all, kmD, .int .i64 (nd - 1)], .cells 27 [.int .i64 kk, .int .i64 n, .int .i64 0, .slice [] (.tok 2), .slice [] (.tok 3)], .tok, .tok, .cells 111 [.bool (hNum kk), .bool (hAt kk), .bool (hOne kk), .bool (hMany kk), kidF kk]] ?_ ?_
  rotate_left
  · intro K hK hK2
    clear hR
    rcases mayR_some hm1 with ⟨e1, e2⟩ | ⟨e1, hv1, hv2⟩
    · have c := rnumber_spec 1048576 s1 hs1 all (nd - 1)
      rw [e2] at c
      unfold withN RdP intD at c
      dsimp only at c
      unfold RO at c
      (refine wpD_seqk fun K hK => ?_; refine wpD_region tyOK ?_; ((repeat (rw [wpS_cons]; simp)); (try simp only [wpS_nil, thenD, blockD])); refine hK _ _ _ ?_; clear hK K)
      refine wpD_part rfl (fun _ => ?_) (fun h => by simp [e1] at h)
      (refine wpD_region tyOK ?_; ((repeat (rw [wpS_cons]; simp)); (try simp only [wpS_nil, thenD, blockD])))
      refine cXo [0] true (c) ?_
      (rintro o hc ⟨ho, rfl⟩; refine ⟨true, ?_⟩; rw [show told true o = _ from ho]; clear ho; simp [D.ren, D.rens, D.okN, D.okNs, Cp.ren, Cp.okN, HO.ren, HO.okN, okA, renA, renO, hOf, handed, D.fgt, D.fgts, List.range_succ, List.idxOf_cons, Out.ren, told, Out.fgt, upO, updS, setS])
      ((try simp only [wpAft_ret, wpAft_pan, putS, updS, setS]); (repeat (rw [wpS_cons]; simp)); (try simp only [wpS_nil, thenD, blockD]))
      refine hK _ ?_
      simp [leT, putAll, List.replicate]
    · subst hv1
      subst hv2
      (refine wpD_seqk fun K hK => ?_; refine wpD_region tyOK ?_; ((repeat (rw [wpS_cons]; simp)); (try simp only [wpS_nil, thenD, blockD])); refine hK _ _ _ ?_; clear hK K)
      refine wpD_part rfl (fun h => by simp [e1] at h) (fun _ => ?_)
      refine wpD_skip (hK _ ?_)
      simp [leT, putAll, List.replicate]
  simp only [putAll, List.replicate, List.set]
  cases hm2 : mayR (hAt kk) 1048576 0 s2 with
  | none =>
    rw [hm2] at hR
    replace hR : R = none := hR
    subst hR
    obtain ⟨e1, e2⟩ := mayR_none hm2
    have c := rnumber_spec 1048576 s2 hs2 all (nd - 1)
    rw [e2] at c
    unfold withN RdP RO at c
    refine wpD_seqk fun K1 hK1 => ?_
    (refine wpD_seqk fun K hK => ?_; refine wpD_region tyOK ?_; ((repeat (rw [wpS_cons]; simp [e1])); (try simp only [wpS_nil, thenD, blockD])); refine hK _ _ _ ?_; clear hK K)
    refine wpD_part rfl (fun _ => ?_) (fun h => by simp at h)
    (refine wpD_region tyOK ?_; ((repeat (rw [wpS_cons]; simp)); (try simp only [wpS_nil, thenD, blockD])))
    refine cXo [0] true (c) ?_
    (rintro o hc ⟨rfl, rfl⟩; refine ⟨false, ?_⟩; simp [D.ren, D.rens, D.okN, D.okNs, Cp.ren, Cp.okN, HO.ren, HO.okN, okA, renA, renO, hOf, handed, D.fgt, D.fgts, List.range_succ, List.idxOf_cons, Out.ren, told, Out.fgt, upO, updS, setS])
    ((try simp only [thenD, blockD]); refine EndQ.pan (.inr ⟨[], by decide, by simp, ?_⟩); simp [Out.mov, movT, movH, movD, D.mov, HO.mov, okM, renM, getW, D.ren, D.rens, D.okN, D.okNs, Cp.ren, Cp.okN, HO.ren, HO.okN, okA, renA, renO, hOf, handed, D.fgt, D.fgts, List.range_succ, List.idxOf_cons, tmOf, Out.fgt, D.fgt, D.fgts])
    exact ⟨rfl, rfl⟩
  | some p =>
  obtain ⟨a, s3⟩ := p
  obtain ⟨ha0, ha1, hs3⟩ := mayR_lo hs2 (by omega) hm2
  rw [hm2] at hR
  dsimp only at hR
  refine wpD_seqm globPure [45, 46, 47, 48, 49] (List.replicate 5 .junk) [.cells 98 [.slice (byD s3) .any, .int .i64 all, kmD, .int .i64 (nd - 1)], .cells 27 [.int .i64 kk, .int .i64 n, .int .i64 a, .slice [] (.tok 2), .slice [] (.tok 3)], .tok, .tok, .cells 111 [.bool (hNum kk), .bool (hAt kk), .bool (hOne kk), .bool (hMany kk), kidF kk]] ?_ ?_
  rotate_left
  · intro K hK hK2
    clear hR
    rcases mayR_some hm2 with ⟨e1, e2⟩ | ⟨e1, hv1, hv2⟩
    · have c := rnumber_spec 1048576 s2 hs2 all (nd - 1)
      rw [e2] at c
      unfold withN RdP intD at c
      dsimp only at c
      unfold RO at c
      (refine wpD_seqk fun K hK => ?_; refine wpD_region tyOK ?_; ((repeat (rw [wpS_cons]; simp)); (try simp only [wpS_nil, thenD, blockD])); refine hK _ _ _ ?_; clear hK K)
      refine wpD_part rfl (fun _ => ?_) (fun h => by simp [e1] at h)
      (refine wpD_region tyOK ?_; ((repeat (rw [wpS_cons]; simp)); (try simp only [wpS_nil, thenD, blockD])))
      refine cXo [0] true (c) ?_
      (rintro o hc ⟨ho, rfl⟩; refine ⟨true, ?_⟩; rw [show told true o = _ from ho]; clear ho; simp [D.ren, D.rens, D.okN, D.okNs, Cp.ren, Cp.okN, HO.ren, HO.okN, okA, renA, renO, hOf, handed, D.fgt, D.fgts, List.range_succ, List.idxOf_cons, Out.ren, told, Out.fgt, upO, updS, setS])
      ((try simp only [wpAft_ret, wpAft_pan, putS, updS, setS]); (repeat (rw [wpS_cons]; simp)); (try simp only [wpS_nil, thenD, blockD]))
      refine hK _ ?_
      simp [leT, putAll, List.replicate]
    · subst hv1
      subst hv2
      (refine wpD_seqk fun K hK => ?_; refine wpD_region tyOK ?_; ((repeat (rw [wpS_cons]; simp)); (try simp only [wpS_nil, thenD, blockD])); refine hK _ _ _ ?_; clear hK K)
      refine wpD_part rfl (fun h => by simp [e1] at h) (fun _ => ?_)
      refine wpD_skip (hK _ ?_)
      simp [leT, putAll, List.replicate]
  simp only [putAll, List.replicate, List.set]
  (refine wpD_seqk fun K hK => ?_; refine wpD_region tyOK ?_; ((repeat (rw [wpS_cons]; simp)); (try simp only [wpS_nil, thenD, blockD])); refine hK _ _ _ ?_; clear hK K)
  refine wpD_seqm globPure [7, 50, 51] [.int .i64 (if kk = 2 then 1 else 0), .junk, .junk] [.cells 98 [.slice (byD s3) .any, .int .i64 all, kmD, .int .i64 (nd - 1)], .cells 27 [.int .i64 kk, .int .i64 n, .int .i64 a, .slice [] (.tok 2), .slice [] (.tok 3)], .tok, .tok, .cells 111 [.bool (hNum kk), .bool (hAt kk), .bool (hOne kk), .bool (hMany kk), kidF kk]] ?_ ?_
  rotate_left
  · intro K hK hK2
    clear hR
    by_cases e1 : kk = 2
    · (refine wpD_seqk fun K hK => ?_; refine wpD_region tyOK ?_; ((repeat (rw [wpS_cons]; simp)); (try simp only [wpS_nil, thenD, blockD])); refine hK _ _ _ ?_; clear hK K)
      refine wpD_part rfl (fun _ => ?_) (fun h => by simp [hOne, e1] at h)
      (refine wpD_region tyOK ?_; ((repeat (rw [wpS_cons]; simp)); (try simp only [wpS_nil, thenD, blockD])))
      refine hK _ ?_
      simp [leT, putAll, List.replicate, e1]
    · (refine wpD_seqk fun K hK => ?_; refine wpD_region tyOK ?_; ((repeat (rw [wpS_cons]; simp)); (try simp only [wpS_nil, thenD, blockD])); refine hK _ _ _ ?_; clear hK K)
      refine wpD_part rfl (fun h => by simp [hOne, e1] at h) (fun _ => ?_)
      refine wpD_skip (hK _ ?_)
      simp [leT, putAll, List.replicate, e1]
  simp only [putAll, List.replicate, List.set]
  cases hm4 : mayR (hMany kk) 10 (if kk = 2 then 1 else 0) s3 with
  | none =>
    rw [hm4] at hR
    replace hR : R = none := hR
    subst hR
    obtain ⟨e1, e2⟩ := mayR_none hm4
    have c := rnumber_spec 10 s3 hs3 all (nd - 1)
    rw [e2] at c
    unfold withN RdP RO at c
    refine wpD_seqk fun K1 hK1 => ?_
    (refine wpD_seqk fun K hK => ?_; refine wpD_region tyOK ?_; ((repeat (rw [wpS_cons]; simp [e1])); (try simp only [wpS_nil, thenD, blockD])); refine hK _ _ _ ?_; clear hK K)
    refine wpD_part rfl (fun _ => ?_) (fun h => by simp at h)
    (refine wpD_region tyOK ?_; ((repeat (rw [wpS_cons]; simp)); (try simp only [wpS_nil, thenD, blockD])))
    refine cXo [0] true (c) ?_
    (rintro o hc ⟨rfl, rfl⟩; refine ⟨false, ?_⟩; simp [D.ren, D.rens, D.okN, D.okNs, Cp.ren, Cp.okN, HO.ren, HO.okN, okA, renA, renO, hOf, handed, D.fgt, D.fgts, List.range_succ, List.idxOf_cons, Out.ren, told, Out.fgt, upO, updS, setS])
    ((try simp only [thenD, blockD]); refine EndQ.pan (.inr ⟨[], by decide, by simp, ?_⟩); simp [Out.mov, movT, movH, movD, D.mov, HO.mov, okM, renM, getW, D.ren, D.rens, D.okN, D.okNs, Cp.ren, Cp.okN, HO.ren, HO.okN, okA, renA, renO, hOf, handed, D.fgt, D.fgts, List.range_succ, List.idxOf_cons, tmOf, Out.fgt, D.fgt, D.fgts])
    exact ⟨rfl, rfl⟩
  | some p =>
  obtain ⟨q, s4⟩ := p
  obtain ⟨hq0, hq1, hs4⟩ := mayR_lo hs3 (by split <;> omega) hm4
  rw [hm4] at hR
  dsimp only at hR
  refine wpD_seqm globPure [7, 52, 53, 54, 55] [.int .i64 q, .junk, .junk, .junk, .junk] [.cells 98 [.slice (byD s4) .any, .int .i64 all, kmD, .int .i64 (nd - 1)], .cells 27 [.int .i64 kk, .int .i64 n, .int .i64 a, .slice [] (.tok 2), .slice [] (.tok 3)], .tok, .tok, .cells 111 [.bool (hNum kk), .bool (hAt kk), .bool (hOne kk), .bool (hMany kk), kidF kk]] ?_ ?_
  rotate_left
  · intro K hK hK2
    clear hR
    rcases mayR_some hm4 with ⟨e1, e2⟩ | ⟨e1, hv1, hv2⟩
    · have c := rnumber_spec 10 s3 hs3 all (nd - 1)
      rw [e2] at c
      unfold withN RdP intD at c
      dsimp only at c
      unfold RO at c
      (refine wpD_seqk fun K hK => ?_; refine wpD_region tyOK ?_; ((repeat (rw [wpS_cons]; simp)); (try simp only [wpS_nil, thenD, blockD])); refine hK _ _ _ ?_; clear hK K)
      refine wpD_part rfl (fun _ => ?_) (fun h => by simp [e1] at h)
      (refine wpD_region tyOK ?_; ((repeat (rw [wpS_cons]; simp)); (try simp only [wpS_nil, thenD, blockD])))
      refine cXo [0] true (c) ?_
      (rintro o hc ⟨ho, rfl⟩; refine ⟨true, ?_⟩; rw [show told true o = _ from ho]; clear ho; simp [D.ren, D.rens, D.okN, D.okNs, Cp.ren, Cp.okN, HO.ren, HO.okN, okA, renA, renO, hOf, handed, D.fgt, D.fgts, List.range_succ, List.idxOf_cons, Out.ren, told, Out.fgt, upO, updS, setS])
      ((try simp only [wpAft_ret, wpAft_pan, putS, updS, setS]); (repeat (rw [wpS_cons]; simp)); (try simp only [wpS_nil, thenD, blockD]))
      refine hK _ ?_
      simp [leT, putAll, List.replicate]
    · subst hv1
      subst hv2
      (refine wpD_seqk fun K hK => ?_; refine wpD_region tyOK ?_; ((repeat (rw [wpS_cons]; simp)); (try simp only [wpS_nil, thenD, blockD])); refine hK _ _ _ ?_; clear hK K)
      refine wpD_part rfl (fun h => by simp [e1] at h) (fun _ => ?_)
      refine wpD_skip (hK _ ?_)
      simp [leT, putAll, List.replicate]
  simp only [putAll, List.replicate, List.set]
  obtain ⟨m1, rfl⟩ : ∃ m1 : Nat, q = m1 := ⟨q.toNat, by omega⟩
  simp only [Int.toNat_natCast] at hR
  clear hm1 hm2 hm4
  have hb0 : IntKind.i64.wrap (m1 : Int) = m1 := i64w (by omega) (by omega)
  refine wpD_seqk fun K1 hK1 => ?_
  (refine wpD_seqk fun K hK => ?_; refine wpD_region tyOK ?_; ((repeat (rw [wpS_cons]; simp)); (try simp only [wpS_nil, thenD, blockD])); refine hK _ _ _ ?_; clear hK K)
  refine wpD_rangeJ tyOK globPure (ti := 3) (tk := 57) (tn := 56) (td := 58) (ts := 66) [57, 58, 59, 60, 61, 62, 63, 64, 65, 66] [] (m1) (fun k ys hl => ∃ (acc : List LV) (s' : List Int), ys = [] ∧ acc.length = k ∧ bytesOk s' ∧ R = lvsR d kk n a (nd - 1) (appR acc (timesR levelR (m1 - k) s')) ∧ hl = [.cells 98 [.slice (byD s') .any, .int .i64 all, kmD, .int .i64 (nd - 1)], .cells 27 [.int .i64 kk, .int .i64 n, .int .i64 a, .slice (acc.map encL) (.tok 2), .slice [] (.tok 3)], .tok, .tok, .cells 111 [.bool (hNum kk), .bool (hAt kk), .bool (hOne kk), .bool (hMany kk), kidF kk]]) rfl rfl rfl rfl rfl rfl rfl rfl rfl rfl rfl rfl (by simp) (by decide) rfl (by first | assumption | omega | (unfold LMax; omega)) rfl (by kernel_rfl) (by decide) ?_ ?_ ?_
  · exact ⟨[], s4, rfl, rfl, hs4, by rw [appR_nil]; exact hR, rfl⟩
  · rintro i ys hl A hi ⟨acc, s', rfl, hal, hs', hF, rfl⟩ hA hA2
    simp only [putAll, List.set, List.map_cons, List.map_nil, List.cons_append, List.nil_append]
    rw [show m1 - i = (m1 - (i + 1)) + 1 by omega] at hF
    have hi' : (i : Int) < m1 := by omega
    have hel : acc.length + 1 ≤ LMax := by unfold LMax; omega
    have c1 := rlevel_spec s' hs' all (nd - 1)
    unfold RO at c1
    cases hn1 : levelR s' with
    | none =>
      rw [appR_none hn1] at hF
      replace hF : R = none := hF
      subst hF
      rw [hn1] at c1
      unfold withN RdP at c1
      (refine wpD_drawk tyOK (by kernel_rfl) (by kernel_rfl) fun KT hKT => ?_; ((repeat (rw [wpT_cons]; simp)); (try simp only [wpT_nil])))
      refine cYo [0] true false (c1) (fun o h e => e) ?_; simp [D.ren, D.rens, D.okN, D.okNs, Cp.ren, Cp.okN, HO.ren, HO.okN, okA, renA, renO, hOf, handed, D.fgt, D.fgts, List.range_succ, List.idxOf_cons, Out.ren, upO, renO, rdO]
      (try simp only [wpAftT_ret, wpAftT_pan, putS, updS, setS])
      ((try simp only [wpAftT_ret, wpAftT_pan, putS, updS, setS]); (repeat (refine wpT_late _ _ _ _ (by kernel_rfl) ?_; simp only [putS, List.set, List.nil_append, List.cons_append, Nat.reduceAdd])); (try simp only [wpT_nil]))
      (refine hKT _ _ _ _ (by kernel_rfl) ?_; clear hKT KT; (try simp only [thenD, blockD]))
      simp [killHl]
      ((try simp only [thenD, blockD]); refine EndQ.pan (.inr ⟨[], by decide, by simp, ?_⟩); simp [Out.mov, movT, movH, movD, D.mov, HO.mov, okM, renM, getW, D.ren, D.rens, D.okN, D.okNs, Cp.ren, Cp.okN, HO.ren, HO.okN, okA, renA, renO, hOf, handed, D.fgt, D.fgts, List.range_succ, List.idxOf_cons, tmOf, Out.fgt, D.fgt, D.fgts])
      exact ⟨rfl, rfl⟩
    | some p =>
      obtain ⟨l, s2'⟩ := p
      have hs2' := levelR_ok hs' hn1
      rw [appR_some hn1] at hF
      rw [hn1] at c1
      unfold withN RdP at c1
      dsimp only at c1
      rw [RO, encL_eq] at c1
      (refine wpD_drawk tyOK (by kernel_rfl) (by kernel_rfl) fun KT hKT => ?_; ((repeat (rw [wpT_cons]; simp)); (try simp only [wpT_nil])))
      refine cYo [0] true true (c1) (fun o h e => e) ?_; simp [D.ren, D.rens, D.okN, D.okNs, Cp.ren, Cp.okN, HO.ren, HO.okN, okA, renA, renO, hOf, handed, D.fgt, D.fgts, List.range_succ, List.idxOf_cons, Out.ren, upO, renO, rdO]
      ((try simp only [wpAftT_ret, wpAftT_pan, putS, updS, setS]); (repeat (rw [wpT_cons]; simp [hel])); (try simp only [wpT_nil]))
      (refine hKT _ _ _ _ (by kernel_rfl) ?_; clear hKT KT; (try simp only [thenD, blockD]))
      (refine hA2 ([1, 5, 3, 4]) _ _ _ (LeT.refl _) (by decide) (by simp) (by simp [movT, movH, movD, D.mov, HO.mov, okM, renM, getW, D.ren, D.rens, D.okN, D.okNs, Cp.ren, Cp.okN, HO.ren, HO.okN, okA, renA, renO, hOf, handed, D.fgt, D.fgts, List.range_succ, List.idxOf_cons, putAll]) ?_ rfl; simp [movT, movH, movD, D.mov, HO.mov, okM, renM, getW, D.ren, D.rens, D.okN, D.okNs, Cp.ren, Cp.okN, HO.ren, HO.okN, okA, renA, renO, hOf, handed, D.fgt, D.fgts, List.range_succ, List.idxOf_cons])
      refine ⟨acc ++ [l], by simp [hal], s2', hs2', hF, rfl, ?_⟩
      rw [show List.map encL acc ++ [D.agg [.slice (l.map encP) .any]] = (acc ++ [l]).map encL by simp [encL]]
      exact mapL_ren _ _
  rintro ys hl' tl' ⟨ls, s5, rfl, hal, hs5, hF, rfl⟩ htl
  rw [Nat.sub_self, appR_end] at hF
  refine hK1 _ _ _ (wpD_weakL htl ?_)
  simp only [putAll, List.set, List.map_cons, List.map_nil, List.cons_append, List.nil_append]
  clear hK1 K1 hR
  obtain ⟨m2, hm2⟩ : ∃ m2 : Nat, hKids kk a = m2 := ⟨(hKids kk a).toNat, by have := hKids_lo (k := kk) ha0; omega⟩
  have hm2l : m2 ≤ 1048578 := by have := hKids_le (k := kk) (a := a) ⟨ha0, ha1⟩; omega
  replace hF : R = kidsR kk n a ls (timesR (nodeR d) m2 (nd - 1, s5)) := by
    rw [hF]
    unfold lvsR
    dsimp only
    rw [hm2]
    rfl
  refine wpD_seqk fun K1 hK1 => ?_
  refine wpD_seqm globPure [5, 67, 68, 69, 70, 71, 72] [.junk, .junk, .junk, .junk, .junk, .int .i64 m2, .int .i64 0] [.cells 98 [.slice (byD s5) .any, .int .i64 all, kmD, .int .i64 (nd - 1)], .cells 27 [.int .i64 kk, .int .i64 n, .int .i64 a, .slice (ls.map encL) (.tok 2), .slice [] (.tok 3)], .tok, .tok] ?_ ?_
  rotate_left
  · intro K hK hK2
    by_cases h24 : kk = 24
    · have e : kidF kk = .fn (.func 77) [] [] := by unfold kidF; rw [if_pos h24]; rfl
      have c := k1_spec a
      rw [show IntKind.i64.wrap (a + 2) = (m2 : Int) by rw [i64w (by omega) (by omega), ← hm2, h24]; rfl] at c
      (refine wpD_region tyOK ?_; ((repeat (rw [wpS_cons]; simp [e])); (try simp only [wpS_nil, thenD, blockD])))
      refine cXp (c) ?_
      ((try simp only [wpAft_ret, wpAft_pan, putS, updS, setS]); (repeat (rw [wpS_cons]; simp)); (try simp only [wpS_nil, thenD, blockD]))
      refine hK2 [1, 2, 3] _ _ (by decide) (by simp) ?_ ?_
      · simp [leT, putAll, movT, movH, movD, D.mov, HO.mov, okM, renM, getW, D.ren, D.rens, D.okN, D.okNs, Cp.ren, Cp.okN, HO.ren, HO.okN, okA, renA, renO, hOf, handed, D.fgt, D.fgts, List.range_succ, List.idxOf_cons, List.replicate, e]
      · simp [movT, movH, movD, D.mov, HO.mov, okM, renM, getW, D.ren, D.rens, D.okN, D.okNs, Cp.ren, Cp.okN, HO.ren, HO.okN, okA, renA, renO, hOf, handed, D.fgt, D.fgts, List.range_succ, List.idxOf_cons]
    · have e : kidF kk = .fn (.func 86) [] [.ref (.int .i64 (m2 : Int))] := by unfold kidF soF; rw [if_neg h24, ← hm2, hKids_at (a := a) h24]
      have c := so1_spec (m2 : Int) a
      (refine wpD_region tyOK ?_; ((repeat (rw [wpS_cons]; simp [e])); (try simp only [wpS_nil, thenD, blockD])))
      refine cXp (c) ?_
      ((try simp only [wpAft_ret, wpAft_pan, putS, updS, setS]); (repeat (rw [wpS_cons]; simp)); (try simp only [wpS_nil, thenD, blockD]))
      refine hK2 [1, 2, 3] _ _ (by decide) (by simp) ?_ ?_
      · simp [leT, putAll, movT, movH, movD, D.mov, HO.mov, okM, renM, getW, D.ren, D.rens, D.okN, D.okNs, Cp.ren, Cp.okN, HO.ren, HO.okN, okA, renA, renO, hOf, handed, D.fgt, D.fgts, List.range_succ, List.idxOf_cons, List.replicate, e]
      · simp [movT, movH, movD, D.mov, HO.mov, okM, renM, getW, D.ren, D.rens, D.okN, D.okNs, Cp.ren, Cp.okN, HO.ren, HO.okN, okA, renA, renO, hOf, handed, D.fgt, D.fgts, List.range_succ, List.idxOf_cons]
  simp only [putAll, List.replicate, List.set]
  have hb2 : IntKind.i64.wrap (m2 : Int) = m2 := i64w (by omega) (by omega)
  clear hm2
  have hdw3 : IntKind.i64.wrap (d : Int) = d := i64w (by omega) (by omega)
  refine wpD_rangeJ tyOK globPure (ti := 3) (tk := 72) (tn := 71) (td := 73) (ts := 83) [72, 73, 74, 75, 76, 77, 78, 79, 80, 81, 82, 83] [] (m2) (fun k ys hl => ∃ (acc : List T) (nd' : Int) (s' : List Int), ys = [] ∧ acc.length = k ∧ bytesOk s' ∧ (0 ≤ nd' ∧ nd' ≤ 20000) ∧ R = kidsR kk n a ls (appR acc (timesR (nodeR d) (m2 - k) (nd', s'))) ∧ hl = [.cells 98 [.slice (byD s') .any, .int .i64 all, kmD, .int .i64 nd'], .cells 27 [.int .i64 kk, .int .i64 n, .int .i64 a, .slice (ls.map encL) (.tok 2), .slice (acc.map encT) (.tok 3)], .tok, .tok]) rfl rfl rfl rfl rfl rfl rfl rfl rfl rfl rfl rfl (by simp) (by decide) rfl (by first | assumption | omega | (unfold LMax; omega)) rfl (by kernel_rfl) (by decide) ?_ ?_ ?_
  · exact ⟨[], nd - 1, s5, rfl, rfl, hs5, ⟨by omega, by omega⟩, by rw [appR_nil]; exact hF, rfl⟩
  · rintro i ys hl A hi ⟨acc, nd', s', rfl, hac, hs', ⟨hnd0, hnd1⟩, hF, rfl⟩ hA hA2
    simp only [putAll, List.set, List.map_cons, List.map_nil, List.cons_append, List.nil_append]
    rw [show m2 - i = (m2 - (i + 1)) + 1 by omega] at hF
    have hi' : (i : Int) < m2 := by omega
    have hel : acc.length + 1 ≤ LMax := by unfold LMax; omega
    have c1 := ih (by omega) nd' hnd0 hnd1 s' hs'
    unfold RO at c1
    cases hn1 : nodeR d (nd', s') with
    | none =>
      rw [appR_none hn1] at hF
      replace hF : R = none := hF
      subst hF
      rw [hn1] at c1
      unfold RdP at c1
      (refine wpD_drawk tyOK (by kernel_rfl) (by kernel_rfl) fun KT hKT => ?_; ((repeat (rw [wpT_cons]; simp [hdw, hdw2, hdw3])); (try simp only [wpT_nil])))
      refine cYo [0] true false (c1) (fun o h e => e) ?_; simp [D.ren, D.rens, D.okN, D.okNs, Cp.ren, Cp.okN, HO.ren, HO.okN, okA, renA, renO, hOf, handed, D.fgt, D.fgts, List.range_succ, List.idxOf_cons, Out.ren, upO, renO, rdO]
      (try simp only [wpAftT_ret, wpAftT_pan, putS, updS, setS])
      ((try simp only [wpAftT_ret, wpAftT_pan, putS, updS, setS]); (repeat (refine wpT_late _ _ _ _ (by kernel_rfl) ?_; simp only [putS, List.set, List.nil_append, List.cons_append, Nat.reduceAdd])); (try simp only [wpT_nil]))
      (refine hKT _ _ _ _ (by kernel_rfl) ?_; clear hKT KT; (try simp only [thenD, blockD]))
      simp [killHl]
      ((try simp only [thenD, blockD]); refine EndQ.pan (.inr ⟨[], by decide, by simp, ?_⟩); simp [Out.mov, movT, movH, movD, D.mov, HO.mov, okM, renM, getW, D.ren, D.rens, D.okN, D.okNs, Cp.ren, Cp.okN, HO.ren, HO.okN, okA, renA, renO, hOf, handed, D.fgt, D.fgts, List.range_succ, List.idxOf_cons, tmOf, Out.fgt, D.fgt, D.fgts])
      exact ⟨rfl, rfl⟩
    | some p =>
      obtain ⟨x, nd2, s2'⟩ := p
      have hs2' := nodeR_ok hs' hn1
      obtain ⟨hq0, hq1⟩ := nodeR_nd d (nd', s') x (nd2, s2') hnd0 hn1
      dsimp only at hq0 hq1
      rw [appR_some hn1] at hF
      rw [hn1] at c1
      unfold RdP at c1
      dsimp only at c1
      rw [RO, encT_eq] at c1
      (refine wpD_drawk tyOK (by kernel_rfl) (by kernel_rfl) fun KT hKT => ?_; ((repeat (rw [wpT_cons]; simp [hdw, hdw2, hdw3])); (try simp only [wpT_nil])))
      refine cYo [0] true true (c1) (fun o h e => e) ?_; simp [D.ren, D.rens, D.okN, D.okNs, Cp.ren, Cp.okN, HO.ren, HO.okN, okA, renA, renO, hOf, handed, D.fgt, D.fgts, List.range_succ, List.idxOf_cons, Out.ren, upO, renO, rdO]
      ((try simp only [wpAftT_ret, wpAftT_pan, putS, updS, setS]); (repeat (rw [wpT_cons]; simp [hel])); (try simp only [wpT_nil]))
      (refine hKT _ _ _ _ (by kernel_rfl) ?_; clear hKT KT; (try simp only [thenD, blockD]))
      (refine hA2 ([1, 2, 4]) _ _ _ (LeT.refl _) (by decide) (by simp) (by simp [movT, movH, movD, D.mov, HO.mov, okM, renM, getW, D.ren, D.rens, D.okN, D.okNs, Cp.ren, Cp.okN, HO.ren, HO.okN, okA, renA, renO, hOf, handed, D.fgt, D.fgts, List.range_succ, List.idxOf_cons, putAll]) ?_ rfl; simp [movT, movH, movD, D.mov, HO.mov, okM, renM, getW, D.ren, D.rens, D.okN, D.okNs, Cp.ren, Cp.okN, HO.ren, HO.okN, okA, renA, renO, hOf, handed, D.fgt, D.fgts, List.range_succ, List.idxOf_cons])
      refine ⟨acc ++ [x], by simp [hac], nd2, s2', hs2', ⟨hq0, by omega⟩, hF, ⟨rfl, rfl⟩, ?_⟩
      have e := encT_eq x
      rw [show List.map encT acc ++ [D.agg [.int .i64 x.k, .int .i64 x.n, .int .i64 x.a, .slice (x.ls.map encL) .any, .slice (x.ks.map encT) .any]] = (acc ++ [x]).map encT by rw [← e]; simp]
      exact mapT_ren _ _
  rintro ys hl' tl' ⟨acc, nd', s', rfl, hac, hs', hndq, hF, rfl⟩ htl
  rw [Nat.sub_self, appR_end] at hF
  replace hF : R = some (.mk kk n a ls acc, (nd', s')) := hF
  subst hF
  refine hK1 _ _ _ (wpD_weakL htl ?_)
  clear hK1 K1
  simp only [putAll, List.set, List.map_cons, List.map_nil, List.cons_append, List.nil_append]
  refine wpD_fgtO 1 (ty := 27) (ds := [.int .i64 kk, .int .i64 n, .int .i64 a, .slice (ls.map encL) (.tok 2), .slice (acc.map encT) (.tok 3)]) rfl ?_
  simp [D.fgts, D.fgt]
  (refine wpD_seqk fun K hK => ?_; refine wpD_region tyOK ?_; ((repeat (rw [wpS_cons]; simp)); (try simp only [wpS_nil, thenD, blockD])); refine hK _ _ _ ?_; clear hK K)
  (refine wpD_ret ?_; (try simp only [thenD, blockD]); refine EndQ.ret rfl (.inr ⟨[], by decide, by simp, ?_⟩); simp [Out.mov, movT, movH, movD, D.mov, HO.mov, okM, renM, getW, D.ren, D.rens, D.okN, D.okNs, Cp.ren, Cp.okN, HO.ren, HO.okN, okA, renA, renO, hOf, handed, D.fgt, D.fgts, List.range_succ, List.idxOf_cons, tmOf, Out.fgt, D.fgt, D.fgts])
  refine ⟨?_, rfl⟩
  rw [encT_eq]
  rfl
end Go.Proofs.YtgloldepdhgfaaaDoor
namespace Go.Proofs.YtgloldepdhgfaaaDoor
set_option linter.unusedSimpArgs false
set_option linter.unusedVariables false
set_option linter.unusedSimpArgs false
set_option linter.unusedVariables false
set_option maxHeartbeats 10000000
set_option maxRecDepth 20000
open Go.RowKit
attribute [local simp] wpAft_ret wpAft_pan wantD evOp opD tmOf putS updS setS hOf isFree isTok fillD TK.isAgg TK.known partD thenD blockD putAll D.ofV inB nilTest isNilS binX binD binE isCst bndD capB IntKind.min IntKind.max IntKind.signed IntKind.bits dstOf late
theorem wrow_spec (l : List T) (hlm : l.length ≤ LMax) (hsm : (l.length : Int) ≤ 1048576) (hl : ∀ t, t ∈ l → PackT t) (B : List Int) (hB : (B ++ rowB l).length ≤ LMax) : Spec Tryd.prog glob 56 [.box 0 0, Ts l] (WO B) (fun o hc => o = .ret (.tuple []) ∧ hc = WP (B ++ rowB l)) := by
  have c0 := wput_spec [(l.length : Int)] (by simp) (by intro n hn; rw [List.mem_singleton.1 hn]; exact ⟨by omega, by omega⟩) B (Nat.le_trans (by unfold rowB numI; simp) hB)
  have e0 : ([(l.length : Int)].flatMap numI) = numB l.length := by unfold numI; simp
  rw [e0] at c0
  unfold Ints at c0
  unfold WO WP at c0
  unfold WO WP Ts
  refine Spec.movd globPure (wpD_spec tyOK Tryd.func56 rfl (enters _ _ Tryd.func56 rfl (by decide)) rfl rfl ?_)
  (refine wpD_seqk fun K hK => ?_; refine wpD_region tyOK ?_; ((repeat (rw [wpS_cons]; simp)); (try simp only [wpS_nil, thenD, blockD])))
  refine cXo [0, 1] true (c0) ?_
  (rintro o hc ⟨rfl, rfl⟩; refine ⟨false, ?_⟩; simp [D.ren, D.rens, D.okN, D.okNs, Cp.ren, Cp.okN, HO.ren, HO.okN, okA, renA, renO, hOf, handed, D.fgt, D.fgts, List.range_succ, List.idxOf_cons, Out.ren, told, Out.fgt, upO, updS, setS])
  (refine hK _ _ _ ?_; clear hK K)
  have hb0 : IntKind.i64.wrap (l.length : Int) = l.length := i64w (by omega) (by omega)
  (refine wpD_seqk fun K hK => ?_; refine wpD_region tyOK ?_; ((repeat (rw [wpS_cons]; simp)); (try simp only [wpS_nil, thenD, blockD])); refine hK _ _ _ ?_; clear hK K)
  refine wpD_rangeJ tyOK globPure (ti := 3) (tk := 13) (tn := 12) (td := 14) (ts := 20) [5, 13, 14, 15, 16, 17, 18, 19, 20] [] (l.length) (fun k ys hl => ys = [] ∧ hl = [.cells 103 [.own 2 (B ++ numB l.length ++ (l.take k).flatMap termB).length, kmD], .dead, .row 1 (byD (B ++ numB l.length ++ (l.take k).flatMap termB))]) rfl rfl rfl rfl rfl rfl rfl rfl rfl rfl rfl rfl (by simp) (by decide) rfl (by first | assumption | omega | (unfold LMax; omega)) rfl (by kernel_rfl) (by decide) ?_ ?_ ?_
  · exact ⟨rfl, by simp⟩
  · rintro i ys hl' A hi ⟨rfl, rfl⟩ hA hA2
    simp only [putAll, List.set, List.map_cons, List.map_nil, List.cons_append, List.nil_append]
    have hi' : (i : Int) < l.length := by omega
    obtain ⟨v, hv⟩ : ∃ v, l[i] = v := ⟨_, rfl⟩
    have hvm : v ∈ l := by rw [← hv]; exact List.getElem_mem hi
    obtain ⟨B0, hB0⟩ : ∃ B0, B0 = B ++ numB l.length ++ (l.take i).flatMap termB := ⟨_, rfl⟩
    rw [← hB0]
    have hBl : (B0 ++ termB v).length ≤ LMax := by
      refine Nat.le_trans ?_ hB
      have e : l.flatMap termB = (l.take i).flatMap termB ++ (termB v ++ (l.drop (i + 1)).flatMap termB) := by
        conv => lhs; rw [← List.take_append_drop i l, List.flatMap_append, List.drop_eq_getElem_cons hi, List.flatMap_cons, hv]
      unfold rowB
      rw [e, hB0]
      simp only [List.length_append]
      omega
    have c1 := wterm_spec (hl v hvm) B0 hBl
    have hEv := encT_eq v
    rw [hEv] at c1
    unfold WO WP at c1
    (refine wpD_seqk fun K hK => ?_; refine wpD_region tyOK ?_; ((repeat (rw [wpS_cons]; simp [hi, hi', hv, hEv])); (try simp only [wpS_nil, thenD, blockD])); refine hK _ _ _ ?_; clear hK K)
    (refine wpD_region tyOK ?_; ((repeat (rw [wpS_cons]; simp)); (try simp only [wpS_nil, thenD, blockD])))
    refine cXo [0, 2] true (c1) ?_
    (rintro o hc ⟨rfl, rfl⟩; refine ⟨false, ?_⟩; simp [D.ren, D.rens, D.okN, D.okNs, Cp.ren, Cp.okN, HO.ren, HO.okN, okA, renA, renO, hOf, handed, D.fgt, D.fgts, List.range_succ, List.idxOf_cons, Out.ren, told, Out.fgt, upO, updS, setS])
    (refine hA2 ([4]) _ _ _ (LeT.refl _) (by decide) (by simp) (by simp [movT, movH, movD, D.mov, HO.mov, okM, renM, getW, D.ren, D.rens, D.okN, D.okNs, Cp.ren, Cp.okN, HO.ren, HO.okN, okA, renA, renO, hOf, handed, D.fgt, D.fgts, List.range_succ, List.idxOf_cons, putAll]) ?_ rfl; simp [movT, movH, movD, D.mov, HO.mov, okM, renM, getW, D.ren, D.rens, D.okN, D.okNs, Cp.ren, Cp.okN, HO.ren, HO.okN, okA, renA, renO, hOf, handed, D.fgt, D.fgts, List.range_succ, List.idxOf_cons])
    have e : B ++ numB l.length ++ (l.take (i + 1)).flatMap termB = B0 ++ termB v := by
      rw [List.take_succ_eq_append_getElem hi, List.flatMap_append, ← List.append_assoc, ← hB0, hv, List.flatMap_singleton]
    rw [List.append_assoc] at e
    refine ⟨?_, by rw [e]⟩
    have e2 := congrArg List.length e
    rw [List.length_append, List.length_append, List.length_append, List.length_flatMap] at e2
    rw [← List.map_take]
    exact e2.symm
  · rintro ys hl' tl' ⟨rfl, rfl⟩ htl
    rw [List.take_length]
    ((try simp only [thenD, blockD]); refine EndQ.nrm rfl (.inl ?_); simp [tmOf, Out.fgt, D.fgt, D.fgts])
    unfold rowB
    refine ⟨?_, rfl⟩
    rw [List.length_append, List.length_flatMap]
end Go.Proofs.YtgloldepdhgfaaaDoor
namespace Go.Proofs.YtgloldepdhgfaaaDoor
set_option linter.unusedSimpArgs false
set_option linter.unusedVariables false
set_option linter.unusedSimpArgs false
set_option linter.unusedVariables false
set_option maxHeartbeats 10000000
set_option maxRecDepth 20000
open Go.RowKit
attribute [local simp] wpAft_ret wpAft_pan wantD evOp opD tmOf putS updS setS hOf isFree isTok fillD TK.isAgg TK.known partD thenD blockD putAll D.ofV inB nilTest isNilS binX binD binE isCst bndD capB IntKind.min IntKind.max IntKind.signed IntKind.bits dstOf late
/-- nothing; or that something is not right -/
def pkOut (b : Bool) : Out := if b then .ret (.tuple []) else .pan pnoneD
theorem pterms_spec (most : Int) (l : List T) (hlm : l.length ≤ LMax) (hl : ∀ t, t ∈ l → okT t) : Spec Tryd.prog glob 30 [.int .i64 most, Ts l] [] (fun o _ => o.fgt = pkOut (termsOk most l)) := by
  obtain ⟨R, hR⟩ : ∃ R, R = termsOk most l := ⟨_, rfl⟩
  rw [← hR]
  unfold termsOk at hR
  unfold Ts
  refine Spec.movd globPure (wpD_spec tyOK Tryd.func30 rfl (enters _ _ Tryd.func30 rfl (by decide)) rfl rfl ?_)
  by_cases hm : (l.length : Int) ≤ most
  · (refine wpD_seqk fun K hK => ?_; refine wpD_region tyOK ?_; ((repeat (rw [wpS_cons]; simp [hm])); (try simp only [wpS_nil, thenD, blockD])))
    refine CallX.pure globPure (pmust_ok [true] rfl) ?_ (by simp [D.fgts, D.fgt, Bools]) (by simp [D.pures, D.pure, Cp.free, D.pures_map, Bools]) (by simp [Out.pure, D.pure, D.pures, Cp.free, D.pures_map, Bools])
    ((try simp only [wpAft_ret, wpAft_pan, putS, updS, setS]); (repeat (rw [wpS_cons]; simp)); (try simp only [wpS_nil, thenD, blockD]))
    (refine hK _ _ _ ?_; clear hK K)
    rw [decide_eq_true hm, Bool.true_and] at hR
    (refine wpD_seqk fun K hK => ?_; refine wpD_region tyOK ?_; ((repeat (rw [wpS_cons]; simp)); (try simp only [wpS_nil, thenD, blockD])); refine hK _ _ _ ?_; clear hK K)
    refine wpD_rangeJ tyOK globPure (ti := 3) (tk := 14) (tn := 13) (td := 15) (ts := 22) [5, 14, 15, 16, 17, 18, 19, 20, 21, 22] [] (l.length) (fun k ys hl => ys = [] ∧ R = ((l.drop k).all T.right) ∧ hl = []) rfl rfl rfl rfl rfl rfl rfl rfl rfl rfl rfl rfl (by simp) (by decide) rfl (by first | assumption | omega | (unfold LMax; omega)) rfl (by kernel_rfl) (by decide) ?_ ?_ ?_
    · exact ⟨rfl, hR, rfl⟩
    · rintro i ys hl A hi ⟨rfl, hF, rfl⟩ hA hA2
      simp only [putAll, List.set, List.map_cons, List.map_nil, List.cons_append, List.nil_append]
      have hi' : (i : Int) < l.length := by omega
      rw [List.drop_eq_getElem_cons hi, List.all_cons] at hF
      obtain ⟨x, hx⟩ : ∃ x, l[i] = x := ⟨_, rfl⟩
      have hlr := right_spec x (hl _ (by rw [← hx]; exact List.getElem_mem hi))
      have hEx := encT_eq x
      rw [hx] at hF
      rw [hEx] at hlr
      generalize x.right = B at hF hlr
      (refine wpD_seqk fun K hK => ?_; refine wpD_region tyOK ?_; ((repeat (rw [wpS_cons]; simp [hi, hi', hx, hEx])); (try simp only [wpS_nil, thenD, blockD])); refine hK _ _ _ ?_; clear hK K)
      cases B with
      | true =>
        (refine wpD_region tyOK ?_; ((repeat (rw [wpS_cons]; simp)); (try simp only [wpS_nil, thenD, blockD])))
        refine cXp (hlr) ?_
        ((try simp only [wpAft_ret, wpAft_pan, putS, updS, setS]); (repeat (rw [wpS_cons]; simp)); (try simp only [wpS_nil, thenD, blockD]))
        refine CallX.pure globPure (pmust_ok [true] rfl) ?_ (by simp [D.fgts, D.fgt, Bools]) (by simp [D.pures, D.pure, Cp.free, D.pures_map, Bools]) (by simp [Out.pure, D.pure, D.pures, Cp.free, D.pures_map, Bools])
        ((try simp only [wpAft_ret, wpAft_pan, putS, updS, setS]); (repeat (rw [wpS_cons]; simp)); (try simp only [wpS_nil, thenD, blockD]))
        (refine hA2 ([]) _ _ _ (LeT.refl _) (by decide) (by simp) (by simp [movT, movH, movD, D.mov, HO.mov, okM, renM, getW, D.ren, D.rens, D.okN, D.okNs, Cp.ren, Cp.okN, HO.ren, HO.okN, okA, renA, renO, hOf, handed, D.fgt, D.fgts, List.range_succ, List.idxOf_cons, putAll]) ?_ rfl; simp [movT, movH, movD, D.mov, HO.mov, okM, renM, getW, D.ren, D.rens, D.okN, D.okNs, Cp.ren, Cp.okN, HO.ren, HO.okN, okA, renA, renO, hOf, handed, D.fgt, D.fgts, List.range_succ, List.idxOf_cons])
        simpa using hF
      | false =>
        (refine wpD_region tyOK ?_; ((repeat (rw [wpS_cons]; simp)); (try simp only [wpS_nil, thenD, blockD])))
        refine cXp (hlr) ?_
        ((try simp only [wpAft_ret, wpAft_pan, putS, updS, setS]); (repeat (rw [wpS_cons]; simp)); (try simp only [wpS_nil, thenD, blockD]))
        refine CallX.pure globPure (pmust_no [false] rfl) ?_ (by simp [D.fgts, D.fgt, Bools, pnoneD]) (by simp [D.pures, D.pure, Cp.free, D.pures_map, Bools, pnoneD]) (by simp [Out.pure, D.pure, D.pures, Cp.free, D.pures_map, Bools, pnoneD])
        ((try simp only [wpAft_ret, wpAft_pan, putS, updS, setS]); (repeat (rw [wpS_cons]; simp)); (try simp only [wpS_nil, thenD, blockD]))
        ((try simp only [thenD, blockD]); refine EndQ.pan (.inl ?_); simp [Out.fgt, D.fgt, D.fgts])
        rw [hF]; rfl
    · rintro ys hl tl' ⟨rfl, hF, rfl⟩ htl
      rw [List.drop_length] at hF
      subst hF
      ((try simp only [thenD, blockD]); refine EndQ.nrm rfl (.inl ?_); simp [tmOf, Out.fgt, D.fgt, D.fgts])
      rfl
  · (refine wpD_seqk fun K hK => ?_; refine wpD_region tyOK ?_; ((repeat (rw [wpS_cons]; simp [hm])); (try simp only [wpS_nil, thenD, blockD])))
    refine CallX.pure globPure (pmust_no [false] rfl) ?_ (by simp [D.fgts, D.fgt, Bools, pnoneD]) (by simp [D.pures, D.pure, Cp.free, D.pures_map, Bools, pnoneD]) (by simp [Out.pure, D.pure, D.pures, Cp.free, D.pures_map, Bools, pnoneD])
    ((try simp only [wpAft_ret, wpAft_pan, putS, updS, setS]); (repeat (rw [wpS_cons]; simp)); (try simp only [wpS_nil, thenD, blockD]))
    ((try simp only [thenD, blockD]); refine EndQ.pan (.inl ?_); simp [Out.fgt, D.fgt, D.fgts])
    rw [hR, decide_eq_false hm]; rfl
theorem pbare_spec (l : List T) (hlm : l.length ≤ LMax) (hl : ∀ t, t ∈ l → okT t) : Spec Tryd.prog glob 61 [Ts l] [] (fun o _ => o.fgt = pkOut (l.all bareT)) := by
  obtain ⟨R, hR⟩ : ∃ R, R = l.all bareT := ⟨_, rfl⟩
  rw [← hR]
  unfold Ts
  refine Spec.movd globPure (wpD_spec tyOK Tryd.func61 rfl (enters _ _ Tryd.func61 rfl (by decide)) rfl rfl ?_)
  (refine wpD_seqk fun K hK => ?_; refine wpD_region tyOK ?_; ((repeat (rw [wpS_cons]; simp)); (try simp only [wpS_nil, thenD, blockD])); refine hK _ _ _ ?_; clear hK K)
  refine wpD_rangeJ tyOK globPure (ti := 3) (tk := 6) (tn := 5) (td := 7) (ts := 29) [3, 6, 7, 8, 9, 10, 11, 12, 13, 14, 15, 16, 17, 18, 19, 20, 21, 22, 23, 24, 25, 26, 27, 28, 29] [] (l.length) (fun k ys hl => ys = [] ∧ R = ((l.drop k).all bareT) ∧ hl = []) rfl rfl rfl rfl rfl rfl rfl rfl rfl rfl rfl rfl (by simp) (by decide) rfl (by first | assumption | omega | (unfold LMax; omega)) rfl (by kernel_rfl) (by decide) ?_ ?_ ?_
  · exact ⟨rfl, hR, rfl⟩
  · rintro i ys hl A hi ⟨rfl, hF, rfl⟩ hA hA2
    simp only [putAll, List.set, List.map_cons, List.map_nil, List.cons_append, List.nil_append]
    have hi' : (i : Int) < l.length := by omega
    rw [List.drop_eq_getElem_cons hi, List.all_cons] at hF
    obtain ⟨x, hx⟩ : ∃ x, l[i] = x := ⟨_, rfl⟩
    have hox : okT x := hl _ (by rw [← hx]; exact List.getElem_mem hi)
    have hEx := encT_eq x
    rw [hx] at hF
    have hb : bareT x = ([decide (x.k = 0), decide (x.n = 0), decide (x.a = 0), decide (x.ls.length = 0), decide (x.ks.length = 0)].all id) := by unfold bareT; simp [Bool.and_assoc]
    rw [hb] at hF
    obtain ⟨L, hL⟩ : ∃ L, L = [decide (x.k = 0), decide (x.n = 0), decide (x.a = 0), decide (x.ls.length = 0), decide (x.ks.length = 0)] := ⟨_, rfl⟩
    rw [← hL] at hF
    have hLl : L.length ≤ LMax := by rw [hL]; simp [LMax]
    (refine wpD_seqk fun K hK => ?_; refine wpD_region tyOK ?_; ((repeat (rw [wpS_cons]; simp [hi, hi', hx, hEx])); (try simp only [wpS_nil, thenD, blockD])); refine hK _ _ _ ?_; clear hK K)
    cases hB : L.all id with
    | true =>
      rw [hB] at hF
      have hp := pmust_ok L hB hLl
      rw [hL] at hp
      (refine wpD_region tyOK ?_; ((repeat (rw [wpS_cons]; simp)); (try simp only [wpS_nil, thenD, blockD])))
      refine CallX.pure globPure (hp) ?_ (by simp [D.fgts, D.fgt, Bools]) (by simp [D.pures, D.pure, Cp.free, D.pures_map, Bools]) (by simp [Out.pure, D.pure, D.pures, Cp.free, D.pures_map, Bools])
      ((try simp only [wpAft_ret, wpAft_pan, putS, updS, setS]); (repeat (rw [wpS_cons]; simp)); (try simp only [wpS_nil, thenD, blockD]))
      (refine hA2 ([]) _ _ _ (LeT.refl _) (by decide) (by simp) (by simp [movT, movH, movD, D.mov, HO.mov, okM, renM, getW, D.ren, D.rens, D.okN, D.okNs, Cp.ren, Cp.okN, HO.ren, HO.okN, okA, renA, renO, hOf, handed, D.fgt, D.fgts, List.range_succ, List.idxOf_cons, putAll]) ?_ rfl; simp [movT, movH, movD, D.mov, HO.mov, okM, renM, getW, D.ren, D.rens, D.okN, D.okNs, Cp.ren, Cp.okN, HO.ren, HO.okN, okA, renA, renO, hOf, handed, D.fgt, D.fgts, List.range_succ, List.idxOf_cons])
      simpa using hF
    | false =>
      rw [hB] at hF
      have hp := pmust_no L hB hLl
      rw [hL] at hp
      (refine wpD_region tyOK ?_; ((repeat (rw [wpS_cons]; simp)); (try simp only [wpS_nil, thenD, blockD])))
      refine CallX.pure globPure (hp) ?_ (by simp [D.fgts, D.fgt, Bools, pnoneD]) (by simp [D.pures, D.pure, Cp.free, D.pures_map, Bools, pnoneD]) (by simp [Out.pure, D.pure, D.pures, Cp.free, D.pures_map, Bools, pnoneD])
      ((try simp only [wpAft_ret, wpAft_pan, putS, updS, setS]); (repeat (rw [wpS_cons]; simp)); (try simp only [wpS_nil, thenD, blockD]))
      ((try simp only [thenD, blockD]); refine EndQ.pan (.inl ?_); simp [Out.fgt, D.fgt, D.fgts])
      rw [hF]; rfl
  · rintro ys hl tl' ⟨rfl, hF, rfl⟩ htl
    rw [List.drop_length] at hF
    subst hF
    ((try simp only [thenD, blockD]); refine EndQ.nrm rfl (.inl ?_); simp [tmOf, Out.fgt, D.fgt, D.fgts])
    rfl
end Go.Proofs.YtgloldepdhgfaaaDoor
namespace Go.Proofs.YtgloldepdhgfaaaDoor
set_option linter.unusedSimpArgs false
set_option linter.unusedVariables false
set_option linter.unusedSimpArgs false
set_option linter.unusedVariables false
set_option maxHeartbeats 10000000
set_option maxRecDepth 20000
open Go.RowKit
attribute [local simp] wpAft_ret wpAft_pan wantD evOp opD tmOf putS updS setS hOf isFree isTok fillD TK.isAgg TK.known partD thenD blockD putAll D.ofV inB nilTest isNilS binX binD binE isCst bndD capB IntKind.min IntKind.max IntKind.signed IntKind.bits dstOf late
def encMb (r : List T) : D := .agg [.slice (r.map encT) .any]
def encCt (c : Int × T) : D := .agg [.int .i64 c.1, .int .i64 c.2.k, .int .i64 c.2.n, .int .i64 c.2.a, .slice (c.2.ls.map encL) .any, .slice (c.2.ks.map encT) .any]
def decL (d : De) : List D := [.int .i64 d.kd, .int .i64 d.lv, .int .i64 d.ty.k, .int .i64 d.ty.n, .int .i64 d.ty.a, .slice (d.ty.ls.map encL) .any, .slice (d.ty.ks.map encT) .any, .int .i64 d.bo.k, .int .i64 d.bo.n, .int .i64 d.bo.a, .slice (d.bo.ls.map encL) .any, .slice (d.bo.ks.map encT) .any,
  .slice (d.ps.map encT) .any, .slice (d.so.map encP) .any, .slice (d.ms.map encMb) .any, .slice (d.cs.map encCt) .any]
def encDe (d : De) : D := .agg (decL d)
@[simp high] theorem encMb_pure (r : List T) : (encMb r).pure = true := by simp [encMb, D.pure, D.pures, D.pures_map, Cp.free]
@[simp high] theorem encCt_pure (c : Int × T) : (encCt c).pure = true := by simp [encCt, D.pure, D.pures, D.pures_map, Cp.free]
@[simp high] theorem encMb_size (r : List T) : (encMb r).size = 1 := rfl
@[simp high] theorem encCt_size (c : Int × T) : (encCt c).size = 6 := rfl
theorem encMb_pures (l : List (List T)) : D.pures (l.map encMb) = true := by rw [D.pures_map]; simp
@[simp high] theorem encMb_okNs (p : Nat → Bool) (l : List (List T)) : D.okNs p (l.map encMb) = true := D.okNs_pure p _ (encMb_pures l)
@[simp high] theorem encMb_rens (σ : Nat → Nat) (l : List (List T)) : D.rens σ (l.map encMb) = l.map encMb := D.rens_pure σ _ (encMb_pures l)
@[simp high] theorem encMb_lows (m : Nat) (l : List (List T)) : D.lows m (l.map encMb) = true := D.lows_pure m _ (encMb_pures l)
theorem encCt_pures (l : List (Int × T)) : D.pures (l.map encCt) = true := by rw [D.pures_map]; simp
@[simp high] theorem encCt_okNs (p : Nat → Bool) (l : List (Int × T)) : D.okNs p (l.map encCt) = true := D.okNs_pure p _ (encCt_pures l)
@[simp high] theorem encCt_rens (σ : Nat → Nat) (l : List (Int × T)) : D.rens σ (l.map encCt) = l.map encCt := D.rens_pure σ _ (encCt_pures l)
@[simp high] theorem encCt_lows (m : Nat) (l : List (Int × T)) : D.lows m (l.map encCt) = true := D.lows_pure m _ (encCt_pures l)
theorem pkOut_t : pkOut true = .ret (.tuple []) := rfl
theorem pkOut_f : pkOut false = .pan pnoneD := rfl
structure okDe (d : De) : Prop where
  kd : I64 d.kd
  lv : I64 d.lv
  ty : okT d.ty
  bo : okT d.bo
  psl : d.ps.length ≤ LMax
  ps : ∀ t, t ∈ d.ps → okT t
  so : d.so.length ≤ LMax
  msl : d.ms.length ≤ LMax
  ms : ∀ r, r ∈ d.ms → r.length ≤ LMax ∧ ∀ t, t ∈ r → okT t
  csl : d.cs.length ≤ LMax
  cs : ∀ c, c ∈ d.cs → I64 c.1 ∧ okT c.2
theorem pblock_spec (d : De) (h : okDe d) : Spec Tryd.prog glob 60 [encDe d] [] (fun o _ => o.fgt = pkOut (blockOk d)) := by
  obtain ⟨R, hR⟩ : ∃ R, R = blockOk d := ⟨_, rfl⟩
  rw [← hR]
  unfold blockOk at hR
  have b1 := pbare_spec [d.ty, d.bo] (by simp [LMax]) (by intro t ht; simp at ht; rcases ht with rfl | rfl; exact h.ty; exact h.bo)
  have b2 := pterms_spec 6 d.ps h.psl h.ps
  have b3 := levelRight_spec d.so 9 h.so
  have hE1 := encT_eq d.ty
  have hE2 := encT_eq d.bo
  unfold Ts at b1 b2
  simp only [List.map_cons, List.map_nil, hE1, hE2, List.all_cons, List.all_nil, Bool.and_true] at b1
  unfold encL at b3
  unfold encDe decL
  generalize (bareT d.ty && bareT d.bo) = x1 at b1 hR
  generalize termsOk 6 d.ps = x2 at b2 hR
  refine Spec.movd globPure (wpD_spec tyOK Tryd.func60 rfl (enters _ _ Tryd.func60 rfl (by decide)) rfl rfl ?_)
  (refine wpD_seqk fun K hK => ?_; refine wpD_region tyOK ?_; ((repeat (rw [wpS_cons]; simp)); (try simp only [wpS_nil, thenD, blockD])); refine hK _ _ _ ?_; clear hK K)
  cases x1 with
  | false =>
    rw [pkOut_f] at b1
    (refine wpD_seqk fun K hK => ?_; refine wpD_region tyOK ?_; ((repeat (rw [wpS_cons]; simp)); (try simp only [wpS_nil, thenD, blockD])))
    refine CallX.pure globPure (b1) ?_ (by simp [D.fgts, D.fgt, pnoneD]) (by simp [D.pures, D.pure, Cp.free, D.pures_map, pnoneD]) (by simp [Out.pure, D.pure, D.pures, Cp.free, D.pures_map, pnoneD])
    ((try simp only [wpAft_ret, wpAft_pan, putS, updS, setS]); (repeat (rw [wpS_cons]; simp)); (try simp only [wpS_nil, thenD, blockD]))
    ((try simp only [thenD, blockD]); refine EndQ.pan (.inl ?_); simp [Out.fgt, D.fgt, D.fgts])
    rw [hR]; rfl
  | true =>
  rw [pkOut_t] at b1
  (refine wpD_seqk fun K hK => ?_; refine wpD_region tyOK ?_; ((repeat (rw [wpS_cons]; simp)); (try simp only [wpS_nil, thenD, blockD])))
  refine cXp (b1) ?_
  ((try simp only [wpAft_ret, wpAft_pan, putS, updS, setS]); (repeat (rw [wpS_cons]; simp)); (try simp only [wpS_nil, thenD, blockD]))
  (refine hK _ _ _ ?_; clear hK K)
  cases x2 with
  | false =>
    rw [pkOut_f] at b2
    (refine wpD_seqk fun K hK => ?_; refine wpD_region tyOK ?_; ((repeat (rw [wpS_cons]; simp)); (try simp only [wpS_nil, thenD, blockD])))
    refine CallX.pure globPure (b2) ?_ (by simp [D.fgts, D.fgt, pnoneD]) (by simp [D.pures, D.pure, Cp.free, D.pures_map, pnoneD]) (by simp [Out.pure, D.pure, D.pures, Cp.free, D.pures_map, pnoneD])
    ((try simp only [wpAft_ret, wpAft_pan, putS, updS, setS]); (repeat (rw [wpS_cons]; simp)); (try simp only [wpS_nil, thenD, blockD]))
    ((try simp only [thenD, blockD]); refine EndQ.pan (.inl ?_); simp [Out.fgt, D.fgt, D.fgts])
    rw [hR]; rfl
  | true =>
  rw [pkOut_t] at b2
  (refine wpD_seqk fun K hK => ?_; refine wpD_region tyOK ?_; ((repeat (rw [wpS_cons]; simp)); (try simp only [wpS_nil, thenD, blockD])))
  refine cXp (b2) ?_
  ((try simp only [wpAft_ret, wpAft_pan, putS, updS, setS]); (repeat (rw [wpS_cons]; simp)); (try simp only [wpS_nil, thenD, blockD]))
  (refine hK _ _ _ ?_; clear hK K)
  rw [Bool.true_and, Bool.true_and] at hR
  generalize levelRight d.so 9 = x3 at b3 hR
  obtain ⟨L, hL⟩ : ∃ L, L = [x3, decide (0 < d.ms.length), decide ((d.ms.length : Int) ≤ 8), decide ((d.cs.length : Int) ≤ 16)] := ⟨_, rfl⟩
  have hx : (x3 && decide (0 < d.ms.length) && decide (d.ms.length ≤ 8) && decide (d.cs.length ≤ 16)) = L.all id := by
    rw [hL]
    simp only [List.all_cons, List.all_nil, id, Bool.and_true, Bool.and_assoc]
    rw [show decide ((d.ms.length : Int) ≤ 8) = decide (d.ms.length ≤ 8) from decide_eq_decide.2 (by omega), show decide ((d.cs.length : Int) ≤ 16) = decide (d.cs.length ≤ 16) from decide_eq_decide.2 (by omega)]
  rw [hx] at hR
  clear hx
  have hLl : L.length ≤ LMax := by rw [hL]; simp [LMax]
  cases hB : L.all id with
  | false =>
    rw [hB] at hR
    have hp := pmust_no L hB hLl
    rw [hL] at hp
    (refine wpD_seqk fun K hK => ?_; refine wpD_drawk tyOK (by kernel_rfl) (by kernel_rfl) fun KT hKT => ?_; ((repeat (rw [wpT_cons]; simp)); (try simp only [wpT_nil])))
    refine cYp (b3) ?_
    ((try simp only [wpAftT_ret, wpAftT_pan, putS, updS, setS]); (repeat (rw [wpT_cons]; simp)); (try simp only [wpT_nil]))
    refine CallY.pure globPure (hp) ?_ (by simp [D.fgts, D.fgt, Bools, pnoneD]) (by simp [D.pures, D.pure, Cp.free, D.pures_map, Bools, pnoneD]) (by simp [Out.pure, D.pure, D.pures, Cp.free, D.pures_map, Bools, pnoneD])
    ((try simp only [wpAftT_ret, wpAftT_pan, putS, updS, setS]); (repeat (rw [wpT_cons]; simp)); (try simp only [wpT_nil]))
    (refine hKT _ _ _ _ (by kernel_rfl) ?_; clear hKT KT; (try simp only [thenD, blockD]))
    simp
    ((try simp only [thenD, blockD]); refine EndQ.pan (.inl ?_); simp [Out.fgt, D.fgt, D.fgts])
    rw [hR]; rfl
  | true =>
  rw [hB, Bool.true_and] at hR
  have hp := pmust_ok L hB hLl
  rw [hL] at hp
  (refine wpD_seqk fun K hK => ?_; refine wpD_drawk tyOK (by kernel_rfl) (by kernel_rfl) fun KT hKT => ?_; ((repeat (rw [wpT_cons]; simp)); (try simp only [wpT_nil])))
  refine cYp (b3) ?_
  ((try simp only [wpAftT_ret, wpAftT_pan, putS, updS, setS]); (repeat (rw [wpT_cons]; simp)); (try simp only [wpT_nil]))
  refine CallY.pure globPure (hp) ?_ (by simp [D.fgts, D.fgt, Bools]) (by simp [D.pures, D.pure, Cp.free, D.pures_map, Bools]) (by simp [Out.pure, D.pure, D.pures, Cp.free, D.pures_map, Bools])
  ((try simp only [wpAftT_ret, wpAftT_pan, putS, updS, setS]); (repeat (rw [wpT_cons]; simp)); (try simp only [wpT_nil]))
  (refine hKT _ _ _ _ (by kernel_rfl) ?_; clear hKT KT; (try simp only [thenD, blockD]))
  (refine hK _ _ _ ?_; clear hK K)
  clear hp hB hLl hL L b1 b2 b3
  obtain ⟨R2, hR2⟩ : ∃ R2, R2 = d.cs.all fun c => decide (0 ≤ c.1) && decide (c.1 < d.ms.length) && c.2.right := ⟨_, rfl⟩
  rw [← hR2] at hR
  have hml := h.msl
  have hcl := h.csl
  refine wpD_seqk fun K1 hK1 => ?_
  (refine wpD_seqk fun K hK => ?_; refine wpD_region tyOK ?_; ((repeat (rw [wpS_cons]; simp)); (try simp only [wpS_nil, thenD, blockD])); refine hK _ _ _ ?_; clear hK K)
  refine wpD_rangeJ tyOK globPure (ti := 3) (tk := 35) (tn := 34) (td := 36) (ts := 42) [3, 35, 36, 37, 38, 39, 40, 41, 42] [] (d.ms.length) (fun k ys hl => ys = [] ∧ R = ((d.ms.drop k).all (termsOk 6) && R2) ∧ hl = [.cells 34 (decL d)]) rfl rfl rfl rfl rfl rfl rfl rfl rfl rfl rfl rfl (by simp) (by decide) rfl (by first | assumption | omega | (unfold LMax; omega)) rfl (by kernel_rfl) (by decide) ?_ ?_ ?_
  · exact ⟨rfl, hR, rfl⟩
  · rintro i ys hl A hi ⟨rfl, hF, rfl⟩ hA hA2
    simp only [putAll, List.set, List.map_cons, List.map_nil, List.cons_append, List.nil_append]
    have hi' : (i : Int) < d.ms.length := by omega
    rw [List.drop_eq_getElem_cons hi, List.all_cons] at hF
    obtain ⟨x, hx⟩ : ∃ x, d.ms[i] = x := ⟨_, rfl⟩
    obtain ⟨hx1, hx2⟩ := h.ms x (by rw [← hx]; exact List.getElem_mem hi)
    have hlr := pterms_spec 6 x hx1 hx2
    unfold Ts at hlr
    rw [hx] at hF
    generalize termsOk 6 x = B at hF hlr
    unfold decL
    (refine wpD_seqk fun K hK => ?_; refine wpD_region tyOK ?_; ((repeat (rw [wpS_cons]; simp [hi, hi', hx, encMb])); (try simp only [wpS_nil, thenD, blockD])); refine hK _ _ _ ?_; clear hK K)
    cases B with
    | true =>
      rw [pkOut_t] at hlr
      (refine wpD_region tyOK ?_; ((repeat (rw [wpS_cons]; simp)); (try simp only [wpS_nil, thenD, blockD])))
      refine cXp (hlr) ?_
      ((try simp only [wpAft_ret, wpAft_pan, putS, updS, setS]); (repeat (rw [wpS_cons]; simp)); (try simp only [wpS_nil, thenD, blockD]))
      (refine hA2 ([0]) _ _ _ (LeT.refl _) (by decide) (by simp) (by simp [movT, movH, movD, D.mov, HO.mov, okM, renM, getW, D.ren, D.rens, D.okN, D.okNs, Cp.ren, Cp.okN, HO.ren, HO.okN, okA, renA, renO, hOf, handed, D.fgt, D.fgts, List.range_succ, List.idxOf_cons, putAll]) ?_ rfl; simp [movT, movH, movD, D.mov, HO.mov, okM, renM, getW, D.ren, D.rens, D.okN, D.okNs, Cp.ren, Cp.okN, HO.ren, HO.okN, okA, renA, renO, hOf, handed, D.fgt, D.fgts, List.range_succ, List.idxOf_cons])
      exact ⟨by simpa using hF, by unfold decL; rfl⟩
    | false =>
      rw [pkOut_f] at hlr
      (refine wpD_region tyOK ?_; ((repeat (rw [wpS_cons]; simp)); (try simp only [wpS_nil, thenD, blockD])))
      refine CallX.pure globPure (hlr) ?_ (by simp [D.fgts, D.fgt, pnoneD]) (by simp [D.pures, D.pure, Cp.free, D.pures_map, pnoneD]) (by simp [Out.pure, D.pure, D.pures, Cp.free, D.pures_map, pnoneD])
      ((try simp only [wpAft_ret, wpAft_pan, putS, updS, setS]); (repeat (rw [wpS_cons]; simp)); (try simp only [wpS_nil, thenD, blockD]))
      ((try simp only [thenD, blockD]); refine EndQ.pan (.inl ?_); simp [Out.fgt, D.fgt, D.fgts])
      rw [hF]; rfl
  · rintro ys hl tl' ⟨rfl, hF, rfl⟩ htl
    refine hK1 _ _ _ (wpD_weakL htl ?_)
    clear hK1 K1 htl
    simp only [putAll, List.set, List.map_cons, List.map_nil, List.cons_append, List.nil_append]
    rw [List.drop_length, List.all_nil, Bool.true_and] at hF
    subst hF
    clear hR
    unfold decL
    (refine wpD_seqk fun K hK => ?_; refine wpD_region tyOK ?_; ((repeat (rw [wpS_cons]; simp)); (try simp only [wpS_nil, thenD, blockD])); refine hK _ _ _ ?_; clear hK K)
    refine wpD_rangeJ tyOK globPure (ti := 3) (tk := 46) (tn := 45) (td := 47) (ts := 65) [5, 46, 47, 48, 49, 50, 51, 52, 53, 54, 55, 56, 57, 58, 59, 60, 61, 62, 63, 64, 65] [] (d.cs.length) (fun k ys hl => ys = [] ∧ R = ((d.cs.drop k).all fun c => decide (0 ≤ c.1) && decide (c.1 < d.ms.length) && c.2.right) ∧ hl = [.cells 34 (decL d)]) rfl rfl rfl rfl rfl rfl rfl rfl rfl rfl rfl rfl (by simp) (by decide) rfl (by first | assumption | omega | (unfold LMax; omega)) rfl (by kernel_rfl) (by decide) ?_ ?_ ?_
    · exact ⟨rfl, hR2, rfl⟩
    · rintro i ys hl A hi ⟨rfl, hF, rfl⟩ hA hA2
      simp only [putAll, List.set, List.map_cons, List.map_nil, List.cons_append, List.nil_append]
      have hi' : (i : Int) < d.cs.length := by omega
      rw [List.drop_eq_getElem_cons hi, List.all_cons] at hF
      obtain ⟨x, hx⟩ : ∃ x, d.cs[i] = x := ⟨_, rfl⟩
      obtain ⟨hx1, hx2⟩ := h.cs x (by rw [← hx]; exact List.getElem_mem hi)
      have hlr := pterms_spec 1 [x.2] (by simp [LMax]) (by intro t ht; rw [List.mem_singleton.1 ht]; exact hx2)
      have hEx := encT_eq x.2
      unfold Ts at hlr
      rw [show termsOk 1 [x.2] = x.2.right by simp [termsOk]] at hlr
      simp only [List.map_cons, List.map_nil, hEx] at hlr
      rw [hx] at hF
      generalize x.2.right = B at hF hlr
      unfold decL
      (refine wpD_seqk fun K hK => ?_; refine wpD_region tyOK ?_; ((repeat (rw [wpS_cons]; simp [hi, hi', hx, encCt])); (try simp only [wpS_nil, thenD, blockD])); refine hK _ _ _ ?_; clear hK K)
      obtain ⟨L, hL⟩ : ∃ L, L = [decide (0 ≤ x.1), decide (x.1 < (d.ms.length : Int))] := ⟨_, rfl⟩
      have hLx : (decide (0 ≤ x.1) && decide (x.1 < (d.ms.length : Int))) = L.all id := by rw [hL]; simp
      rw [hLx] at hF
      clear hLx
      have hLl : L.length ≤ LMax := by rw [hL]; simp [LMax]
      cases hB : L.all id with
      | false =>
        rw [hB] at hF
        have hp := pmust_no L hB hLl
        rw [hL] at hp
        (refine wpD_seqk fun K hK => ?_; refine wpD_region tyOK ?_; ((repeat (rw [wpS_cons]; simp)); (try simp only [wpS_nil, thenD, blockD])))
        refine CallX.pure globPure (hp) ?_ (by simp [D.fgts, D.fgt, Bools, pnoneD]) (by simp [D.pures, D.pure, Cp.free, D.pures_map, Bools, pnoneD]) (by simp [Out.pure, D.pure, D.pures, Cp.free, D.pures_map, Bools, pnoneD])
        ((try simp only [wpAft_ret, wpAft_pan, putS, updS, setS]); (repeat (rw [wpS_cons]; simp)); (try simp only [wpS_nil, thenD, blockD]))
        ((try simp only [thenD, blockD]); refine EndQ.pan (.inl ?_); simp [Out.fgt, D.fgt, D.fgts])
        rw [hF]; rfl
      | true =>
      rw [hB, Bool.true_and] at hF
      have hp := pmust_ok L hB hLl
      rw [hL] at hp
      (refine wpD_seqk fun K hK => ?_; refine wpD_region tyOK ?_; ((repeat (rw [wpS_cons]; simp)); (try simp only [wpS_nil, thenD, blockD])))
      refine CallX.pure globPure (hp) ?_ (by simp [D.fgts, D.fgt, Bools]) (by simp [D.pures, D.pure, Cp.free, D.pures_map, Bools]) (by simp [Out.pure, D.pure, D.pures, Cp.free, D.pures_map, Bools])
      ((try simp only [wpAft_ret, wpAft_pan, putS, updS, setS]); (repeat (rw [wpS_cons]; simp)); (try simp only [wpS_nil, thenD, blockD]))
      (refine hK _ _ _ ?_; clear hK K)
      cases B with
      | true =>
        rw [pkOut_t] at hlr
        (refine wpD_region tyOK ?_; ((repeat (rw [wpS_cons]; simp)); (try simp only [wpS_nil, thenD, blockD])))
        refine cXp (hlr) ?_
        ((try simp only [wpAft_ret, wpAft_pan, putS, updS, setS]); (repeat (rw [wpS_cons]; simp)); (try simp only [wpS_nil, thenD, blockD]))
        (refine hA2 ([0]) _ _ _ (LeT.refl _) (by decide) (by simp) (by simp [movT, movH, movD, D.mov, HO.mov, okM, renM, getW, D.ren, D.rens, D.okN, D.okNs, Cp.ren, Cp.okN, HO.ren, HO.okN, okA, renA, renO, hOf, handed, D.fgt, D.fgts, List.range_succ, List.idxOf_cons, putAll]) ?_ rfl; simp [movT, movH, movD, D.mov, HO.mov, okM, renM, getW, D.ren, D.rens, D.okN, D.okNs, Cp.ren, Cp.okN, HO.ren, HO.okN, okA, renA, renO, hOf, handed, D.fgt, D.fgts, List.range_succ, List.idxOf_cons])
        exact ⟨by simpa using hF, by unfold decL; rfl⟩
      | false =>
        rw [pkOut_f] at hlr
        (refine wpD_region tyOK ?_; ((repeat (rw [wpS_cons]; simp)); (try simp only [wpS_nil, thenD, blockD])))
        refine CallX.pure globPure (hlr) ?_ (by simp [D.fgts, D.fgt, pnoneD]) (by simp [D.pures, D.pure, Cp.free, D.pures_map, pnoneD]) (by simp [Out.pure, D.pure, D.pures, Cp.free, D.pures_map, pnoneD])
        ((try simp only [wpAft_ret, wpAft_pan, putS, updS, setS]); (repeat (rw [wpS_cons]; simp)); (try simp only [wpS_nil, thenD, blockD]))
        ((try simp only [thenD, blockD]); refine EndQ.pan (.inl ?_); simp [Out.fgt, D.fgt, D.fgts])
        rw [hF]; rfl
    · rintro ys hl tl' ⟨rfl, hF, rfl⟩ htl
      rw [List.drop_length] at hF
      subst hF
      ((try simp only [thenD, blockD]); refine EndQ.nrm rfl (.inl ?_); simp [tmOf, Out.fgt, D.fgt, D.fgts])
      rfl
end Go.Proofs.YtgloldepdhgfaaaDoor
namespace Go.Proofs.YtgloldepdhgfaaaDoor
set_option linter.unusedSimpArgs false
set_option linter.unusedVariables false
set_option linter.unusedSimpArgs false
set_option linter.unusedVariables false
set_option maxHeartbeats 10000000
set_option maxRecDepth 20000
open Go.RowKit
attribute [local simp] wpAft_ret wpAft_pan wantD evOp opD tmOf putS updS setS hOf isFree isTok fillD TK.isAgg TK.known partD thenD blockD putAll D.ofV inB nilTest isNilS binX binD binE isCst bndD capB IntKind.min IntKind.max IntKind.signed IntKind.bits dstOf late
theorem pright_spec (d : De) (h : okDe d) : Spec Tryd.prog glob 34 [encDe d] [] (fun o _ => o.fgt = pkOut (rightDe d)) := by
  obtain ⟨R, hR⟩ : ∃ R, R = rightDe d := ⟨_, rfl⟩
  rw [← hR]
  unfold rightDe at hR
  have b0 := pblock_spec d h
  have b1 := pterms_spec 1 [d.ty] (by simp [LMax]) (by intro t ht; rw [List.mem_singleton.1 ht]; exact h.ty)
  have b2 := pbare_spec [d.bo] (by simp [LMax]) (by intro t ht; rw [List.mem_singleton.1 ht]; exact h.bo)
  have b3 := pterms_spec 1 [d.bo] (by simp [LMax]) (by intro t ht; rw [List.mem_singleton.1 ht]; exact h.bo)
  have hE1 := encT_eq d.ty
  have hE2 := encT_eq d.bo
  unfold Ts at b1 b2 b3
  rw [show termsOk 1 [d.ty] = d.ty.right by simp [termsOk]] at b1
  rw [show termsOk 1 [d.bo] = d.bo.right by simp [termsOk]] at b3
  simp only [List.map_cons, List.map_nil, hE1, hE2, List.all_cons, List.all_nil, Bool.and_true] at b1 b2 b3
  unfold encDe decL at b0
  generalize blockOk d = x0 at b0 hR
  generalize d.ty.right = x1 at b1 hR
  generalize bareT d.bo = x2 at b2 hR
  generalize d.bo.right = x3 at b3 hR
  have hlp := h.psl
  have hls := h.so
  have hlm := h.msl
  have hlc := h.csl
  unfold LMax at hlp hls hlm hlc
  have w1 : IntKind.i64.wrap ((d.ps.length : Int) + (d.so.length : Int)) = d.ps.length + d.so.length := i64w (by omega) (by omega)
  have w2 : IntKind.i64.wrap ((d.ps.length : Int) + (d.so.length : Int) + (d.ms.length : Int)) = d.ps.length + d.so.length + d.ms.length := i64w (by omega) (by omega)
  have w3 : IntKind.i64.wrap ((d.ps.length : Int) + (d.so.length : Int) + (d.ms.length : Int) + (d.cs.length : Int)) = d.ps.length + d.so.length + d.ms.length + d.cs.length := i64w (by omega) (by omega)
  unfold encDe decL
  obtain ⟨L, hL⟩ : ∃ L, L = [decide (0 ≤ d.lv), decide (d.lv ≤ 8)] := ⟨_, rfl⟩
  have hLx : (decide (0 ≤ d.lv) && decide (d.lv ≤ 8)) = L.all id := by rw [hL]; simp
  rw [hLx] at hR
  clear hLx
  have hLl : L.length ≤ LMax := by rw [hL]; simp [LMax]
  refine Spec.movd globPure (wpD_spec tyOK Tryd.func34 rfl (enters _ _ Tryd.func34 rfl (by decide)) rfl rfl ?_)
  (refine wpD_seqk fun K hK => ?_; refine wpD_region tyOK ?_; ((repeat (rw [wpS_cons]; simp)); (try simp only [wpS_nil, thenD, blockD])); refine hK _ _ _ ?_; clear hK K)
  cases hB : L.all id with
  | false =>
    rw [hB] at hR
    have hp := pmust_no L hB hLl
    rw [hL] at hp
    (refine wpD_seqk fun K hK => ?_; refine wpD_region tyOK ?_; ((repeat (rw [wpS_cons]; simp)); (try simp only [wpS_nil, thenD, blockD])))
    refine CallX.pure globPure (hp) ?_ (by simp [D.fgts, D.fgt, Bools, pnoneD]) (by simp [D.pures, D.pure, Cp.free, D.pures_map, Bools, pnoneD]) (by simp [Out.pure, D.pure, D.pures, Cp.free, D.pures_map, Bools, pnoneD])
    ((try simp only [wpAft_ret, wpAft_pan, putS, updS, setS]); (repeat (rw [wpS_cons]; simp)); (try simp only [wpS_nil, thenD, blockD]))
    ((try simp only [thenD, blockD]); refine EndQ.pan (.inl ?_); simp [Out.fgt, D.fgt, D.fgts])
    rw [hR]; rfl
  | true =>
  rw [hB, Bool.true_and] at hR
  have hp := pmust_ok L hB hLl
  rw [hL] at hp
  (refine wpD_seqk fun K hK => ?_; refine wpD_region tyOK ?_; ((repeat (rw [wpS_cons]; simp)); (try simp only [wpS_nil, thenD, blockD])))
  refine CallX.pure globPure (hp) ?_ (by simp [D.fgts, D.fgt, Bools]) (by simp [D.pures, D.pure, Cp.free, D.pures_map, Bools]) (by simp [Out.pure, D.pure, D.pures, Cp.free, D.pures_map, Bools])
  ((try simp only [wpAft_ret, wpAft_pan, putS, updS, setS]); (repeat (rw [wpS_cons]; simp)); (try simp only [wpS_nil, thenD, blockD]))
  (refine hK _ _ _ ?_; clear hK K)
  clear hp hB hLl hL L
  refine wpD_seqk fun K1 hK1 => ?_
  by_cases hk3 : d.kd = 3
  · rw [if_pos hk3] at hR
    rw [hk3] at b0
    (refine wpD_seqk fun K hK => ?_; refine wpD_region tyOK ?_; ((repeat (rw [wpS_cons]; simp [hk3])); (try simp only [wpS_nil, thenD, blockD])); refine hK _ _ _ ?_; clear hK K)
    refine wpD_part rfl (fun _ => ?_) (fun h => by simp [hk3] at h)
    cases x0 with
    | true =>
      rw [pkOut_t] at b0
      (refine wpD_seqk fun K hK => ?_; refine wpD_region tyOK ?_; ((repeat (rw [wpS_cons]; simp)); (try simp only [wpS_nil, thenD, blockD])))
      refine cXp (b0) ?_
      ((try simp only [wpAft_ret, wpAft_pan, putS, updS, setS]); (repeat (rw [wpS_cons]; simp)); (try simp only [wpS_nil, thenD, blockD]))
      (refine hK _ _ _ ?_; clear hK K)
      (refine wpD_ret ?_; (try simp only [thenD, blockD]); refine EndQ.ret rfl (.inl ?_); simp [tmOf, Out.fgt, D.fgt, D.fgts])
      rw [hR]; rfl
    | false =>
      rw [pkOut_f] at b0
      (refine wpD_seqk fun K hK => ?_; refine wpD_region tyOK ?_; ((repeat (rw [wpS_cons]; simp)); (try simp only [wpS_nil, thenD, blockD])))
      refine CallX.pure globPure (b0) ?_ (by simp [D.fgts, D.fgt, pnoneD]) (by simp [D.pures, D.pure, Cp.free, D.pures_map, pnoneD]) (by simp [Out.pure, D.pure, D.pures, Cp.free, D.pures_map, pnoneD])
      ((try simp only [wpAft_ret, wpAft_pan, putS, updS, setS]); (repeat (rw [wpS_cons]; simp)); (try simp only [wpS_nil, thenD, blockD]))
      ((try simp only [thenD, blockD]); refine EndQ.pan (.inl ?_); simp [Out.fgt, D.fgt, D.fgts])
      rw [hR]; rfl
  rw [if_neg hk3] at hR
  (refine wpD_seqk fun K hK => ?_; refine wpD_region tyOK ?_; ((repeat (rw [wpS_cons]; simp [hk3])); (try simp only [wpS_nil, thenD, blockD])); refine hK _ _ _ ?_; clear hK K)
  refine wpD_part rfl (fun h => by simp [hk3] at h) (fun _ => ?_)
  refine wpD_skip (hK1 _ _ _ ?_)
  clear hK1 K1 b0
  rw [show decide (d.ps.length + d.so.length + d.ms.length + d.cs.length = 0) = decide ((d.ps.length : Int) + (d.so.length : Int) + (d.ms.length : Int) + (d.cs.length : Int) = 0) from decide_eq_decide.2 (by omega)] at hR
  by_cases hk1 : d.kd = 1
  · rw [if_pos hk1, decide_eq_true hk1, Bool.true_or, Bool.and_true] at hR
    cases hs : decide ((d.ps.length : Int) + (d.so.length : Int) + (d.ms.length : Int) + (d.cs.length : Int) = 0) with
    | false =>
      rw [hs] at hR
      have hp := pmust_no [false, true] rfl (by simp [LMax])
      (refine wpD_seqk fun K hK => ?_; refine wpD_region tyOK ?_; ((repeat (rw [wpS_cons]; simp [hk1, w1, w2, w3, hs])); (try simp only [wpS_nil, thenD, blockD])))
      refine CallX.pure globPure (hp) ?_ (by simp [D.fgts, D.fgt, Bools, pnoneD]) (by simp [D.pures, D.pure, Cp.free, D.pures_map, Bools, pnoneD]) (by simp [Out.pure, D.pure, D.pures, Cp.free, D.pures_map, Bools, pnoneD])
      ((try simp only [wpAft_ret, wpAft_pan, putS, updS, setS]); (repeat (rw [wpS_cons]; simp)); (try simp only [wpS_nil, thenD, blockD]))
      ((try simp only [thenD, blockD]); refine EndQ.pan (.inl ?_); simp [Out.fgt, D.fgt, D.fgts])
      rw [hR]; simp only [Bool.false_and]; rfl
    | true =>
      rw [hs, Bool.true_and] at hR
      have hp := pmust_ok [true, true] rfl (by simp [LMax])
      (refine wpD_seqk fun K hK => ?_; refine wpD_region tyOK ?_; ((repeat (rw [wpS_cons]; simp [hk1, w1, w2, w3, hs])); (try simp only [wpS_nil, thenD, blockD])))
      refine CallX.pure globPure (hp) ?_ (by simp [D.fgts, D.fgt, Bools]) (by simp [D.pures, D.pure, Cp.free, D.pures_map, Bools]) (by simp [Out.pure, D.pure, D.pures, Cp.free, D.pures_map, Bools])
      ((try simp only [wpAft_ret, wpAft_pan, putS, updS, setS]); (repeat (rw [wpS_cons]; simp)); (try simp only [wpS_nil, thenD, blockD]))
      (refine hK _ _ _ ?_; clear hK K)
      cases x1 with
      | false =>
        rw [pkOut_f] at b1
        (refine wpD_seqk fun K hK => ?_; refine wpD_region tyOK ?_; ((repeat (rw [wpS_cons]; simp)); (try simp only [wpS_nil, thenD, blockD])))
        refine CallX.pure globPure (b1) ?_ (by simp [D.fgts, D.fgt, pnoneD]) (by simp [D.pures, D.pure, Cp.free, D.pures_map, pnoneD]) (by simp [Out.pure, D.pure, D.pures, Cp.free, D.pures_map, pnoneD])
        ((try simp only [wpAft_ret, wpAft_pan, putS, updS, setS]); (repeat (rw [wpS_cons]; simp)); (try simp only [wpS_nil, thenD, blockD]))
        ((try simp only [thenD, blockD]); refine EndQ.pan (.inl ?_); simp [Out.fgt, D.fgt, D.fgts])
        rw [hR]; rfl
      | true =>
      rw [pkOut_t] at b1
      rw [Bool.true_and] at hR
      (refine wpD_seqk fun K hK => ?_; refine wpD_region tyOK ?_; ((repeat (rw [wpS_cons]; simp)); (try simp only [wpS_nil, thenD, blockD])))
      refine cXp (b1) ?_
      ((try simp only [wpAft_ret, wpAft_pan, putS, updS, setS]); (repeat (rw [wpS_cons]; simp)); (try simp only [wpS_nil, thenD, blockD]))
      (refine hK _ _ _ ?_; clear hK K)
      refine wpD_seqk fun K1 hK1 => ?_
      (refine wpD_seqk fun K hK => ?_; refine wpD_region tyOK ?_; ((repeat (rw [wpS_cons]; simp [hk1])); (try simp only [wpS_nil, thenD, blockD])); refine hK _ _ _ ?_; clear hK K)
      refine wpD_part rfl (fun _ => ?_) (fun h => by simp at h)
      cases x2 with
      | true =>
        rw [pkOut_t] at b2
        (refine wpD_seqk fun K hK => ?_; refine wpD_region tyOK ?_; ((repeat (rw [wpS_cons]; simp)); (try simp only [wpS_nil, thenD, blockD])))
        refine cXp (b2) ?_
        ((try simp only [wpAft_ret, wpAft_pan, putS, updS, setS]); (repeat (rw [wpS_cons]; simp)); (try simp only [wpS_nil, thenD, blockD]))
        (refine hK _ _ _ ?_; clear hK K)
        (refine wpD_ret ?_; (try simp only [thenD, blockD]); refine EndQ.ret rfl (.inl ?_); simp [tmOf, Out.fgt, D.fgt, D.fgts])
        rw [hR]; rfl
      | false =>
        rw [pkOut_f] at b2
        (refine wpD_seqk fun K hK => ?_; refine wpD_region tyOK ?_; ((repeat (rw [wpS_cons]; simp)); (try simp only [wpS_nil, thenD, blockD])))
        refine CallX.pure globPure (b2) ?_ (by simp [D.fgts, D.fgt, pnoneD]) (by simp [D.pures, D.pure, Cp.free, D.pures_map, pnoneD]) (by simp [Out.pure, D.pure, D.pures, Cp.free, D.pures_map, pnoneD])
        ((try simp only [wpAft_ret, wpAft_pan, putS, updS, setS]); (repeat (rw [wpS_cons]; simp)); (try simp only [wpS_nil, thenD, blockD]))
        ((try simp only [thenD, blockD]); refine EndQ.pan (.inl ?_); simp [Out.fgt, D.fgt, D.fgts])
        rw [hR]; rfl
  rw [if_neg hk1, decide_eq_false hk1, Bool.false_or] at hR
  by_cases hk2 : d.kd = 2
  · rw [decide_eq_true hk2, Bool.and_true] at hR
    cases hs : decide ((d.ps.length : Int) + (d.so.length : Int) + (d.ms.length : Int) + (d.cs.length : Int) = 0) with
    | false =>
      rw [hs] at hR
      have hp := pmust_no [false, true] rfl (by simp [LMax])
      (refine wpD_seqk fun K hK => ?_; refine wpD_region tyOK ?_; ((repeat (rw [wpS_cons]; simp [hk2, w1, w2, w3, hs])); (try simp only [wpS_nil, thenD, blockD])))
      refine CallX.pure globPure (hp) ?_ (by simp [D.fgts, D.fgt, Bools, pnoneD]) (by simp [D.pures, D.pure, Cp.free, D.pures_map, Bools, pnoneD]) (by simp [Out.pure, D.pure, D.pures, Cp.free, D.pures_map, Bools, pnoneD])
      ((try simp only [wpAft_ret, wpAft_pan, putS, updS, setS]); (repeat (rw [wpS_cons]; simp)); (try simp only [wpS_nil, thenD, blockD]))
      ((try simp only [thenD, blockD]); refine EndQ.pan (.inl ?_); simp [Out.fgt, D.fgt, D.fgts])
      rw [hR]; simp only [Bool.false_and]; rfl
    | true =>
      rw [hs, Bool.true_and] at hR
      have hp := pmust_ok [true, true] rfl (by simp [LMax])
      (refine wpD_seqk fun K hK => ?_; refine wpD_region tyOK ?_; ((repeat (rw [wpS_cons]; simp [hk2, w1, w2, w3, hs])); (try simp only [wpS_nil, thenD, blockD])))
      refine CallX.pure globPure (hp) ?_ (by simp [D.fgts, D.fgt, Bools]) (by simp [D.pures, D.pure, Cp.free, D.pures_map, Bools]) (by simp [Out.pure, D.pure, D.pures, Cp.free, D.pures_map, Bools])
      ((try simp only [wpAft_ret, wpAft_pan, putS, updS, setS]); (repeat (rw [wpS_cons]; simp)); (try simp only [wpS_nil, thenD, blockD]))
      (refine hK _ _ _ ?_; clear hK K)
      cases x1 with
      | false =>
        rw [pkOut_f] at b1
        (refine wpD_seqk fun K hK => ?_; refine wpD_region tyOK ?_; ((repeat (rw [wpS_cons]; simp)); (try simp only [wpS_nil, thenD, blockD])))
        refine CallX.pure globPure (b1) ?_ (by simp [D.fgts, D.fgt, pnoneD]) (by simp [D.pures, D.pure, Cp.free, D.pures_map, pnoneD]) (by simp [Out.pure, D.pure, D.pures, Cp.free, D.pures_map, pnoneD])
        ((try simp only [wpAft_ret, wpAft_pan, putS, updS, setS]); (repeat (rw [wpS_cons]; simp)); (try simp only [wpS_nil, thenD, blockD]))
        ((try simp only [thenD, blockD]); refine EndQ.pan (.inl ?_); simp [Out.fgt, D.fgt, D.fgts])
        rw [hR]; rfl
      | true =>
      rw [pkOut_t] at b1
      rw [Bool.true_and] at hR
      (refine wpD_seqk fun K hK => ?_; refine wpD_region tyOK ?_; ((repeat (rw [wpS_cons]; simp)); (try simp only [wpS_nil, thenD, blockD])))
      refine cXp (b1) ?_
      ((try simp only [wpAft_ret, wpAft_pan, putS, updS, setS]); (repeat (rw [wpS_cons]; simp)); (try simp only [wpS_nil, thenD, blockD]))
      (refine hK _ _ _ ?_; clear hK K)
      refine wpD_seqk fun K1 hK1 => ?_
      (refine wpD_seqk fun K hK => ?_; refine wpD_region tyOK ?_; ((repeat (rw [wpS_cons]; simp [hk2])); (try simp only [wpS_nil, thenD, blockD])); refine hK _ _ _ ?_; clear hK K)
      refine wpD_part rfl (fun h => by simp at h) (fun _ => ?_)
      refine wpD_skip (hK1 _ _ _ ?_)
      clear hK1 K1
      cases x3 with
      | true =>
        rw [pkOut_t] at b3
        (refine wpD_region tyOK ?_; ((repeat (rw [wpS_cons]; simp)); (try simp only [wpS_nil, thenD, blockD])))
        refine cXp (b3) ?_
        ((try simp only [wpAft_ret, wpAft_pan, putS, updS, setS]); (repeat (rw [wpS_cons]; simp)); (try simp only [wpS_nil, thenD, blockD]))
        ((try simp only [thenD, blockD]); refine EndQ.nrm rfl (.inl ?_); simp [tmOf, Out.fgt, D.fgt, D.fgts])
        rw [hR]; rfl
      | false =>
        rw [pkOut_f] at b3
        (refine wpD_region tyOK ?_; ((repeat (rw [wpS_cons]; simp)); (try simp only [wpS_nil, thenD, blockD])))
        refine CallX.pure globPure (b3) ?_ (by simp [D.fgts, D.fgt, pnoneD]) (by simp [D.pures, D.pure, Cp.free, D.pures_map, pnoneD]) (by simp [Out.pure, D.pure, D.pures, Cp.free, D.pures_map, pnoneD])
        ((try simp only [wpAft_ret, wpAft_pan, putS, updS, setS]); (repeat (rw [wpS_cons]; simp)); (try simp only [wpS_nil, thenD, blockD]))
        ((try simp only [thenD, blockD]); refine EndQ.pan (.inl ?_); simp [Out.fgt, D.fgt, D.fgts])
        rw [hR]; rfl
  · rw [decide_eq_false hk2] at hR
    cases hs : decide ((d.ps.length : Int) + (d.so.length : Int) + (d.ms.length : Int) + (d.cs.length : Int) = 0) with
    | false =>
      rw [hs] at hR
      have hp := pmust_no [false, false] rfl (by simp [LMax])
      (refine wpD_seqk fun K hK => ?_; refine wpD_region tyOK ?_; ((repeat (rw [wpS_cons]; simp [hk1, hk2, w1, w2, w3, hs])); (try simp only [wpS_nil, thenD, blockD])))
      refine CallX.pure globPure (hp) ?_ (by simp [D.fgts, D.fgt, Bools, pnoneD]) (by simp [D.pures, D.pure, Cp.free, D.pures_map, Bools, pnoneD]) (by simp [Out.pure, D.pure, D.pures, Cp.free, D.pures_map, Bools, pnoneD])
      ((try simp only [wpAft_ret, wpAft_pan, putS, updS, setS]); (repeat (rw [wpS_cons]; simp)); (try simp only [wpS_nil, thenD, blockD]))
      ((try simp only [thenD, blockD]); refine EndQ.pan (.inl ?_); simp [Out.fgt, D.fgt, D.fgts])
      rw [hR]; simp only [Bool.false_and]; rfl
    | true =>
      rw [hs, Bool.true_and] at hR
      have hp := pmust_no [true, false] rfl (by simp [LMax])
      (refine wpD_seqk fun K hK => ?_; refine wpD_region tyOK ?_; ((repeat (rw [wpS_cons]; simp [hk1, hk2, w1, w2, w3, hs])); (try simp only [wpS_nil, thenD, blockD])))
      refine CallX.pure globPure (hp) ?_ (by simp [D.fgts, D.fgt, Bools, pnoneD]) (by simp [D.pures, D.pure, Cp.free, D.pures_map, Bools, pnoneD]) (by simp [Out.pure, D.pure, D.pures, Cp.free, D.pures_map, Bools, pnoneD])
      ((try simp only [wpAft_ret, wpAft_pan, putS, updS, setS]); (repeat (rw [wpS_cons]; simp)); (try simp only [wpS_nil, thenD, blockD]))
      ((try simp only [thenD, blockD]); refine EndQ.pan (.inl ?_); simp [Out.fgt, D.fgt, D.fgts])
      rw [hR]; rfl
end Go.Proofs.YtgloldepdhgfaaaDoor
namespace Go.Proofs.YtgloldepdhgfaaaDoor
set_option linter.unusedSimpArgs false
set_option linter.unusedVariables false
set_option maxHeartbeats 10000000
set_option maxRecDepth 20000
open Go.RowKit
attribute [local simp] wpAft_ret wpAft_pan wantD evOp opD tmOf putS updS setS hOf isFree isTok fillD TK.isAgg TK.known partD thenD blockD putAll D.ofV inB nilTest isNilS binX binD binE isCst bndD capB IntKind.min IntKind.max IntKind.signed IntKind.bits dstOf late
theorem sameLevels_gen (p : LV → LV → Bool) (l m : List (LV)) (hl : l.length ≤ LMax) (hm : m.length ≤ LMax) (hg : ∀ x y, x ∈ l → y ∈ m → Spec Tryd.prog glob 38 [encL x, encL y] [] (fun o _ => o.fgt = .ret (.bool (p x y)))) :
    Spec Tryd.prog glob 43 [.slice (l.map encL) .any, .slice (m.map encL) .any] [] (fun o _ => o.fgt = .ret (.bool (eqAll p l m))) := by
  obtain ⟨R, hR⟩ : ∃ R, R = eqAll p l m := ⟨_, rfl⟩
  rw [← hR]
  have hl0 := hl
  unfold LMax at hl0
  refine Spec.movd globPure (wpD_spec tyOK Tryd.func43 rfl (enters _ _ Tryd.func43 rfl (by decide)) rfl rfl ?_)
  (refine wpD_seqk fun K hK => ?_; refine wpD_region tyOK ?_; ((repeat (rw [wpS_cons]; simp)); (try simp only [wpS_nil, thenD, blockD])); refine hK _ _ _ ?_; clear hK K)
  refine wpD_seqk fun K1 hK1 => ?_
  by_cases hlen : l.length = m.length
  · have hlen' : (l.length : Int) = m.length := by omega
    (refine wpD_seqk fun K hK => ?_; refine wpD_region tyOK ?_; ((repeat (rw [wpS_cons]; simp [hlen, hlen'])); (try simp only [wpS_nil, thenD, blockD])); refine hK _ _ _ ?_; clear hK K)
    refine wpD_part rfl (fun h => by simp at h) (fun _ => ?_)
    refine wpD_skip (hK1 _ _ _ ?_)
    clear hK1 K1
    refine wpD_seqk fun K1 hK1 => ?_
    (refine wpD_seqk fun K hK => ?_; refine wpD_region tyOK ?_; ((repeat (rw [wpS_cons]; simp)); (try simp only [wpS_nil, thenD, blockD])); refine hK _ _ _ ?_; clear hK K)
    refine wpD_block ?_
    refine wpD_loopWJ [4, 11, 12, 13, 14, 15, 16, 17, 18, 19, 20, 21, 22, 23, 24, 25, 26] [5] (fun n ys hl => ∃ (k : Nat), ys = [.int .i64 k] ∧ n + k = l.length ∧ R = eqAll p (l.drop k) (m.drop k) ∧ hl = []) (l.length) (by kernel_rfl) ?_ ?_
    · exact ⟨0, rfl, rfl, hR, rfl⟩
    · rintro n ys hl A hA ⟨i, rfl, hn, hF, rfl⟩
      simp only [putAll, List.set, List.map_cons, List.map_nil, List.cons_append, List.nil_append]
      refine wpD_seqk fun K2 hK2 => ?_
      by_cases hi : i < l.length
      · have hi2 : i < m.length := by omega
        have hi' : (i : Int) < l.length := by omega
        have hi2' : (i : Int) < m.length := by omega
        (refine wpD_seqk fun K hK => ?_; refine wpD_region tyOK ?_; ((repeat (rw [wpS_cons]; simp [hi, hi'])); (try simp only [wpS_nil, thenD, blockD])); refine hK _ _ _ ?_; clear hK K)
        refine wpD_part rfl (fun _ => ?_) (fun h => by simp at h)
        refine wpD_skip (hK2 _ _ _ ?_)
        clear hK2 K2
        refine wpD_seqk fun K3 hK3 => ?_
        refine wpD_block ?_
        rw [eqAll_drop hi hi2] at hF
        have hrec := hg l[i] m[i] (List.getElem_mem hi) (List.getElem_mem hi2)
        obtain ⟨x, hx⟩ : ∃ x, l[i] = x := ⟨_, rfl⟩
        obtain ⟨y, hy⟩ : ∃ y, m[i] = y := ⟨_, rfl⟩
        rw [hx, hy] at hrec hF
        have hEx : encL x = .agg [.slice (x.map encP) .any] := rfl
        have hEy : encL y = .agg [.slice (y.map encP) .any] := rfl
        rw [hEx, hEy] at hrec
        generalize p x y = B at hrec hF
        (refine wpD_seqk fun K hK => ?_; refine wpD_drawk tyOK (by kernel_rfl) (by kernel_rfl) fun KT hKT => ?_; ((repeat (rw [wpT_cons]; simp [hi, hi', hx, hi2, hi2', hy, hEx, hEy])); (try simp only [wpT_nil])))
        refine cYp (hrec) ?_
        ((try simp only [wpAftT_ret, wpAftT_pan, putS, updS, setS]); (repeat (rw [wpT_cons]; simp)); (try simp only [wpT_nil]))
        (refine hKT _ _ _ _ (by kernel_rfl) ?_; clear hKT KT; (try simp only [thenD, blockD]))
        (refine hK _ _ _ ?_; clear hK K)
        cases B with
        | true =>
          refine wpD_part rfl (fun h => by simp at h) (fun _ => ?_)
          refine wpD_skip (hK3 _ _ _ ?_)
          clear hK3 K3
          have hw1 : IntKind.i64.wrap ((i : Int) + 1) = (i : Int) + 1 := i64w (by omega) (by omega)
          (refine wpD_region tyOK ?_; ((repeat (rw [wpS_cons]; simp [hw1])); (try simp only [wpS_nil, thenD, blockD])))
          refine hA (n - 1) _ _ _ (LeT.refl _) (by omega) (by kernel_rfl) ?_
          exact ⟨i + 1, rfl, by omega, by simpa using hF, rfl⟩
        | false =>
          refine wpD_part rfl (fun _ => ?_) (fun h => by simp at h)
          (refine wpD_seqk fun K hK => ?_; refine wpD_region tyOK ?_; ((repeat (rw [wpS_cons]; simp)); (try simp only [wpS_nil, thenD, blockD])); refine hK _ _ _ ?_; clear hK K)
          (refine wpD_ret ?_; (try simp only [thenD, blockD]); refine EndQ.ret rfl (.inl ?_); simp [tmOf, Out.fgt, D.fgt, D.fgts])
          simpa using hF
      · have hi' : ¬ (i : Int) < l.length := by omega
        (refine wpD_seqk fun K hK => ?_; refine wpD_region tyOK ?_; ((repeat (rw [wpS_cons]; simp [hi, hi'])); (try simp only [wpS_nil, thenD, blockD])); refine hK _ _ _ ?_; clear hK K)
        refine wpD_part rfl (fun h => by simp at h) (fun _ => ?_)
        refine wpD_exit ?_
        refine hK1 _ _ _ ?_
        rw [List.drop_of_length_le (by omega), List.drop_of_length_le (by omega)] at hF
        have hF' : R = true := hF
        subst hF'
        (refine wpD_seqk fun K hK => ?_; refine wpD_region tyOK ?_; ((repeat (rw [wpS_cons]; simp)); (try simp only [wpS_nil, thenD, blockD])); refine hK _ _ _ ?_; clear hK K)
        (refine wpD_ret ?_; (try simp only [thenD, blockD]); refine EndQ.ret rfl (.inl ?_); simp [tmOf, Out.fgt, D.fgt, D.fgts])
  · have hlen' : ¬ (l.length : Int) = m.length := by omega
    (refine wpD_seqk fun K hK => ?_; refine wpD_region tyOK ?_; ((repeat (rw [wpS_cons]; simp [hlen, hlen'])); (try simp only [wpS_nil, thenD, blockD])); refine hK _ _ _ ?_; clear hK K)
    refine wpD_part rfl (fun _ => ?_) (fun h => by simp at h)
    (refine wpD_seqk fun K hK => ?_; refine wpD_region tyOK ?_; ((repeat (rw [wpS_cons]; simp)); (try simp only [wpS_nil, thenD, blockD])); refine hK _ _ _ ?_; clear hK K)
    (refine wpD_ret ?_; (try simp only [thenD, blockD]); refine EndQ.ret rfl (.inl ?_); simp [tmOf, Out.fgt, D.fgt, D.fgts])
    rw [hR]; exact eqAll_len hlen
theorem sameTerms_gen (p : T → T → Bool) (l m : List (T)) (hl : l.length ≤ LMax) (hm : m.length ≤ LMax) (hg : ∀ x y, x ∈ l → y ∈ m → Spec Tryd.prog glob 15 [encT x, encT y] [] (fun o _ => o.fgt = .ret (.bool (p x y)))) :
    Spec Tryd.prog glob 37 [.slice (l.map encT) .any, .slice (m.map encT) .any] [] (fun o _ => o.fgt = .ret (.bool (eqAll p l m))) := by
  obtain ⟨R, hR⟩ : ∃ R, R = eqAll p l m := ⟨_, rfl⟩
  rw [← hR]
  have hl0 := hl
  unfold LMax at hl0
  refine Spec.movd globPure (wpD_spec tyOK Tryd.func37 rfl (enters _ _ Tryd.func37 rfl (by decide)) rfl rfl ?_)
  (refine wpD_seqk fun K hK => ?_; refine wpD_region tyOK ?_; ((repeat (rw [wpS_cons]; simp)); (try simp only [wpS_nil, thenD, blockD])); refine hK _ _ _ ?_; clear hK K)
  refine wpD_seqk fun K1 hK1 => ?_
  by_cases hlen : l.length = m.length
  · have hlen' : (l.length : Int) = m.length := by omega
    (refine wpD_seqk fun K hK => ?_; refine wpD_region tyOK ?_; ((repeat (rw [wpS_cons]; simp [hlen, hlen'])); (try simp only [wpS_nil, thenD, blockD])); refine hK _ _ _ ?_; clear hK K)
    refine wpD_part rfl (fun h => by simp at h) (fun _ => ?_)
    refine wpD_skip (hK1 _ _ _ ?_)
    clear hK1 K1
    refine wpD_seqk fun K1 hK1 => ?_
    (refine wpD_seqk fun K hK => ?_; refine wpD_region tyOK ?_; ((repeat (rw [wpS_cons]; simp)); (try simp only [wpS_nil, thenD, blockD])); refine hK _ _ _ ?_; clear hK K)
    refine wpD_block ?_
    refine wpD_loopWJ [4, 11, 12, 13, 14, 15, 16, 17, 18, 19, 20, 21, 22, 23, 24, 25, 26] [5] (fun n ys hl => ∃ (k : Nat), ys = [.int .i64 k] ∧ n + k = l.length ∧ R = eqAll p (l.drop k) (m.drop k) ∧ hl = []) (l.length) (by kernel_rfl) ?_ ?_
    · exact ⟨0, rfl, rfl, hR, rfl⟩
    · rintro n ys hl A hA ⟨i, rfl, hn, hF, rfl⟩
      simp only [putAll, List.set, List.map_cons, List.map_nil, List.cons_append, List.nil_append]
      refine wpD_seqk fun K2 hK2 => ?_
      by_cases hi : i < l.length
      · have hi2 : i < m.length := by omega
        have hi' : (i : Int) < l.length := by omega
        have hi2' : (i : Int) < m.length := by omega
        (refine wpD_seqk fun K hK => ?_; refine wpD_region tyOK ?_; ((repeat (rw [wpS_cons]; simp [hi, hi'])); (try simp only [wpS_nil, thenD, blockD])); refine hK _ _ _ ?_; clear hK K)
        refine wpD_part rfl (fun _ => ?_) (fun h => by simp at h)
        refine wpD_skip (hK2 _ _ _ ?_)
        clear hK2 K2
        refine wpD_seqk fun K3 hK3 => ?_
        refine wpD_block ?_
        rw [eqAll_drop hi hi2] at hF
        have hrec := hg l[i] m[i] (List.getElem_mem hi) (List.getElem_mem hi2)
        obtain ⟨x, hx⟩ : ∃ x, l[i] = x := ⟨_, rfl⟩
        obtain ⟨y, hy⟩ : ∃ y, m[i] = y := ⟨_, rfl⟩
        rw [hx, hy] at hrec hF
        have hEx := encT_eq x
        have hEy := encT_eq y
        rw [hEx, hEy] at hrec
        generalize p x y = B at hrec hF
        (refine wpD_seqk fun K hK => ?_; refine wpD_drawk tyOK (by kernel_rfl) (by kernel_rfl) fun KT hKT => ?_; ((repeat (rw [wpT_cons]; simp [hi, hi', hx, hi2, hi2', hy, hEx, hEy])); (try simp only [wpT_nil])))
        refine cYp (hrec) ?_
        ((try simp only [wpAftT_ret, wpAftT_pan, putS, updS, setS]); (repeat (rw [wpT_cons]; simp)); (try simp only [wpT_nil]))
        (refine hKT _ _ _ _ (by kernel_rfl) ?_; clear hKT KT; (try simp only [thenD, blockD]))
        (refine hK _ _ _ ?_; clear hK K)
        cases B with
        | true =>
          refine wpD_part rfl (fun h => by simp at h) (fun _ => ?_)
          refine wpD_skip (hK3 _ _ _ ?_)
          clear hK3 K3
          have hw1 : IntKind.i64.wrap ((i : Int) + 1) = (i : Int) + 1 := i64w (by omega) (by omega)
          (refine wpD_region tyOK ?_; ((repeat (rw [wpS_cons]; simp [hw1])); (try simp only [wpS_nil, thenD, blockD])))
          refine hA (n - 1) _ _ _ (LeT.refl _) (by omega) (by kernel_rfl) ?_
          exact ⟨i + 1, rfl, by omega, by simpa using hF, rfl⟩
        | false =>
          refine wpD_part rfl (fun _ => ?_) (fun h => by simp at h)
          (refine wpD_seqk fun K hK => ?_; refine wpD_region tyOK ?_; ((repeat (rw [wpS_cons]; simp)); (try simp only [wpS_nil, thenD, blockD])); refine hK _ _ _ ?_; clear hK K)
          (refine wpD_ret ?_; (try simp only [thenD, blockD]); refine EndQ.ret rfl (.inl ?_); simp [tmOf, Out.fgt, D.fgt, D.fgts])
          simpa using hF
      · have hi' : ¬ (i : Int) < l.length := by omega
        (refine wpD_seqk fun K hK => ?_; refine wpD_region tyOK ?_; ((repeat (rw [wpS_cons]; simp [hi, hi'])); (try simp only [wpS_nil, thenD, blockD])); refine hK _ _ _ ?_; clear hK K)
        refine wpD_part rfl (fun h => by simp at h) (fun _ => ?_)
        refine wpD_exit ?_
        refine hK1 _ _ _ ?_
        rw [List.drop_of_length_le (by omega), List.drop_of_length_le (by omega)] at hF
        have hF' : R = true := hF
        subst hF'
        (refine wpD_seqk fun K hK => ?_; refine wpD_region tyOK ?_; ((repeat (rw [wpS_cons]; simp)); (try simp only [wpS_nil, thenD, blockD])); refine hK _ _ _ ?_; clear hK K)
        (refine wpD_ret ?_; (try simp only [thenD, blockD]); refine EndQ.ret rfl (.inl ?_); simp [tmOf, Out.fgt, D.fgt, D.fgts])
  · have hlen' : ¬ (l.length : Int) = m.length := by omega
    (refine wpD_seqk fun K hK => ?_; refine wpD_region tyOK ?_; ((repeat (rw [wpS_cons]; simp [hlen, hlen'])); (try simp only [wpS_nil, thenD, blockD])); refine hK _ _ _ ?_; clear hK K)
    refine wpD_part rfl (fun _ => ?_) (fun h => by simp at h)
    (refine wpD_seqk fun K hK => ?_; refine wpD_region tyOK ?_; ((repeat (rw [wpS_cons]; simp)); (try simp only [wpS_nil, thenD, blockD])); refine hK _ _ _ ?_; clear hK K)
    (refine wpD_ret ?_; (try simp only [thenD, blockD]); refine EndQ.ret rfl (.inl ?_); simp [tmOf, Out.fgt, D.fgt, D.fgts])
    rw [hR]; exact eqAll_len hlen
theorem eqAll_eq {α : Type} [DecidableEq α] : ∀ l m : List α, eqAll (fun x y => decide (x = y)) l m = decide (l = m)
  | [], [] => by simp [eqAll]
  | [], _ :: _ => by simp [eqAll]
  | _ :: _, [] => by simp [eqAll]
  | a :: r, b :: s => by rw [eqAll, eqAll_eq r s]; by_cases h : a = b <;> simp [h]
mutual
/-- are two terms one datum? -/
def T.eqB : T → T → Bool
  | .mk k n a ls ks, .mk k' n' a' ls' ks' => decide (k = k') && decide (n = n') && decide (a = a') && decide (ls = ls') && T.eqsB ks ks'
def T.eqsB : List T → List T → Bool
  | [], [] => true
  | a :: r, b :: s => T.eqB a b && T.eqsB r s
  | [], _ :: _ => false
  | _ :: _, [] => false
end
mutual
theorem T.eqB_iff : ∀ t u : T, T.eqB t u = true ↔ t = u
  | .mk k n a ls ks, .mk k' n' a' ls' ks' => by rw [T.eqB]; simp [T.eqsB_iff ks ks', and_assoc]
theorem T.eqsB_iff : ∀ l m : List T, T.eqsB l m = true ↔ l = m
  | [], [] => by rw [T.eqsB]; simp
  | a :: r, b :: s => by rw [T.eqsB]; simp [T.eqB_iff a b, T.eqsB_iff r s]
  | [], _ :: _ => by rw [T.eqsB]; simp
  | _ :: _, [] => by rw [T.eqsB]; simp
end
theorem eqs_all : ∀ l m : List T, T.eqsB l m = eqAll T.eqB l m
  | [], [] => by rw [T.eqsB]; rfl
  | a :: r, b :: s => by rw [T.eqsB, eqs_all r s]; rfl
  | [], _ :: _ => by rw [T.eqsB]; rfl
  | _ :: _, [] => by rw [T.eqsB]; rfl
theorem sameLevels_spec (l m : List LV) (hl : l.length ≤ LMax) (hm : m.length ≤ LMax) (hls : ∀ x, x ∈ l → x.length ≤ LMax) (hms : ∀ x, x ∈ m → x.length ≤ LMax) :
    Spec Tryd.prog glob 43 [.slice (l.map encL) .any, .slice (m.map encL) .any] [] (fun o _ => o.fgt = .ret (.bool (decide (l = m)))) := by
  rw [← eqAll_eq]
  exact sameLevels_gen _ l m hl hm fun x y hx hy => sameLevel_spec x y (hls x hx) (hms y hy)
theorem eqT_spec (t : T) : ∀ u, okT t → okT u → Spec Tryd.prog glob 15 [encT t, encT u] [] (fun o _ => o.fgt = .ret (.bool (t.eqB u))) := by
  induction t using T.ind with
  | h k n a ls ks ih =>
    rintro ⟨k', n', a', ls', ks'⟩ ht hu
    have hls := ht.ls
    have hls' := hu.ls
    have hks := ht.ks
    have hks' := hu.ks
    simp only [T.ls_mk, T.ks_mk] at hls hls' hks hks'
    have hL := sameLevels_spec ls ls' ht.ll hu.ll (fun x hx => (hls x hx).1) (fun x hx => (hls' x hx).1)
    have hT := sameTerms_gen T.eqB ks ks' ht.kl hu.kl (fun x y hx hy => ih x hx y (hks x hx) (hks' y hy))
    have hF : (T.mk k n a ls ks).eqB (.mk k' n' a' ls' ks') = (decide (k = k') && decide (n = n') && decide (a = a') && decide (ls = ls') && T.eqsB ks ks') := by rw [T.eqB]
    rw [hF, eqs_all]
    generalize eqAll T.eqB ks ks' = B2 at hT ⊢
    generalize decide (ls = ls') = B1 at hL ⊢
    clear hF ih hls hls' hks hks' ht hu
    rw [encT_eq, encT_eq]
    simp only [T.k_mk, T.n_mk, T.a_mk, T.ls_mk, T.ks_mk]
    refine Spec.movd globPure (wpD_spec tyOK Tryd.func15 rfl (enters _ _ Tryd.func15 rfl (by decide)) rfl rfl ?_)
    (refine wpD_seqk fun K hK => ?_; refine wpD_region tyOK ?_; ((repeat (rw [wpS_cons]; simp)); (try simp only [wpS_nil, thenD, blockD])); refine hK _ _ _ ?_; clear hK K)
    by_cases h1 : k = k'
    · subst h1
      by_cases h2 : n = n'
      · subst h2
        by_cases h3 : a = a'
        · subst h3
          cases B1 with
          | true =>
            (refine wpD_seqk fun K hK => ?_; refine wpD_region tyOK ?_; ((repeat (rw [wpS_cons]; simp)); (try simp only [wpS_nil, thenD, blockD])))
            refine cXp (hL) ?_
            ((try simp only [wpAft_ret, wpAft_pan, putS, updS, setS]); (repeat (rw [wpS_cons]; simp)); (try simp only [wpS_nil, thenD, blockD]))
            refine cXp (hT) ?_
            ((try simp only [wpAft_ret, wpAft_pan, putS, updS, setS]); (repeat (rw [wpS_cons]; simp)); (try simp only [wpS_nil, thenD, blockD]))
            (refine hK _ _ _ ?_; clear hK K)
            (refine wpD_ret ?_; (try simp only [thenD, blockD]); refine EndQ.ret rfl (.inl ?_); simp [tmOf, Out.fgt, D.fgt, D.fgts])
          | false =>
            (refine wpD_seqk fun K hK => ?_; refine wpD_region tyOK ?_; ((repeat (rw [wpS_cons]; simp)); (try simp only [wpS_nil, thenD, blockD])))
            refine cXp (hL) ?_
            ((try simp only [wpAft_ret, wpAft_pan, putS, updS, setS]); (repeat (rw [wpS_cons]; simp)); (try simp only [wpS_nil, thenD, blockD]))
            (refine hK _ _ _ ?_; clear hK K)
            (refine wpD_ret ?_; (try simp only [thenD, blockD]); refine EndQ.ret rfl (.inl ?_); simp [tmOf, Out.fgt, D.fgt, D.fgts])
        · (refine wpD_seqk fun K hK => ?_; refine wpD_region tyOK ?_; ((repeat (rw [wpS_cons]; simp [h3])); (try simp only [wpS_nil, thenD, blockD])); refine hK _ _ _ ?_; clear hK K)
          (refine wpD_ret ?_; (try simp only [thenD, blockD]); refine EndQ.ret rfl (.inl ?_); simp [tmOf, Out.fgt, D.fgt, D.fgts])
          simp [h3]
      · (refine wpD_seqk fun K hK => ?_; refine wpD_region tyOK ?_; ((repeat (rw [wpS_cons]; simp [h2])); (try simp only [wpS_nil, thenD, blockD])); refine hK _ _ _ ?_; clear hK K)
        (refine wpD_ret ?_; (try simp only [thenD, blockD]); refine EndQ.ret rfl (.inl ?_); simp [tmOf, Out.fgt, D.fgt, D.fgts])
        simp [h2]
    · (refine wpD_seqk fun K hK => ?_; refine wpD_region tyOK ?_; ((repeat (rw [wpS_cons]; simp [h1])); (try simp only [wpS_nil, thenD, blockD])); refine hK _ _ _ ?_; clear hK K)
      (refine wpD_ret ?_; (try simp only [thenD, blockD]); refine EndQ.ret rfl (.inl ?_); simp [tmOf, Out.fgt, D.fgt, D.fgts])
      simp [h1]
end Go.Proofs.YtgloldepdhgfaaaDoor
