/-
  LevelDecides, on data.
-/
import Derived.Test.YtbjgdeednmhpfaaLsuc
set_option linter.unusedSimpArgs false
set_option linter.unusedVariables false
set_option maxHeartbeats 10000000
set_option maxRecDepth 20000
namespace Go.Proofs.Ytbjgdeednmhpfaa
open Go.RowKit

theorem fold_ge_n (ns : List Int) : ∀ (l : LV) (n : Int), n ≤ l.foldl (fun n p => max n (numV ns p.1 + p.2)) n
  | [], n => Int.le_refl n
  | p :: r, n => Int.le_trans (Int.le_max_left ..) (fold_ge_n ns r _)
theorem fold_ge_p (ns : List Int) {p : Int × Int} : ∀ (l : LV) (n : Int), p ∈ l → numV ns p.1 + p.2 ≤ l.foldl (fun n p => max n (numV ns p.1 + p.2)) n
  | q :: r, n, h => by
    rcases List.mem_cons.1 h with rfl | h
    · exact Int.le_trans (Int.le_max_right ..) (fold_ge_n ns r _)
    · exact fold_ge_p ns r _ h
theorem fold_le (ns : List Int) {m : Int} : ∀ (l : LV) (n : Int), n ≤ m → (∀ p, p ∈ l → numV ns p.1 + p.2 ≤ m) → l.foldl (fun n p => max n (numV ns p.1 + p.2)) n ≤ m
  | [], n, h, _ => h
  | p :: r, n, h, hp => fold_le ns r _ (Int.max_le.2 ⟨h, hp p (List.mem_cons_self ..)⟩) fun q hq => hp q (List.mem_cons_of_mem _ hq)
theorem valN_ge {ns : List Int} {l : LV} {p : Int × Int} (h : p ∈ l) : numV ns p.1 + p.2 ≤ valN ns l := fold_ge_p ns l 0 h
theorem valN_0 {ns : List Int} {l : LV} : 0 ≤ valN ns l := fold_ge_n ns l 0
theorem valN_le {ns : List Int} {l : LV} {m : Int} (h0 : 0 ≤ m) (h : ∀ p, p ∈ l → numV ns p.1 + p.2 ≤ m) : valN ns l ≤ m := fold_le ns l 0 h0 h

theorem numV_0 (ns : List Int) : numV ns 0 = 0 := by unfold numV; rw [if_neg (by omega)]
theorem dec_true {ns : List Int} {a b : LV} (h : leqM a b = true) : valN ns (normOf a) ≤ valN ns (normOf b) := by
  refine valN_le valN_0 fun p hp => ?_
  obtain ⟨q, hq, h1, h2⟩ := leqN_iff.1 h p hp
  have := valN_ge (ns := ns) hq
  rcases h1 with h1 | h1
  · rw [h1, numV_0]
    have := (numV_nn ns q.1).1
    omega
  · rw [h1]; omega

def oneN (v : Nat) : List Int := (List.replicate 200 0).set v 524288
theorem oneN_get (v i : Nat) (hv : v < 200) : (oneN v).getD i 0 = if i = v then 524288 else 0 := by
  unfold oneN
  rw [List.getD_eq_getElem?_getD]
  by_cases h : i = v
  · subst h
    rw [List.getElem?_set_self (by rw [List.length_replicate]; exact hv), if_pos rfl]; rfl
  · rw [List.getElem?_set_ne (fun e => h e.symm), if_neg h, List.getElem?_replicate]
    split <;> rfl
theorem oneN_num (v : Nat) (x : Int) (hv : v < 200) : numV (oneN v) x = if x = v + 1 then 524288 else 0 := by
  have hl : (oneN v).length = 200 := by unfold oneN; rw [List.length_set, List.length_replicate]
  unfold numV
  rw [oneN_get v _ hv, hl]
  by_cases h : x = v + 1
  · rw [if_pos (by omega), if_pos (by omega), if_pos (by omega), if_pos h]
  · rw [if_neg h]
    split
    · have hne : ¬ (x - 1).toNat = v := by omega
      rw [if_neg hne]; rfl
    · rfl

theorem small_ok {l : LV} (h : l.all smallP = true) : ∀ p, p ∈ l → 0 ≤ p.1 ∧ p.1 ≤ 200 ∧ 0 ≤ p.2 ∧ p.2 ≤ 262144 := fun p hp => by
  have := List.all_eq_true.1 h p hp
  simp only [smallP, Bool.not_eq_true', Bool.or_eq_false_iff, decide_eq_false_iff_not] at this
  omega
theorem small_okV {l : LV} (h : l.all smallP = true) : okV l := fun p hp => by
  have := small_ok h p hp
  simp only [badP, Bool.or_eq_false_iff, decide_eq_false_iff_not]
  omega

theorem dec_false {a b : LV} (ha : a.all smallP = true) (hb : b.all smallP = true) (h : leqM a b = false) (h0 : ¬ valN [] (normOf b) < valN [] (normOf a)) (h1 : ∀ v : Nat, v < 200 → ¬ valN (oneN v) (normOf b) < valN (oneN v) (normOf a)) : False := by
  have hn : ¬ ∀ p, p ∈ normOf a → ∃ q, q ∈ normOf b ∧ (p.1 = 0 ∨ p.1 = q.1) ∧ p.2 ≤ q.2 := fun h' => by
    have : leqM a b = true := leqN_iff.2 h'
    rw [h] at this; cases this
  simp only [Classical.not_forall, not_exists, not_and] at hn
  obtain ⟨p, hp, hq⟩ := hn
  have hps := small_ok ha p (norm_mem (small_okV ha) hp)
  have hqs : ∀ q, q ∈ normOf b → 0 ≤ q.1 ∧ q.1 ≤ 200 ∧ 0 ≤ q.2 ∧ q.2 ≤ 262144 := fun q hq => small_ok hb q (norm_mem (small_okV hb) hq)
  by_cases hp0 : p.1 = 0
  · have hz := ((normOf_nf a).z p hp hp0).1
    apply h0
    have e1 := valN_ge (ns := []) hp
    have e2 : valN [] (normOf b) ≤ p.2 - 1 := valN_le (by omega) fun q hqb => by
      have := hq q hqb (.inl hp0)
      have e : numV [] q.1 = 0 := by unfold numV; rw [if_neg (by simp)]
      rw [e]; omega
    rw [hp0, numV_0] at e1
    omega
  · obtain ⟨v, hv⟩ : ∃ v : Nat, p.1 = v + 1 := ⟨(p.1 - 1).toNat, by omega⟩
    have hv2 : v < 200 := by omega
    apply h1 v hv2
    have e1 := valN_ge (ns := oneN v) hp
    rw [oneN_num v _ hv2, if_pos hv] at e1
    have e2 : valN (oneN v) (normOf b) ≤ 524288 + p.2 - 1 := valN_le (by omega) fun q hqb => by
      rw [oneN_num v _ hv2]
      have hqq := hqs q hqb
      split
      · rename_i hqv
        have := hq q hqb (.inr (by omega))
        omega
      · omega
    omega

theorem oneN_map (v : Nat) : (List.replicate 200 (D.int .i64 0)).set v (D.int .i64 524288) = (oneN v).map (D.int .i64) := by
  unfold oneN
  rw [List.map_set, List.map_replicate]

end Go.Proofs.Ytbjgdeednmhpfaa
