/-
  The reference's normal form is the program's.
-/
import Derived.Test.YtbjgdeednmhpfaaRnorm
namespace Go.Proofs.Ytbjgdeednmhpfaa
open Go.RowKit

theorem insR_mem {p y : Int × Int} : ∀ {o : LV}, y ∈ insR p o → y = p ∨ y ∈ o
  | [], h => by rw [insR, List.mem_singleton] at h; exact .inl h
  | q :: r, h => by
    rw [insR] at h
    split at h
    · rcases List.mem_cons.1 h with rfl | h
      · exact .inr (List.mem_cons_self ..)
      · exact (insR_mem h).imp id (List.mem_cons_of_mem _)
    · split at h
      · rename_i he
        rcases List.mem_cons.1 h with h | h
        · by_cases hm : p.2 ≤ q.2
          · right
            rw [h, Int.max_eq_right hm, ← he]; exact List.mem_cons_self ..
          · left
            rw [h, Int.max_eq_left (by omega)]
        · exact .inr (List.mem_cons_of_mem _ h)
      · rcases List.mem_cons.1 h with h | h
        · exact .inl h
        · exact .inr h
theorem insR_has {p x : Int × Int} : ∀ {o : LV}, x = p ∨ x ∈ o → ∃ y, y ∈ insR p o ∧ y.1 = x.1 ∧ x.2 ≤ y.2
  | [], h => by
    rcases h with rfl | h
    · exact ⟨x, by rw [insR]; simp, rfl, Int.le_refl _⟩
    · cases h
  | q :: r, h => by
    rw [insR]
    by_cases h1 : q.1 < p.1
    · rw [if_pos h1]
      rcases h with h | h
      · obtain ⟨y, hy, h2⟩ := insR_has (o := r) (.inl h)
        exact ⟨y, List.mem_cons_of_mem _ hy, h2⟩
      · rcases List.mem_cons.1 h with rfl | h
        · exact ⟨x, List.mem_cons_self .., rfl, Int.le_refl _⟩
        · obtain ⟨y, hy, h2⟩ := insR_has (p := p) (o := r) (.inr h)
          exact ⟨y, List.mem_cons_of_mem _ hy, h2⟩
    · rw [if_neg h1]
      by_cases h3 : q.1 = p.1
      · rw [if_pos h3]
        rcases h with rfl | h
        · exact ⟨_, List.mem_cons_self .., rfl, Int.le_max_left ..⟩
        · rcases List.mem_cons.1 h with rfl | h
          · exact ⟨_, List.mem_cons_self .., h3.symm, Int.le_max_right ..⟩
          · exact ⟨x, List.mem_cons_of_mem _ h, rfl, Int.le_refl _⟩
      · rw [if_neg h3]
        rcases h with rfl | h
        · exact ⟨x, List.mem_cons_self .., rfl, Int.le_refl _⟩
        · exact ⟨x, List.mem_cons_of_mem _ h, rfl, Int.le_refl _⟩
theorem insR_up {p : Int × Int} : ∀ {o : LV}, o.Pairwise (fun p q => p.1 < q.1) → (insR p o).Pairwise (fun p q => p.1 < q.1)
  | [], _ => by rw [insR]; simp
  | q :: r, h => by
    rw [List.pairwise_cons] at h
    rw [insR]
    by_cases h1 : q.1 < p.1
    · rw [if_pos h1, List.pairwise_cons]
      refine ⟨fun y hy => ?_, insR_up h.2⟩
      rcases insR_mem hy with rfl | hy
      · exact h1
      · exact h.1 y hy
    · rw [if_neg h1]
      by_cases h3 : q.1 = p.1
      · rw [if_pos h3, List.pairwise_cons]
        exact ⟨fun y hy => by have := h.1 y hy; dsimp only; omega, h.2⟩
      · rw [if_neg h3, List.pairwise_cons, List.pairwise_cons]
        refine ⟨fun y hy => ?_, h⟩
        rcases List.mem_cons.1 hy with rfl | hy
        · omega
        · have := h.1 y hy; omega

theorem fold_all : ∀ (l o : LV), o.Pairwise (fun p q => p.1 < q.1) → (l.foldl (fun o p => insR p o) o).Pairwise (fun p q => p.1 < q.1) ∧
    (∀ y, y ∈ l.foldl (fun o p => insR p o) o → y ∈ o ∨ y ∈ l) ∧ (∀ x, x ∈ o ∨ x ∈ l → ∃ y, y ∈ l.foldl (fun o p => insR p o) o ∧ y.1 = x.1 ∧ x.2 ≤ y.2)
  | [], o, h => ⟨h, fun y hy => .inl hy, fun x hx => ⟨x, hx.elim id (fun h => nomatch h), rfl, Int.le_refl _⟩⟩
  | p :: r, o, h => by
    obtain ⟨h1, h2, h3⟩ := fold_all r (insR p o) (insR_up h)
    refine ⟨h1, fun y hy => ?_, fun x hx => ?_⟩
    · rcases h2 y hy with hy | hy
      · rcases insR_mem hy with rfl | hy
        · exact .inr (List.mem_cons_self ..)
        · exact .inl hy
      · exact .inr (List.mem_cons_of_mem _ hy)
    · have key : (x = p ∨ x ∈ o) → ∃ y, y ∈ r.foldl (fun o p => insR p o) (insR p o) ∧ y.1 = x.1 ∧ x.2 ≤ y.2 := fun hx => by
        obtain ⟨z, hz, e1, e2⟩ := insR_has hx
        obtain ⟨y, hy, e3, e4⟩ := h3 z (.inl hz)
        exact ⟨y, hy, by omega, by omega⟩
      rcases hx with hx | hx
      · exact key (.inr hx)
      · rcases List.mem_cons.1 hx with hx | hx
        · exact key (.inl hx)
        · exact h3 x (.inr hx)

theorem hideR_sub {o : LV} {y : Int × Int} (h : y ∈ hideR o) : y ∈ o := by
  cases o with
  | nil => exact h
  | cons q r =>
    rw [hideR] at h
    split at h
    · exact List.mem_cons_of_mem _ h
    · exact h
theorem hideR_nf {o : LV} (hu : o.Pairwise (fun p q => p.1 < q.1)) (ho : okV o) : NF (hideR o) := by
  refine ⟨?_, fun p hp => ho p (hideR_sub hp), ?_⟩
  · cases o with
    | nil => exact hu
    | cons q r =>
      rw [hideR]
      split
      · exact (List.pairwise_cons.1 hu).2
      · exact hu
  · intro p hp hp0
    cases o with
    | nil => cases hp
    | cons q r =>
      obtain ⟨hq, -⟩ := List.pairwise_cons.1 hu
      have hq0 := (badP_nn (ho q (List.mem_cons_self ..))).1
      rw [hideR] at hp ⊢
      split at hp
      · have := hq p hp; omega
      · rename_i hk
        rcases List.mem_cons.1 hp with rfl | hp
        · have hkk : keepR p r = true := by
            cases hkr : keepR p r with
            | true => rfl
            | false => exact absurd ⟨hp0, hkr⟩ hk
          rw [if_neg hk]
          simp only [keepR, Bool.and_eq_true, decide_eq_true_eq, List.all_eq_true] at hkk
          refine ⟨hkk.1, fun x hx hx0 => ?_⟩
          rcases List.mem_cons.1 hx with rfl | hx
          · omega
          · exact hkk.2 x hx
        · have := hq p hp; omega
theorem hideR_dom {o : LV} (ho : okV o) : leR o (hideR o) := by
  intro p hp
  cases o with
  | nil => cases hp
  | cons q r =>
    rw [hideR]
    split
    · rename_i hk
      rcases List.mem_cons.1 hp with rfl | hp
      · have hp2 := (badP_nn (ho p (List.mem_cons_self ..))).2.1
        by_cases h0 : p.2 = 0
        · exact .inl ⟨hk.1, h0⟩
        · have h1 := hk.2
          simp only [keepR, Bool.and_eq_false_iff, decide_eq_false_iff_not, List.all_eq_false, decide_eq_true_eq] at h1
          rcases h1 with h1 | ⟨x, hx, h1⟩
          · omega
          · exact .inr ⟨x, hx, .inl hk.1, by omega⟩
      · exact .self hp
    · exact .self hp

theorem normR_eq (l : LV) : normR l = normOf l := by
  cases hb : anyBad l with
  | true => unfold normR normOf; rw [hb]; rfl
  | false =>
    have hok : okV l := anyBad_of hb
    obtain ⟨h1, h2, h3⟩ := fold_all l [] List.Pairwise.nil
    have hof : okV (foldR l) := fun y hy => (h2 y hy).elim (fun h => nomatch h) (hok y)
    have hnf : NF (hideR (foldR l)) := hideR_nf h1 hof
    have hn : normR l = hideR (foldR l) := if_neg (by rw [hb]; simp)
    rw [hn, ← norm_id hnf]
    refine norm_ext hnf.ok hok (fun y hy => ?_) (fun x hx => ?_)
    · exact .self ((h2 y (hideR_sub hy)).elim (fun h => nomatch h) id)
    · obtain ⟨y, hy, e1, e2⟩ := h3 x (.inr hx)
      exact (hideR_dom hof y hy).step (badP_nn (hok x hx)).2.1 (.inr e1.symm) e2

theorem rnormN_spec (l : LV) (hl : l.length < LMax) : Spec Try.prog glob 34 [encL l] [] (fun o _ => o.fgt = .ret (encL (normOf l))) := by
  have := rnorm_spec l hl
  rw [normR_eq] at this
  exact this
end Go.Proofs.Ytbjgdeednmhpfaa
