/-
  slices.Clone of levels and of parts; term.own.
-/
import Derived.Test.YtmghkfiepcomgaaDoorAcc
import Derived.Test.YtmghkfiepcomgaaDoorTwalk1
set_option linter.unusedSimpArgs false
set_option linter.unusedVariables false
namespace Go.Proofs.YtmghkfiepcomgaaDoor
open Go.RowKit

theorem info_level : (Tryd.prog.info? 78).map (fun i => (i.zero, i.size, i.bytes)) = some (some (.agg #[.slice none 0 0]), 1, 24) := by kernel_rfl
theorem info_part : (Tryd.prog.info? 81).map (fun i => (i.zero, i.size, i.bytes)) = some (some (.agg #[.int .i64 0, .int .i64 0]), 2, 16) := by kernel_rfl
theorem info_term : (Tryd.prog.info? 26).map (fun i => (i.zero, i.size, i.bytes)) = some (some (.agg #[.int .i64 0, .int .i64 0, .int .i64 0, .slice none 0 0, .slice none 0 0]), 5, 72) := by kernel_rfl

/-- what Clone leaves: a row of the call's own with the source's cells -/
def Cloned {α : Type} (r : Rep α) (e : TypeId) (F : Nat → Prop) (w : World) (n : Nat) (xs : List α) (en : Ending) (w' : World) : Prop :=
  ∃ v' cells, en = .returned v' ∧ Below w.heap.size w w' ∧ w'.ownsRow w.heap.size e r.sz v' n cells ∧ ∀ i x, xs[i]? = some x → r.R F w' (chunk r.sz cells i) x

set_option maxRecDepth 10000 in
set_option maxHeartbeats 400000 in
theorem clone_levels (A : Option Addr) (n c : Nat) (xs : List LV) (F : Nat → Prop) (w : World) (hF : ∀ b, F b → b < w.heap.size) (h : levelRep.Sl F w (.slice A n c) xs) :
    Calls Tryd.prog 53 #[.slice A n c] w (Cloned levelRep 78 F w n xs) := by
  obtain ⟨cells, h1, h2, h3, h4⟩ := h.cells
  obtain ⟨i0, hi0, hz0, hz1, hz2⟩ := info_parts info_level
  obtain ⟨hn, -, -, hLM⟩ := h.len
  have hb1 : 0 + n ≤ maxLen := by unfold LM at hLM; simp only [maxLen]; omega
  have hb2 : (0 + n) * 24 ≤ 140737488355328 := by unfold LM at hLM; omega
  have HB1 := hid hb1
  have HB2 := hid hb2
  clear hb1 hb2 hLM
  have hne := @Lib.run_eql_slice_nil Tryd.prog
  rcases A with _ | ad
  · have hx : n = 0 := by
      by_cases hn0 : 0 < n
      · obtain ⟨b, o, e, -⟩ := h3 hn0; cases e
      · omega
    subst hx
    have HX := hid hn
    clear hn h h1 h2 h3 h4
    go_enter Tryd.func53, Tryd.ntmps53
    go_wp2
    go_ret
    refine ⟨_, [], rfl, Below.refl _ _, World.ownsRow_nil _ _ _ _, fun i x hx => ?_⟩
    have : xs = [] := List.eq_nil_of_length_eq_zero HX.out.symm
    subst this
    simp at hx
  · have H1 := hid h1
    have H2 := hid h2
    have H4 := hid h4
    have HN := hid hn
    have hcell : ∀ j u, cells[j]? = some u → w.cell? (ad.add j) = some u := by
      intro j u hu
      have hj := (List.getElem?_eq_some_iff.1 hu).1
      have hp := levelRep.pos
      obtain ⟨b, o, e, -, hat⟩ := h3 (by rcases Nat.eq_zero_or_pos n with e | e; · subst e; simp at h1; subst h1; simp at hj
                                         · exact e)
      simp only [Option.some.injEq] at e
      subst e
      have hadd : (⟨b, o, none⟩ : Addr).add j = ⟨b, o + j, none⟩ := by unfold Addr.add; split <;> simp_all
      rw [hadd]; exact hat j u hu
    have H3 := hid hcell
    clear hcell h3 hn h1 h2 h4 h
    go_enter Tryd.func53, Tryd.ntmps53
    go_wp2_with (at_builtin; refine wpList_append_own _ rfl (.tmp 5) (.tmp 6) _ rfl w.heap.size 78 i0 _ 1 24 Tryd.underlying23 hi0 hz0 hz1 hz2 rfl (by decide) _ 0 [] rfl (World.ownsRow_made w #[] 0 (Nat.le_refl _) (by decide) rfl) ad n c cells rfl H1.out (fun j u hu => cell_later ((Below.refl _ _).alloc (Nat.le_refl _) _) (H3.out j u hu)) H2.out HB1.out HB2.out (by simp) ?_; intro v' w' hown hg hnil)
    go_ret
    have hbel : Below w.heap.size w w' := ((Below.refl w.heap.size w).alloc (Nat.le_refl _) _).grown hg (by simp) (fun k hk => by cases hk; exact Nat.le_refl _)
    exact ⟨v', cells, rfl, hbel, by simpa [levelRep] using hown, fun i x hx => levelRep.mono (keepF hbel hF) (fun _ h => h) (H4.out i x hx)⟩
set_option maxRecDepth 10000 in
set_option maxHeartbeats 400000 in
theorem clone_parts (A : Option Addr) (n c : Nat) (xs : List (Int × Int)) (F : Nat → Prop) (w : World) (hF : ∀ b, F b → b < w.heap.size) (h : partRep.Sl F w (.slice A n c) xs) :
    Calls Tryd.prog 54 #[.slice A n c] w (Cloned partRep 81 F w n xs) := by
  obtain ⟨cells, h1, h2, h3, h4⟩ := h.cells
  obtain ⟨i0, hi0, hz0, hz1, hz2⟩ := info_parts info_part
  obtain ⟨hn, -, -, hLM⟩ := h.len
  have hb1 : 0 + n ≤ maxLen := by unfold LM at hLM; simp only [maxLen]; omega
  have hb2 : (0 + n) * 16 ≤ 140737488355328 := by unfold LM at hLM; omega
  have HB1 := hid hb1
  have HB2 := hid hb2
  clear hb1 hb2 hLM
  have hne := @Lib.run_eql_slice_nil Tryd.prog
  rcases A with _ | ad
  · have hx : n = 0 := by
      by_cases hn0 : 0 < n
      · obtain ⟨b, o, e, -⟩ := h3 hn0; cases e
      · omega
    subst hx
    have HX := hid hn
    clear hn h h1 h2 h3 h4
    go_enter Tryd.func54, Tryd.ntmps54
    go_wp2
    go_ret
    refine ⟨_, [], rfl, Below.refl _ _, World.ownsRow_nil _ _ _ _, fun i x hx => ?_⟩
    have : xs = [] := List.eq_nil_of_length_eq_zero HX.out.symm
    subst this
    simp at hx
  · have H1 := hid h1
    have H2 := hid h2
    have H4 := hid h4
    have HN := hid hn
    have hcell : ∀ j u, cells[j]? = some u → w.cell? (ad.add j) = some u := by
      intro j u hu
      have hj := (List.getElem?_eq_some_iff.1 hu).1
      have hp := partRep.pos
      obtain ⟨b, o, e, -, hat⟩ := h3 (by rcases Nat.eq_zero_or_pos n with e | e; · subst e; simp at h1; subst h1; simp at hj
                                         · exact e)
      simp only [Option.some.injEq] at e
      subst e
      have hadd : (⟨b, o, none⟩ : Addr).add j = ⟨b, o + j, none⟩ := by unfold Addr.add; split <;> simp_all
      rw [hadd]; exact hat j u hu
    have H3 := hid hcell
    clear hcell h3 hn h1 h2 h4 h
    go_enter Tryd.func54, Tryd.ntmps54
    go_wp2_with (at_builtin; refine wpList_append_own _ rfl (.tmp 5) (.tmp 6) _ rfl w.heap.size 81 i0 _ 2 16 Tryd.underlying76 hi0 hz0 hz1 hz2 rfl (by decide) _ 0 [] rfl (World.ownsRow_made w #[] 0 (Nat.le_refl _) (by decide) rfl) ad n c cells rfl H1.out (fun j u hu => cell_later ((Below.refl _ _).alloc (Nat.le_refl _) _) (H3.out j u hu)) H2.out HB1.out HB2.out (by simp) ?_; intro v' w' hown hg hnil)
    go_ret
    have hbel : Below w.heap.size w w' := ((Below.refl w.heap.size w).alloc (Nat.le_refl _) _).grown hg (by simp) (fun k hk => by cases hk; exact Nat.le_refl _)
    exact ⟨v', cells, rfl, hbel, by simpa [partRep] using hown, fun i x hx => partRep.mono (keepF hbel hF) (fun _ h => h) (H4.out i x hx)⟩
end Go.Proofs.YtmghkfiepcomgaaDoor
