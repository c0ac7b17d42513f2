/-
  A statement whose order is open: operations that yield the same in every world that meets S are taken first; S is asked behind every operation till one of D has come up.
-/
import Derived.OrdersHeld
import Derived.WalkKit
namespace Go.Proofs.YtmghkfiepcomgaaDoor
open Go.RowKit

section
variable {P : Program} {ops : Array Oper} {Q : Exit → Act → World → Prop} {D : Nat → Bool} {S : World → Prop}

/-- has one of D come up? -/
def Brk (D : Nat → Bool) (listed : Array Bool) : Prop := ∃ j, D j = true ∧ listed.getD j false = true

/-- does every operation of D wait for this one? -/
def waited (D : Nat → Bool) (ops : Array Oper) (i : Nat) : Bool := (List.range ops.size).all fun j => !D j || j == i || ((ops[j]?).map (·.after.toList.any fun e => e.on == i && Region.binds .any e)).getD false

/-- has none of D come up? -/
def unbroken (D : Nat → Bool) (listed : Array Bool) : Bool := (List.range listed.size).all fun j => !D j || !(listed.getD j false)

theorem unbroken_spec {listed : Array Bool} (h : unbroken D listed = true) : ¬ Brk D listed := by
  rintro ⟨j, h1, h2⟩
  have hj : j < listed.size := by
    rcases Nat.lt_or_ge j listed.size with h | h
    · exact h
    · simp [Array.getElem?_eq_none h] at h2
  have := (List.all_eq_true.1 h) j (List.mem_range.2 hj)
  rw [h1, h2] at this
  simp at this

theorem Brk.back {listed : Array Bool} {i : Nat} (hD : D i = false) (h : Brk D (listed.setIfInBounds i true)) : Brk D listed := by
  obtain ⟨j, h1, h2⟩ := h
  have hij : i ≠ j := by rintro rfl; rw [hD] at h1; cases h1
  rw [getD_set_ne false hij] at h2
  exact ⟨j, h1, h2⟩

theorem Brk.on {listed : Array Bool} {i : Nat} (h : Brk D listed) : Brk D (listed.setIfInBounds i true) := by
  obtain ⟨j, h1, h2⟩ := h
  exact ⟨j, h1, getD_set_true h2⟩

/-- Whatever order is picked from here on, and S holds behind every operation till one of D has come up. -/
def wpAnyJ (P : Program) (ops : Array Oper) (Q : Exit → Act → World → Prop) (D : Nat → Bool) (S : World → Prop) : Nat → Array Bool → Act → World → Prop
  | 0, listed, a, w => Region.ready .any ops listed = [] ∧ Q .normal a w
  | fuel + 1, listed, a, w =>
    (Region.ready .any ops listed = [] → Q .normal a w) ∧
    ∀ i ∈ Region.ready .any ops listed, wpOp P ops Q i (fun a' w' => (Brk D (listed.setIfInBounds i true) ∨ S w') ∧ wpAnyJ P ops Q D S fuel (listed.setIfInBounds i true) a' w') a w

theorem wpAny_of_J : ∀ (fuel : Nat) (listed : Array Bool) (a : Act) (w : World), wpAnyJ P ops Q D S fuel listed a w → wpAny P .any ops Q fuel listed a w
  | 0, _, _, _, h => h
  | fuel + 1, _, _, _, h => ⟨h.1, fun i hi => wpOp_mono (fun a' w' h' => wpAny_of_J fuel _ a' w' h'.2) (h.2 i hi)⟩

theorem comm_brk {listed : Array Bool} {i j : Nat} (hD : D i = false) (hij : i ≠ j) {w : World} (h : Brk D ((listed.setIfInBounds i true).setIfInBounds j true) ∨ S w) : Brk D (listed.setIfInBounds j true) ∨ S w := by
  rw [Array.setIfInBounds_comm _ _ hij] at h
  exact h.imp (Brk.back hD) id

theorem wpAnyJ_first {i : Nat} {oi : Oper} {v : Value} {C : World → Prop} (hi : ops[i]? = some oi) (hsel : ∀ (j : Nat) (o : Oper) cs b, ops[j]? = some o → o.op ≠ .select cs b)
    (hD : D i = false) (hQ : ∀ c a w, Q (.panic c) (a.put oi.dst v) w → Q (.panic c) a w) (hC : (∀ w, C w) ∨ ((∀ w, S w → C w) ∧ waited D ops i = true)) :
    ∀ (fuel : Nat) (listed : Array Bool) (a : Act) (w : World),
      (∀ j oj, ops[j]? = some oj → j ≠ i → listed.getD j true = false → (∀ e ∈ oj.after, Region.binds .any e = true → e.on ≠ i) → oi.apart ops oj = true) →
      i ∈ Region.ready .any ops listed → YieldsIf P ops C oi v a → Brk D listed ∨ S w → ((∀ w, C w) ∨ ¬ Brk D listed) →
      wpAnyJ P ops Q D S fuel (listed.setIfInBounds i true) (a.put oi.dst v) w → wpAnyJ P ops Q D S (fuel + 1) listed a w := by
  intro fuel
  have hCw : ∀ {listed : Array Bool} {w : World}, Brk D listed ∨ S w → ((∀ w, C w) ∨ ¬ Brk D listed) → C w := fun h1 h2 => by
    rcases h2 with h2 | h2
    · exact h2 _
    · rcases hC with hC | hC
      · exact hC _
      · exact hC.1 _ (h1.resolve_left h2)
  induction fuel with
  | zero =>
    intro listed a w _ hr hy hb hn H
    refine ⟨fun h => (by rw [h] at hr; cases hr), fun j hj => ?_⟩
    by_cases hji : j = i
    · subst hji; exact hy.wpOp hi (hCw hb hn) ⟨hb.imp Brk.on id, H⟩
    · have := ready_mono hj hji
      rw [H.1] at this
      cases this
  | succ fuel ih =>
    intro listed a w hfree hr hy hb hn H
    refine ⟨fun h => (by rw [h] at hr; cases hr), fun j hj => ?_⟩
    by_cases hji : j = i
    · subst hji; exact hy.wpOp hi (hCw hb hn) ⟨hb.imp Brk.on id, H⟩
    · have h1 := H.2 j (ready_mono hj hji)
      obtain ⟨hjun, oj, hoj, hall⟩ := mem_ready.1 hj
      have hnot : ∀ e ∈ oj.after, Region.binds .any e = true → e.on ≠ i := fun e he hb heq => by
        have h1 := hall e he hb
        have h0 := (mem_ready.1 hr).1
        rw [heq] at h1
        rcases Nat.lt_or_ge i listed.size with h' | h'
        · simp [h'] at h0 h1; rw [h0] at h1; cases h1
        · simp [Array.getElem?_eq_none h'] at h1
      have hri : i ∈ Region.ready .any ops (listed.setIfInBounds j true) := ready_mono hr (Ne.symm hji)
      have h2 := wpOp_putIf hoj (hfree j oj hoj hji hjun hnot) (fun cs b => hsel i oi cs b hi) (fun cs b => hsel j oj cs b hoj) hQ hy h1
      have hfree' : ∀ k ok, ops[k]? = some ok → k ≠ i → (listed.setIfInBounds j true).getD k true = false →
          (∀ e ∈ ok.after, Region.binds .any e = true → e.on ≠ i) → oi.apart ops ok = true := fun k ok hk hki hun hno => by
        refine hfree k ok hk hki ?_ hno
        by_cases hjk : j = k
        · subst hjk; exact hjun
        · rw [getD_set_ne true hjk] at hun; exact hun
      have hn' : (∀ w, C w) ∨ ¬ Brk D (listed.setIfInBounds j true) := by
        rcases hn with hn | hn
        · exact .inl hn
        · rcases hC with hC | hC
          · exact .inl hC
          · right
            have hDj : D j = false := by
              cases hl : D j with
              | false => rfl
              | true =>
                have := (List.all_eq_true.1 hC.2) j (List.mem_range.2 (Array.getElem?_eq_some_iff.1 hoj).1)
                rw [hoj, hl] at this
                simp only [Bool.not_true, Bool.false_or, Option.map_some, Option.getD_some, Bool.or_eq_true, beq_iff_eq, List.any_eq_true, Bool.and_eq_true, Array.mem_toList_iff] at this
                rcases this with h | ⟨e, he, h1, h2⟩
                · exact absurd h hji
                · exact absurd h1 (hnot e he h2)
            exact fun h => hn (h.back hDj)
      refine wpOp_mono (fun a' w' h3 => ?_) h2
      have hb' : Brk D (listed.setIfInBounds j true) ∨ S w' := comm_brk hD (Ne.symm hji) h3.2.1
      refine ⟨hb', ih (listed.setIfInBounds j true) a' w' hfree' hri h3.1 hb' hn' ?_⟩
      rw [Array.setIfInBounds_comm _ _ hji]
      exact h3.2.2

/-- A load (held): it may come up, yields v in every world that meets S, nobody who could come before it touches its temporaries, all of D wait for it. -/
theorem takeJ {i : Nat} {oi : Oper} {v : Value} {fuel : Nat} {listed : Array Bool} {a : Act} {w : World} (hi : ops[i]? = some oi)
    (hs : Region.noSelect ops = true) (hf : Region.free .any ops listed i = true) (hr : (Region.ready .any ops listed).contains i = true) (hwt : (!D i && waited D ops i && unbroken D listed) = true)
    (hQ : ∀ c a w, Q (.panic c) (a.put oi.dst v) w → Q (.panic c) a w) (hy : YieldsIf P ops S oi v a) (hS : S w)
    (h : wpAnyJ P ops Q D S fuel (listed.setIfInBounds i true) (a.put oi.dst v) w) : wpAnyJ P ops Q D S (fuel + 1) listed a w := by
  simp only [Bool.and_eq_true, Bool.not_eq_true'] at hwt
  exact wpAnyJ_first (C := S) hi (Region.noSelect_spec hs) hwt.1.1 hQ (.inr ⟨fun _ h => h, hwt.1.2⟩) fuel listed a w (Region.free_spec hi hf) (by simpa using hr) hy (.inr hS) (.inr (unbroken_spec hwt.2)) h

/-- One that yields v in whatever world. -/
theorem pureJ {i : Nat} {oi : Oper} {v : Value} {fuel : Nat} {listed : Array Bool} {a : Act} {w : World} (hi : ops[i]? = some oi)
    (hs : Region.noSelect ops = true) (hf : Region.free .any ops listed i = true) (hr : (Region.ready .any ops listed).contains i = true) (hD : D i = false)
    (hQ : ∀ c a w, Q (.panic c) (a.put oi.dst v) w → Q (.panic c) a w) (hy : YieldsIf P ops (fun _ => True) oi v a) (hS : S w)
    (h : wpAnyJ P ops Q D S fuel (listed.setIfInBounds i true) (a.put oi.dst v) w) : wpAnyJ P ops Q D S (fuel + 1) listed a w :=
  wpAnyJ_first (C := fun _ => True) hi (Region.noSelect_spec hs) hD hQ (.inl fun _ => trivial) fuel listed a w (Region.free_spec hi hf) (by simpa using hr) hy (.inr hS) (.inl fun _ => trivial) h

/-- Number i alone may come up: it is carried out; S behind it. -/
theorem soloJ {i : Nat} {o : Oper} {fuel : Nat} {listed : Array Bool} {a : Act} {w : World} (hr : Region.ready .any ops listed = [i]) (ho : ops[i]? = some o) (hg : o.guard = none)
    (h : ∀ K : Act → World → Prop, (∀ a' w', S w' → (S w' → wpAnyJ P ops Q D S fuel (listed.setIfInBounds i true) a' w') → K a' w') → o.wp P a w K Q) : wpAnyJ P ops Q D S (fuel + 1) listed a w := by
  refine ⟨fun h0 => (by rw [hr] at h0; cases h0), fun j hj => ?_⟩
  rw [hr] at hj
  obtain rfl : j = i := by simpa using hj
  unfold wpOp
  simp only [ho, Region.wanted, hg, if_true]
  exact .inl (h _ (fun a' w' h1 h2 => ⟨.inr h1, h2 h1⟩))

/-- The last one, one of D. -/
theorem lastJ {i : Nat} {o : Oper} {fuel : Nat} {listed : Array Bool} {a : Act} {w : World} (hr : Region.ready .any ops listed = [i]) (ho : ops[i]? = some o) (hg : o.guard = none) (hl : (D i && (listed.setIfInBounds i true).getD i false) = true)
    (hd : Region.ready .any ops (listed.setIfInBounds i true) = [])
    (h : ∀ K : Act → World → Prop, (∀ a' w', Q .normal a' w' → K a' w') → o.wp P a w K Q) : wpAnyJ P ops Q D S (fuel + 1) listed a w := by
  refine ⟨fun h0 => (by rw [hr] at h0; cases h0), fun j hj => ?_⟩
  rw [hr] at hj
  obtain rfl : j = i := by simpa using hj
  unfold wpOp
  simp only [ho, Region.wanted, hg, if_true]
  rw [Bool.and_eq_true] at hl
  refine .inl (h _ (fun a' w' h1 => ⟨.inl ⟨j, hl.1, hl.2⟩, ?_⟩))
  cases fuel with
  | zero => exact ⟨hd, h1⟩
  | succ f => exact ⟨fun _ => h1, by rw [hd]; simp⟩

/-- All have come up. -/
theorem doneJ {listed : Array Bool} {a : Act} {w : World} (hr : Region.ready .any ops listed = []) (h : Q .normal a w) :
    ∀ fuel, wpAnyJ P ops Q D S fuel listed a w
  | 0 => ⟨hr, h⟩
  | _ + 1 => ⟨fun _ => h, by rw [hr]; simp⟩

/-- The beginning: S of the world behind the draw, once. -/
theorem startJ (D : Nat → Bool) (S : World → Prop) {id : Nat} {a : Act} {w : World} (hm : P.follows .mixedOrders = true) (hS : S w.drew)
    (h : S w.drew → wpAnyJ P ops Q D S ops.size (Array.replicate ops.size false) a w.drew) : (Code.region id ops true).wp P Q a w :=
  wp_region_any hm (wpAny_of_J _ _ _ _ (h hS))
end
end Go.Proofs.YtmghkfiepcomgaaDoor
