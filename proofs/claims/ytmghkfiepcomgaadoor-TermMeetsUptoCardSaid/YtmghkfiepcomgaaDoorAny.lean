/-
  A statement whose order is open, by what each operation leaves: R k holds of the value of number k, however memory grows; B of the world.
-/
import Derived.OrdersHeld
import Derived.WalkKit
namespace Go.Proofs.YtmghkfiepcomgaaDoor
open Go.RowKit

/-- memory grows; of the new blocks some are private -/
structure Ext (X : Nat → Prop) (w : World) (X' : Nat → Prop) (w' : World) : Prop where
  bel : Below w.heap.size w w'
  up : ∀ b, X b → X' b
  new : ∀ b, X' b → X b ∨ (w.heap.size ≤ b ∧ b < w'.heap.size)

section
variable {X Y Z : Nat → Prop} {u v w : World}
theorem Ext.refl (X : Nat → Prop) (w : World) : Ext X w X w := ⟨Below.refl _ _, fun _ h => h, fun _ h => .inl h⟩
theorem Ext.trans (h : Ext X u Y v) (k : Ext Y v Z w) : Ext X u Z w :=
  ⟨h.bel.trans (k.bel.mono h.bel.size), fun b hb => k.up b (h.up b hb), fun b hb => by
    have h1 := h.bel.size
    have h2 := k.bel.size
    rcases k.new b hb with hb | hb
    · rcases h.new b hb with hb | hb
      · exact .inl hb
      · exact .inr ⟨hb.1, by omega⟩
    · exact .inr ⟨by omega, hb.2⟩⟩
theorem Ext.of (h : Below w.heap.size w v) : Ext X w X v := ⟨h, fun _ h => h, fun _ h => .inl h⟩
theorem Ext.lt (h : Ext X w Y v) (hX : ∀ b, X b → b < w.heap.size) : ∀ b, Y b → b < v.heap.size := fun b hb => by
  have h1 := h.bel.size
  rcases h.new b hb with hb | hb
  · have := hX b hb; omega
  · exact hb.2
/-- one private block more -/
theorem Ext.alloc (X : Nat → Prop) (w : World) (o : Obj) : Ext X w (fun b => X b ∨ b = w.heap.size) (w.alloc o) :=
  ⟨(Below.refl _ _).alloc (Nat.le_refl _) _, fun _ h => .inl h, fun b hb => hb.imp id fun h => ⟨by omega, by simp; omega⟩⟩
end

/-- what holds of a value, however memory grows; X: the private blocks -/
structure Rv where
  P : Value → (Nat → Prop) → World → Prop
  mono : ∀ v X w X' w', P v X w → Ext X w X' w' → P v X' w'

section
variable {P : Program} {ops : Array Oper} {Q : Exit → Act → World → Prop}

def upd (u : Nat → Value) (i : Nat) (v : Value) : Nat → Value := fun k => if k = i then v else u k

/-- does number i wait for number k? -/
def dep (ops : Array Oper) (i k : Nat) : Bool := ((ops[i]?).map (·.after.toList.any fun e => e.on == k && Region.binds .any e)).getD false

/-- binding edges go back -/
def goBack (ops : Array Oper) : Bool := (List.range ops.size).all fun i => ((ops[i]?).map (·.after.toList.all fun e => !Region.binds .any e || decide (e.on < i))).getD true

/-- does number i wait for all others? -/
def waitsAll (D : Nat → Nat → Bool) (n i : Nat) : Bool := (List.range n).all fun k => k == i || D i k

/-- what number i and those that it waits for have left -/
def mask (D : Nat → Nat → Bool) (i : Nat) (u : Nat → Value) : Nat → Value := fun k => if D i k = true then u k else undef

theorem mask_upd {D : Nat → Nat → Bool} {i j : Nat} {u : Nat → Value} {v : Value} (h : D i j = false) : mask D i (upd u j v) = mask D i u := by
  funext k
  unfold mask upd
  by_cases hk : k = j
  · subst hk; simp [h]
  · simp [hk]

/-- what is asked of number i's step -/
def StepI (P : Program) (ops : Array Oper) (Q : Exit → Act → World → Prop) (mk : (Nat → Value) → Act) (R : Nat → (Nat → Value) → Rv) (X0 : Nat → Prop) (w0 : World) (D : Nat → Nat → Bool) (i : Nat) : Prop :=
  ∀ u X w, Ext X0 w0 X w → (∀ k, D i k = true → (R k (mask D k u)).P (u k) X w) → ∀ K : Act → World → Prop,
    (∀ v X' w', Ext X w X' w' → (R i (mask D i u)).P v X' w' → ∀ a', a' = mk (upd u i v) → K a' w') → (waitsAll D ops.size i = true → ∀ a' w', Q .normal a' w' → K a' w') → wpOp P ops Q i K (mk u) w

theorem wpOp_at {i : Nat} {o : Oper} {K : Act → World → Prop} {a : Act} {w : World} (hi : ops[i]? = some o) (hg : o.guard = none) (h : o.wp P a w K Q) : wpOp P ops Q i K a w := by
  unfold wpOp
  simp only [hi, Region.wanted, hg, if_true]
  exact .inl h

theorem wpOp_on {i : Nat} {o : Oper} {K : Act → World → Prop} {a : Act} {w : World} (hi : ops[i]? = some o) (hg : Region.wanted o (yielded ops a.tmps) = true) (h : o.wp P a w K Q) : wpOp P ops Q i K a w := by
  unfold wpOp
  simp only [hi, hg, if_true]
  exact .inl h

theorem wpOp_off {i : Nat} {o : Oper} {K : Act → World → Prop} {a : Act} {w : World} (hi : ops[i]? = some o) (hg : Region.wanted o (yielded ops a.tmps) = false) (h : K (a.put o.dst undef) w) : wpOp P ops Q i K a w := by
  unfold wpOp
  simp only [hi, hg, Bool.false_eq_true, if_false]
  exact h

/-- all are listed, or one may come up -/
theorem ready_some (hb : goBack ops = true) {listed : Array Bool} (hs : listed.size = ops.size) (h : Region.ready .any ops listed = []) : ∀ k, k < ops.size → listed.getD k false = true := by
  intro k
  induction k using Nat.strongRecOn with
  | ind k ih =>
    intro hk
    cases hl : listed.getD k true with
    | true =>
      have : k < listed.size := by omega
      simp [this] at hl ⊢
      exact hl
    | false =>
      exfalso
      have hm : k ∈ Region.ready .any ops listed := mem_ready.2 ⟨hl, ops[k], Array.getElem?_eq_getElem hk, fun e he hbd => by
        have h1 := (List.all_eq_true.1 hb) k (List.mem_range.2 hk)
        rw [Array.getElem?_eq_getElem hk] at h1
        simp only [Option.map_some, Option.getD_some, List.all_eq_true, Array.mem_toList_iff, Bool.or_eq_true, Bool.not_eq_true', decide_eq_true_eq] at h1
        have h2 := (h1 e he).resolve_left (by rw [hbd]; simp)
        exact ih e.on h2 (by omega)⟩
      rw [h] at hm
      cases hm

theorem anyInv_go {mk : (Nat → Value) → Act} {R : Nat → (Nat → Value) → Rv} {X0 : Nat → Prop} {w0 : World} (hback : goBack ops = true)
    (hstep : ∀ i, i < ops.size → StepI P ops Q mk R X0 w0 (dep ops) i) (hend : ∀ u X w, Ext X0 w0 X w → (∀ k, k < ops.size → (R k (mask (dep ops) k u)).P (u k) X w) → Q .normal (mk u) w) :
    ∀ (fuel : Nat) (listed : Array Bool) (a : Act) (w : World), listed.size = ops.size → ((List.range ops.size).countP fun k => !(listed.getD k false)) ≤ fuel →
      ((∀ k, k < ops.size → listed.getD k false = true) ∧ Q .normal a w) ∨ (∃ u X, a = mk u ∧ Ext X0 w0 X w ∧ ∀ k, k < ops.size → listed.getD k false = true → (R k (mask (dep ops) k u)).P (u k) X w ∧ ∀ j, dep ops k j = true → listed.getD j false = true) → wpAny P .any ops Q fuel listed a w := by
  intro fuel
  have hQ : ∀ {listed : Array Bool} {a : Act} {w : World}, (∀ k, k < ops.size → listed.getD k false = true) →
      ((∀ k, k < ops.size → listed.getD k false = true) ∧ Q .normal a w) ∨ (∃ u X, a = mk u ∧ Ext X0 w0 X w ∧ ∀ k, k < ops.size → listed.getD k false = true → (R k (mask (dep ops) k u)).P (u k) X w ∧ ∀ j, dep ops k j = true → listed.getD j false = true) → Q .normal a w := by
    rintro listed a w hall (⟨-, h⟩ | ⟨u, X, rfl, hB, h⟩)
    · exact h
    · exact hend u X w hB (fun k hk => (h k hk (hall k hk)).1)
  induction fuel with
  | zero =>
    intro listed a w hs hc hJ
    have hall : ∀ k, k < ops.size → listed.getD k false = true := fun k hk => by
      have := List.countP_eq_zero.1 (Nat.le_zero.1 hc) k (List.mem_range.2 hk)
      simpa using this
    refine ⟨?_, hQ hall hJ⟩
    cases hr : Region.ready .any ops listed with
    | nil => rfl
    | cons j r =>
      exfalso
      have hj : j ∈ Region.ready .any ops listed := by rw [hr]; exact List.mem_cons_self ..
      obtain ⟨h0, o, ho, -⟩ := mem_ready.1 hj
      have hlt : j < ops.size := (Array.getElem?_eq_some_iff.1 ho).1
      have := hall j hlt
      have hl : j < listed.size := by omega
      simp [hl] at h0 this
      rw [h0] at this
      cases this
  | succ fuel ih =>
    intro listed a w hs hc hJ
    refine ⟨fun hr => hQ (ready_some hback hs hr) hJ, fun i hi => ?_⟩
    obtain ⟨h0, o, ho, hafter⟩ := mem_ready.1 hi
    have hlt : i < ops.size := (Array.getElem?_eq_some_iff.1 ho).1
    have hl : i < listed.size := by omega
    have hun : listed.getD i false = false := by simp [hl] at h0 ⊢; exact h0
    rcases hJ with ⟨hall, -⟩ | ⟨u, X, rfl, hB, hL⟩
    · exact absurd (hall i hlt) (by rw [hun]; simp)
    have hs' : (listed.setIfInBounds i true).size = ops.size := by simpa using hs
    have hc' : ((List.range ops.size).countP fun k => !((listed.setIfInBounds i true).getD k false)) ≤ fuel := by
      have hlt2 : ((List.range ops.size).countP fun k => !((listed.setIfInBounds i true).getD k false)) < ((List.range ops.size).countP fun k => !(listed.getD k false)) := by
        have hmono : ∀ (l : List Nat), (l.countP fun k => !((listed.setIfInBounds i true).getD k false)) ≤ (l.countP fun k => !(listed.getD k false)) := fun l =>
          List.countP_mono_left (fun k _ hk => by
            by_cases hki : i = k
            · subst hki; simp [hl] at hk
            · rwa [getD_set_ne false hki] at hk)
        have hsplit : ∀ (l : List Nat), i ∈ l → (l.countP fun k => !((listed.setIfInBounds i true).getD k false)) < (l.countP fun k => !(listed.getD k false)) := by
          intro l
          induction l with
          | nil => intro h; cases h
          | cons x r ihr =>
            intro h
            rw [List.countP_cons, List.countP_cons]
            by_cases hx : x = i
            · subst hx
              have h1 := hmono r
              have h2 : (!((listed.setIfInBounds x true).getD x false)) = false := by simp [hl]
              have h3 : (!(listed.getD x false)) = true := by rw [hun]; rfl
              simp only [h2, h3, Bool.false_eq_true, if_false, if_true]
              omega
            · have hm : i ∈ r := by
                cases h with
                | head => exact absurd rfl hx
                | tail _ h => exact h
              have h1 := ihr hm
              have h2 : (listed.setIfInBounds i true).getD x false = listed.getD x false := getD_set_ne false (Ne.symm hx)
              rw [h2]
              omega
        exact hsplit _ (List.mem_range.2 hlt)
      omega
    have hdl : ∀ k, dep ops i k = true → listed.getD k false = true ∧ k < ops.size := fun k hk => by
      unfold dep at hk
      rw [ho] at hk
      simp only [Option.map_some, Option.getD_some, List.any_eq_true, Array.mem_toList_iff, Bool.and_eq_true, beq_iff_eq] at hk
      obtain ⟨e, he, rfl, hbd⟩ := hk
      have h1 := hafter e he hbd
      have h2 : e.on < listed.size := by
        rcases Nat.lt_or_ge e.on listed.size with h | h
        · exact h
        · simp [Array.getElem?_eq_none h] at h1
      exact ⟨h1, by omega⟩
    have hdep : ∀ k, dep ops i k = true → (R k (mask (dep ops) k u)).P (u k) X w := fun k hk => (hL k (hdl k hk).2 (hdl k hk).1).1
    have hself : dep ops i i = false := by
      cases hd : dep ops i i with
      | false => rfl
      | true => have := (hdl i hd).1; rw [hun] at this; cases this
    refine hstep i hlt u X w hB hdep _ ?_ ?_
    · rintro v X' w' hb hRi a' rfl
      refine ih _ _ _ hs' hc' (.inr ⟨_, X', rfl, hB.trans hb, fun k hk hlk => ?_⟩)
      by_cases hki : k = i
      · subst hki
        rw [mask_upd hself]
        refine ⟨by simpa [upd] using hRi, fun j hj => getD_set_true (hdl j hj).1⟩
      · have h1 : listed.getD k false = true := by rwa [getD_set_ne false (Ne.symm hki)] at hlk
        obtain ⟨h2, h3⟩ := hL k hk h1
        have hki2 : dep ops k i = false := by
          cases hd : dep ops k i with
          | false => rfl
          | true => have := h3 i hd; rw [hun] at this; cases this
        rw [mask_upd hki2]
        refine ⟨by simpa [upd, hki] using (R k _).mono (u k) X w X' w' h2 hb, fun j hj => getD_set_true (h3 j hj)⟩
    · intro hw a' w' hq
      refine ih _ _ _ hs' hc' (.inl ⟨fun k hk => ?_, hq⟩)
      by_cases hki : k = i
      · subst hki; simp [hl]
      · have h1 := (List.all_eq_true.1 hw) k (List.mem_range.2 hk)
        simp only [Bool.or_eq_true, beq_iff_eq] at h1
        have h2 := h1.resolve_left hki
        unfold dep at h2
        rw [ho] at h2
        simp only [Option.map_some, Option.getD_some, List.any_eq_true, Array.mem_toList_iff, Bool.and_eq_true, beq_iff_eq] at h2
        obtain ⟨e, he, rfl, hbd⟩ := h2
        exact getD_set_true (hafter e he hbd)

/-- The region: by what each operation leaves. -/
theorem anyInv {X : Nat → Prop} {id : Nat} {a : Act} {w : World} (n : Nat) (mk : (Nat → Value) → Act) (R : Nat → (Nat → Value) → Rv) (u : Nat → Value) (hm : P.follows .mixedOrders = true) (hn : ops.size = n) (ha : a = mk u) (hback : goBack ops = true)
    (hstep : ∀ i, i < n → StepI P ops Q mk R X w (dep ops) i) (hend : ∀ u Y W, Ext X w Y W → (∀ k, k < n → (R k (mask (dep ops) k u)).P (u k) Y W) → Q .normal (mk u) W) :
    (Code.region id ops true).wp P Q a w := by
  subst hn
  refine wp_region_any hm (anyInv_go hback hstep hend _ _ _ _ (by simp) ?_ (.inr ⟨u, X, ha, .of ((Below.refl _ _).drew), fun k _ hk => ?_⟩))
  · refine Nat.le_trans List.countP_le_length ?_
    simp
  · exfalso
    rw [Array.getD_eq_getD_getElem?, Array.getElem?_replicate] at hk
    split at hk <;> simp at hk
end

theorem steps_end {p : Nat → Prop} : ∀ i, i < 0 → p i := fun _ h => absurd h (Nat.not_lt_zero _)
theorem steps_next {p : Nat → Prop} {n : Nat} (h : ∀ i, i < n → p i) (hn : p n) : ∀ i, i < n + 1 → p i := fun i hi => by
  rcases Nat.lt_or_ge i n with h1 | h1
  · exact h i h1
  · rw [show i = n by omega]; exact hn

section
variable {P : Program} {ops : Array Oper} {Q : Exit → Act → World → Prop} {mk : (Nat → Value) → Act} {R : Nat → (Nat → Value) → Rv} {X0 : Nat → Prop} {w0 : World} {D : Nat → Nat → Bool} {i : Nat} {o : Oper}

/-- number i yields a value, and may lay blocks -/
theorem stepRun (ho : ops[i]? = some o) (hg : o.guard = none) (hput : ∀ u v, (mk u).put o.dst v = mk (upd u i v))
    (h : ∀ u X w, Ext X0 w0 X w → (∀ k, D i k = true → (R k (mask D k u)).P (u k) X w) → ∃ v X' w', (execOp (mk u).eval o).run P w = .ok (.value v) w' ∧ Ext X w X' w' ∧ (R i (mask D i u)).P v X' w') : StepI P ops Q mk R X0 w0 D i := by
  intro u X w hB hd K hK _
  obtain ⟨v, X', w', h1, h2, h4⟩ := h u X w hB hd
  refine wpOp_at ho hg ?_
  unfold Oper.wp
  rw [h1, Oper.upon_value]
  exact hK v X' w' h2 h4 _ (hput u v)

theorem stepCall (ho : ops[i]? = some o) (hg : o.guard = none) (hput : ∀ u v, (mk u).put o.dst v = mk (upd u i v))
    (h : ∀ u X w, Ext X0 w0 X w → (∀ k, D i k = true → (R k (mask D k u)).P (u k) X w) → ∃ f vs, (execOp (mk u).eval o).run P w = .ok (.enter f vs) w ∧ Calls P f vs w (fun e w' => ∃ v X', e = .returned v ∧ Ext X w X' w' ∧ (R i (mask D i u)).P v X' w')) : StepI P ops Q mk R X0 w0 D i := by
  intro u X w hB hd K hK _
  obtain ⟨f, vs, h1, h2⟩ := h u X w hB hd
  refine wpOp_at ho hg ?_
  unfold Oper.wp
  rw [h1, Oper.upon_enter]
  refine h2.mono ?_
  rintro e w' ⟨v, X', rfl, h3, h5⟩
  exact hK v X' w' h3 h5 _ (hput u v)

/-- the same, under a guard -/
theorem stepRunG (ho : ops[i]? = some o) (hput : ∀ u v, (mk u).put o.dst v = mk (upd u i v))
    (h : ∀ u X w, Ext X0 w0 X w → (∀ k, D i k = true → (R k (mask D k u)).P (u k) X w) → (Region.wanted o (yielded ops (mk u).tmps) = true ∧ ∃ v X' w', (execOp (mk u).eval o).run P w = .ok (.value v) w' ∧ Ext X w X' w' ∧ (R i (mask D i u)).P v X' w') ∨
      (Region.wanted o (yielded ops (mk u).tmps) = false ∧ (R i (mask D i u)).P undef X w)) : StepI P ops Q mk R X0 w0 D i := by
  intro u X w hB hd K hK _
  rcases h u X w hB hd with ⟨hw, v, X', w', h1, h2, h4⟩ | ⟨hw, h4⟩
  · refine wpOp_on ho hw ?_
    unfold Oper.wp
    rw [h1, Oper.upon_value]
    exact hK v X' w' h2 h4 _ (hput u v)
  · exact wpOp_off ho hw (hK undef X w (Ext.refl _ _) h4 _ (hput u undef))

theorem stepCallG (ho : ops[i]? = some o) (hput : ∀ u v, (mk u).put o.dst v = mk (upd u i v))
    (h : ∀ u X w, Ext X0 w0 X w → (∀ k, D i k = true → (R k (mask D k u)).P (u k) X w) → (Region.wanted o (yielded ops (mk u).tmps) = true ∧ ∃ f vs, (execOp (mk u).eval o).run P w = .ok (.enter f vs) w ∧ Calls P f vs w (fun e w' => ∃ v X', e = .returned v ∧ Ext X w X' w' ∧ (R i (mask D i u)).P v X' w')) ∨
      (Region.wanted o (yielded ops (mk u).tmps) = false ∧ (R i (mask D i u)).P undef X w)) : StepI P ops Q mk R X0 w0 D i := by
  intro u X w hB hd K hK _
  rcases h u X w hB hd with ⟨hw, f, vs, h1, h2⟩ | ⟨hw, h4⟩
  · refine wpOp_on ho hw ?_
    unfold Oper.wp
    rw [h1, Oper.upon_enter]
    refine h2.mono ?_
    rintro e w' ⟨v, X', rfl, h3, h5⟩
    exact hK v X' w' h3 h5 _ (hput u v)
  · exact wpOp_off ho hw (hK undef X w (Ext.refl _ _) h4 _ (hput u undef))

/-- the last one, behind all others -/
theorem stepLast (ho : ops[i]? = some o) (hg : o.guard = none) (hw : waitsAll D ops.size i = true)
    (h : ∀ u X w, Ext X0 w0 X w → (∀ k, D i k = true → (R k (mask D k u)).P (u k) X w) → ∀ K : Act → World → Prop, (∀ a' w', Q .normal a' w' → K a' w') → o.wp P (mk u) w K Q) : StepI P ops Q mk R X0 w0 D i := by
  intro u X w hB hd K _ hQ
  exact wpOp_at ho hg (h u X w hB hd K (hQ hw))

/-- what stands ahead -/
def seqD (i k : Nat) : Bool := decide (k < i)

theorem seqInv_go (hstep : ∀ i, i < ops.size → StepI P ops Q mk R X0 w0 seqD i) (hend : ∀ u X w, Ext X0 w0 X w → (∀ k, k < ops.size → (R k (mask seqD k u)).P (u k) X w) → Q .normal (mk u) w) :
    ∀ (m i : Nat) (a : Act) (w : World), i + m = ops.size → (m = 0 ∧ Q .normal a w) ∨ (∃ u X, a = mk u ∧ Ext X0 w0 X w ∧ ∀ k, k < i → (R k (mask seqD k u)).P (u k) X w) → wpOps P ops Q (List.range' i m) a w := by
  intro m
  induction m with
  | zero =>
    intro i a w hm h
    rcases h with ⟨-, h⟩ | ⟨u, X, rfl, hB, h⟩
    · exact h
    · exact hend u X w hB (fun k hk => h k (by omega))
  | succ m ih =>
    intro i a w hm h
    rcases h with ⟨h0, -⟩ | ⟨u, X, rfl, hB, h⟩
    · omega
    rw [List.range'_succ]
    have hi : i < ops.size := by omega
    have hs := hstep i hi u X w hB (fun k hk => h k (by simpa [seqD] using hk)) (wpOps P ops Q (List.range' (i + 1) m)) ?_ ?_
    · unfold wpOps
      unfold wpOp at hs
      rw [Array.getElem?_eq_getElem hi] at hs ⊢
      exact hs
    · rintro v X' w' hb hRi a' rfl
      refine ih (i + 1) _ _ (by omega) (.inr ⟨_, X', rfl, hB.trans hb, fun k hk => ?_⟩)
      have hki2 : seqD k i = false := by simp [seqD]; omega
      rw [mask_upd hki2]
      by_cases hki : k = i
      · subst hki; simpa [upd] using hRi
      · simpa [upd, hki] using (R k _).mono (u k) X w X' w' (h k (by omega)) hb
    · intro hw a' w' hq
      have hl : m = 0 := by
        have h1 := (List.all_eq_true.1 hw) (ops.size - 1) (List.mem_range.2 (by omega))
        simp [seqD] at h1
        omega
      exact ih (i + 1) a' w' (by omega) (.inl ⟨hl, hq⟩)
end

theorem seqInv {P : Program} {ops : Array Oper} {Q : Exit → Act → World → Prop} {X : Nat → Prop} {id : Nat} {a : Act} {w : World} (n : Nat) (mk : (Nat → Value) → Act) (R : Nat → (Nat → Value) → Rv) (u : Nat → Value) (hn : ops.size = n) (ha : a = mk u)
    (hstep : ∀ i, i < n → StepI P ops Q mk R X w seqD i) (hend : ∀ u Y W, Ext X w Y W → (∀ k, k < n → (R k (mask seqD k u)).P (u k) Y W) → Q .normal (mk u) W) :
    (Code.region id ops false).wp P Q a w := by
  subst hn
  refine wp_region ?_
  rw [List.range_eq_range']
  exact seqInv_go hstep hend _ 0 a w (by omega) (.inr ⟨u, X, ha, Ext.refl _ _, fun k hk => absurd hk (Nat.not_lt_zero _)⟩)
end Go.Proofs.YtmghkfiepcomgaaDoor
