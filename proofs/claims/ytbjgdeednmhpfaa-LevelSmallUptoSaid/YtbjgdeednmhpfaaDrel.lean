/-
  A call's own objects (Rel), and what a stretch of a run leaves (Ex).
-/
import Derived.Test.YtbjgdeednmhpfaaDat
import Derived.MapKept
set_option linter.unusedSimpArgs false
set_option linter.unusedVariables false
namespace Go.Proofs.Ytbjgdeednmhpfaa
open Go.RowKit Go.MapKept

/-- a datum at a place -/
def RpAt (ρ : Rho) (w : World) (d : D) (b o : Nat) : Prop :=
  match d with
  | .agg cs => RpC ρ w cs b o
  | d => ∃ u, cellAt ρ w b o u ∧ Rp ρ w d u

theorem Rp_ref {ρ : Rho} {w : World} {d : D} {v : Value} : Rp ρ w (.ref d) v ↔ ∃ b o, v = .pointer (some ⟨b, o, none⟩) ∧ RpAt ρ w d b o := by
  cases d
  case agg cs => rw [Rp]; rfl
  all_goals
    rw [Rp]
    · unfold RpAt
      constructor
      · rintro ⟨b, o, u, h1, h2, h3⟩; exact ⟨b, o, h1, u, h2, h3⟩
      · rintro ⟨b, o, h1, u, h2, h3⟩; exact ⟨b, o, u, h1, h2, h3⟩
    · intro cs; simp
theorem RpE_cons {ρ : Rho} {w : World} {e : D} {r : List D} {b o : Nat} : RpE ρ w (e :: r) b o ↔ RpAt ρ w e b o ∧ RpE ρ w r b (o + e.size) := by
  cases e
  case agg cs => rw [RpE]; rfl
  all_goals
    rw [RpE]
    · rfl
    · intro cs; simp
theorem RpE_nil {ρ : Rho} {w : World} {b o : Nat} : RpE ρ w [] b o := by rw [RpE]; trivial
theorem RpL_cons {ρ : Rho} {w : World} {d : D} {r : List D} {vs : List Value} : RpL ρ w (d :: r) vs ↔ ∃ v us, vs = v :: us ∧ Rp ρ w d v ∧ RpL ρ w r us := by rw [RpL]
theorem RpL_nil {ρ : Rho} {w : World} {vs : List Value} : RpL ρ w [] vs ↔ vs = [] := by rw [RpL]
theorem RpL_cons' {ρ : Rho} {w : World} {d : D} {r : List D} {v : Value} {us : List Value} : RpL ρ w (d :: r) (v :: us) ↔ Rp ρ w d v ∧ RpL ρ w r us := by
  rw [RpL_cons]
  constructor
  · rintro ⟨_, _, h, h1, h2⟩; cases h; exact ⟨h1, h2⟩
  · rintro ⟨h1, h2⟩; exact ⟨_, _, rfl, h1, h2⟩
theorem RpC_cons {ρ : Rho} {w : World} {d : D} {r : List D} {b o : Nat} : RpC ρ w (d :: r) b o ↔ (∃ v, cellAt ρ w b o v ∧ Rp ρ w d v) ∧ RpC ρ w r b (o + 1) := by rw [RpC]
theorem RpC_nil {ρ : Rho} {w : World} {b o : Nat} : RpC ρ w [] b o := by rw [RpC]; trivial

theorem RpL.length {ρ : Rho} {w : World} : ∀ {ds : List D} {vs : List Value}, RpL ρ w ds vs → vs.length = ds.length
  | [], vs, h => by rw [RpL_nil] at h; subst h; rfl
  | d :: r, vs, h => by
    rw [RpL_cons] at h
    obtain ⟨v, us, rfl, -, h2⟩ := h
    simp [RpL.length h2]
theorem RpL.get {ρ : Rho} {w : World} : ∀ {ds : List D} {vs : List Value}, RpL ρ w ds vs → ∀ {i : Nat} {d : D}, ds[i]? = some d → ∃ v, vs[i]? = some v ∧ Rp ρ w d v
  | [], vs, h, i, d, hi => by simp at hi
  | x :: r, vs, h, i, d, hi => by
    rw [RpL_cons] at h
    obtain ⟨v, us, rfl, h1, h2⟩ := h
    cases i with
    | zero => simp at hi; subst hi; exact ⟨v, rfl, h1⟩
    | succ i => simpa using RpL.get h2 (by simpa using hi)
theorem RpL.of {ρ : Rho} {w : World} : ∀ {ds : List D} {vs : List Value}, vs.length = ds.length → (∀ (i : Nat) (d : D) (v : Value), ds[i]? = some d → vs[i]? = some v → Rp ρ w d v) → RpL ρ w ds vs
  | [], vs, h, _ => by rw [RpL_nil]; exact List.length_eq_zero_iff.1 h
  | x :: r, [], h, _ => by simp at h
  | x :: r, v :: us, h, hi => RpL_cons'.2 ⟨hi 0 x v rfl rfl, RpL.of (by simpa using h) (fun i d v h1 h2 => hi (i + 1) d v (by simpa using h1) (by simpa using h2))⟩
theorem RpL.append {ρ : Rho} {w : World} {ds es : List D} {vs us : List Value} (h : RpL ρ w ds vs) (g : RpL ρ w es us) : RpL ρ w (ds ++ es) (vs ++ us) := by
  induction ds generalizing vs with
  | nil => rw [RpL_nil] at h; subst h; simpa using g
  | cons d r ih =>
    rw [RpL_cons] at h
    obtain ⟨v, vs, rfl, h1, h2⟩ := h
    exact RpL_cons'.2 ⟨h1, ih h2⟩
theorem RpL.take {ρ : Rho} {w : World} {ds : List D} {vs : List Value} (h : RpL ρ w ds vs) (n : Nat) : RpL ρ w (ds.take n) (vs.take n) := by
  induction ds generalizing vs n with
  | nil => rw [RpL_nil] at h; subst h; simp [RpL_nil]
  | cons d r ih =>
    rw [RpL_cons] at h
    obtain ⟨v, vs, rfl, h1, h2⟩ := h
    cases n with
    | zero => simp [RpL_nil]
    | succ n => simp only [List.take_succ_cons]; exact RpL_cons'.2 ⟨h1, ih h2 n⟩
theorem RpL.drop {ρ : Rho} {w : World} {ds : List D} {vs : List Value} (h : RpL ρ w ds vs) (n : Nat) : RpL ρ w (ds.drop n) (vs.drop n) := by
  induction ds generalizing vs n with
  | nil => rw [RpL_nil] at h; subst h; simp [RpL_nil]
  | cons d r ih =>
    rw [RpL_cons] at h
    obtain ⟨v, us, rfl, h1, h2⟩ := h
    cases n with
    | zero => simpa using RpL_cons'.2 ⟨h1, h2⟩
    | succ n => simpa using ih h2 n
theorem RpL.set {ρ : Rho} {w : World} {ds : List D} {vs : List Value} (h : RpL ρ w ds vs) (n : Nat) {d : D} {v : Value} (hd : Rp ρ w d v) : RpL ρ w (ds.set n d) (vs.set n v) := by
  induction ds generalizing vs n with
  | nil => rw [RpL_nil] at h; subst h; simp [RpL_nil]
  | cons x r ih =>
    rw [RpL_cons] at h
    obtain ⟨u, us, rfl, h1, h2⟩ := h
    cases n with
    | zero => exact RpL_cons'.2 ⟨hd, h2⟩
    | succ n => exact RpL_cons'.2 ⟨h1, ih h2 n⟩

/-- an element's cells -/
def D.cells : D → List D
  | .agg cs => cs
  | d => [d]

/-- an object: cells, a map, a slice of its own (elements of so many cells each), the right to grow a row, nothing -/
inductive HO where
  | cells (ty : TypeId) (ds : List D)
  | mp (es : List (D × D))
  | row (sz : Nat) (els : List D)
  | tok
  | dead
  | free

def HO.live : HO → Bool
  | .dead => false
  | .free => false
  | _ => true

def ObjAt (ρ : Rho) (w : World) (b f : Nat) : HO → Prop
  | .cells ty ds => ρ.c b = some 0 ∧ ∃ vs : List Value, w.heap[b]? = some (.cells vs.toArray ty (0, 0)) ∧ RpL ρ w ds vs
  | .mp es => ρ.c b = some 0 ∧ ∃ ents clock, w.heap[b]? = some (.map ents clock) ∧ RpL ρ w (es.map (·.1)) (ents.toList.map (·.key)) ∧ RpL ρ w (es.map (·.2)) (ents.toList.map (·.val)) ∧ Stamped ents clock ∧ es.length ≤ LMax
  | .row sz els => ρ.c b = some 0 ∧ 0 < sz ∧ (∀ e, e ∈ els → e.size = sz) ∧ els.length ≤ f ∧ f ≤ maxLen ∧ els.length ≤ LMax ∧ ∃ (ty : TypeId) (vs us : List Value), w.heap[b]? = some (.cells (us ++ vs).toArray ty (0, 0)) ∧ RpL ρ w (els.flatMap D.cells) us ∧ f * sz ≤ us.length + vs.length ∧ ∀ u, u ∈ us → u.oneCell' = true
  | .tok => ρ.c b = some f ∧ b < w.heap.size
  | .dead => True
  | .free => True

/-- the blocks of what is live -/
def Live (ρ : Rho) (H : Nat → HO) (b : Nat) : Prop := ∃ i f : Nat, ρ.nm i = some (b, f) ∧ (H i).live = true

/-- G: what package-level variables hold -/
structure Rel (G : Nat → Option D) (ρ : Rho) (w : World) (H : Nat → HO) : Prop where
  free : ∀ i, H i = .free → ρ.nm i = none
  fresh : ∀ b, w.heap.size ≤ b → ρ.c b = none
  obj : ∀ (i b f : Nat), ρ.nm i = some (b, f) → ObjAt ρ w b f (H i)
  inj : ∀ (i j b f g : Nat), ρ.nm i = some (b, f) → ρ.nm j = some (b, g) → (H i).live = true → (H j).live = true → i = j
  glob : ∀ g d, G g = some d → RpAt ρ w d g 0

/-- what is not live stays as it is; what is live behind was so, or is new -/
structure Ex (ρ : Rho) (w : World) (H : Nat → HO) (ρ' : Rho) (w' : World) (H' : Nat → HO) : Prop where
  grow : Grow ρ w ρ' w'
  frame : ∀ b, b < w.heap.size → ¬ Live ρ H b → w'.heap[b]? = w.heap[b]? ∧ ρ'.c b = ρ.c b
  live : ∀ b, Live ρ' H' b → b < w.heap.size → Live ρ H b

theorem ObjAt.lt {ρ : Rho} {w : World} {b f : Nat} {ho : HO} (h : ObjAt ρ w b f ho) (hl : ho.live = true) : b < w.heap.size := by
  have key : ∀ {o : Obj}, w.heap[b]? = some o → b < w.heap.size := fun {o} h => (Array.getElem?_eq_some_iff.1 h).1
  cases ho with
  | cells ty ds => obtain ⟨-, vs, h1, -⟩ := h; exact key h1
  | mp es => obtain ⟨-, e, c, h1, -⟩ := h; exact key h1
  | row sz els => obtain ⟨-, -, -, -, -, -, ty, vs, us, h1, -⟩ := h; exact key h1
  | tok => exact h.2
  | dead => simp [HO.live] at hl
  | free => simp [HO.live] at hl

section
variable {G : Nat → Option D} {ρ ρ' ρ'' : Rho} {w w' w'' : World} {H H' H'' : Nat → HO}

theorem Live.lt {b : Nat} (h : Live ρ H b) (hR : Rel G ρ w H) : b < w.heap.size := by
  obtain ⟨i, f, h1, h3⟩ := h
  exact (hR.obj i b f h1).lt h3

theorem Ex.refl (ρ : Rho) (w : World) (H : Nat → HO) : Ex ρ w H ρ w H := ⟨Grow.refl _ _, fun _ _ _ => ⟨rfl, rfl⟩, fun _ h _ => h⟩
theorem Ex.trans (h : Ex ρ w H ρ' w' H') (g : Ex ρ' w' H' ρ'' w'' H'') : Ex ρ w H ρ'' w'' H'' :=
  ⟨h.grow.trans g.grow, fun b hb hl => by
    obtain ⟨h1, h2⟩ := h.frame b hb hl
    obtain ⟨g1, g2⟩ := g.frame b (Nat.lt_of_lt_of_le hb h.grow.size) (fun hl' => hl (h.live b hl' hb))
    exact ⟨g1.trans h1, g2.trans h2⟩, fun b hl hb => h.live b (g.live b hl (Nat.lt_of_lt_of_le hb h.grow.size)) hb⟩

theorem RpAt.grow (g : Grow ρ w ρ' w') {d : D} {b o : Nat} (h : RpAt ρ w d b o) : RpAt ρ' w' d b o := by
  cases d
  case agg cs => exact RpC.grow g cs b o h
  all_goals
    obtain ⟨u, h1, h2⟩ := h
    exact ⟨u, h1.grow g, Rp.grow g _ u h2⟩

/-- an object whose block stays, stays -/
theorem ObjAt.keep (g : Grow ρ w ρ' w') {b f : Nat} {ho : HO} (h : ObjAt ρ w b f ho) (hw : w'.heap[b]? = w.heap[b]?) (hc : ρ'.c b = ρ.c b) : ObjAt ρ' w' b f ho := by
  cases ho with
  | cells ty ds => obtain ⟨h0, vs, h1, h2⟩ := h; exact ⟨hc.trans h0, vs, hw.trans h1, RpL.grow g ds vs h2⟩
  | mp es => obtain ⟨h0, e, c, h1, h2, h3, h4⟩ := h; exact ⟨hc.trans h0, e, c, hw.trans h1, RpL.grow g _ _ h2, RpL.grow g _ _ h3, h4⟩
  | row sz els => obtain ⟨h0, a1, a2, a3, a4, a5, ty, vs, us, h1, h2, h3⟩ := h; exact ⟨hc.trans h0, a1, a2, a3, a4, a5, ty, vs, us, hw.trans h1, RpL.grow g _ _ h2, h3⟩
  | tok => exact ⟨hc.trans h.1, Nat.lt_of_lt_of_le h.2 g.size⟩
  | dead => trivial
  | free => trivial

/-- nothing of the call's own changes; blocks may be laid -/
theorem Ex.quiet (hR : Rel G ρ w H) (g : Grow ρ w ρ w') (hf : ∀ b, b < w.heap.size → w'.heap[b]? = w.heap[b]?) : Rel G ρ w' H ∧ Ex ρ w H ρ w' H :=
  ⟨⟨hR.free, fun b hb => hR.fresh b (Nat.le_trans g.size hb), fun i b f h1 => by
      have h2 := hR.obj i b f h1
      generalize H i = ho at h2
      cases hl : ho.live with
      | false => cases ho <;> first | exact trivial | cases hl
      | true => exact h2.keep g (hf b (h2.lt hl)) rfl, hR.inj, fun gg d hd => (hR.glob gg d hd).grow g⟩,
    ⟨g, fun b hb _ => ⟨hf b hb, rfl⟩, fun _ h _ => h⟩⟩

theorem Grow.alloc (ρ : Rho) (w : World) (o : Obj) : Grow ρ w ρ (w.alloc o) :=
  ⟨rfl, rfl, rfl, by simp, fun b hb h => ⟨h, Below.heap_alloc w o b hb⟩, fun b k hb h => ⟨.inl ⟨k, h, Nat.le_refl _⟩, fun vs ty fz hh => ⟨vs, (Below.heap_alloc w o b hb).trans hh, rfl, fun _ _ => rfl⟩⟩, fun _ _ h => h⟩

theorem Grow.drew (ρ : Rho) (w : World) : Grow ρ w ρ w.drew :=
  ⟨rfl, rfl, rfl, Nat.le_refl _, fun _ _ h => ⟨h, rfl⟩, fun b k _ h => ⟨.inl ⟨k, h, Nat.le_refl _⟩, fun vs ty fz hh => ⟨vs, hh, rfl, fun _ _ => rfl⟩⟩, fun _ _ h => h⟩

/-- a public block more -/
theorem Ex.laid (hR : Rel G ρ w H) (o : Obj) : Rel G ρ (w.alloc o) H ∧ Ex ρ w H ρ (w.alloc o) H :=
  Ex.quiet hR (Grow.alloc ρ w o) (fun b hb => Below.heap_alloc w o b hb)

theorem Ex.drew (hR : Rel G ρ w H) : Rel G ρ w.drew H ∧ Ex ρ w H ρ w.drew H := Ex.quiet hR (Grow.drew ρ w) (fun _ _ => rfl)
end
end Go.Proofs.Ytbjgdeednmhpfaa
