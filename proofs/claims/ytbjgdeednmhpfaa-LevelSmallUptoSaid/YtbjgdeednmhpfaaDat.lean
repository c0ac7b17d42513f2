/-
  Data: what values are, apart from memory: D. How a datum lies in memory (Rp), what is kept when memory grows (Grow), what a call's own objects are (Rel), what a stretch of a run leaves (Ex).
-/
import Derived.WalkKit
set_option linter.unusedSimpArgs false
set_option linter.unusedVariables false
namespace Go.Proofs.Ytbjgdeednmhpfaa
open Go.RowKit

/-- what is known of a slice's room: nothing; none; the right to grow in place -/
inductive Cp where
  | any | full | tok (i : Nat)

/-- a datum: junk: nothing known; box: an object of the call's own; ref: a place that stays as it is -/
inductive D where
  | junk
  | int (k : IntKind) (n : Int)
  | bool (b : Bool)
  | str (s : ByteArray)
  | nilp | nilf | nili | nilm
  | fn (f : Fn) (first cap : List D)
  | iface (t : TypeId) (d : D)
  | tuple (ds : List D)
  | agg (ds : List D)
  | slice (els : List D) (c : Cp)
  | box (i off : Nat)
  | ref (d : D)
  | map (i : Nat)
  | mapc (ks vs : List D)
  | own (i n : Nat)
  | ebox (i sz k off : Nat)

/-- as long as any list here may be -/
def LMax : Nat := 274877906944

/-- c: how many cells of a block stay (none: all of it); nm: an object's block, and where it may grow -/
structure Rho where
  c : Nat → Option Nat
  nm : Nat → Option (Nat × Nat)

def Stab (ρ : Rho) (b o : Nat) : Prop := ∀ k, ρ.c b = some k → o < k
def cellAt (ρ : Rho) (w : World) (b o : Nat) (v : Value) : Prop := Stab ρ b o ∧ w.cell? ⟨b, o, none⟩ = some v ∧ v.oneCell' = true
def capOk (ρ : Rho) (w : World) (n sz : Nat) (A : Option Addr) (cap : Nat) : Cp → Prop
  | .any => True
  | .full => cap = n
  | .tok i => cap = n ∨ ∃ b o f vs ty, 0 < n ∧ A = some ⟨b, o, none⟩ ∧ ρ.nm i = some (b, f) ∧ o + n * sz = f ∧ b < w.heap.size ∧ w.heap[b]? = some (.cells vs ty (0, 0)) ∧ o + cap * sz ≤ vs.size

def D.size : D → Nat
  | .agg cs => cs.length
  | _ => 1

mutual
/-- a datum lies in memory as a value -/
def Rp (ρ : Rho) (w : World) : D → Value → Prop
  | .junk, _ => True
  | .int k n, v => v = .int k n ∧ k.min ≤ n ∧ n ≤ k.max
  | .bool b, v => v = .bool b
  | .str s, v => v = .string s
  | .nilp, v => v = .pointer none
  | .nilf, v => v = .nilFunc
  | .nili, v => v = .nilIface
  | .nilm, v => v = .map none
  | .fn f a b, v => ∃ us vs : List Value, v = .func f us.toArray vs.toArray ∧ RpL ρ w a us ∧ RpL ρ w b vs
  | .iface t d, v => ∃ u, v = .iface t u ∧ Rp ρ w d u
  | .tuple ds, v => ∃ us : List Value, v = .tuple us.toArray ∧ RpL ρ w ds us
  | .agg ds, v => ∃ us : List Value, v = .agg us.toArray ∧ RpL ρ w ds us
  | .slice els c, v => ∃ A cap sz, v = .slice A els.length cap ∧ els.length ≤ cap ∧ cap ≤ maxLen ∧ els.length ≤ LMax ∧ (∀ e, e ∈ els → e.size = sz) ∧ capOk ρ w els.length sz A cap c ∧
      (els ≠ [] → ∃ b o, A = some ⟨b, o, none⟩ ∧ RpE ρ w els b o)
  | .box i off, v => ∃ b f, ρ.nm i = some (b, f) ∧ v = .pointer (some ⟨b, off, none⟩)
  | .ref (.agg cs), v => ∃ b o, v = .pointer (some ⟨b, o, none⟩) ∧ RpC ρ w cs b o
  | .ref d, v => ∃ b o u, v = .pointer (some ⟨b, o, none⟩) ∧ cellAt ρ w b o u ∧ Rp ρ w d u
  | .map i, v => ∃ b f, ρ.nm i = some (b, f) ∧ v = .map (some b)
  | .own i n, v => (n = 0 ∧ ∃ A, v = .slice A 0 0) ∨ ∃ b f, ρ.nm i = some (b, f) ∧ v = .slice (some ⟨b, 0, none⟩) n f ∧ n ≤ f ∧ n ≤ LMax
  | .ebox i sz k off, v => ∃ b f, ρ.nm i = some (b, f) ∧ v = .pointer (some ⟨b, k * sz + off, none⟩)
  | .mapc ks vs, v => ∃ b ents clock, v = .map (some b) ∧ ρ.c b = none ∧ w.heap[b]? = some (.map ents clock) ∧ RpL ρ w ks (ents.toList.map (·.key)) ∧ RpL ρ w vs (ents.toList.map (·.val))
/-- one by one -/
def RpL (ρ : Rho) (w : World) : List D → List Value → Prop
  | [], vs => vs = []
  | d :: r, vs => ∃ v us, vs = v :: us ∧ Rp ρ w d v ∧ RpL ρ w r us
/-- cells that stay -/
def RpC (ρ : Rho) (w : World) : List D → Nat → Nat → Prop
  | [], _, _ => True
  | d :: r, b, o => (∃ v, cellAt ρ w b o v ∧ Rp ρ w d v) ∧ RpC ρ w r b (o + 1)
/-- elements that stay -/
def RpE (ρ : Rho) (w : World) : List D → Nat → Nat → Prop
  | [], _, _ => True
  | .agg cs :: r, b, o => RpC ρ w cs b o ∧ RpE ρ w r b (o + cs.length)
  | e :: r, b, o => (∃ v, cellAt ρ w b o v ∧ Rp ρ w e v) ∧ RpE ρ w r b (o + 1)
end

/-- memory grows: what stays has stayed -/
structure Grow (ρ : Rho) (w : World) (ρ' : Rho) (w' : World) : Prop where
  os : w'.os = w.os
  tape : w'.tape = w.tape
  output : w'.output = w.output
  size : w.heap.size ≤ w'.heap.size
  whole : ∀ b, b < w.heap.size → ρ.c b = none → ρ'.c b = none ∧ w'.heap[b]? = w.heap[b]?
  part : ∀ b k, b < w.heap.size → ρ.c b = some k → ((∃ k', ρ'.c b = some k' ∧ k ≤ k') ∨ ρ'.c b = none) ∧
    ∀ vs ty fz, w.heap[b]? = some (.cells vs ty fz) → ∃ vs', w'.heap[b]? = some (.cells vs' ty fz) ∧ vs'.size = vs.size ∧ ∀ o, o < k → vs'[o]? = vs[o]?
  nm : ∀ i x, ρ.nm i = some x → ρ'.nm i = some x

theorem Grow.refl (ρ : Rho) (w : World) : Grow ρ w ρ w :=
  ⟨rfl, rfl, rfl, Nat.le_refl _, fun _ _ h => ⟨h, rfl⟩, fun b k _ h => ⟨.inl ⟨k, h, Nat.le_refl _⟩, fun vs ty fz hh => ⟨vs, hh, rfl, fun _ _ => rfl⟩⟩, fun _ _ h => h⟩

section
variable {ρ ρ' ρ'' : Rho} {w w' w'' : World}
theorem Grow.trans (h : Grow ρ w ρ' w') (g : Grow ρ' w' ρ'' w'') : Grow ρ w ρ'' w'' := by
  refine ⟨g.os.trans h.os, g.tape.trans h.tape, g.output.trans h.output, Nat.le_trans h.size g.size, fun b hb hc => ?_, fun b k hb hc => ?_, fun i x hx => g.nm i x (h.nm i x hx)⟩
  · obtain ⟨h1, h2⟩ := h.whole b hb hc
    obtain ⟨g1, g2⟩ := g.whole b (Nat.lt_of_lt_of_le hb h.size) h1
    exact ⟨g1, g2.trans h2⟩
  · obtain ⟨hk, h2⟩ := h.part b k hb hc
    rcases hk with ⟨k', h1, hk⟩ | h1
    · obtain ⟨gk, g2⟩ := g.part b k' (Nat.lt_of_lt_of_le hb h.size) h1
      refine ⟨gk.imp (fun ⟨k'', g1, gk⟩ => ⟨k'', g1, Nat.le_trans hk gk⟩) id, fun vs ty fz hh => ?_⟩
      obtain ⟨vs', a1, a2, a3⟩ := h2 vs ty fz hh
      obtain ⟨vs'', b1, b2, b3⟩ := g2 vs' ty fz a1
      exact ⟨vs'', b1, b2.trans a2, fun o ho => (b3 o (Nat.lt_of_lt_of_le ho hk)).trans (a3 o ho)⟩
    · obtain ⟨g1, g2⟩ := g.whole b (Nat.lt_of_lt_of_le hb h.size) h1
      refine ⟨.inr g1, fun vs ty fz hh => ?_⟩
      obtain ⟨vs', a1, a2, a3⟩ := h2 vs ty fz hh
      exact ⟨vs', g2.trans a1, a2, a3⟩

theorem Grow.name (g : Grow ρ w ρ' w') {i : Nat} {x : Nat × Nat} (h : ρ.nm i = some x) : ρ'.nm i = some x := by
  exact g.nm i x h

theorem cellAt.lt {b o : Nat} {v : Value} (h : cellAt ρ w b o v) : b < w.heap.size := World.block_lt_of_cell? w _ h.2.1

theorem cellAt.grow (g : Grow ρ w ρ' w') {b o : Nat} {v : Value} (h : cellAt ρ w b o v) : cellAt ρ' w' b o v := by
  have hb := h.lt
  obtain ⟨hs, hc, h1⟩ := h
  cases hr : ρ.c b with
  | none =>
    obtain ⟨g1, g2⟩ := g.whole b hb hr
    exact ⟨fun k hk => (by rw [g1] at hk; cases hk), by rw [World.cell?_of_block (a := ⟨b, o, none⟩) g2]; exact hc, h1⟩
  | some k =>
    obtain ⟨gk, g2⟩ := g.part b k hb hr
    have ho := hs k hr
    refine ⟨fun k2 hk2 => ?_, ?_, h1⟩
    · rcases gk with ⟨k', g1, hk⟩ | g1
      · rw [g1] at hk2; cases hk2; omega
      · rw [g1] at hk2; cases hk2
    unfold World.cell? at hc ⊢
    dsimp only at hc ⊢
    split at hc
    · rename_i vs ty fz hh
      obtain ⟨vs', a1, a2, a3⟩ := g2 vs ty fz hh
      rw [a1]
      simp only [Option.isSome_none, Bool.false_eq_true, if_false] at hc ⊢
      rw [a3 o ho]; exact hc
    · cases hc

theorem capOk.grow (g : Grow ρ w ρ' w') {n sz : Nat} {A : Option Addr} {cap : Nat} {c : Cp} (h : capOk ρ w n sz A cap c) : capOk ρ' w' n sz A cap c := by
  cases c with
  | any => trivial
  | full => exact h
  | tok i =>
    rcases h with h | ⟨b, o, f, vs, ty, h0, h1, h2, h3, h4, h6, h7⟩
    · exact .inl h
    right
    cases hc : ρ.c b with
    | none => exact ⟨b, o, f, vs, ty, h0, h1, g.name h2, h3, Nat.lt_of_lt_of_le h4 g.size, (g.whole b h4 hc).2.trans h6, h7⟩
    | some k =>
      obtain ⟨vs', a1, a2, -⟩ := (g.part b k h4 hc).2 vs ty (0, 0) h6
      exact ⟨b, o, f, vs', ty, h0, h1, g.name h2, h3, Nat.lt_of_lt_of_le h4 g.size, a1, by omega⟩

mutual
theorem Rp.grow (g : Grow ρ w ρ' w') : ∀ (d : D) (v : Value), Rp ρ w d v → Rp ρ' w' d v
  | .junk, v, h => by rw [Rp]; trivial
  | .int k n, v, h => by rw [Rp] at h ⊢; exact h
  | .bool b, v, h => by rw [Rp] at h ⊢; exact h
  | .str s, v, h => by rw [Rp] at h ⊢; exact h
  | .nilp, v, h => by rw [Rp] at h ⊢; exact h
  | .nilf, v, h => by rw [Rp] at h ⊢; exact h
  | .nili, v, h => by rw [Rp] at h ⊢; exact h
  | .nilm, v, h => by rw [Rp] at h ⊢; exact h
  | .fn f a b, v, h => by
    rw [Rp] at h ⊢
    obtain ⟨us, vs, h1, h2, h3⟩ := h
    exact ⟨us, vs, h1, RpL.grow g a us h2, RpL.grow g b vs h3⟩
  | .iface t d, v, h => by
    rw [Rp] at h ⊢
    obtain ⟨u, h1, h2⟩ := h
    exact ⟨u, h1, Rp.grow g d u h2⟩
  | .tuple ds, v, h => by
    rw [Rp] at h ⊢
    obtain ⟨u, h1, h2⟩ := h
    exact ⟨u, h1, RpL.grow g ds u h2⟩
  | .agg ds, v, h => by
    rw [Rp] at h ⊢
    obtain ⟨u, h1, h2⟩ := h
    exact ⟨u, h1, RpL.grow g ds u h2⟩
  | .slice els c, v, h => by
    rw [Rp] at h ⊢
    obtain ⟨A, cap, sz, h1, h2, h3, h4, h5, h6, h7⟩ := h
    exact ⟨A, cap, sz, h1, h2, h3, h4, h5, h6.grow g, fun hne => let ⟨b, o, h8, h9⟩ := h7 hne; ⟨b, o, h8, RpE.grow g els b o h9⟩⟩
  | .box i off, v, h => by
    rw [Rp] at h ⊢
    obtain ⟨b, f, h1, h2⟩ := h
    exact ⟨b, f, g.name h1, h2⟩
  | .ref (.agg cs), v, h => by
    rw [Rp] at h ⊢
    obtain ⟨b, o, h1, h2⟩ := h
    exact ⟨b, o, h1, RpC.grow g cs b o h2⟩
  | .ref .junk, v, h => by
    rw [Rp] at h ⊢
    · obtain ⟨b, o, u, h1, h2, h3⟩ := h
      exact ⟨b, o, u, h1, h2.grow g, Rp.grow g _ u h3⟩
    · intro cs; simp
    · intro cs; simp
  | .ref (.int k n), v, h => by
    rw [Rp] at h ⊢
    · obtain ⟨b, o, u, h1, h2, h3⟩ := h
      exact ⟨b, o, u, h1, h2.grow g, Rp.grow g _ u h3⟩
    · intro cs; simp
    · intro cs; simp
  | .ref (.bool b), v, h => by
    rw [Rp] at h ⊢
    · obtain ⟨b, o, u, h1, h2, h3⟩ := h
      exact ⟨b, o, u, h1, h2.grow g, Rp.grow g _ u h3⟩
    · intro cs; simp
    · intro cs; simp
  | .ref (.str s), v, h => by
    rw [Rp] at h ⊢
    · obtain ⟨b, o, u, h1, h2, h3⟩ := h
      exact ⟨b, o, u, h1, h2.grow g, Rp.grow g _ u h3⟩
    · intro cs; simp
    · intro cs; simp
  | .ref .nilp, v, h => by
    rw [Rp] at h ⊢
    · obtain ⟨b, o, u, h1, h2, h3⟩ := h
      exact ⟨b, o, u, h1, h2.grow g, Rp.grow g _ u h3⟩
    · intro cs; simp
    · intro cs; simp
  | .ref .nilf, v, h => by
    rw [Rp] at h ⊢
    · obtain ⟨b, o, u, h1, h2, h3⟩ := h
      exact ⟨b, o, u, h1, h2.grow g, Rp.grow g _ u h3⟩
    · intro cs; simp
    · intro cs; simp
  | .ref .nili, v, h => by
    rw [Rp] at h ⊢
    · obtain ⟨b, o, u, h1, h2, h3⟩ := h
      exact ⟨b, o, u, h1, h2.grow g, Rp.grow g _ u h3⟩
    · intro cs; simp
    · intro cs; simp
  | .ref .nilm, v, h => by
    rw [Rp] at h ⊢
    · obtain ⟨b, o, u, h1, h2, h3⟩ := h
      exact ⟨b, o, u, h1, h2.grow g, Rp.grow g _ u h3⟩
    · intro cs; simp
    · intro cs; simp
  | .ref (.fn f a b), v, h => by
    rw [Rp] at h ⊢
    · obtain ⟨b, o, u, h1, h2, h3⟩ := h
      exact ⟨b, o, u, h1, h2.grow g, Rp.grow g _ u h3⟩
    · intro cs; simp
    · intro cs; simp
  | .ref (.iface t d), v, h => by
    rw [Rp] at h ⊢
    · obtain ⟨b, o, u, h1, h2, h3⟩ := h
      exact ⟨b, o, u, h1, h2.grow g, Rp.grow g _ u h3⟩
    · intro cs; simp
    · intro cs; simp
  | .ref (.tuple ds), v, h => by
    rw [Rp] at h ⊢
    · obtain ⟨b, o, u, h1, h2, h3⟩ := h
      exact ⟨b, o, u, h1, h2.grow g, Rp.grow g _ u h3⟩
    · intro cs; simp
    · intro cs; simp
  | .ref (.slice els c), v, h => by
    rw [Rp] at h ⊢
    · obtain ⟨b, o, u, h1, h2, h3⟩ := h
      exact ⟨b, o, u, h1, h2.grow g, Rp.grow g _ u h3⟩
    · intro cs; simp
    · intro cs; simp
  | .ref (.box i off), v, h => by
    rw [Rp] at h ⊢
    · obtain ⟨b, o, u, h1, h2, h3⟩ := h
      exact ⟨b, o, u, h1, h2.grow g, Rp.grow g _ u h3⟩
    · intro cs; simp
    · intro cs; simp
  | .ref (.ref d), v, h => by
    rw [Rp] at h ⊢
    · obtain ⟨b, o, u, h1, h2, h3⟩ := h
      exact ⟨b, o, u, h1, h2.grow g, Rp.grow g _ u h3⟩
    · intro cs; simp
    · intro cs; simp
  | .ref (.map i), v, h => by
    rw [Rp] at h ⊢
    · obtain ⟨b, o, u, h1, h2, h3⟩ := h
      exact ⟨b, o, u, h1, h2.grow g, Rp.grow g _ u h3⟩
    · intro cs; simp
    · intro cs; simp
  | .ref (.own i n), v, h => by
    rw [Rp] at h ⊢
    · obtain ⟨b, o, u, h1, h2, h3⟩ := h
      exact ⟨b, o, u, h1, h2.grow g, Rp.grow g _ u h3⟩
    · intro cs; simp
    · intro cs; simp
  | .ref (.ebox i sz k off), v, h => by
    rw [Rp] at h ⊢
    · obtain ⟨b, o, u, h1, h2, h3⟩ := h
      exact ⟨b, o, u, h1, h2.grow g, Rp.grow g _ u h3⟩
    · intro cs; simp
    · intro cs; simp
  | .map i, v, h => by
    rw [Rp] at h ⊢
    obtain ⟨b, f, h1, h2⟩ := h
    exact ⟨b, f, g.name h1, h2⟩
  | .own i n, v, h => by
    rw [Rp] at h ⊢
    rcases h with h | ⟨b, f, h1, h2⟩
    · exact .inl h
    · exact .inr ⟨b, f, g.name h1, h2⟩
  | .ebox i sz k off, v, h => by
    rw [Rp] at h ⊢
    obtain ⟨b, f, h1, h2⟩ := h
    exact ⟨b, f, g.name h1, h2⟩
  | .mapc ks vs, v, h => by
    rw [Rp] at h ⊢
    obtain ⟨b, ents, clock, h1, h2, h3, h4, h5⟩ := h
    obtain ⟨g1, g2⟩ := g.whole b (Array.getElem?_eq_some_iff.1 h3).1 h2
    exact ⟨b, ents, clock, h1, g1, g2.trans h3, RpL.grow g ks _ h4, RpL.grow g vs _ h5⟩
  | .ref (.mapc ks vs), v, h => by
    rw [Rp] at h ⊢
    · obtain ⟨b, o, u, h1, h2, h3⟩ := h
      exact ⟨b, o, u, h1, h2.grow g, Rp.grow g _ u h3⟩
    · intro cs; simp
    · intro cs; simp
theorem RpL.grow (g : Grow ρ w ρ' w') : ∀ (ds : List D) (vs : List Value), RpL ρ w ds vs → RpL ρ' w' ds vs
  | [], vs, h => by rw [RpL] at h ⊢; exact h
  | d :: r, vs, h => by
    rw [RpL] at h ⊢
    obtain ⟨v, us, h1, h2, h3⟩ := h
    exact ⟨v, us, h1, Rp.grow g d v h2, RpL.grow g r us h3⟩
theorem RpC.grow (g : Grow ρ w ρ' w') : ∀ (ds : List D) (b o : Nat), RpC ρ w ds b o → RpC ρ' w' ds b o
  | [], b, o, h => by rw [RpC]; trivial
  | d :: r, b, o, h => by
    rw [RpC] at h ⊢
    obtain ⟨⟨v, h1, h2⟩, h3⟩ := h
    exact ⟨⟨v, h1.grow g, Rp.grow g d v h2⟩, RpC.grow g r b (o + 1) h3⟩
theorem RpE.grow (g : Grow ρ w ρ' w') : ∀ (ds : List D) (b o : Nat), RpE ρ w ds b o → RpE ρ' w' ds b o
  | [], b, o, h => by rw [RpE]; trivial
  | d :: r, b, o, h => by
    cases d
    case agg cs =>
      rw [RpE] at h ⊢
      exact ⟨RpC.grow g cs b o h.1, RpE.grow g r b _ h.2⟩
    all_goals
      rw [RpE] at h ⊢
      · obtain ⟨⟨v, h1, h2⟩, h3⟩ := h
        exact ⟨⟨v, h1.grow g, Rp.grow g _ v h2⟩, RpE.grow g r b (o + 1) h3⟩
      · intro cs; simp
      · intro cs; simp
end
end
end Go.Proofs.Ytbjgdeednmhpfaa
