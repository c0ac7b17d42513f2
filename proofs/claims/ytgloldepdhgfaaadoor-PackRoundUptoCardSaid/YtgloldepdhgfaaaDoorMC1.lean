/-
  MC1: the texts Dat Drel Dop Dty Dmem Dsnd Dsnd2 Dreg Dapp Dbld Dmap Down, one behind the other.
-/
import Derived.WalkKit
import Derived.MapKept
import Derived.Test.YtgloldepdhgfaaaDoorChecked
import Derived.Laws.StructEq
import Derived.Shelf.Abstract
import Derived.OrdersHeld
import Derived.Deep.Upon
import Derived.Laws.MakeOwn
namespace Go.Proofs.YtgloldepdhgfaaaDoor
set_option linter.unusedSimpArgs false
set_option linter.unusedVariables false
open Go.RowKit
/-- what is known of a slice's room: nothing; none; the right to grow in place -/
inductive Cp where
  | any | full | tok (i : Nat)
/-- a datum: junk: nothing known; box: an object of the call's own; ref: a place that stays as it is -/
inductive D where
  | junk
  | int (k : IntKind) (n : Int)
  | bool (b : Bool)
  | str (s : ByteArray)
  | nilp | nilf | nili | nilm
  | fn (f : Fn) (first cap : List D)
  | iface (t : TypeId) (d : D)
  | tuple (ds : List D)
  | agg (ds : List D)
  | slice (els : List D) (c : Cp)
  | box (i off : Nat)
  | ref (d : D)
  | map (i : Nat)
  | mapc (ks vs : List D)
  | lent (els sp : List D)
  | own (i n : Nat)
  | ebox (i sz k off : Nat)
/-- as long as any list here may be -/
def LMax : Nat := 274877906944
/-- c: how many cells of a block stay (none: all of it); nm: an object's block, and where it may grow -/
structure Rho where
  c : Nat → Option Nat
  nm : Nat → Option (Nat × Nat)
def Stab (ρ : Rho) (b o : Nat) : Prop := ∀ k, ρ.c b = some k → o < k
def cellAt (ρ : Rho) (w : World) (b o : Nat) (v : Value) : Prop := Stab ρ b o ∧ w.cell? ⟨b, o, none⟩ = some v ∧ v.oneCell' = true
def capOk (ρ : Rho) (w : World) (n sz : Nat) (A : Option Addr) (cap : Nat) : Cp → Prop
  | .any => True
  | .full => cap = n
  | .tok i => cap = n ∨ ∃ b o f vs ty, 0 < n ∧ A = some ⟨b, o, none⟩ ∧ ρ.nm i = some (b, f) ∧ o + n * sz = f ∧ b < w.heap.size ∧ w.heap[b]? = some (.cells vs ty (0, 0)) ∧ o + cap * sz ≤ vs.size
def D.size : D → Nat
  | .agg cs => cs.length
  | _ => 1
mutual
/-- a datum lies in memory as a value -/
def Rp (ρ : Rho) (w : World) : D → Value → Prop
  | .junk, _ => True
  | .int k n, v => v = .int k n ∧ k.min ≤ n ∧ n ≤ k.max
  | .bool b, v => v = .bool b
  | .str s, v => v = .string s
  | .nilp, v => v = .pointer none
  | .nilf, v => v = .nilFunc
  | .nili, v => v = .nilIface
  | .nilm, v => v = .map none
  | .fn f a b, v => ∃ us vs : List Value, v = .func f us.toArray vs.toArray ∧ RpL ρ w a us ∧ RpL ρ w b vs
  | .iface t d, v => ∃ u, v = .iface t u ∧ Rp ρ w d u
  | .tuple ds, v => ∃ us : List Value, v = .tuple us.toArray ∧ RpL ρ w ds us
  | .agg ds, v => ∃ us : List Value, v = .agg us.toArray ∧ RpL ρ w ds us
  | .slice els c, v => ∃ A cap sz, v = .slice A els.length cap ∧ els.length ≤ cap ∧ cap ≤ maxLen ∧ els.length ≤ LMax ∧ (∀ e, e ∈ els → e.size = sz) ∧ capOk ρ w els.length sz A cap c ∧
      (els ≠ [] → ∃ b o, A = some ⟨b, o, none⟩ ∧ RpE ρ w els b o)
  | .box i off, v => ∃ b f, ρ.nm i = some (b, f) ∧ v = .pointer (some ⟨b, off, none⟩)
  | .ref (.agg cs), v => ∃ b o, v = .pointer (some ⟨b, o, none⟩) ∧ RpC ρ w cs b o
  | .ref d, v => ∃ b o u, v = .pointer (some ⟨b, o, none⟩) ∧ cellAt ρ w b o u ∧ Rp ρ w d u
  | .map i, v => ∃ b f, ρ.nm i = some (b, f) ∧ v = .map (some b)
  | .own i n, v => (n = 0 ∧ ∃ A, v = .slice A 0 0) ∨ ∃ b f, ρ.nm i = some (b, f) ∧ v = .slice (some ⟨b, 0, none⟩) n f ∧ n ≤ f ∧ n ≤ LMax
  | .ebox i sz k off, v => ∃ b f, ρ.nm i = some (b, f) ∧ v = .pointer (some ⟨b, k * sz + off, none⟩)
  | .mapc ks vs, v => ∃ b ents clock, v = .map (some b) ∧ ρ.c b = none ∧ w.heap[b]? = some (.map ents clock) ∧ RpL ρ w ks (ents.toList.map (·.key)) ∧ RpL ρ w vs (ents.toList.map (·.val))
  | .lent els sp, v => ∃ b o cap sz, v = .slice (some ⟨b, o, none⟩) els.length cap ∧ els.length + sp.length ≤ cap ∧ cap ≤ maxLen ∧ els.length + sp.length ≤ LMax ∧ (∀ e, e ∈ els → e.size = sz) ∧ (∀ e, e ∈ sp → e.size = sz) ∧
      RpE ρ w els b o ∧ RpE ρ w sp b (o + els.length * sz)
/-- one by one -/
def RpL (ρ : Rho) (w : World) : List D → List Value → Prop
  | [], vs => vs = []
  | d :: r, vs => ∃ v us, vs = v :: us ∧ Rp ρ w d v ∧ RpL ρ w r us
/-- cells that stay -/
def RpC (ρ : Rho) (w : World) : List D → Nat → Nat → Prop
  | [], _, _ => True
  | d :: r, b, o => (∃ v, cellAt ρ w b o v ∧ Rp ρ w d v) ∧ RpC ρ w r b (o + 1)
/-- elements that stay -/
def RpE (ρ : Rho) (w : World) : List D → Nat → Nat → Prop
  | [], _, _ => True
  | .agg cs :: r, b, o => RpC ρ w cs b o ∧ RpE ρ w r b (o + cs.length)
  | e :: r, b, o => (∃ v, cellAt ρ w b o v ∧ Rp ρ w e v) ∧ RpE ρ w r b (o + 1)
end
/-- memory grows: what stays has stayed -/
structure Grow (ρ : Rho) (w : World) (ρ' : Rho) (w' : World) : Prop where
  os : w'.os = w.os
  tape : w'.tape = w.tape
  output : w'.output = w.output
  size : w.heap.size ≤ w'.heap.size
  whole : ∀ b, b < w.heap.size → ρ.c b = none → ρ'.c b = none ∧ w'.heap[b]? = w.heap[b]?
  part : ∀ b k, b < w.heap.size → ρ.c b = some k → ((∃ k', ρ'.c b = some k' ∧ k ≤ k') ∨ ρ'.c b = none) ∧
    ∀ vs ty fz, w.heap[b]? = some (.cells vs ty fz) → ∃ vs', w'.heap[b]? = some (.cells vs' ty fz) ∧ vs'.size = vs.size ∧ ∀ o, o < k → vs'[o]? = vs[o]?
  nm : ∀ i x, ρ.nm i = some x → ρ'.nm i = some x
theorem Grow.refl (ρ : Rho) (w : World) : Grow ρ w ρ w :=
  ⟨rfl, rfl, rfl, Nat.le_refl _, fun _ _ h => ⟨h, rfl⟩, fun b k _ h => ⟨.inl ⟨k, h, Nat.le_refl _⟩, fun vs ty fz hh => ⟨vs, hh, rfl, fun _ _ => rfl⟩⟩, fun _ _ h => h⟩
section
variable {ρ ρ' ρ'' : Rho} {w w' w'' : World}
theorem Grow.trans (h : Grow ρ w ρ' w') (g : Grow ρ' w' ρ'' w'') : Grow ρ w ρ'' w'' := by
  refine ⟨g.os.trans h.os, g.tape.trans h.tape, g.output.trans h.output, Nat.le_trans h.size g.size, fun b hb hc => ?_, fun b k hb hc => ?_, fun i x hx => g.nm i x (h.nm i x hx)⟩
  · obtain ⟨h1, h2⟩ := h.whole b hb hc
    obtain ⟨g1, g2⟩ := g.whole b (Nat.lt_of_lt_of_le hb h.size) h1
    exact ⟨g1, g2.trans h2⟩
  · obtain ⟨hk, h2⟩ := h.part b k hb hc
    rcases hk with ⟨k', h1, hk⟩ | h1
    · obtain ⟨gk, g2⟩ := g.part b k' (Nat.lt_of_lt_of_le hb h.size) h1
      refine ⟨gk.imp (fun ⟨k'', g1, gk⟩ => ⟨k'', g1, Nat.le_trans hk gk⟩) id, fun vs ty fz hh => ?_⟩
      obtain ⟨vs', a1, a2, a3⟩ := h2 vs ty fz hh
      obtain ⟨vs'', b1, b2, b3⟩ := g2 vs' ty fz a1
      exact ⟨vs'', b1, b2.trans a2, fun o ho => (b3 o (Nat.lt_of_lt_of_le ho hk)).trans (a3 o ho)⟩
    · obtain ⟨g1, g2⟩ := g.whole b (Nat.lt_of_lt_of_le hb h.size) h1
      refine ⟨.inr g1, fun vs ty fz hh => ?_⟩
      obtain ⟨vs', a1, a2, a3⟩ := h2 vs ty fz hh
      exact ⟨vs', g2.trans a1, a2, a3⟩
theorem Grow.name (g : Grow ρ w ρ' w') {i : Nat} {x : Nat × Nat} (h : ρ.nm i = some x) : ρ'.nm i = some x := by
  exact g.nm i x h
theorem cellAt.lt {b o : Nat} {v : Value} (h : cellAt ρ w b o v) : b < w.heap.size := World.block_lt_of_cell? w _ h.2.1
theorem cellAt.grow (g : Grow ρ w ρ' w') {b o : Nat} {v : Value} (h : cellAt ρ w b o v) : cellAt ρ' w' b o v := by
  have hb := h.lt
  obtain ⟨hs, hc, h1⟩ := h
  cases hr : ρ.c b with
  | none =>
    obtain ⟨g1, g2⟩ := g.whole b hb hr
    exact ⟨fun k hk => (by rw [g1] at hk; cases hk), by rw [World.cell?_of_block (a := ⟨b, o, none⟩) g2]; exact hc, h1⟩
  | some k =>
    obtain ⟨gk, g2⟩ := g.part b k hb hr
    have ho := hs k hr
    refine ⟨fun k2 hk2 => ?_, ?_, h1⟩
    · rcases gk with ⟨k', g1, hk⟩ | g1
      · rw [g1] at hk2; cases hk2; omega
      · rw [g1] at hk2; cases hk2
    unfold World.cell? at hc ⊢
    dsimp only at hc ⊢
    split at hc
    · rename_i vs ty fz hh
      obtain ⟨vs', a1, a2, a3⟩ := g2 vs ty fz hh
      rw [a1]
      simp only [Option.isSome_none, Bool.false_eq_true, if_false] at hc ⊢
      rw [a3 o ho]; exact hc
    · cases hc
theorem capOk.grow (g : Grow ρ w ρ' w') {n sz : Nat} {A : Option Addr} {cap : Nat} {c : Cp} (h : capOk ρ w n sz A cap c) : capOk ρ' w' n sz A cap c := by
  cases c with
  | any => trivial
  | full => exact h
  | tok i =>
    rcases h with h | ⟨b, o, f, vs, ty, h0, h1, h2, h3, h4, h6, h7⟩
    · exact .inl h
    right
    cases hc : ρ.c b with
    | none => exact ⟨b, o, f, vs, ty, h0, h1, g.name h2, h3, Nat.lt_of_lt_of_le h4 g.size, (g.whole b h4 hc).2.trans h6, h7⟩
    | some k =>
      obtain ⟨vs', a1, a2, -⟩ := (g.part b k h4 hc).2 vs ty (0, 0) h6
      exact ⟨b, o, f, vs', ty, h0, h1, g.name h2, h3, Nat.lt_of_lt_of_le h4 g.size, a1, by omega⟩
mutual
theorem Rp.grow (g : Grow ρ w ρ' w') : ∀ (d : D) (v : Value), Rp ρ w d v → Rp ρ' w' d v
  | .junk, v, h => by rw [Rp]; trivial
  | .int k n, v, h => by rw [Rp] at h ⊢; exact h
  | .bool b, v, h => by rw [Rp] at h ⊢; exact h
  | .str s, v, h => by rw [Rp] at h ⊢; exact h
  | .nilp, v, h => by rw [Rp] at h ⊢; exact h
  | .nilf, v, h => by rw [Rp] at h ⊢; exact h
  | .nili, v, h => by rw [Rp] at h ⊢; exact h
  | .nilm, v, h => by rw [Rp] at h ⊢; exact h
  | .fn f a b, v, h => by
    rw [Rp] at h ⊢
    obtain ⟨us, vs, h1, h2, h3⟩ := h
    exact ⟨us, vs, h1, RpL.grow g a us h2, RpL.grow g b vs h3⟩
  | .iface t d, v, h => by
    rw [Rp] at h ⊢
    obtain ⟨u, h1, h2⟩ := h
    exact ⟨u, h1, Rp.grow g d u h2⟩
  | .tuple ds, v, h => by
    rw [Rp] at h ⊢
    obtain ⟨u, h1, h2⟩ := h
    exact ⟨u, h1, RpL.grow g ds u h2⟩
  | .agg ds, v, h => by
    rw [Rp] at h ⊢
    obtain ⟨u, h1, h2⟩ := h
    exact ⟨u, h1, RpL.grow g ds u h2⟩
  | .slice els c, v, h => by
    rw [Rp] at h ⊢
    obtain ⟨A, cap, sz, h1, h2, h3, h4, h5, h6, h7⟩ := h
    exact ⟨A, cap, sz, h1, h2, h3, h4, h5, h6.grow g, fun hne => let ⟨b, o, h8, h9⟩ := h7 hne; ⟨b, o, h8, RpE.grow g els b o h9⟩⟩
  | .box i off, v, h => by
    rw [Rp] at h ⊢
    obtain ⟨b, f, h1, h2⟩ := h
    exact ⟨b, f, g.name h1, h2⟩
  | .ref (.agg cs), v, h => by
    rw [Rp] at h ⊢
    obtain ⟨b, o, h1, h2⟩ := h
    exact ⟨b, o, h1, RpC.grow g cs b o h2⟩
  | .ref .junk, v, h => by
    rw [Rp] at h ⊢
    · obtain ⟨b, o, u, h1, h2, h3⟩ := h
      exact ⟨b, o, u, h1, h2.grow g, Rp.grow g _ u h3⟩
    · intro cs; simp
    · intro cs; simp
  | .ref (.int k n), v, h => by
    rw [Rp] at h ⊢
    · obtain ⟨b, o, u, h1, h2, h3⟩ := h
      exact ⟨b, o, u, h1, h2.grow g, Rp.grow g _ u h3⟩
    · intro cs; simp
    · intro cs; simp
  | .ref (.bool b), v, h => by
    rw [Rp] at h ⊢
    · obtain ⟨b, o, u, h1, h2, h3⟩ := h
      exact ⟨b, o, u, h1, h2.grow g, Rp.grow g _ u h3⟩
    · intro cs; simp
    · intro cs; simp
  | .ref (.str s), v, h => by
    rw [Rp] at h ⊢
    · obtain ⟨b, o, u, h1, h2, h3⟩ := h
      exact ⟨b, o, u, h1, h2.grow g, Rp.grow g _ u h3⟩
    · intro cs; simp
    · intro cs; simp
  | .ref .nilp, v, h => by
    rw [Rp] at h ⊢
    · obtain ⟨b, o, u, h1, h2, h3⟩ := h
      exact ⟨b, o, u, h1, h2.grow g, Rp.grow g _ u h3⟩
    · intro cs; simp
    · intro cs; simp
  | .ref .nilf, v, h => by
    rw [Rp] at h ⊢
    · obtain ⟨b, o, u, h1, h2, h3⟩ := h
      exact ⟨b, o, u, h1, h2.grow g, Rp.grow g _ u h3⟩
    · intro cs; simp
    · intro cs; simp
  | .ref .nili, v, h => by
    rw [Rp] at h ⊢
    · obtain ⟨b, o, u, h1, h2, h3⟩ := h
      exact ⟨b, o, u, h1, h2.grow g, Rp.grow g _ u h3⟩
    · intro cs; simp
    · intro cs; simp
  | .ref .nilm, v, h => by
    rw [Rp] at h ⊢
    · obtain ⟨b, o, u, h1, h2, h3⟩ := h
      exact ⟨b, o, u, h1, h2.grow g, Rp.grow g _ u h3⟩
    · intro cs; simp
    · intro cs; simp
  | .ref (.fn f a b), v, h => by
    rw [Rp] at h ⊢
    · obtain ⟨b, o, u, h1, h2, h3⟩ := h
      exact ⟨b, o, u, h1, h2.grow g, Rp.grow g _ u h3⟩
    · intro cs; simp
    · intro cs; simp
  | .ref (.iface t d), v, h => by
    rw [Rp] at h ⊢
    · obtain ⟨b, o, u, h1, h2, h3⟩ := h
      exact ⟨b, o, u, h1, h2.grow g, Rp.grow g _ u h3⟩
    · intro cs; simp
    · intro cs; simp
  | .ref (.tuple ds), v, h => by
    rw [Rp] at h ⊢
    · obtain ⟨b, o, u, h1, h2, h3⟩ := h
      exact ⟨b, o, u, h1, h2.grow g, Rp.grow g _ u h3⟩
    · intro cs; simp
    · intro cs; simp
  | .ref (.slice els c), v, h => by
    rw [Rp] at h ⊢
    · obtain ⟨b, o, u, h1, h2, h3⟩ := h
      exact ⟨b, o, u, h1, h2.grow g, Rp.grow g _ u h3⟩
    · intro cs; simp
    · intro cs; simp
  | .ref (.box i off), v, h => by
    rw [Rp] at h ⊢
    · obtain ⟨b, o, u, h1, h2, h3⟩ := h
      exact ⟨b, o, u, h1, h2.grow g, Rp.grow g _ u h3⟩
    · intro cs; simp
    · intro cs; simp
  | .ref (.ref d), v, h => by
    rw [Rp] at h ⊢
    · obtain ⟨b, o, u, h1, h2, h3⟩ := h
      exact ⟨b, o, u, h1, h2.grow g, Rp.grow g _ u h3⟩
    · intro cs; simp
    · intro cs; simp
  | .ref (.map i), v, h => by
    rw [Rp] at h ⊢
    · obtain ⟨b, o, u, h1, h2, h3⟩ := h
      exact ⟨b, o, u, h1, h2.grow g, Rp.grow g _ u h3⟩
    · intro cs; simp
    · intro cs; simp
  | .ref (.own i n), v, h => by
    rw [Rp] at h ⊢
    · obtain ⟨b, o, u, h1, h2, h3⟩ := h
      exact ⟨b, o, u, h1, h2.grow g, Rp.grow g _ u h3⟩
    · intro cs; simp
    · intro cs; simp
  | .ref (.ebox i sz k off), v, h => by
    rw [Rp] at h ⊢
    · obtain ⟨b, o, u, h1, h2, h3⟩ := h
      exact ⟨b, o, u, h1, h2.grow g, Rp.grow g _ u h3⟩
    · intro cs; simp
    · intro cs; simp
  | .map i, v, h => by
    rw [Rp] at h ⊢
    obtain ⟨b, f, h1, h2⟩ := h
    exact ⟨b, f, g.name h1, h2⟩
  | .own i n, v, h => by
    rw [Rp] at h ⊢
    rcases h with h | ⟨b, f, h1, h2⟩
    · exact .inl h
    · exact .inr ⟨b, f, g.name h1, h2⟩
  | .ebox i sz k off, v, h => by
    rw [Rp] at h ⊢
    obtain ⟨b, f, h1, h2⟩ := h
    exact ⟨b, f, g.name h1, h2⟩
  | .mapc ks vs, v, h => by
    rw [Rp] at h ⊢
    obtain ⟨b, ents, clock, h1, h2, h3, h4, h5⟩ := h
    obtain ⟨g1, g2⟩ := g.whole b (Array.getElem?_eq_some_iff.1 h3).1 h2
    exact ⟨b, ents, clock, h1, g1, g2.trans h3, RpL.grow g ks _ h4, RpL.grow g vs _ h5⟩
  | .ref (.mapc ks vs), v, h => by
    rw [Rp] at h ⊢
    · obtain ⟨b, o, u, h1, h2, h3⟩ := h
      exact ⟨b, o, u, h1, h2.grow g, Rp.grow g _ u h3⟩
    · intro cs; simp
    · intro cs; simp
  | .lent els sp, v, h => by
    rw [Rp] at h ⊢
    obtain ⟨b, o, cap, sz, h1, h2, h3, h4, h5, h6, h7, h8⟩ := h
    exact ⟨b, o, cap, sz, h1, h2, h3, h4, h5, h6, RpE.grow g els b o h7, RpE.grow g sp b _ h8⟩
  | .ref (.lent els sp), v, h => by
    rw [Rp] at h ⊢
    · obtain ⟨b, o, u, h1, h2, h3⟩ := h
      exact ⟨b, o, u, h1, h2.grow g, Rp.grow g _ u h3⟩
    · intro cs; simp
    · intro cs; simp
theorem RpL.grow (g : Grow ρ w ρ' w') : ∀ (ds : List D) (vs : List Value), RpL ρ w ds vs → RpL ρ' w' ds vs
  | [], vs, h => by rw [RpL] at h ⊢; exact h
  | d :: r, vs, h => by
    rw [RpL] at h ⊢
    obtain ⟨v, us, h1, h2, h3⟩ := h
    exact ⟨v, us, h1, Rp.grow g d v h2, RpL.grow g r us h3⟩
theorem RpC.grow (g : Grow ρ w ρ' w') : ∀ (ds : List D) (b o : Nat), RpC ρ w ds b o → RpC ρ' w' ds b o
  | [], b, o, h => by rw [RpC]; trivial
  | d :: r, b, o, h => by
    rw [RpC] at h ⊢
    obtain ⟨⟨v, h1, h2⟩, h3⟩ := h
    exact ⟨⟨v, h1.grow g, Rp.grow g d v h2⟩, RpC.grow g r b (o + 1) h3⟩
theorem RpE.grow (g : Grow ρ w ρ' w') : ∀ (ds : List D) (b o : Nat), RpE ρ w ds b o → RpE ρ' w' ds b o
  | [], b, o, h => by rw [RpE]; trivial
  | d :: r, b, o, h => by
    cases d
    case agg cs =>
      rw [RpE] at h ⊢
      exact ⟨RpC.grow g cs b o h.1, RpE.grow g r b _ h.2⟩
    all_goals
      rw [RpE] at h ⊢
      · obtain ⟨⟨v, h1, h2⟩, h3⟩ := h
        exact ⟨⟨v, h1.grow g, Rp.grow g _ v h2⟩, RpE.grow g r b (o + 1) h3⟩
      · intro cs; simp
      · intro cs; simp
end
end
end Go.Proofs.YtgloldepdhgfaaaDoor
namespace Go.Proofs.YtgloldepdhgfaaaDoor
set_option linter.unusedSimpArgs false
set_option linter.unusedVariables false
open Go.RowKit Go.MapKept
/-- a datum at a place -/
def RpAt (ρ : Rho) (w : World) (d : D) (b o : Nat) : Prop :=
  match d with
  | .agg cs => RpC ρ w cs b o
  | d => ∃ u, cellAt ρ w b o u ∧ Rp ρ w d u
theorem Rp_ref {ρ : Rho} {w : World} {d : D} {v : Value} : Rp ρ w (.ref d) v ↔ ∃ b o, v = .pointer (some ⟨b, o, none⟩) ∧ RpAt ρ w d b o := by
  cases d
  case agg cs => rw [Rp]; rfl
  all_goals
    rw [Rp]
    · unfold RpAt
      constructor
      · rintro ⟨b, o, u, h1, h2, h3⟩; exact ⟨b, o, h1, u, h2, h3⟩
      · rintro ⟨b, o, h1, u, h2, h3⟩; exact ⟨b, o, u, h1, h2, h3⟩
    · intro cs; simp
theorem RpE_cons {ρ : Rho} {w : World} {e : D} {r : List D} {b o : Nat} : RpE ρ w (e :: r) b o ↔ RpAt ρ w e b o ∧ RpE ρ w r b (o + e.size) := by
  cases e
  case agg cs => rw [RpE]; rfl
  all_goals
    rw [RpE]
    · rfl
    · intro cs; simp
theorem Rp_lent {ρ : Rho} {w : World} {els sp : List D} {v : Value} (h : Rp ρ w (.lent els sp) v) : Rp ρ w (.slice els .any) v := by
  rw [Rp] at h
  rw [Rp]
  obtain ⟨b, o, cap, sz, h1, h2, h3, h4, h5, h6, h7, h8⟩ := h
  exact ⟨_, cap, sz, h1, by omega, h3, by omega, h5, trivial, fun _ => ⟨b, o, rfl, h7⟩⟩
theorem RpE_nil {ρ : Rho} {w : World} {b o : Nat} : RpE ρ w [] b o := by rw [RpE]; trivial
theorem RpL_cons {ρ : Rho} {w : World} {d : D} {r : List D} {vs : List Value} : RpL ρ w (d :: r) vs ↔ ∃ v us, vs = v :: us ∧ Rp ρ w d v ∧ RpL ρ w r us := by rw [RpL]
theorem RpL_nil {ρ : Rho} {w : World} {vs : List Value} : RpL ρ w [] vs ↔ vs = [] := by rw [RpL]
theorem RpL_cons' {ρ : Rho} {w : World} {d : D} {r : List D} {v : Value} {us : List Value} : RpL ρ w (d :: r) (v :: us) ↔ Rp ρ w d v ∧ RpL ρ w r us := by
  rw [RpL_cons]
  constructor
  · rintro ⟨_, _, h, h1, h2⟩; cases h; exact ⟨h1, h2⟩
  · rintro ⟨h1, h2⟩; exact ⟨_, _, rfl, h1, h2⟩
theorem RpC_cons {ρ : Rho} {w : World} {d : D} {r : List D} {b o : Nat} : RpC ρ w (d :: r) b o ↔ (∃ v, cellAt ρ w b o v ∧ Rp ρ w d v) ∧ RpC ρ w r b (o + 1) := by rw [RpC]
theorem RpC_nil {ρ : Rho} {w : World} {b o : Nat} : RpC ρ w [] b o := by rw [RpC]; trivial
theorem RpL.length {ρ : Rho} {w : World} : ∀ {ds : List D} {vs : List Value}, RpL ρ w ds vs → vs.length = ds.length
  | [], vs, h => by rw [RpL_nil] at h; subst h; rfl
  | d :: r, vs, h => by
    rw [RpL_cons] at h
    obtain ⟨v, us, rfl, -, h2⟩ := h
    simp [RpL.length h2]
theorem RpL.get {ρ : Rho} {w : World} : ∀ {ds : List D} {vs : List Value}, RpL ρ w ds vs → ∀ {i : Nat} {d : D}, ds[i]? = some d → ∃ v, vs[i]? = some v ∧ Rp ρ w d v
  | [], vs, h, i, d, hi => by simp at hi
  | x :: r, vs, h, i, d, hi => by
    rw [RpL_cons] at h
    obtain ⟨v, us, rfl, h1, h2⟩ := h
    cases i with
    | zero => simp at hi; subst hi; exact ⟨v, rfl, h1⟩
    | succ i => simpa using RpL.get h2 (by simpa using hi)
theorem RpL.of {ρ : Rho} {w : World} : ∀ {ds : List D} {vs : List Value}, vs.length = ds.length → (∀ (i : Nat) (d : D) (v : Value), ds[i]? = some d → vs[i]? = some v → Rp ρ w d v) → RpL ρ w ds vs
  | [], vs, h, _ => by rw [RpL_nil]; exact List.length_eq_zero_iff.1 h
  | x :: r, [], h, _ => by simp at h
  | x :: r, v :: us, h, hi => RpL_cons'.2 ⟨hi 0 x v rfl rfl, RpL.of (by simpa using h) (fun i d v h1 h2 => hi (i + 1) d v (by simpa using h1) (by simpa using h2))⟩
theorem RpL.append {ρ : Rho} {w : World} {ds es : List D} {vs us : List Value} (h : RpL ρ w ds vs) (g : RpL ρ w es us) : RpL ρ w (ds ++ es) (vs ++ us) := by
  induction ds generalizing vs with
  | nil => rw [RpL_nil] at h; subst h; simpa using g
  | cons d r ih =>
    rw [RpL_cons] at h
    obtain ⟨v, vs, rfl, h1, h2⟩ := h
    exact RpL_cons'.2 ⟨h1, ih h2⟩
theorem RpL.take {ρ : Rho} {w : World} {ds : List D} {vs : List Value} (h : RpL ρ w ds vs) (n : Nat) : RpL ρ w (ds.take n) (vs.take n) := by
  induction ds generalizing vs n with
  | nil => rw [RpL_nil] at h; subst h; simp [RpL_nil]
  | cons d r ih =>
    rw [RpL_cons] at h
    obtain ⟨v, vs, rfl, h1, h2⟩ := h
    cases n with
    | zero => simp [RpL_nil]
    | succ n => simp only [List.take_succ_cons]; exact RpL_cons'.2 ⟨h1, ih h2 n⟩
theorem RpL.drop {ρ : Rho} {w : World} {ds : List D} {vs : List Value} (h : RpL ρ w ds vs) (n : Nat) : RpL ρ w (ds.drop n) (vs.drop n) := by
  induction ds generalizing vs n with
  | nil => rw [RpL_nil] at h; subst h; simp [RpL_nil]
  | cons d r ih =>
    rw [RpL_cons] at h
    obtain ⟨v, us, rfl, h1, h2⟩ := h
    cases n with
    | zero => simpa using RpL_cons'.2 ⟨h1, h2⟩
    | succ n => simpa using ih h2 n
theorem RpL.set {ρ : Rho} {w : World} {ds : List D} {vs : List Value} (h : RpL ρ w ds vs) (n : Nat) {d : D} {v : Value} (hd : Rp ρ w d v) : RpL ρ w (ds.set n d) (vs.set n v) := by
  induction ds generalizing vs n with
  | nil => rw [RpL_nil] at h; subst h; simp [RpL_nil]
  | cons x r ih =>
    rw [RpL_cons] at h
    obtain ⟨u, us, rfl, h1, h2⟩ := h
    cases n with
    | zero => exact RpL_cons'.2 ⟨hd, h2⟩
    | succ n => exact RpL_cons'.2 ⟨h1, ih h2 n⟩
/-- an element's cells -/
def D.cells : D → List D
  | .agg cs => cs
  | d => [d]
/-- an object: cells, a map, a slice of its own (elements of so many cells each), the right to grow a row, nothing -/
inductive HO where
  | cells (ty : TypeId) (ds : List D)
  | mp (es : List (D × D))
  | row (sz : Nat) (els : List D)
  | tok
  | dead
  | free
def HO.live : HO → Bool
  | .dead => false
  | .free => false
  | _ => true
def ObjAt (ρ : Rho) (w : World) (b f : Nat) : HO → Prop
  | .cells ty ds => ρ.c b = some 0 ∧ ∃ vs : List Value, w.heap[b]? = some (.cells vs.toArray ty (0, 0)) ∧ RpL ρ w ds vs
  | .mp es => ρ.c b = some 0 ∧ ∃ ents clock, w.heap[b]? = some (.map ents clock) ∧ RpL ρ w (es.map (·.1)) (ents.toList.map (·.key)) ∧ RpL ρ w (es.map (·.2)) (ents.toList.map (·.val)) ∧ Stamped ents clock ∧ es.length ≤ LMax
  | .row sz els => ρ.c b = some 0 ∧ 0 < sz ∧ (∀ e, e ∈ els → e.size = sz) ∧ els.length ≤ f ∧ f ≤ maxLen ∧ els.length ≤ LMax ∧ ∃ (ty : TypeId) (vs us : List Value), w.heap[b]? = some (.cells (us ++ vs).toArray ty (0, 0)) ∧ RpL ρ w (els.flatMap D.cells) us ∧ f * sz ≤ us.length + vs.length ∧ ∀ u, u ∈ us → u.oneCell' = true
  | .tok => ρ.c b = some f ∧ b < w.heap.size
  | .dead => True
  | .free => True
/-- the blocks of what is live -/
def Live (ρ : Rho) (H : Nat → HO) (b : Nat) : Prop := ∃ i f : Nat, ρ.nm i = some (b, f) ∧ (H i).live = true
/-- G: what package-level variables hold -/
structure Rel (G : Nat → Option D) (ρ : Rho) (w : World) (H : Nat → HO) : Prop where
  free : ∀ i, H i = .free → ρ.nm i = none
  fresh : ∀ b, w.heap.size ≤ b → ρ.c b = none
  obj : ∀ (i b f : Nat), ρ.nm i = some (b, f) → ObjAt ρ w b f (H i)
  inj : ∀ (i j b f g : Nat), ρ.nm i = some (b, f) → ρ.nm j = some (b, g) → (H i).live = true → (H j).live = true → i = j
  glob : ∀ g d, G g = some d → RpAt ρ w d g 0
/-- what is not live stays as it is; what is live behind was so, or is new -/
structure Ex (ρ : Rho) (w : World) (H : Nat → HO) (ρ' : Rho) (w' : World) (H' : Nat → HO) : Prop where
  grow : Grow ρ w ρ' w'
  frame : ∀ b, b < w.heap.size → ¬ Live ρ H b → w'.heap[b]? = w.heap[b]? ∧ ρ'.c b = ρ.c b
  live : ∀ b, Live ρ' H' b → b < w.heap.size → Live ρ H b
theorem ObjAt.lt {ρ : Rho} {w : World} {b f : Nat} {ho : HO} (h : ObjAt ρ w b f ho) (hl : ho.live = true) : b < w.heap.size := by
  have key : ∀ {o : Obj}, w.heap[b]? = some o → b < w.heap.size := fun {o} h => (Array.getElem?_eq_some_iff.1 h).1
  cases ho with
  | cells ty ds => obtain ⟨-, vs, h1, -⟩ := h; exact key h1
  | mp es => obtain ⟨-, e, c, h1, -⟩ := h; exact key h1
  | row sz els => obtain ⟨-, -, -, -, -, -, ty, vs, us, h1, -⟩ := h; exact key h1
  | tok => exact h.2
  | dead => simp [HO.live] at hl
  | free => simp [HO.live] at hl
section
variable {G : Nat → Option D} {ρ ρ' ρ'' : Rho} {w w' w'' : World} {H H' H'' : Nat → HO}
theorem Live.lt {b : Nat} (h : Live ρ H b) (hR : Rel G ρ w H) : b < w.heap.size := by
  obtain ⟨i, f, h1, h3⟩ := h
  exact (hR.obj i b f h1).lt h3
theorem Ex.refl (ρ : Rho) (w : World) (H : Nat → HO) : Ex ρ w H ρ w H := ⟨Grow.refl _ _, fun _ _ _ => ⟨rfl, rfl⟩, fun _ h _ => h⟩
theorem Ex.trans (h : Ex ρ w H ρ' w' H') (g : Ex ρ' w' H' ρ'' w'' H'') : Ex ρ w H ρ'' w'' H'' :=
  ⟨h.grow.trans g.grow, fun b hb hl => by
    obtain ⟨h1, h2⟩ := h.frame b hb hl
    obtain ⟨g1, g2⟩ := g.frame b (Nat.lt_of_lt_of_le hb h.grow.size) (fun hl' => hl (h.live b hl' hb))
    exact ⟨g1.trans h1, g2.trans h2⟩, fun b hl hb => h.live b (g.live b hl (Nat.lt_of_lt_of_le hb h.grow.size)) hb⟩
theorem RpAt.grow (g : Grow ρ w ρ' w') {d : D} {b o : Nat} (h : RpAt ρ w d b o) : RpAt ρ' w' d b o := by
  cases d
  case agg cs => exact RpC.grow g cs b o h
  all_goals
    obtain ⟨u, h1, h2⟩ := h
    exact ⟨u, h1.grow g, Rp.grow g _ u h2⟩
/-- an object whose block stays, stays -/
theorem ObjAt.keep (g : Grow ρ w ρ' w') {b f : Nat} {ho : HO} (h : ObjAt ρ w b f ho) (hw : w'.heap[b]? = w.heap[b]?) (hc : ρ'.c b = ρ.c b) : ObjAt ρ' w' b f ho := by
  cases ho with
  | cells ty ds => obtain ⟨h0, vs, h1, h2⟩ := h; exact ⟨hc.trans h0, vs, hw.trans h1, RpL.grow g ds vs h2⟩
  | mp es => obtain ⟨h0, e, c, h1, h2, h3, h4⟩ := h; exact ⟨hc.trans h0, e, c, hw.trans h1, RpL.grow g _ _ h2, RpL.grow g _ _ h3, h4⟩
  | row sz els => obtain ⟨h0, a1, a2, a3, a4, a5, ty, vs, us, h1, h2, h3⟩ := h; exact ⟨hc.trans h0, a1, a2, a3, a4, a5, ty, vs, us, hw.trans h1, RpL.grow g _ _ h2, h3⟩
  | tok => exact ⟨hc.trans h.1, Nat.lt_of_lt_of_le h.2 g.size⟩
  | dead => trivial
  | free => trivial
/-- nothing of the call's own changes; blocks may be laid -/
theorem Ex.quiet (hR : Rel G ρ w H) (g : Grow ρ w ρ w') (hf : ∀ b, b < w.heap.size → w'.heap[b]? = w.heap[b]?) : Rel G ρ w' H ∧ Ex ρ w H ρ w' H :=
  ⟨⟨hR.free, fun b hb => hR.fresh b (Nat.le_trans g.size hb), fun i b f h1 => by
      have h2 := hR.obj i b f h1
      generalize H i = ho at h2
      cases hl : ho.live with
      | false => cases ho <;> first | exact trivial | cases hl
      | true => exact h2.keep g (hf b (h2.lt hl)) rfl, hR.inj, fun gg d hd => (hR.glob gg d hd).grow g⟩,
    ⟨g, fun b hb _ => ⟨hf b hb, rfl⟩, fun _ h _ => h⟩⟩
theorem Grow.alloc (ρ : Rho) (w : World) (o : Obj) : Grow ρ w ρ (w.alloc o) :=
  ⟨rfl, rfl, rfl, by simp, fun b hb h => ⟨h, Below.heap_alloc w o b hb⟩, fun b k hb h => ⟨.inl ⟨k, h, Nat.le_refl _⟩, fun vs ty fz hh => ⟨vs, (Below.heap_alloc w o b hb).trans hh, rfl, fun _ _ => rfl⟩⟩, fun _ _ h => h⟩
theorem Grow.drew (ρ : Rho) (w : World) : Grow ρ w ρ w.drew :=
  ⟨rfl, rfl, rfl, Nat.le_refl _, fun _ _ h => ⟨h, rfl⟩, fun b k _ h => ⟨.inl ⟨k, h, Nat.le_refl _⟩, fun vs ty fz hh => ⟨vs, hh, rfl, fun _ _ => rfl⟩⟩, fun _ _ h => h⟩
/-- a public block more -/
theorem Ex.laid (hR : Rel G ρ w H) (o : Obj) : Rel G ρ (w.alloc o) H ∧ Ex ρ w H ρ (w.alloc o) H :=
  Ex.quiet hR (Grow.alloc ρ w o) (fun b hb => Below.heap_alloc w o b hb)
theorem Ex.drew (hR : Rel G ρ w H) : Rel G ρ w.drew H ∧ Ex ρ w H ρ w.drew H := Ex.quiet hR (Grow.drew ρ w) (fun _ _ => rfl)
end
end Go.Proofs.YtgloldepdhgfaaaDoor
namespace Go.Proofs.YtgloldepdhgfaaaDoor
set_option linter.unusedSimpArgs false
set_option linter.unusedVariables false
open Go.RowKit
/-- what a type is -/
inductive TK where
  | none | bool | str | ptr | func | iface
  | int (k : IntKind)
  | slice (e : TypeId)
  | struct (fs : List (Nat × TypeId))
  | arr (n : Nat) (e : TypeId)
  | map (k e : TypeId)
structure Ty where
  k : TK
  size : Nat
  bytes : Nat
  zero : D
  eq2 : Bool
def TK.isAgg : TK → Bool
  | .struct _ => true
  | .arr _ _ => true
  | _ => false
def TK.known : TK → Bool
  | .none => false
  | _ => true
/-- may it stand in one cell? -/
def D.one : D → Bool
  | .junk => false
  | .agg _ => false
  | .tuple _ => false
  | _ => true
/-- an int's bounds, in a Bool -/
def inB (k : IntKind) (n : Int) : Bool := decide (k.min ≤ n) && decide (n ≤ k.max)
mutual
/-- a datum without memory, as a value -/
def D.cv : D → Value
  | .int k n => .int k n
  | .bool b => .bool b
  | .str s => .string s
  | .nilp => .pointer none
  | .nilf => .nilFunc
  | .nili => .nilIface
  | .nilm => .map none
  | .slice _ _ => .slice none 0 0
  | .agg ds => .agg (D.cvs ds).toArray
  | _ => .tuple #[]
def D.cvs : List D → List Value
  | [] => []
  | d :: r => D.cv d :: D.cvs r
def D.closed : D → Bool
  | .int k n => inB k n
  | .bool _ | .str _ | .nilp | .nilf | .nili | .nilm => true
  | .slice [] .full => true
  | .agg ds => D.closeds ds
  | _ => false
def D.closeds : List D → Bool
  | [] => true
  | d :: r => D.closed d && D.closeds r
end
mutual
theorem Rp_cv (ρ : Rho) (w : World) : ∀ d : D, d.closed = true → Rp ρ w d d.cv
  | .int k n, h => by
    rw [D.closed, inB, Bool.and_eq_true] at h
    rw [Rp, D.cv]; exact ⟨rfl, of_decide_eq_true h.1, of_decide_eq_true h.2⟩
  | .bool b, _ => by rw [Rp, D.cv]
  | .str s, _ => by rw [Rp, D.cv]
  | .nilp, _ => by rw [Rp, D.cv]
  | .nilf, _ => by rw [Rp, D.cv]
  | .nili, _ => by rw [Rp, D.cv]
  | .nilm, _ => by rw [Rp, D.cv]
  | .slice [] .full, _ => by
    rw [Rp, D.cv]
    exact ⟨none, 0, 0, rfl, Nat.le_refl _, Nat.zero_le _, Nat.zero_le _, (fun _ h => by cases h), rfl, fun h => absurd rfl h⟩
  | .slice [] .any, h => by simp [D.closed] at h
  | .slice [] (.tok _), h => by simp [D.closed] at h
  | .slice (_ :: _) _, h => by simp [D.closed] at h
  | .agg ds, h => by
    rw [D.closed] at h
    rw [Rp, D.cv]; exact ⟨_, rfl, RpL_cv ρ w ds h⟩
  | .junk, h => by simp [D.closed] at h
  | .fn _ _ _, h => by simp [D.closed] at h
  | .iface _ _, h => by simp [D.closed] at h
  | .tuple _, h => by simp [D.closed] at h
  | .box _ _, h => by simp [D.closed] at h
  | .ref _, h => by simp [D.closed] at h
  | .map _, h => by simp [D.closed] at h
  | .own _ _, h => by simp [D.closed] at h
  | .ebox _ _ _ _, h => by simp [D.closed] at h
  | .lent _ _, h => by simp [D.closed] at h
theorem RpL_cv (ρ : Rho) (w : World) : ∀ ds : List D, D.closeds ds = true → RpL ρ w ds (D.cvs ds)
  | [], _ => by rw [RpL_nil, D.cvs]
  | d :: r, h => by
    rw [D.closeds, Bool.and_eq_true] at h
    rw [D.cvs]
    exact RpL_cons'.2 ⟨Rp_cv ρ w d h.1, RpL_cv ρ w r h.2⟩
end
def KOK (d : TypeDesc) : TK → Prop
  | .none => True
  | .bool => d = .bool
  | .str => d = .string
  | .ptr => ∃ e, d = .pointer e
  | .func => ∃ a b c, d = .func a b c
  | .iface => ∃ ms, d = .interface ms
  | .int k => d = .int k
  | .slice e => d = .slice e
  | .struct fs => ∃ fields, d = .struct fields ∧ fields.toList.map (fun f => (f.offset, f.type)) = fs
  | .arr n e => d = .array n e
  | .map k e => d = .map k e
/-- a struct of two ints, as '==' sees it -/
def EqP (P : Program) (t : TypeId) : Prop :=
  (∀ (w : World) (a b c d : Int), (binOp .neq t (.agg #[.int .i64 a, .int .i64 b]) (.agg #[.int .i64 c, .int .i64 d])).run P w = .ok (.bool (!(decide (a = c) && decide (b = d)))) w) ∧
  (∀ (w : World) (x y : Operand) (xs ys : Array Value), (eqGuard .neq t x y (.agg xs) (.agg ys)).run P w = .ok () w)
/-- a type of the program is what is said of it -/
def TyOK (P : Program) (t : TypeId) (y : Ty) : Prop :=
  y.k.known = true → ∃ i d, P.info? t = some i ∧ i.size = y.size ∧ i.bytes = y.bytes ∧ i.zero = some y.zero.cv ∧ y.zero.closed = true ∧ y.zero.size = y.size ∧ (y.k.isAgg = true ∨ y.size = 1) ∧ P.underlying t = some d ∧ KOK d y.k ∧ (y.eq2 = true → EqP P t)
/-- a constant -/
def D.ofV : Value → D
  | .int k n => if inB k n then .int k n else .junk
  | .bool b => .bool b
  | .string s => .str s
  | .pointer none => .nilp
  | .nilFunc => .nilf
  | .nilIface => .nili
  | .map none => .nilm
  | .slice none 0 0 => .slice [] .full
  | _ => .junk
theorem Rp_ofV (ρ : Rho) (w : World) (v : Value) : Rp ρ w (D.ofV v) v := by
  have hj : Rp ρ w .junk v := by rw [Rp]; trivial
  cases v with
  | int k n =>
    rw [D.ofV]
    split
    · rename_i h
      rw [inB, Bool.and_eq_true] at h
      rw [Rp]; exact ⟨rfl, of_decide_eq_true h.1, of_decide_eq_true h.2⟩
    · exact hj
  | bool b => rw [D.ofV, Rp]
  | string s => rw [D.ofV, Rp]
  | nilFunc => rw [D.ofV, Rp]
  | nilIface => rw [D.ofV, Rp]
  | pointer a => cases a with
    | none => rw [D.ofV, Rp]
    | some a => exact hj
  | map a => cases a with
    | none => rw [D.ofV, Rp]
    | some a => exact hj
  | slice a n c =>
    rcases a with _ | a
    · rcases n with _ | n
      · rcases c with _ | c
        · show Rp ρ w (.slice [] .full) _
          rw [Rp]
          exact ⟨none, 0, 0, rfl, Nat.le_refl _, Nat.zero_le _, Nat.zero_le _, (fun _ h => by cases h), rfl, fun h => absurd rfl h⟩
        · exact hj
      · exact hj
    · exact hj
  | _ => exact hj
/-- operands -/
def opD (G : Nat → Option D) (tm : Nat → D) : Operand → D
  | .tmp t => tm t
  | .const v => D.ofV v
  | .global g => match G g with
    | some d => .ref d
    | none => .junk
  | .func f => .fn (.func f) [] []
def Cp.isFull : Cp → Bool
  | .full => true
  | _ => false
/-- what an operation leaves: a value, what it looked at, what it changed; a call; what is thrown; a call for later -/
inductive R1 where
  | val (d : D) (rd : List Nat) (up : List (Nat × HO))
  | call (f : FuncId) (args : List D)
  | pan (d : D)
  | dfr (f : FuncId) (cap : List D)
  | bit
/-- a part of cells: of a type of its own size -/
def partD (y : Ty) (cs : List D) (o : Nat) : Option D :=
  if y.k.isAgg then (if o + y.size ≤ cs.length then some (.agg ((cs.drop o).take y.size)) else none) else (match cs[o]? with | some d => if d.one then some d else none | none => none)
/-- parts put into cells -/
def fillD (places : List (Nat × Nat)) (cells : List D) : List (Nat × D) → Option (List D)
  | [] => some cells
  | (i, d) :: r => match places[i]? with
    | none => none
    | some (o, s) => if d.cells.length = s ∧ o + s ≤ cells.length ∧ d.cells.all D.one then fillD places (cells.take o ++ d.cells ++ cells.drop (o + s)) r else none
def binD (op : BinOp) (x y : D) : Option D :=
  match op, x, y with
  | .add, .int k a, .int k' b => if k = k' then some (.int k (k.wrap (a + b))) else none
  | .sub, .int k a, .int k' b => if k = k' then some (.int k (k.wrap (a - b))) else none
  | .mul, .int k a, .int k' b => if k = k' then some (.int k (k.wrap (a * b))) else none
  | .eql, .int k a, .int k' b => if k = k' then some (.bool (decide (a = b))) else none
  | .neq, .int k a, .int k' b => if k = k' then some (.bool (!decide (a = b))) else none
  | .lss, .int k a, .int k' b => if k = k' then some (.bool (decide (a < b))) else none
  | .leq, .int k a, .int k' b => if k = k' then some (.bool (decide (a ≤ b))) else none
  | .gtr, .int k a, .int k' b => if k = k' then some (.bool (decide (b < a))) else none
  | .geq, .int k a, .int k' b => if k = k' then some (.bool (decide (b ≤ a))) else none
  | _, _, _ => none
/-- a slice against nil -/
def isNilS : Operand → Bool
  | .const (.slice none 0 0) => true
  | _ => false
def nilTest (op : BinOp) (k : TK) (c : Bool) : Bool :=
  match op, k with
  | .eql, .slice _ => c
  | _, _ => false
@[simp] theorem nilTest_lss (k : TK) (c : Bool) : nilTest .lss k c = false := rfl
@[simp] theorem nilTest_add (k : TK) (c : Bool) : nilTest .add k c = false := rfl
/-- quotients, shifts, bits -/
def binE (op : BinOp) (x y : D) : Option D :=
  match op, x, y with
  | .quo, .int k a, .int k' b => if k = k' ∧ ¬ b = 0 then some (.int k (k.wrap (a.tdiv b))) else none
  | .rem, .int k a, .int k' b => if k = k' ∧ ¬ b = 0 then some (.int k (a.tmod b)) else none
  | .shl, .int k a, .int _ b => if 0 ≤ b then some (.int k (k.wrap (a * 2 ^ (min b.toNat k.bits)))) else none
  | .shr, .int k a, .int _ b => if 0 ≤ b then some (.int k (a.fdiv (2 ^ (min b.toNat k.bits)))) else none
  | .and, .int k a, .int k' b => if k = k' then some (.int k (k.wrap ((BitVec.ofInt k.bits a &&& BitVec.ofInt k.bits b).toNat))) else none
  | .or, .int k a, .int k' b => if k = k' then some (.int k (k.wrap ((BitVec.ofInt k.bits a ||| BitVec.ofInt k.bits b).toNat))) else none
  | _, _, _ => none
def isCst : Operand → Bool
  | .const _ => true
  | _ => false
def binX (cst : Bool) (k : TK) (op : BinOp) (x y : D) : Option D :=
  match op, k, x, y with
  | .neq, .iface, .iface _ _, .nili => some (.bool true)
  | .neq, .iface, .nili, .nili => if cst then some (.bool false) else none
  | .eql, .bool, .bool a, .bool b => some (.bool (decide (a = b)))
  | .neq, .bool, .bool a, .bool b => some (.bool (!decide (a = b)))
  | op, _, x, y => match binD op x y with
    | some d => some d
    | none => binE op x y
/-- '!=' on structs of two ints -/
def pairX (q : Bool) (op : BinOp) (x y : D) : Option D :=
  match q, op, x, y with
  | true, .neq, .agg [.int .i64 a, .int .i64 b], .agg [.int .i64 c, .int .i64 d] => some (.bool (!(decide (a = c) && decide (b = d))))
  | _, _, _, _ => none
@[simp] theorem pairX_int (q : Bool) (op : BinOp) (k k' : IntKind) (a b : Int) : pairX q op (.int k a) (.int k' b) = none := by unfold pairX; split <;> first | rfl | (rename_i h _; cases h)
def capB (m h : Option Nat) : Bool :=
  match m with
  | none => true
  | some n => decide (h = some n)
def keyEq : D → D → Bool
  | .int j a, .int k b => decide (j = k) && decide (a = b)
  | _, _ => false
def findD (k : D) : List (D × D) → Option D
  | [] => none
  | e :: r => if keyEq k e.1 then some e.2 else findD k r
def isIntK (k : IntKind) : D → Bool
  | .int j _ => decide (j = k)
  | _ => false
def D.isAggX : D → Bool
  | .agg _ => true
  | _ => false
/-- an element, some of its cells others -/
def reD (d : D) (cs : List D) : D := match d with
  | .agg _ => .agg cs
  | _ => cs.headD .junk
/-- a key that is there: another value -/
def updE (k : D) (x : D) : List (D × D) → List (D × D)
  | [] => []
  | p :: r => if keyEq k p.1 then (p.1, x) :: r else p :: updE k x r
/-- bounds that are told -/
def bndD (e : Operand → D) : Option Operand → Option (Option Nat)
  | none => some none
  | some x => match e x with
    | .int _ n => if 0 ≤ n then some (some n.toNat) else none
    | _ => none
def isFree : HO → Bool
  | .free => true
  | _ => false
def isTok : HO → Bool
  | .tok => true
  | _ => false
def evOp (T : TypeId → Ty) (e : Operand → D) (h : Nat → HO) (nx : Nat) (o : Oper) : Option R1 :=
  match o.op with
  | .move x | .assign x => some (.val (e x) [] [])
  | .pick c a b => match e c with
    | .bool c => some (.val (if c then e a else e b) [] [])
    | _ => none
  | .alloc t => if isFree (h nx) && (T t).k.known && (T t).zero.cells.all D.one then some (.val (.box nx 0) [nx] [(nx, .cells t (T t).zero.cells)]) else none
  | .box t x => if isFree (h nx) && (e x).cells.all D.one then some (.val (.box nx 0) [nx] [(nx, .cells t (e x).cells)]) else none
  | .build t ps => match (T t).k with
    | .struct fs => (fillD (fs.map fun f => (f.1, (T f.2).size)) (T t).zero.cells (ps.toList.map fun p => (p.1, e p.2))).bind fun cs =>
        if (fs.all fun f => (T f.2).k.known) && (T t).zero.cells.all D.one then some (.val (.agg cs) [] []) else none
    | _ => none
  | .buildSlice t n ps => match (T t).k with
    | .slice el => if (T el).k.known && decide (ps.toList.map (·.1) = List.range n) && (ps.toList.all fun p => (e p.2).cells.all D.one && decide ((e p.2).cells.length = (T el).size) && decide ((e p.2).size = (T el).size)) && decide (n * (T el).size ≤ 2 ^ 24) && decide ((T el).size ≠ 0)
        then some (.val (.slice (ps.toList.map fun p => e p.2) .full) [] []) else none
    | _ => none
  | .load t x => match e x with
    | .ref d => match d with
      | .agg cs => if (T t).k.isAgg && decide (cs.length = (T t).size) then some (.val d [] []) else none
      | d => if (T t).k.known && !(T t).k.isAgg && d.one then some (.val d [] []) else none
    | .box i off => match h i with
      | .cells _ ds => if (T t).k.known then (partD (T t) ds off).bind fun d => some (.val d [i] []) else none
      | _ => none
    | .ebox i sz k off => match h i with
      | .row sz' els => match els[k]? with
        | some d => if (T t).k.known && decide (sz = sz') then (partD (T t) d.cells off).bind fun d => some (.val d [i] []) else none
        | none => none
      | _ => none
    | _ => none
  | .store t x y => match e x with
    | .box i off => match h i with
      | .cells ty ds => if (T t).k.known && decide ((e y).cells.length = (T t).size) && decide (off + (T t).size ≤ ds.length) && (e y).cells.all D.one
          then some (.val .junk [i] [(i, .cells ty (ds.take off ++ (e y).cells ++ ds.drop (off + (T t).size)))]) else none
      | _ => none
    | .ebox i sz k off => match h i with
      | .row sz' els => match els[k]? with
        | some d => if (T t).k.known && decide (sz = sz') && decide ((e y).cells.length = (T t).size) && decide (off + (T t).size ≤ d.cells.length) && (e y).cells.all D.one
          then some (.val .junk [i] [(i, .row sz (els.set k (reD d (d.cells.take off ++ (e y).cells ++ d.cells.drop (off + (T t).size)))))]) else none
        | none => none
      | _ => none
    | _ => none
  | .nilCheck x => match e x with
    | .ref d => some (.val (.ref d) [] [])
    | .box i o => some (.val (.box i o) [] [])
    | .ebox i sz k o => some (.val (.ebox i sz k o) [] [])
    | .fn (.func f) a b => some (.val (.fn (.func f) a b) [] [])
    | _ => none
  | .binOp op t x y _ => if nilTest op (T t).k (isNilS y) then (match e x with
      | .slice [] _ => some .bit
      | .slice (_ :: _) _ => some (.val (.bool false) [] [])
      | _ => none) else match pairX ((T t).eq2 && (T t).k.known) op (e x) (e y) with
    | some d => some (.val d [] [])
    | none => (binX (isCst y) (T t).k op (e x) (e y)).bind fun d => some (.val d [] [])
  | .unOp op _ x => match op, e x with
    | .not, .bool b => some (.val (.bool (!b)) [] [])
    | _, _ => none
  | .convert s t x => match (T s).k.known, (T t).k, e x with
    | true, .int k, .int _ n => some (.val (.int k (k.wrap n)) [] [])
    | _, _, _ => none
  | .makeInterface t x => match (T t).k with
    | .none => none
    | .iface => none
    | _ => some (.val (.iface t (e x)) [] [])
  | .makeFunc fn a b => some (.val (.fn fn (a.toList.map e) (b.toList.map e)) [] [])
  | .fieldAddr s x f => match (T s).k with
    | .struct fs => match fs[f]? with
      | some (o, ft) => if (T ft).k.known && decide ((T ft).size ≠ 0) then match e x with
          | .box i off => some (.val (.box i (off + o)) [] [])
          | .ebox i sz k off => some (.val (.ebox i sz k (off + o)) [] [])
          | .ref (.agg cs) => (partD (T ft) cs o).bind fun d => some (.val (.ref d) [] [])
          | _ => none
        else none
      | none => none
    | _ => none
  | .field s x f => match (T s).k with
    | .struct fs => match fs[f]? with
      | some (o, ft) => if (T ft).k.known then match e x with
          | .agg cs => (partD (T ft) cs o).bind fun d => some (.val d [] [])
          | _ => none
        else none
      | none => none
    | _ => none
  | .indexAddr t x ix => match (T t).k with
    | .slice el => match e x, e ix with
      | .slice els _, .int _ i => if decide (0 ≤ i) && (T el).k.known then match els[i.toNat]? with
          | some d => if d.size = (T el).size then some (.val (.ref d) [] []) else none
          | none => none
        else none
      | .own j n, .int _ i => if decide (0 ≤ i) && decide (i.toNat < n) && (T el).k.known then some (.val (.ebox j (T el).size i.toNat 0) [] []) else none
      | .lent els _, .int _ i => if decide (0 ≤ i) && (T el).k.known then match els[i.toNat]? with
          | some d => if d.size = (T el).size then some (.val (.ref d) [] []) else none
          | none => none
        else none
      | _, _ => none
    | .arr n el => match e x, e ix with
      | .ref (.agg cs), .int _ i => if decide (0 ≤ i) && decide (i.toNat < n) && (T el).k.known then (partD (T el) cs (i.toNat * (T el).size)).bind fun d => some (.val (.ref d) [] []) else none
      | _, _ => none
    | _ => none
  | .lookup t m ix ok => match (T t).k, e m, e ix with
    | .map kt el, .map i, .int k a => match (T kt).k, h i with
      | .int _, .mp es => if (es.all fun p => isIntK k p.1) && (T el).k.known then
          some (.val (match findD (.int k a) es with | some d => if ok then .tuple [d, .bool true] else d | none => if ok then .tuple [(T el).zero, .bool false] else (T el).zero) [i] [])
        else none
      | _, _ => none
    | .map kt el, .mapc ks vs, .int k a => match (T kt).k with
      | .int _ => if decide (ks.length = vs.length) && ((ks.zip vs).all fun p => isIntK k p.1) && (T el).k.known then
          some (.val (match findD (.int k a) (ks.zip vs) with | some d => if ok then .tuple [d, .bool true] else d | none => if ok then .tuple [(T el).zero, .bool false] else (T el).zero) [] [])
        else none
      | _ => none
    | _, _, _ => none
  | .makeMap _ none => if isFree (h nx) then some (.val (.map nx) [nx] [(nx, .mp [])]) else none
  | .mapUpdate t m ix x => match (T t).k, e m, e ix with
    | .map kt _, .map i, .int k a => match (T kt).k, h i with
      | .int _, .mp es => if es.all fun p => isIntK k p.1 then (match findD (.int k a) es with | some _ => some (.val .junk [i] [(i, .mp (updE (.int k a) (e x) es))]) | none => if es.length < LMax then some (.val .junk [i] [(i, .mp (es ++ [(.int k a, e x)]))]) else none) else none
      | _, _ => none
    | _, _, _ => none
  | .makeSlice t x y => match (T t).k, e x, e y with
    | .slice el, .int _ a, .int _ b => if isFree (h nx) && decide (a ≤ b) && decide (0 ≤ a) && decide (b ≤ 1048576) && (T el).k.known && decide ((T el).bytes ≤ 256) && decide (0 < (T el).size) && (T el).zero.cells.all D.one then some (.val (.own nx a.toNat) [nx] [(nx, .row (T el).size (List.replicate a.toNat (T el).zero))]) else none
    | _, _, _ => none
  | .insert t m ix x => match (T t).k, e m, e ix with
    | .map kt _, .map i, .int k a => match (T kt).k, h i with
      | .int _, .mp es => if (es.all fun p => isIntK k p.1) && (findD (.int k a) es).isNone && decide (es.length < LMax) then some (.val .junk [i] [(i, .mp (es ++ [(.int k a, e x)]))]) else none
      | _, _ => none
    | _, _, _ => none
  | .slice t x lo hi mx => match (T t).k, e x, bndD e lo, bndD e hi, bndD e mx with
    | .slice el, .slice els cx, some l, some h, some m =>
      if (T el).k.known && decide (l.getD 0 ≤ h.getD els.length) && decide (h.getD els.length ≤ els.length) && capB m h && (els.all fun d => decide (d.size = (T el).size)) then
        some (.val (.slice ((els.take (h.getD els.length)).drop (l.getD 0)) (if m.isSome || (cx.isFull && decide (h = some 0) && els.isEmpty) then .full else .any)) [] [])
      else none
    | .slice el, .own i n, some none, some (some q), some none => match h i with
      | .row sz els => if (T el).k.known && decide (n = els.length) && decide (q ≤ n) then some (.val (.own i q) [i] [(i, .row sz (els.take q))]) else none
      | _ => none
    | .slice el, .lent els sp, some none, some (some q), some none => if (T el).k.known && decide (q ≤ els.length + sp.length) && ((els ++ sp).all fun d => decide (d.size = (T el).size)) then some (.val (.lent ((els ++ sp).take q) ((els ++ sp).drop q)) [] []) else none
    | _, _, _, _, _ => none
  | .extract x i => match e x with
    | .tuple ds => (ds[i]?).bind fun d => some (.val d [] [])
    | _ => none
  | .typeAssert x _ at_ ok => match e x, (T at_).k with
    | _, .none => none
    | _, .iface => none
    | .iface t d, _ => if ok then some (.val (if t = at_ then .tuple [d, .bool true] else .tuple [(T at_).zero, .bool false]) [] []) else none
    | _, _ => none
  | .panic x => match e x with
    | .iface t d => some (.pan (.iface t d))
    | _ => none
  | .call c => match c.callee with
    | .builtin .len => match c.args.toList, c.argTypes.toList with
      | [x], [t] => match (T t).k, e x with
        | .slice _, .slice els _ => some (.val (.int .i64 els.length) [] [])
        | .slice _, .own _ n => some (.val (.int .i64 n) [] [])
        | .slice _, .lent els _ => some (.val (.int .i64 els.length) [] [])
        | _, _ => none
      | _, _ => none
    | .builtin .cap => match c.args.toList, c.argTypes.toList with
      | [x], [t] => match (T t).k, e x with
        | .slice _, .slice els .full => some (.val (.int .i64 els.length) [] [])
        | _, _ => none
      | _, _ => none
    | .builtin .append => match c.args.toList, c.argTypes.toList with
      | [x, y], [t, t2] => match (T t).k, (T t2).k, e x, e y with
        | .slice el, .slice _, .slice els cx, .slice els2 _ =>
          if isFree (h nx) && (T el).k.known && decide ((T el).bytes ≤ 256) && (els.all fun d => decide (d.size = (T el).size)) && (els2.all fun d => decide (d.size = (T el).size)) && decide (els.length + els2.length ≤ LMax) then
            match cx with
            | .full => some (.val (.slice (els ++ els2) (.tok nx)) [nx] [(nx, .tok)])
            | .tok i => if isTok (h i) then some (.val (.slice (els ++ els2) (.tok nx)) [i, nx] [(i, .dead), (nx, .tok)]) else none
            | .any => none
          else none
        | .slice el, .slice _, .own i n, .slice els2 _ => match h i with
          | .row sz els => if isFree (h nx) && (T el).k.known && decide ((T el).bytes ≤ 256) && decide (sz = (T el).size) && decide (0 < sz) && decide (n = els.length) && (els.all fun d => decide (d.size = sz)) && (els2.all fun d => decide (d.size = sz)) && decide (els.length + els2.length ≤ LMax) then
              some (.val (.own nx (els.length + els2.length)) [i, nx] [(i, .dead), (nx, .row sz (els ++ els2))])
            else none
          | _ => none
        | .slice el, .int _, .slice [] .full, .int _ a => if isFree (h nx) && (T el).k.known && decide ((T el).bytes ≤ 256) && decide (0 < (T el).size) && decide (0 ≤ a) && decide (a ≤ 274877906944) && (T el).zero.cells.all D.one then
            some (.val (.own nx a.toNat) [nx] [(nx, .row (T el).size (List.replicate a.toNat (T el).zero))])
          else none
        | _, _, _, _ => none
      | _, _ => none
    | .builtin .max => match c.args.toList with
      | [x, y] => match e x, e y with
        | .int k a, .int k' b => if k = k' then some (.val (.int k (max a b)) [] []) else none
        | _, _ => none
      | _ => none
    | .builtin .min => match c.args.toList with
      | [x, y] => match e x, e y with
        | .int k a, .int k' b => if k = k' then some (.val (.int k (min a b)) [] []) else none
        | _, _ => none
      | _ => none
    | .value f => match e f with
      | .fn (.func g) a b => some (.call g (a ++ c.args.toList.map e ++ b))
      | _ => none
    | _ => none
  | .defer c => match c.callee with
    | .value f => match e f with
      | .fn (.func g) [] b => if c.args.toList.isEmpty then some (.dfr g b) else none
      | _ => none
    | _ => none
  | _ => none
end Go.Proofs.YtgloldepdhgfaaaDoor
namespace Go.Proofs.YtgloldepdhgfaaaDoor
set_option linter.unusedSimpArgs false
set_option linter.unusedVariables false
set_option maxHeartbeats 20000000
set_option maxRecDepth 100000
open Go.RowKit
theorem TyOK.mk {P : Program} {t : TypeId} {y : Ty} {d : TypeDesc} (h : (P.info? t).map (fun i => (i.size, i.bytes, i.zero)) = some (y.size, y.bytes, some y.zero.cv)) (hc : (y.zero.closed && decide (y.zero.size = y.size) && (y.k.isAgg || decide (y.size = 1))) = true) (hu : P.underlying t = some d) (hk : KOK d y.k) (hq : y.eq2 = true → EqP P t) : TyOK P t y := fun _ => by
  cases hi : P.info? t with
  | none => rw [hi] at h; cases h
  | some i =>
    rw [hi] at h
    simp only [Option.map_some, Option.some.injEq, Prod.mk.injEq] at h
    simp only [Bool.and_eq_true, Bool.or_eq_true, decide_eq_true_eq] at hc
    exact ⟨i, d, rfl, h.1, h.2.1, h.2.2, hc.1.1, hc.1.2, hc.2, hu, hk, hq⟩
theorem eqp_61 : EqP Tryd.prog 61 := by
  have hu : Tryd.prog.underlying 61 = some (.struct (Tryd.prog.fieldsOf 61)) := by kernel_rfl
  have hp : Tryd.prog.stoodInHeld 61 = false := by kernel_rfl
  have hm : Tryd.prog.eqGuardType Tryd.prog.depth 61 = false := by kernel_rfl
  have h0 : Tryd.prog.underlying 3 = some (.int .i64) := by kernel_rfl
  have hf : ∃ f g : Field, (Tryd.prog.fieldsOf 61).toList = [f, g] ∧ f.name = "Var" ∧ g.name = "Plus" ∧ f.type = 3 ∧ g.type = 3 ∧ f.offset = 0 ∧ g.offset = 1 := by
    have h : (Tryd.prog.fieldsOf 61).toList.map (fun f => (f.name, f.type, f.offset)) = [("Var", 3, 0), ("Plus", 3, 1)] := by kernel_rfl
    generalize (Tryd.prog.fieldsOf 61).toList = l at h ⊢
    rcases l with _ | ⟨f, _ | ⟨g, _ | ⟨x, r⟩⟩⟩
    · simp at h
    · simp at h
    · simp only [List.map_cons, List.map_nil, List.cons.injEq, Prod.mk.injEq, and_true] at h
      exact ⟨f, g, rfl, h.1.1, h.2.1, h.1.2.1, h.2.2.1, h.1.2.2, h.2.2.2⟩
    · simp at h
  refine ⟨fun w x0 x1 y0 y1 => ?_, fun w x y xs ys => run_eqGuard_agg w _ _ _ _ _ _ hm⟩
  obtain ⟨f, g, h1, h2, h3, h4, h5, h6, h7⟩ := hf
  rw [run_neq_struct, run_equalIn_agg _ _ _ _ _ hu hp, h1]
  simp only [Op.eqFields, h2, h3, h4, h5, h6, h7]
  have ha : ∀ w : World, (isAgg 3).run Tryd.prog w = .ok false w := fun w => run_isAgg_plain h0 rfl w
  simp [go_sem, h0, ha]
  by_cases h8 : x0 = y0 <;> by_cases h9 : x1 = y1 <;> simp [h8, h9]
def tyOf : TypeId → Ty
  | 1 => ⟨.func, 1, 8, .nilf, false⟩
  | 2 => ⟨.int .i64, 1, 8, .int .i64 0, false⟩
  | 3 => ⟨.int .i64, 1, 8, .int .i64 0, false⟩
  | 4 => ⟨.bool, 1, 1, .bool false, false⟩
  | 5 => ⟨.int .u8, 1, 1, .int .u8 0, false⟩
  | 6 => ⟨.int .u8, 1, 1, .int .u8 0, false⟩
  | 7 => ⟨.struct [(0, 2), (1, 3), (2, 4), (3, 6)], 4, 24, .agg [.int .i64 0, .int .i64 0, .bool false, .int .u8 0], false⟩
  | 8 => ⟨.struct [(0, 2), (1, 3), (2, 4), (3, 6)], 4, 24, .agg [.int .i64 0, .int .i64 0, .bool false, .int .u8 0], false⟩
  | 12 => ⟨.int .u64, 1, 8, .int .u64 0, false⟩
  | 13 => ⟨.struct [(0, 9), (1, 12)], 2, 24, .agg [.str ⟨#[]⟩, .int .u64 0], false⟩
  | 14 => ⟨.struct [(0, 9), (1, 12)], 2, 24, .agg [.str ⟨#[]⟩, .int .u64 0], false⟩
  | 15 => ⟨.ptr, 1, 8, .nilp, false⟩
  | 16 => ⟨.ptr, 1, 8, .nilp, false⟩
  | 17 => ⟨.ptr, 1, 8, .nilp, false⟩
  | 18 => ⟨.struct [(0, 17)], 1, 8, .agg [.nilp], false⟩
  | 19 => ⟨.struct [(0, 17)], 1, 8, .agg [.nilp], false⟩
  | 20 => ⟨.iface, 1, 16, .nili, false⟩
  | 21 => ⟨.int .i32, 1, 4, .int .i32 0, false⟩
  | 22 => ⟨.int .i64, 1, 8, .int .i64 0, false⟩
  | 23 => ⟨.int .i64, 1, 8, .int .i64 0, false⟩
  | 24 => ⟨.slice 30, 1, 24, .slice [] .full, false⟩
  | 25 => ⟨.slice 27, 1, 24, .slice [] .full, false⟩
  | 26 => ⟨.struct [(0, 23), (1, 3), (2, 3), (3, 24), (4, 25)], 5, 72, .agg [.int .i64 0, .int .i64 0, .int .i64 0, .slice [] .full, .slice [] .full], false⟩
  | 27 => ⟨.struct [(0, 23), (1, 3), (2, 3), (3, 24), (4, 25)], 5, 72, .agg [.int .i64 0, .int .i64 0, .int .i64 0, .slice [] .full, .slice [] .full], false⟩
  | 28 => ⟨.slice 61, 1, 24, .slice [] .full, false⟩
  | 29 => ⟨.struct [(0, 28)], 1, 24, .agg [.slice [] .full], false⟩
  | 30 => ⟨.struct [(0, 28)], 1, 24, .agg [.slice [] .full], false⟩
  | 31 => ⟨.slice 63, 1, 24, .slice [] .full, false⟩
  | 32 => ⟨.slice 65, 1, 24, .slice [] .full, false⟩
  | 33 => ⟨.struct [(0, 22), (1, 3), (2, 27), (7, 27), (12, 25), (13, 30), (14, 31), (15, 32)], 16, 256, .agg [.int .i64 0, .int .i64 0, .int .i64 0, .int .i64 0, .int .i64 0, .slice [] .full, .slice [] .full, .int .i64 0, .int .i64 0, .int .i64 0, .slice [] .full, .slice [] .full, .slice [] .full, .slice [] .full, .slice [] .full, .slice [] .full], false⟩
  | 34 => ⟨.struct [(0, 22), (1, 3), (2, 27), (7, 27), (12, 25), (13, 30), (14, 31), (15, 32)], 16, 256, .agg [.int .i64 0, .int .i64 0, .int .i64 0, .int .i64 0, .int .i64 0, .slice [] .full, .slice [] .full, .int .i64 0, .int .i64 0, .int .i64 0, .slice [] .full, .slice [] .full, .slice [] .full, .slice [] .full, .slice [] .full, .slice [] .full], false⟩
  | 35 => ⟨.slice 5, 1, 24, .slice [] .full, false⟩
  | 36 => ⟨.func, 1, 8, .nilf, false⟩
  | 41 => ⟨.func, 1, 8, .nilf, false⟩
  | 45 => ⟨.func, 1, 8, .nilf, false⟩
  | 47 => ⟨.func, 1, 8, .nilf, false⟩
  | 48 => ⟨.func, 1, 8, .nilf, false⟩
  | 50 => ⟨.func, 1, 8, .nilf, false⟩
  | 51 => ⟨.slice 34, 1, 24, .slice [] .full, false⟩
  | 53 => ⟨.func, 1, 8, .nilf, false⟩
  | 57 => ⟨.func, 1, 8, .nilf, false⟩
  | 59 => ⟨.func, 1, 8, .nilf, false⟩
  | 60 => ⟨.struct [(0, 3), (1, 3)], 2, 16, .agg [.int .i64 0, .int .i64 0], false⟩
  | 61 => ⟨.struct [(0, 3), (1, 3)], 2, 16, .agg [.int .i64 0, .int .i64 0], true⟩
  | 63 => ⟨.struct [(0, 25)], 1, 24, .agg [.slice [] .full], false⟩
  | 65 => ⟨.struct [(0, 3), (1, 27)], 6, 80, .agg [.int .i64 0, .int .i64 0, .int .i64 0, .int .i64 0, .slice [] .full, .slice [] .full], false⟩
  | 69 => ⟨.ptr, 1, 8, .nilp, false⟩
  | 71 => ⟨.func, 1, 8, .nilf, false⟩
  | 72 => ⟨.func, 1, 8, .nilf, false⟩
  | 75 => ⟨.func, 1, 8, .nilf, false⟩
  | 77 => ⟨.func, 1, 8, .nilf, false⟩
  | 78 => ⟨.func, 1, 8, .nilf, false⟩
  | 79 => ⟨.ptr, 1, 8, .nilp, false⟩
  | 80 => ⟨.func, 1, 8, .nilf, false⟩
  | 83 => ⟨.func, 1, 8, .nilf, false⟩
  | 84 => ⟨.func, 1, 8, .nilf, false⟩
  | 85 => ⟨.func, 1, 8, .nilf, false⟩
  | 86 => ⟨.func, 1, 8, .nilf, false⟩
  | 89 => ⟨.func, 1, 8, .nilf, false⟩
  | 95 => ⟨.struct [(0, 35), (1, 3)], 2, 32, .agg [.slice [] .full, .int .i64 0], false⟩
  | 96 => ⟨.map 23 111, 1, 8, .nilm, false⟩
  | 98 => ⟨.struct [(0, 95), (2, 96), (3, 3)], 4, 48, .agg [.slice [] .full, .int .i64 0, .nilm, .int .i64 0], false⟩
  | 99 => ⟨.func, 1, 8, .nilf, false⟩
  | 102 => ⟨.struct [(0, 35), (1, 96)], 2, 32, .agg [.slice [] .full, .nilm], false⟩
  | 103 => ⟨.struct [(0, 35), (1, 96)], 2, 32, .agg [.slice [] .full, .nilm], false⟩
  | 104 => ⟨.func, 1, 8, .nilf, false⟩
  | 108 => ⟨.func, 1, 8, .nilf, false⟩
  | 109 => ⟨.func, 1, 8, .nilf, false⟩
  | 111 => ⟨.struct [(0, 4), (1, 4), (2, 4), (3, 4), (4, 109)], 5, 16, .agg [.bool false, .bool false, .bool false, .bool false, .nilf], false⟩
  | 113 => ⟨.struct [], 0, 0, .agg [], false⟩
  | 119 => ⟨.func, 1, 8, .nilf, false⟩
  | 120 => ⟨.ptr, 1, 8, .nilp, false⟩
  | 121 => ⟨.func, 1, 8, .nilf, false⟩
  | 126 => ⟨.slice 4, 1, 24, .slice [] .full, false⟩
  | 127 => ⟨.func, 1, 8, .nilf, false⟩
  | 128 => ⟨.func, 1, 8, .nilf, false⟩
  | 129 => ⟨.slice 23, 1, 24, .slice [] .full, false⟩
  | 130 => ⟨.slice 3, 1, 24, .slice [] .full, false⟩
  | 131 => ⟨.int .u64, 1, 8, .int .u64 0, false⟩
  | 133 => ⟨.ptr, 1, 8, .nilp, false⟩
  | 135 => ⟨.ptr, 1, 8, .nilp, false⟩
  | 144 => ⟨.func, 1, 8, .nilf, false⟩
  | 146 => ⟨.func, 1, 8, .nilf, false⟩
  | 149 => ⟨.struct [(0, 4), (1, 4), (2, 3), (3, 3), (4, 3)], 5, 32, .agg [.bool false, .bool false, .int .i64 0, .int .i64 0, .int .i64 0], false⟩
  | 150 => ⟨.arr 25 149, 125, 800, .agg ([.bool false, .bool false, .int .i64 0, .int .i64 0, .int .i64 0, .bool false, .bool false, .int .i64 0, .int .i64 0, .int .i64 0, .bool false, .bool false, .int .i64 0, .int .i64 0, .int .i64 0, .bool false, .bool false, .int .i64 0, .int .i64 0, .int .i64 0] ++ [.bool false, .bool false, .int .i64 0, .int .i64 0, .int .i64 0, .bool false, .bool false, .int .i64 0, .int .i64 0, .int .i64 0, .bool false, .bool false, .int .i64 0, .int .i64 0, .int .i64 0, .bool false, .bool false, .int .i64 0, .int .i64 0, .int .i64 0] ++ [.bool false, .bool false, .int .i64 0, .int .i64 0, .int .i64 0, .bool false, .bool false, .int .i64 0, .int .i64 0, .int .i64 0, .bool false, .bool false, .int .i64 0, .int .i64 0, .int .i64 0, .bool false, .bool false, .int .i64 0, .int .i64 0, .int .i64 0] ++ [.bool false, .bool false, .int .i64 0, .int .i64 0, .int .i64 0, .bool false, .bool false, .int .i64 0, .int .i64 0, .int .i64 0, .bool false, .bool false, .int .i64 0, .int .i64 0, .int .i64 0, .bool false, .bool false, .int .i64 0, .int .i64 0, .int .i64 0] ++ [.bool false, .bool false, .int .i64 0, .int .i64 0, .int .i64 0, .bool false, .bool false, .int .i64 0, .int .i64 0, .int .i64 0, .bool false, .bool false, .int .i64 0, .int .i64 0, .int .i64 0, .bool false, .bool false, .int .i64 0, .int .i64 0, .int .i64 0] ++ [.bool false, .bool false, .int .i64 0, .int .i64 0, .int .i64 0, .bool false, .bool false, .int .i64 0, .int .i64 0, .int .i64 0, .bool false, .bool false, .int .i64 0, .int .i64 0, .int .i64 0, .bool false, .bool false, .int .i64 0, .int .i64 0, .int .i64 0] ++ [.bool false, .bool false, .int .i64 0, .int .i64 0, .int .i64 0]), false⟩
  | 152 => ⟨.func, 1, 8, .nilf, false⟩
  | 154 => ⟨.func, 1, 8, .nilf, false⟩
  | 156 => ⟨.func, 1, 8, .nilf, false⟩
  | 162 => ⟨.arr 0 16, 0, 0, .agg [], false⟩
  | 164 => ⟨.struct [(0, 162)], 0, 0, .agg [], false⟩
  | 165 => ⟨.int .u32, 1, 4, .int .u32 0, false⟩
  | 166 => ⟨.int .u8, 1, 1, .int .u8 0, false⟩
  | 167 => ⟨.int .u8, 1, 1, .int .u8 0, false⟩
  | 168 => ⟨.func, 1, 8, .nilf, false⟩
  | 169 => ⟨.ptr, 1, 8, .nilp, false⟩
  | 170 => ⟨.int .i32, 1, 4, .int .i32 0, false⟩
  | 171 => ⟨.int .i32, 1, 4, .int .i32 0, false⟩
  | 172 => ⟨.struct [(0, 12), (1, 12), (2, 165), (3, 166), (4, 5), (5, 5), (6, 167), (7, 168), (8, 169), (9, 170), (10, 171)], 11, 48, .agg [.int .u64 0, .int .u64 0, .int .u32 0, .int .u8 0, .int .u8 0, .int .u8 0, .int .u8 0, .nilf, .nilp, .int .i32 0, .int .i32 0], false⟩
  | _ => ⟨.none, 0, 0, .junk, false⟩
@[simp] theorem ty_1 : tyOf 1 = ⟨.func, 1, 8, .nilf, false⟩ := by kernel_rfl
@[simp] theorem ty_2 : tyOf 2 = ⟨.int .i64, 1, 8, .int .i64 0, false⟩ := by kernel_rfl
@[simp] theorem ty_3 : tyOf 3 = ⟨.int .i64, 1, 8, .int .i64 0, false⟩ := by kernel_rfl
@[simp] theorem ty_4 : tyOf 4 = ⟨.bool, 1, 1, .bool false, false⟩ := by kernel_rfl
@[simp] theorem ty_5 : tyOf 5 = ⟨.int .u8, 1, 1, .int .u8 0, false⟩ := by kernel_rfl
@[simp] theorem ty_6 : tyOf 6 = ⟨.int .u8, 1, 1, .int .u8 0, false⟩ := by kernel_rfl
@[simp] theorem ty_7 : tyOf 7 = ⟨.struct [(0, 2), (1, 3), (2, 4), (3, 6)], 4, 24, .agg [.int .i64 0, .int .i64 0, .bool false, .int .u8 0], false⟩ := by kernel_rfl
@[simp] theorem ty_8 : tyOf 8 = ⟨.struct [(0, 2), (1, 3), (2, 4), (3, 6)], 4, 24, .agg [.int .i64 0, .int .i64 0, .bool false, .int .u8 0], false⟩ := by kernel_rfl
@[simp] theorem ty_12 : tyOf 12 = ⟨.int .u64, 1, 8, .int .u64 0, false⟩ := by kernel_rfl
@[simp] theorem ty_13 : tyOf 13 = ⟨.struct [(0, 9), (1, 12)], 2, 24, .agg [.str ⟨#[]⟩, .int .u64 0], false⟩ := by kernel_rfl
@[simp] theorem ty_14 : tyOf 14 = ⟨.struct [(0, 9), (1, 12)], 2, 24, .agg [.str ⟨#[]⟩, .int .u64 0], false⟩ := by kernel_rfl
@[simp] theorem ty_15 : tyOf 15 = ⟨.ptr, 1, 8, .nilp, false⟩ := by kernel_rfl
@[simp] theorem ty_16 : tyOf 16 = ⟨.ptr, 1, 8, .nilp, false⟩ := by kernel_rfl
@[simp] theorem ty_17 : tyOf 17 = ⟨.ptr, 1, 8, .nilp, false⟩ := by kernel_rfl
@[simp] theorem ty_18 : tyOf 18 = ⟨.struct [(0, 17)], 1, 8, .agg [.nilp], false⟩ := by kernel_rfl
@[simp] theorem ty_19 : tyOf 19 = ⟨.struct [(0, 17)], 1, 8, .agg [.nilp], false⟩ := by kernel_rfl
@[simp] theorem ty_20 : tyOf 20 = ⟨.iface, 1, 16, .nili, false⟩ := by kernel_rfl
@[simp] theorem ty_21 : tyOf 21 = ⟨.int .i32, 1, 4, .int .i32 0, false⟩ := by kernel_rfl
@[simp] theorem ty_22 : tyOf 22 = ⟨.int .i64, 1, 8, .int .i64 0, false⟩ := by kernel_rfl
@[simp] theorem ty_23 : tyOf 23 = ⟨.int .i64, 1, 8, .int .i64 0, false⟩ := by kernel_rfl
@[simp] theorem ty_24 : tyOf 24 = ⟨.slice 30, 1, 24, .slice [] .full, false⟩ := by kernel_rfl
@[simp] theorem ty_25 : tyOf 25 = ⟨.slice 27, 1, 24, .slice [] .full, false⟩ := by kernel_rfl
@[simp] theorem ty_26 : tyOf 26 = ⟨.struct [(0, 23), (1, 3), (2, 3), (3, 24), (4, 25)], 5, 72, .agg [.int .i64 0, .int .i64 0, .int .i64 0, .slice [] .full, .slice [] .full], false⟩ := by kernel_rfl
@[simp] theorem ty_27 : tyOf 27 = ⟨.struct [(0, 23), (1, 3), (2, 3), (3, 24), (4, 25)], 5, 72, .agg [.int .i64 0, .int .i64 0, .int .i64 0, .slice [] .full, .slice [] .full], false⟩ := by kernel_rfl
@[simp] theorem ty_28 : tyOf 28 = ⟨.slice 61, 1, 24, .slice [] .full, false⟩ := by kernel_rfl
@[simp] theorem ty_29 : tyOf 29 = ⟨.struct [(0, 28)], 1, 24, .agg [.slice [] .full], false⟩ := by kernel_rfl
@[simp] theorem ty_30 : tyOf 30 = ⟨.struct [(0, 28)], 1, 24, .agg [.slice [] .full], false⟩ := by kernel_rfl
@[simp] theorem ty_31 : tyOf 31 = ⟨.slice 63, 1, 24, .slice [] .full, false⟩ := by kernel_rfl
@[simp] theorem ty_32 : tyOf 32 = ⟨.slice 65, 1, 24, .slice [] .full, false⟩ := by kernel_rfl
@[simp] theorem ty_33 : tyOf 33 = ⟨.struct [(0, 22), (1, 3), (2, 27), (7, 27), (12, 25), (13, 30), (14, 31), (15, 32)], 16, 256, .agg [.int .i64 0, .int .i64 0, .int .i64 0, .int .i64 0, .int .i64 0, .slice [] .full, .slice [] .full, .int .i64 0, .int .i64 0, .int .i64 0, .slice [] .full, .slice [] .full, .slice [] .full, .slice [] .full, .slice [] .full, .slice [] .full], false⟩ := by kernel_rfl
@[simp] theorem ty_34 : tyOf 34 = ⟨.struct [(0, 22), (1, 3), (2, 27), (7, 27), (12, 25), (13, 30), (14, 31), (15, 32)], 16, 256, .agg [.int .i64 0, .int .i64 0, .int .i64 0, .int .i64 0, .int .i64 0, .slice [] .full, .slice [] .full, .int .i64 0, .int .i64 0, .int .i64 0, .slice [] .full, .slice [] .full, .slice [] .full, .slice [] .full, .slice [] .full, .slice [] .full], false⟩ := by kernel_rfl
@[simp] theorem ty_35 : tyOf 35 = ⟨.slice 5, 1, 24, .slice [] .full, false⟩ := by kernel_rfl
@[simp] theorem ty_36 : tyOf 36 = ⟨.func, 1, 8, .nilf, false⟩ := by kernel_rfl
@[simp] theorem ty_41 : tyOf 41 = ⟨.func, 1, 8, .nilf, false⟩ := by kernel_rfl
@[simp] theorem ty_45 : tyOf 45 = ⟨.func, 1, 8, .nilf, false⟩ := by kernel_rfl
@[simp] theorem ty_47 : tyOf 47 = ⟨.func, 1, 8, .nilf, false⟩ := by kernel_rfl
@[simp] theorem ty_48 : tyOf 48 = ⟨.func, 1, 8, .nilf, false⟩ := by kernel_rfl
@[simp] theorem ty_50 : tyOf 50 = ⟨.func, 1, 8, .nilf, false⟩ := by kernel_rfl
@[simp] theorem ty_51 : tyOf 51 = ⟨.slice 34, 1, 24, .slice [] .full, false⟩ := by kernel_rfl
@[simp] theorem ty_53 : tyOf 53 = ⟨.func, 1, 8, .nilf, false⟩ := by kernel_rfl
@[simp] theorem ty_57 : tyOf 57 = ⟨.func, 1, 8, .nilf, false⟩ := by kernel_rfl
@[simp] theorem ty_59 : tyOf 59 = ⟨.func, 1, 8, .nilf, false⟩ := by kernel_rfl
@[simp] theorem ty_60 : tyOf 60 = ⟨.struct [(0, 3), (1, 3)], 2, 16, .agg [.int .i64 0, .int .i64 0], false⟩ := by kernel_rfl
@[simp] theorem ty_61 : tyOf 61 = ⟨.struct [(0, 3), (1, 3)], 2, 16, .agg [.int .i64 0, .int .i64 0], true⟩ := by kernel_rfl
@[simp] theorem ty_63 : tyOf 63 = ⟨.struct [(0, 25)], 1, 24, .agg [.slice [] .full], false⟩ := by kernel_rfl
@[simp] theorem ty_65 : tyOf 65 = ⟨.struct [(0, 3), (1, 27)], 6, 80, .agg [.int .i64 0, .int .i64 0, .int .i64 0, .int .i64 0, .slice [] .full, .slice [] .full], false⟩ := by kernel_rfl
@[simp] theorem ty_69 : tyOf 69 = ⟨.ptr, 1, 8, .nilp, false⟩ := by kernel_rfl
@[simp] theorem ty_71 : tyOf 71 = ⟨.func, 1, 8, .nilf, false⟩ := by kernel_rfl
@[simp] theorem ty_72 : tyOf 72 = ⟨.func, 1, 8, .nilf, false⟩ := by kernel_rfl
@[simp] theorem ty_75 : tyOf 75 = ⟨.func, 1, 8, .nilf, false⟩ := by kernel_rfl
@[simp] theorem ty_77 : tyOf 77 = ⟨.func, 1, 8, .nilf, false⟩ := by kernel_rfl
@[simp] theorem ty_78 : tyOf 78 = ⟨.func, 1, 8, .nilf, false⟩ := by kernel_rfl
@[simp] theorem ty_79 : tyOf 79 = ⟨.ptr, 1, 8, .nilp, false⟩ := by kernel_rfl
@[simp] theorem ty_80 : tyOf 80 = ⟨.func, 1, 8, .nilf, false⟩ := by kernel_rfl
@[simp] theorem ty_83 : tyOf 83 = ⟨.func, 1, 8, .nilf, false⟩ := by kernel_rfl
@[simp] theorem ty_84 : tyOf 84 = ⟨.func, 1, 8, .nilf, false⟩ := by kernel_rfl
@[simp] theorem ty_85 : tyOf 85 = ⟨.func, 1, 8, .nilf, false⟩ := by kernel_rfl
@[simp] theorem ty_86 : tyOf 86 = ⟨.func, 1, 8, .nilf, false⟩ := by kernel_rfl
@[simp] theorem ty_89 : tyOf 89 = ⟨.func, 1, 8, .nilf, false⟩ := by kernel_rfl
@[simp] theorem ty_95 : tyOf 95 = ⟨.struct [(0, 35), (1, 3)], 2, 32, .agg [.slice [] .full, .int .i64 0], false⟩ := by kernel_rfl
@[simp] theorem ty_96 : tyOf 96 = ⟨.map 23 111, 1, 8, .nilm, false⟩ := by kernel_rfl
@[simp] theorem ty_98 : tyOf 98 = ⟨.struct [(0, 95), (2, 96), (3, 3)], 4, 48, .agg [.slice [] .full, .int .i64 0, .nilm, .int .i64 0], false⟩ := by kernel_rfl
@[simp] theorem ty_99 : tyOf 99 = ⟨.func, 1, 8, .nilf, false⟩ := by kernel_rfl
@[simp] theorem ty_102 : tyOf 102 = ⟨.struct [(0, 35), (1, 96)], 2, 32, .agg [.slice [] .full, .nilm], false⟩ := by kernel_rfl
@[simp] theorem ty_103 : tyOf 103 = ⟨.struct [(0, 35), (1, 96)], 2, 32, .agg [.slice [] .full, .nilm], false⟩ := by kernel_rfl
@[simp] theorem ty_104 : tyOf 104 = ⟨.func, 1, 8, .nilf, false⟩ := by kernel_rfl
@[simp] theorem ty_108 : tyOf 108 = ⟨.func, 1, 8, .nilf, false⟩ := by kernel_rfl
@[simp] theorem ty_109 : tyOf 109 = ⟨.func, 1, 8, .nilf, false⟩ := by kernel_rfl
@[simp] theorem ty_111 : tyOf 111 = ⟨.struct [(0, 4), (1, 4), (2, 4), (3, 4), (4, 109)], 5, 16, .agg [.bool false, .bool false, .bool false, .bool false, .nilf], false⟩ := by kernel_rfl
@[simp] theorem ty_113 : tyOf 113 = ⟨.struct [], 0, 0, .agg [], false⟩ := by kernel_rfl
@[simp] theorem ty_119 : tyOf 119 = ⟨.func, 1, 8, .nilf, false⟩ := by kernel_rfl
@[simp] theorem ty_120 : tyOf 120 = ⟨.ptr, 1, 8, .nilp, false⟩ := by kernel_rfl
@[simp] theorem ty_121 : tyOf 121 = ⟨.func, 1, 8, .nilf, false⟩ := by kernel_rfl
@[simp] theorem ty_126 : tyOf 126 = ⟨.slice 4, 1, 24, .slice [] .full, false⟩ := by kernel_rfl
@[simp] theorem ty_127 : tyOf 127 = ⟨.func, 1, 8, .nilf, false⟩ := by kernel_rfl
@[simp] theorem ty_128 : tyOf 128 = ⟨.func, 1, 8, .nilf, false⟩ := by kernel_rfl
@[simp] theorem ty_129 : tyOf 129 = ⟨.slice 23, 1, 24, .slice [] .full, false⟩ := by kernel_rfl
@[simp] theorem ty_130 : tyOf 130 = ⟨.slice 3, 1, 24, .slice [] .full, false⟩ := by kernel_rfl
@[simp] theorem ty_131 : tyOf 131 = ⟨.int .u64, 1, 8, .int .u64 0, false⟩ := by kernel_rfl
@[simp] theorem ty_133 : tyOf 133 = ⟨.ptr, 1, 8, .nilp, false⟩ := by kernel_rfl
@[simp] theorem ty_135 : tyOf 135 = ⟨.ptr, 1, 8, .nilp, false⟩ := by kernel_rfl
@[simp] theorem ty_144 : tyOf 144 = ⟨.func, 1, 8, .nilf, false⟩ := by kernel_rfl
@[simp] theorem ty_146 : tyOf 146 = ⟨.func, 1, 8, .nilf, false⟩ := by kernel_rfl
@[simp] theorem ty_149 : tyOf 149 = ⟨.struct [(0, 4), (1, 4), (2, 3), (3, 3), (4, 3)], 5, 32, .agg [.bool false, .bool false, .int .i64 0, .int .i64 0, .int .i64 0], false⟩ := by kernel_rfl
@[simp] theorem ty_150 : tyOf 150 = ⟨.arr 25 149, 125, 800, .agg ([.bool false, .bool false, .int .i64 0, .int .i64 0, .int .i64 0, .bool false, .bool false, .int .i64 0, .int .i64 0, .int .i64 0, .bool false, .bool false, .int .i64 0, .int .i64 0, .int .i64 0, .bool false, .bool false, .int .i64 0, .int .i64 0, .int .i64 0] ++ [.bool false, .bool false, .int .i64 0, .int .i64 0, .int .i64 0, .bool false, .bool false, .int .i64 0, .int .i64 0, .int .i64 0, .bool false, .bool false, .int .i64 0, .int .i64 0, .int .i64 0, .bool false, .bool false, .int .i64 0, .int .i64 0, .int .i64 0] ++ [.bool false, .bool false, .int .i64 0, .int .i64 0, .int .i64 0, .bool false, .bool false, .int .i64 0, .int .i64 0, .int .i64 0, .bool false, .bool false, .int .i64 0, .int .i64 0, .int .i64 0, .bool false, .bool false, .int .i64 0, .int .i64 0, .int .i64 0] ++ [.bool false, .bool false, .int .i64 0, .int .i64 0, .int .i64 0, .bool false, .bool false, .int .i64 0, .int .i64 0, .int .i64 0, .bool false, .bool false, .int .i64 0, .int .i64 0, .int .i64 0, .bool false, .bool false, .int .i64 0, .int .i64 0, .int .i64 0] ++ [.bool false, .bool false, .int .i64 0, .int .i64 0, .int .i64 0, .bool false, .bool false, .int .i64 0, .int .i64 0, .int .i64 0, .bool false, .bool false, .int .i64 0, .int .i64 0, .int .i64 0, .bool false, .bool false, .int .i64 0, .int .i64 0, .int .i64 0] ++ [.bool false, .bool false, .int .i64 0, .int .i64 0, .int .i64 0, .bool false, .bool false, .int .i64 0, .int .i64 0, .int .i64 0, .bool false, .bool false, .int .i64 0, .int .i64 0, .int .i64 0, .bool false, .bool false, .int .i64 0, .int .i64 0, .int .i64 0] ++ [.bool false, .bool false, .int .i64 0, .int .i64 0, .int .i64 0]), false⟩ := by kernel_rfl
@[simp] theorem ty_152 : tyOf 152 = ⟨.func, 1, 8, .nilf, false⟩ := by kernel_rfl
@[simp] theorem ty_154 : tyOf 154 = ⟨.func, 1, 8, .nilf, false⟩ := by kernel_rfl
@[simp] theorem ty_156 : tyOf 156 = ⟨.func, 1, 8, .nilf, false⟩ := by kernel_rfl
@[simp] theorem ty_162 : tyOf 162 = ⟨.arr 0 16, 0, 0, .agg [], false⟩ := by kernel_rfl
@[simp] theorem ty_164 : tyOf 164 = ⟨.struct [(0, 162)], 0, 0, .agg [], false⟩ := by kernel_rfl
@[simp] theorem ty_165 : tyOf 165 = ⟨.int .u32, 1, 4, .int .u32 0, false⟩ := by kernel_rfl
@[simp] theorem ty_166 : tyOf 166 = ⟨.int .u8, 1, 1, .int .u8 0, false⟩ := by kernel_rfl
@[simp] theorem ty_167 : tyOf 167 = ⟨.int .u8, 1, 1, .int .u8 0, false⟩ := by kernel_rfl
@[simp] theorem ty_168 : tyOf 168 = ⟨.func, 1, 8, .nilf, false⟩ := by kernel_rfl
@[simp] theorem ty_169 : tyOf 169 = ⟨.ptr, 1, 8, .nilp, false⟩ := by kernel_rfl
@[simp] theorem ty_170 : tyOf 170 = ⟨.int .i32, 1, 4, .int .i32 0, false⟩ := by kernel_rfl
@[simp] theorem ty_171 : tyOf 171 = ⟨.int .i32, 1, 4, .int .i32 0, false⟩ := by kernel_rfl
@[simp] theorem ty_172 : tyOf 172 = ⟨.struct [(0, 12), (1, 12), (2, 165), (3, 166), (4, 5), (5, 5), (6, 167), (7, 168), (8, 169), (9, 170), (10, 171)], 11, 48, .agg [.int .u64 0, .int .u64 0, .int .u32 0, .int .u8 0, .int .u8 0, .int .u8 0, .int .u8 0, .nilf, .nilp, .int .i32 0, .int .i32 0], false⟩ := by kernel_rfl
theorem tyOK_1 : TyOK Tryd.prog 1 (tyOf 1) := TyOK.mk (by kernel_rfl) (by kernel_rfl) Tryd.underlying1 ⟨_, _, _, rfl⟩ (fun h => by cases h)
theorem tyOK_2 : TyOK Tryd.prog 2 (tyOf 2) := TyOK.mk (by kernel_rfl) (by kernel_rfl) Tryd.underlying2 rfl (fun h => by cases h)
theorem tyOK_3 : TyOK Tryd.prog 3 (tyOf 3) := TyOK.mk (by kernel_rfl) (by kernel_rfl) Tryd.underlying3 rfl (fun h => by cases h)
theorem tyOK_4 : TyOK Tryd.prog 4 (tyOf 4) := TyOK.mk (by kernel_rfl) (by kernel_rfl) Tryd.underlying4 rfl (fun h => by cases h)
theorem tyOK_5 : TyOK Tryd.prog 5 (tyOf 5) := TyOK.mk (by kernel_rfl) (by kernel_rfl) Tryd.underlying5 rfl (fun h => by cases h)
theorem tyOK_6 : TyOK Tryd.prog 6 (tyOf 6) := TyOK.mk (by kernel_rfl) (by kernel_rfl) Tryd.underlying6 rfl (fun h => by cases h)
theorem tyOK_7 : TyOK Tryd.prog 7 (tyOf 7) := TyOK.mk (by kernel_rfl) (by kernel_rfl) Tryd.underlying7 ⟨_, rfl, rfl⟩ (fun h => by cases h)
theorem tyOK_8 : TyOK Tryd.prog 8 (tyOf 8) := TyOK.mk (by kernel_rfl) (by kernel_rfl) Tryd.underlying8 ⟨_, rfl, rfl⟩ (fun h => by cases h)
theorem tyOK_12 : TyOK Tryd.prog 12 (tyOf 12) := TyOK.mk (by kernel_rfl) (by kernel_rfl) Tryd.underlying12 rfl (fun h => by cases h)
theorem tyOK_13 : TyOK Tryd.prog 13 (tyOf 13) := TyOK.mk (by kernel_rfl) (by kernel_rfl) Tryd.underlying13 ⟨_, rfl, rfl⟩ (fun h => by cases h)
theorem tyOK_14 : TyOK Tryd.prog 14 (tyOf 14) := TyOK.mk (by kernel_rfl) (by kernel_rfl) Tryd.underlying14 ⟨_, rfl, rfl⟩ (fun h => by cases h)
theorem tyOK_15 : TyOK Tryd.prog 15 (tyOf 15) := TyOK.mk (by kernel_rfl) (by kernel_rfl) Tryd.underlying15 ⟨_, rfl⟩ (fun h => by cases h)
theorem tyOK_16 : TyOK Tryd.prog 16 (tyOf 16) := TyOK.mk (by kernel_rfl) (by kernel_rfl) Tryd.underlying16 ⟨_, rfl⟩ (fun h => by cases h)
theorem tyOK_17 : TyOK Tryd.prog 17 (tyOf 17) := TyOK.mk (by kernel_rfl) (by kernel_rfl) Tryd.underlying17 ⟨_, rfl⟩ (fun h => by cases h)
theorem tyOK_18 : TyOK Tryd.prog 18 (tyOf 18) := TyOK.mk (by kernel_rfl) (by kernel_rfl) Tryd.underlying18 ⟨_, rfl, rfl⟩ (fun h => by cases h)
theorem tyOK_19 : TyOK Tryd.prog 19 (tyOf 19) := TyOK.mk (by kernel_rfl) (by kernel_rfl) Tryd.underlying19 ⟨_, rfl, rfl⟩ (fun h => by cases h)
theorem tyOK_20 : TyOK Tryd.prog 20 (tyOf 20) := TyOK.mk (by kernel_rfl) (by kernel_rfl) Tryd.underlying20 ⟨_, rfl⟩ (fun h => by cases h)
theorem tyOK_21 : TyOK Tryd.prog 21 (tyOf 21) := TyOK.mk (by kernel_rfl) (by kernel_rfl) Tryd.underlying21 rfl (fun h => by cases h)
theorem tyOK_22 : TyOK Tryd.prog 22 (tyOf 22) := TyOK.mk (by kernel_rfl) (by kernel_rfl) Tryd.underlying22 rfl (fun h => by cases h)
theorem tyOK_23 : TyOK Tryd.prog 23 (tyOf 23) := TyOK.mk (by kernel_rfl) (by kernel_rfl) Tryd.underlying23 rfl (fun h => by cases h)
theorem tyOK_24 : TyOK Tryd.prog 24 (tyOf 24) := TyOK.mk (by kernel_rfl) (by kernel_rfl) Tryd.underlying24 rfl (fun h => by cases h)
theorem tyOK_25 : TyOK Tryd.prog 25 (tyOf 25) := TyOK.mk (by kernel_rfl) (by kernel_rfl) Tryd.underlying25 rfl (fun h => by cases h)
theorem tyOK_26 : TyOK Tryd.prog 26 (tyOf 26) := TyOK.mk (by kernel_rfl) (by kernel_rfl) Tryd.underlying26 ⟨_, rfl, rfl⟩ (fun h => by cases h)
theorem tyOK_27 : TyOK Tryd.prog 27 (tyOf 27) := TyOK.mk (by kernel_rfl) (by kernel_rfl) Tryd.underlying27 ⟨_, rfl, rfl⟩ (fun h => by cases h)
theorem tyOK_28 : TyOK Tryd.prog 28 (tyOf 28) := TyOK.mk (by kernel_rfl) (by kernel_rfl) Tryd.underlying28 rfl (fun h => by cases h)
theorem tyOK_29 : TyOK Tryd.prog 29 (tyOf 29) := TyOK.mk (by kernel_rfl) (by kernel_rfl) Tryd.underlying29 ⟨_, rfl, rfl⟩ (fun h => by cases h)
theorem tyOK_30 : TyOK Tryd.prog 30 (tyOf 30) := TyOK.mk (by kernel_rfl) (by kernel_rfl) Tryd.underlying30 ⟨_, rfl, rfl⟩ (fun h => by cases h)
theorem tyOK_31 : TyOK Tryd.prog 31 (tyOf 31) := TyOK.mk (by kernel_rfl) (by kernel_rfl) Tryd.underlying31 rfl (fun h => by cases h)
theorem tyOK_32 : TyOK Tryd.prog 32 (tyOf 32) := TyOK.mk (by kernel_rfl) (by kernel_rfl) Tryd.underlying32 rfl (fun h => by cases h)
theorem tyOK_33 : TyOK Tryd.prog 33 (tyOf 33) := TyOK.mk (by kernel_rfl) (by kernel_rfl) Tryd.underlying33 ⟨_, rfl, rfl⟩ (fun h => by cases h)
theorem tyOK_34 : TyOK Tryd.prog 34 (tyOf 34) := TyOK.mk (by kernel_rfl) (by kernel_rfl) Tryd.underlying34 ⟨_, rfl, rfl⟩ (fun h => by cases h)
theorem tyOK_35 : TyOK Tryd.prog 35 (tyOf 35) := TyOK.mk (by kernel_rfl) (by kernel_rfl) Tryd.underlying35 rfl (fun h => by cases h)
theorem tyOK_36 : TyOK Tryd.prog 36 (tyOf 36) := TyOK.mk (by kernel_rfl) (by kernel_rfl) Tryd.underlying36 ⟨_, _, _, rfl⟩ (fun h => by cases h)
theorem tyOK_41 : TyOK Tryd.prog 41 (tyOf 41) := TyOK.mk (by kernel_rfl) (by kernel_rfl) Tryd.underlying41 ⟨_, _, _, rfl⟩ (fun h => by cases h)
theorem tyOK_45 : TyOK Tryd.prog 45 (tyOf 45) := TyOK.mk (by kernel_rfl) (by kernel_rfl) Tryd.underlying45 ⟨_, _, _, rfl⟩ (fun h => by cases h)
theorem tyOK_47 : TyOK Tryd.prog 47 (tyOf 47) := TyOK.mk (by kernel_rfl) (by kernel_rfl) Tryd.underlying47 ⟨_, _, _, rfl⟩ (fun h => by cases h)
theorem tyOK_48 : TyOK Tryd.prog 48 (tyOf 48) := TyOK.mk (by kernel_rfl) (by kernel_rfl) Tryd.underlying48 ⟨_, _, _, rfl⟩ (fun h => by cases h)
theorem tyOK_50 : TyOK Tryd.prog 50 (tyOf 50) := TyOK.mk (by kernel_rfl) (by kernel_rfl) Tryd.underlying50 ⟨_, _, _, rfl⟩ (fun h => by cases h)
theorem tyOK_51 : TyOK Tryd.prog 51 (tyOf 51) := TyOK.mk (by kernel_rfl) (by kernel_rfl) Tryd.underlying51 rfl (fun h => by cases h)
theorem tyOK_53 : TyOK Tryd.prog 53 (tyOf 53) := TyOK.mk (by kernel_rfl) (by kernel_rfl) Tryd.underlying53 ⟨_, _, _, rfl⟩ (fun h => by cases h)
theorem tyOK_57 : TyOK Tryd.prog 57 (tyOf 57) := TyOK.mk (by kernel_rfl) (by kernel_rfl) Tryd.underlying57 ⟨_, _, _, rfl⟩ (fun h => by cases h)
theorem tyOK_59 : TyOK Tryd.prog 59 (tyOf 59) := TyOK.mk (by kernel_rfl) (by kernel_rfl) Tryd.underlying59 ⟨_, _, _, rfl⟩ (fun h => by cases h)
theorem tyOK_60 : TyOK Tryd.prog 60 (tyOf 60) := TyOK.mk (by kernel_rfl) (by kernel_rfl) Tryd.underlying60 ⟨_, rfl, rfl⟩ (fun h => by cases h)
theorem tyOK_61 : TyOK Tryd.prog 61 (tyOf 61) := TyOK.mk (by kernel_rfl) (by kernel_rfl) Tryd.underlying61 ⟨_, rfl, rfl⟩ fun _ => eqp_61
theorem tyOK_63 : TyOK Tryd.prog 63 (tyOf 63) := TyOK.mk (by kernel_rfl) (by kernel_rfl) Tryd.underlying63 ⟨_, rfl, rfl⟩ (fun h => by cases h)
theorem tyOK_65 : TyOK Tryd.prog 65 (tyOf 65) := TyOK.mk (by kernel_rfl) (by kernel_rfl) Tryd.underlying65 ⟨_, rfl, rfl⟩ (fun h => by cases h)
theorem tyOK_69 : TyOK Tryd.prog 69 (tyOf 69) := TyOK.mk (by kernel_rfl) (by kernel_rfl) Tryd.underlying69 ⟨_, rfl⟩ (fun h => by cases h)
theorem tyOK_71 : TyOK Tryd.prog 71 (tyOf 71) := TyOK.mk (by kernel_rfl) (by kernel_rfl) Tryd.underlying71 ⟨_, _, _, rfl⟩ (fun h => by cases h)
theorem tyOK_72 : TyOK Tryd.prog 72 (tyOf 72) := TyOK.mk (by kernel_rfl) (by kernel_rfl) Tryd.underlying72 ⟨_, _, _, rfl⟩ (fun h => by cases h)
theorem tyOK_75 : TyOK Tryd.prog 75 (tyOf 75) := TyOK.mk (by kernel_rfl) (by kernel_rfl) Tryd.underlying75 ⟨_, _, _, rfl⟩ (fun h => by cases h)
theorem tyOK_77 : TyOK Tryd.prog 77 (tyOf 77) := TyOK.mk (by kernel_rfl) (by kernel_rfl) Tryd.underlying77 ⟨_, _, _, rfl⟩ (fun h => by cases h)
theorem tyOK_78 : TyOK Tryd.prog 78 (tyOf 78) := TyOK.mk (by kernel_rfl) (by kernel_rfl) Tryd.underlying78 ⟨_, _, _, rfl⟩ (fun h => by cases h)
theorem tyOK_79 : TyOK Tryd.prog 79 (tyOf 79) := TyOK.mk (by kernel_rfl) (by kernel_rfl) Tryd.underlying79 ⟨_, rfl⟩ (fun h => by cases h)
theorem tyOK_80 : TyOK Tryd.prog 80 (tyOf 80) := TyOK.mk (by kernel_rfl) (by kernel_rfl) Tryd.underlying80 ⟨_, _, _, rfl⟩ (fun h => by cases h)
theorem tyOK_83 : TyOK Tryd.prog 83 (tyOf 83) := TyOK.mk (by kernel_rfl) (by kernel_rfl) Tryd.underlying83 ⟨_, _, _, rfl⟩ (fun h => by cases h)
theorem tyOK_84 : TyOK Tryd.prog 84 (tyOf 84) := TyOK.mk (by kernel_rfl) (by kernel_rfl) Tryd.underlying84 ⟨_, _, _, rfl⟩ (fun h => by cases h)
theorem tyOK_85 : TyOK Tryd.prog 85 (tyOf 85) := TyOK.mk (by kernel_rfl) (by kernel_rfl) Tryd.underlying85 ⟨_, _, _, rfl⟩ (fun h => by cases h)
theorem tyOK_86 : TyOK Tryd.prog 86 (tyOf 86) := TyOK.mk (by kernel_rfl) (by kernel_rfl) Tryd.underlying86 ⟨_, _, _, rfl⟩ (fun h => by cases h)
theorem tyOK_89 : TyOK Tryd.prog 89 (tyOf 89) := TyOK.mk (by kernel_rfl) (by kernel_rfl) Tryd.underlying89 ⟨_, _, _, rfl⟩ (fun h => by cases h)
theorem tyOK_95 : TyOK Tryd.prog 95 (tyOf 95) := TyOK.mk (by kernel_rfl) (by kernel_rfl) Tryd.underlying95 ⟨_, rfl, rfl⟩ (fun h => by cases h)
theorem tyOK_96 : TyOK Tryd.prog 96 (tyOf 96) := TyOK.mk (by kernel_rfl) (by kernel_rfl) Tryd.underlying96 rfl (fun h => by cases h)
theorem tyOK_98 : TyOK Tryd.prog 98 (tyOf 98) := TyOK.mk (by kernel_rfl) (by kernel_rfl) Tryd.underlying98 ⟨_, rfl, rfl⟩ (fun h => by cases h)
theorem tyOK_99 : TyOK Tryd.prog 99 (tyOf 99) := TyOK.mk (by kernel_rfl) (by kernel_rfl) Tryd.underlying99 ⟨_, _, _, rfl⟩ (fun h => by cases h)
theorem tyOK_102 : TyOK Tryd.prog 102 (tyOf 102) := TyOK.mk (by kernel_rfl) (by kernel_rfl) Tryd.underlying102 ⟨_, rfl, rfl⟩ (fun h => by cases h)
theorem tyOK_103 : TyOK Tryd.prog 103 (tyOf 103) := TyOK.mk (by kernel_rfl) (by kernel_rfl) Tryd.underlying103 ⟨_, rfl, rfl⟩ (fun h => by cases h)
theorem tyOK_104 : TyOK Tryd.prog 104 (tyOf 104) := TyOK.mk (by kernel_rfl) (by kernel_rfl) Tryd.underlying104 ⟨_, _, _, rfl⟩ (fun h => by cases h)
theorem tyOK_108 : TyOK Tryd.prog 108 (tyOf 108) := TyOK.mk (by kernel_rfl) (by kernel_rfl) Tryd.underlying108 ⟨_, _, _, rfl⟩ (fun h => by cases h)
theorem tyOK_109 : TyOK Tryd.prog 109 (tyOf 109) := TyOK.mk (by kernel_rfl) (by kernel_rfl) Tryd.underlying109 ⟨_, _, _, rfl⟩ (fun h => by cases h)
theorem tyOK_111 : TyOK Tryd.prog 111 (tyOf 111) := TyOK.mk (by kernel_rfl) (by kernel_rfl) Tryd.underlying111 ⟨_, rfl, rfl⟩ (fun h => by cases h)
theorem tyOK_113 : TyOK Tryd.prog 113 (tyOf 113) := TyOK.mk (by kernel_rfl) (by kernel_rfl) Tryd.underlying113 ⟨_, rfl, rfl⟩ (fun h => by cases h)
theorem tyOK_119 : TyOK Tryd.prog 119 (tyOf 119) := TyOK.mk (by kernel_rfl) (by kernel_rfl) Tryd.underlying119 ⟨_, _, _, rfl⟩ (fun h => by cases h)
theorem tyOK_120 : TyOK Tryd.prog 120 (tyOf 120) := TyOK.mk (by kernel_rfl) (by kernel_rfl) Tryd.underlying120 ⟨_, rfl⟩ (fun h => by cases h)
theorem tyOK_121 : TyOK Tryd.prog 121 (tyOf 121) := TyOK.mk (by kernel_rfl) (by kernel_rfl) Tryd.underlying121 ⟨_, _, _, rfl⟩ (fun h => by cases h)
theorem tyOK_126 : TyOK Tryd.prog 126 (tyOf 126) := TyOK.mk (by kernel_rfl) (by kernel_rfl) Tryd.underlying126 rfl (fun h => by cases h)
theorem tyOK_127 : TyOK Tryd.prog 127 (tyOf 127) := TyOK.mk (by kernel_rfl) (by kernel_rfl) Tryd.underlying127 ⟨_, _, _, rfl⟩ (fun h => by cases h)
theorem tyOK_128 : TyOK Tryd.prog 128 (tyOf 128) := TyOK.mk (by kernel_rfl) (by kernel_rfl) Tryd.underlying128 ⟨_, _, _, rfl⟩ (fun h => by cases h)
theorem tyOK_129 : TyOK Tryd.prog 129 (tyOf 129) := TyOK.mk (by kernel_rfl) (by kernel_rfl) Tryd.underlying129 rfl (fun h => by cases h)
theorem tyOK_130 : TyOK Tryd.prog 130 (tyOf 130) := TyOK.mk (by kernel_rfl) (by kernel_rfl) Tryd.underlying130 rfl (fun h => by cases h)
theorem tyOK_131 : TyOK Tryd.prog 131 (tyOf 131) := TyOK.mk (by kernel_rfl) (by kernel_rfl) Tryd.underlying131 rfl (fun h => by cases h)
theorem tyOK_133 : TyOK Tryd.prog 133 (tyOf 133) := TyOK.mk (by kernel_rfl) (by kernel_rfl) Tryd.underlying133 ⟨_, rfl⟩ (fun h => by cases h)
theorem tyOK_135 : TyOK Tryd.prog 135 (tyOf 135) := TyOK.mk (by kernel_rfl) (by kernel_rfl) Tryd.underlying135 ⟨_, rfl⟩ (fun h => by cases h)
theorem tyOK_144 : TyOK Tryd.prog 144 (tyOf 144) := TyOK.mk (by kernel_rfl) (by kernel_rfl) Tryd.underlying144 ⟨_, _, _, rfl⟩ (fun h => by cases h)
theorem tyOK_146 : TyOK Tryd.prog 146 (tyOf 146) := TyOK.mk (by kernel_rfl) (by kernel_rfl) Tryd.underlying146 ⟨_, _, _, rfl⟩ (fun h => by cases h)
theorem tyOK_149 : TyOK Tryd.prog 149 (tyOf 149) := TyOK.mk (by kernel_rfl) (by kernel_rfl) Tryd.underlying149 ⟨_, rfl, rfl⟩ (fun h => by cases h)
theorem tyOK_150 : TyOK Tryd.prog 150 (tyOf 150) := TyOK.mk (by kernel_rfl) (by kernel_rfl) Tryd.underlying150 rfl (fun h => by cases h)
theorem tyOK_152 : TyOK Tryd.prog 152 (tyOf 152) := TyOK.mk (by kernel_rfl) (by kernel_rfl) Tryd.underlying152 ⟨_, _, _, rfl⟩ (fun h => by cases h)
theorem tyOK_154 : TyOK Tryd.prog 154 (tyOf 154) := TyOK.mk (by kernel_rfl) (by kernel_rfl) Tryd.underlying154 ⟨_, _, _, rfl⟩ (fun h => by cases h)
theorem tyOK_156 : TyOK Tryd.prog 156 (tyOf 156) := TyOK.mk (by kernel_rfl) (by kernel_rfl) Tryd.underlying156 ⟨_, _, _, rfl⟩ (fun h => by cases h)
theorem tyOK_162 : TyOK Tryd.prog 162 (tyOf 162) := TyOK.mk (by kernel_rfl) (by kernel_rfl) Tryd.underlying162 rfl (fun h => by cases h)
theorem tyOK_164 : TyOK Tryd.prog 164 (tyOf 164) := TyOK.mk (by kernel_rfl) (by kernel_rfl) Tryd.underlying164 ⟨_, rfl, rfl⟩ (fun h => by cases h)
theorem tyOK_165 : TyOK Tryd.prog 165 (tyOf 165) := TyOK.mk (by kernel_rfl) (by kernel_rfl) Tryd.underlying165 rfl (fun h => by cases h)
theorem tyOK_166 : TyOK Tryd.prog 166 (tyOf 166) := TyOK.mk (by kernel_rfl) (by kernel_rfl) Tryd.underlying166 rfl (fun h => by cases h)
theorem tyOK_167 : TyOK Tryd.prog 167 (tyOf 167) := TyOK.mk (by kernel_rfl) (by kernel_rfl) Tryd.underlying167 rfl (fun h => by cases h)
theorem tyOK_168 : TyOK Tryd.prog 168 (tyOf 168) := TyOK.mk (by kernel_rfl) (by kernel_rfl) Tryd.underlying168 ⟨_, _, _, rfl⟩ (fun h => by cases h)
theorem tyOK_169 : TyOK Tryd.prog 169 (tyOf 169) := TyOK.mk (by kernel_rfl) (by kernel_rfl) Tryd.underlying169 ⟨_, rfl⟩ (fun h => by cases h)
theorem tyOK_170 : TyOK Tryd.prog 170 (tyOf 170) := TyOK.mk (by kernel_rfl) (by kernel_rfl) Tryd.underlying170 rfl (fun h => by cases h)
theorem tyOK_171 : TyOK Tryd.prog 171 (tyOf 171) := TyOK.mk (by kernel_rfl) (by kernel_rfl) Tryd.underlying171 rfl (fun h => by cases h)
theorem tyOK_172 : TyOK Tryd.prog 172 (tyOf 172) := TyOK.mk (by kernel_rfl) (by kernel_rfl) Tryd.underlying172 ⟨_, rfl, rfl⟩ (fun h => by cases h)
theorem tyOK (t : TypeId) : TyOK Tryd.prog t (tyOf t) := by
  unfold tyOf
  split
  · exact tyOK_1
  · exact tyOK_2
  · exact tyOK_3
  · exact tyOK_4
  · exact tyOK_5
  · exact tyOK_6
  · exact tyOK_7
  · exact tyOK_8
  · exact tyOK_12
  · exact tyOK_13
  · exact tyOK_14
  · exact tyOK_15
  · exact tyOK_16
  · exact tyOK_17
  · exact tyOK_18
  · exact tyOK_19
  · exact tyOK_20
  · exact tyOK_21
  · exact tyOK_22
  · exact tyOK_23
  · exact tyOK_24
  · exact tyOK_25
  · exact tyOK_26
  · exact tyOK_27
  · exact tyOK_28
  · exact tyOK_29
  · exact tyOK_30
  · exact tyOK_31
  · exact tyOK_32
  · exact tyOK_33
  · exact tyOK_34
  · exact tyOK_35
  · exact tyOK_36
  · exact tyOK_41
  · exact tyOK_45
  · exact tyOK_47
  · exact tyOK_48
  · exact tyOK_50
  · exact tyOK_51
  · exact tyOK_53
  · exact tyOK_57
  · exact tyOK_59
  · exact tyOK_60
  · exact tyOK_61
  · exact tyOK_63
  · exact tyOK_65
  · exact tyOK_69
  · exact tyOK_71
  · exact tyOK_72
  · exact tyOK_75
  · exact tyOK_77
  · exact tyOK_78
  · exact tyOK_79
  · exact tyOK_80
  · exact tyOK_83
  · exact tyOK_84
  · exact tyOK_85
  · exact tyOK_86
  · exact tyOK_89
  · exact tyOK_95
  · exact tyOK_96
  · exact tyOK_98
  · exact tyOK_99
  · exact tyOK_102
  · exact tyOK_103
  · exact tyOK_104
  · exact tyOK_108
  · exact tyOK_109
  · exact tyOK_111
  · exact tyOK_113
  · exact tyOK_119
  · exact tyOK_120
  · exact tyOK_121
  · exact tyOK_126
  · exact tyOK_127
  · exact tyOK_128
  · exact tyOK_129
  · exact tyOK_130
  · exact tyOK_131
  · exact tyOK_133
  · exact tyOK_135
  · exact tyOK_144
  · exact tyOK_146
  · exact tyOK_149
  · exact tyOK_150
  · exact tyOK_152
  · exact tyOK_154
  · exact tyOK_156
  · exact tyOK_162
  · exact tyOK_164
  · exact tyOK_165
  · exact tyOK_166
  · exact tyOK_167
  · exact tyOK_168
  · exact tyOK_169
  · exact tyOK_170
  · exact tyOK_171
  · exact tyOK_172
  · intro h; cases h
end Go.Proofs.YtgloldepdhgfaaaDoor
namespace Go.Proofs.YtgloldepdhgfaaaDoor
set_option linter.unusedSimpArgs false
set_option linter.unusedVariables false
open Go.RowKit
def setH (H : Nat → HO) (n : Nat) (x : HO) : Nat → HO := fun i => if i = n then x else H i
def updL (H : Nat → HO) : List (Nat × HO) → Nat → HO
  | [] => H
  | (n, x) :: r => updL (setH H n x) r
theorem setH_same (H : Nat → HO) (n : Nat) (x : HO) : setH H n x n = x := by simp [setH]
theorem setH_ne (H : Nat → HO) {n i : Nat} (x : HO) (h : i ≠ n) : setH H n x i = H i := by simp [setH, h]
theorem D.one_cell {d : D} {ρ : Rho} {w : World} {v : Value} (h : d.one = true) (hr : Rp ρ w d v) : v.oneCell' = true := by
  cases d
  case ref d => obtain ⟨b, o, rfl, -⟩ := Rp_ref.1 hr; rfl
  case lent els sp => rw [Rp] at hr; obtain ⟨_, _, _, _, rfl, -⟩ := hr; rfl
  case own i n => rw [Rp] at hr; rcases hr with ⟨-, _, rfl⟩ | ⟨_, _, -, rfl, -⟩ <;> rfl
  all_goals first | (simp [D.one] at h; done) | skip
  all_goals rw [Rp] at hr
  all_goals first
    | (obtain ⟨rfl, -⟩ := hr; rfl)
    | (subst hr; rfl)
    | (obtain ⟨_, _, rfl, -⟩ := hr; rfl)
    | (obtain ⟨_, rfl, -⟩ := hr; rfl)
    | (obtain ⟨_, _, _, rfl, -⟩ := hr; rfl)
    | (obtain ⟨_, _, -, rfl⟩ := hr; rfl)
theorem Value.cells_one {v : Value} (h : v.oneCell' = true) : v.cells = #[v] := by
  cases v <;> first | rfl | cases h
/-- a value's cells are those of its datum -/
theorem Rp.cells {d : D} {ρ : Rho} {w : World} {v : Value} (h : d.cells.all D.one = true) (hr : Rp ρ w d v) : RpL ρ w d.cells v.cells.toList ∧ ∀ u, u ∈ v.cells.toList → u.oneCell' = true := by
  have hc : RpL ρ w d.cells v.cells.toList := by
    cases d
    case agg cs =>
      rw [Rp] at hr
      obtain ⟨us, rfl, h2⟩ := hr
      exact h2
    all_goals
      have h1 := Value.cells_one (D.one_cell (by simpa only [D.cells, List.all_cons, List.all_nil, Bool.and_true] using h) hr)
      rw [h1]
      exact RpL_cons'.2 ⟨hr, RpL_nil.2 rfl⟩
  refine ⟨hc, fun u hu => ?_⟩
  obtain ⟨i, hi⟩ := List.getElem?_of_mem hu
  have hlen := hc.length
  have hi2 : i < d.cells.length := by rw [← hlen]; exact (List.getElem?_eq_some_iff.1 hi).1
  obtain ⟨v2, e2, h2⟩ := hc.get (List.getElem?_eq_getElem hi2)
  rw [hi] at e2; cases e2
  exact D.one_cell (List.all_eq_true.1 h _ (List.getElem_mem hi2)) h2
section
variable {G : Nat → Option D} {ρ : Rho} {w : World} {H : Nat → HO}
/-- a block more is the call's own -/
def Rho.lay (ρ : Rho) (w : World) (n : Nat) : Rho := ⟨fun b => if b = w.heap.size then some 0 else ρ.c b, fun i => if i = n then some (w.heap.size, 0) else ρ.nm i⟩
theorem Grow.lay (hR : Rel G ρ w H) {n : Nat} (hn : H n = .free) (o : Obj) : Grow ρ w (ρ.lay w n) (w.alloc o) := by
  have hne : ∀ b, b < w.heap.size → (ρ.lay w n).c b = ρ.c b := fun b hb => by simp [Rho.lay, Nat.ne_of_lt hb]
  refine ⟨rfl, rfl, rfl, by simp, fun b hb h => ⟨(hne b hb).trans h, Below.heap_alloc w o b hb⟩, fun b k hb h => ⟨.inl ⟨k, (hne b hb).trans h, Nat.le_refl _⟩, fun vs ty fz hh => ⟨vs, (Below.heap_alloc w o b hb).trans hh, rfl, fun _ _ => rfl⟩⟩, fun i x hx => ?_⟩
  by_cases hi : i = n
  · subst hi; rw [hR.free i hn] at hx; cases hx
  · simp [Rho.lay, hi, hx]
theorem Ex.lay (hR : Rel G ρ w H) {n : Nat} (hn : H n = .free) {o : Obj} {x : HO} (hl : x.live = true) (hx : ∀ ρ', Grow ρ w ρ' (w.alloc o) → ρ'.c w.heap.size = some 0 → ObjAt ρ' (w.alloc o) w.heap.size 0 x) :
    Rel G (ρ.lay w n) (w.alloc o) (setH H n x) ∧ Ex ρ w H (ρ.lay w n) (w.alloc o) (setH H n x) := by
  have g := Grow.lay hR hn o
  have hne : ∀ b, b < w.heap.size → (ρ.lay w n).c b = ρ.c b := fun b hb => by simp [Rho.lay, Nat.ne_of_lt hb]
  have hnm : ∀ i, i ≠ n → (ρ.lay w n).nm i = ρ.nm i := fun i hi => by simp [Rho.lay, hi]
  have hn0 : (ρ.lay w n).nm n = some (w.heap.size, 0) := by simp [Rho.lay]
  have hold : ∀ i b f, i ≠ n → (ρ.lay w n).nm i = some (b, f) → (H i).live = true → b < w.heap.size := fun i b f hi h1 h2 => by
    rw [hnm i hi] at h1
    exact (hR.obj i b f h1).lt h2
  refine ⟨⟨fun i hi => ?_, fun b hb => ?_, fun i b f h1 => ?_, fun i j b f g' h1 h2 h3 h4 => ?_, fun gg d hd => (hR.glob gg d hd).grow g⟩, g, fun b hb hnl => ⟨Below.heap_alloc w o b hb, hne b hb⟩, fun b hlv hb => ?_⟩
  · by_cases h : i = n
    · subst h; rw [setH_same] at hi; subst hi; cases hl
    · rw [setH_ne H x h] at hi; rw [hnm i h]; exact hR.free i hi
  · have : b ≠ w.heap.size := by simp at hb; omega
    have h2 := hR.fresh b (by simp at hb; omega)
    simp [Rho.lay, this, h2]
  · by_cases h : i = n
    · subst h
      rw [setH_same]
      rw [hn0] at h1; cases h1
      exact hx _ g (by simp [Rho.lay])
    · rw [setH_ne H x h]
      have h2 := hR.obj i b f (by rw [← hnm i h]; exact h1)
      cases hlv : (H i).live with
      | false =>
        revert hlv h2; generalize H i = ho; intro h2 hlv
        cases ho <;> first | exact trivial | cases hlv
      | true => exact h2.keep g (Below.heap_alloc w o b (h2.lt hlv)) (hne b (h2.lt hlv))
  · by_cases hi : i = n
    · by_cases hj : j = n
      · rw [hi, hj]
      · exfalso
        subst hi
        rw [hn0] at h1; cases h1
        rw [setH_ne H x hj] at h4
        have := hold j _ _ hj h2 h4
        omega
    · by_cases hj : j = n
      · exfalso
        subst hj
        rw [hn0] at h2; cases h2
        rw [setH_ne H x hi] at h3
        have := hold i _ _ hi h1 h3
        omega
      · rw [setH_ne H x hi] at h3
        rw [setH_ne H x hj] at h4
        exact hR.inj i j b f g' (by rw [← hnm i hi]; exact h1) (by rw [← hnm j hj]; exact h2) h3 h4
  · obtain ⟨i, f, h1, h2⟩ := hlv
    by_cases hi : i = n
    · subst hi; rw [hn0] at h1; cases h1; omega
    · rw [setH_ne H x hi] at h2
      exact ⟨i, f, by rw [← hnm i hi]; exact h1, h2⟩
/-- an object's block is written -/
theorem Ex.write (hR : Rel G ρ w H) {n b f : Nat} (hn : ρ.nm n = some (b, f)) (hlv : (H n).live = true) {w' : World} (hos : w'.os = w.os) (htp : w'.tape = w.tape) (hout : w'.output = w.output) (hsz : w'.heap.size = w.heap.size)
    (hfar : ∀ k, k ≠ b → w'.heap[k]? = w.heap[k]?) (hc : ρ.c b = some 0) (hcells : ∀ vs ty fz, w.heap[b]? = some (.cells vs ty fz) → ∃ vs', w'.heap[b]? = some (.cells vs' ty fz) ∧ vs'.size = vs.size)
    {x : HO} (hl : x.live = true) (hx : Grow ρ w ρ w' → ObjAt ρ w' b f x) : Rel G ρ w' (setH H n x) ∧ Ex ρ w H ρ w' (setH H n x) := by
  have g : Grow ρ w ρ w' := by
    refine ⟨hos, htp, hout, by omega, fun k hk h => ⟨h, hfar k (fun e => by subst e; rw [hc] at h; cases h)⟩, fun k m hk h => ⟨.inl ⟨m, h, Nat.le_refl _⟩, fun vs ty fz hh => ?_⟩, fun _ _ h => h⟩
    by_cases hkb : k = b
    · subst hkb
      rw [hc] at h; cases h
      obtain ⟨vs', h1, h2⟩ := hcells vs ty fz hh
      exact ⟨vs', h1, h2, fun o ho => absurd ho (Nat.not_lt_zero _)⟩
    · exact ⟨vs, (hfar k hkb).trans hh, rfl, fun _ _ => rfl⟩
  refine ⟨⟨fun i hi => ?_, fun k hk => hR.fresh k (by omega), fun i b' f' h1 => ?_, fun i j b' f' g' h1 h2 h3 h4 => ?_, fun gg d hd => (hR.glob gg d hd).grow g⟩, g, fun k hk hnl => ⟨hfar k (fun e => hnl ⟨n, f, by rw [e]; exact hn, hlv⟩), rfl⟩, fun k hlk hk => ?_⟩
  · by_cases h : i = n
    · subst h; rw [setH_same] at hi; subst hi; cases hl
    · rw [setH_ne H x h] at hi; exact hR.free i hi
  · by_cases h : i = n
    · subst h
      rw [setH_same]
      rw [hn] at h1; cases h1
      exact hx g
    · rw [setH_ne H x h]
      have h2 := hR.obj i b' f' h1
      cases hv : (H i).live with
      | false =>
        revert hv h2; generalize H i = ho; intro h2 hv
        cases ho <;> first | exact trivial | cases hv
      | true =>
        have hbb : b' ≠ b := fun e => by
          subst e
          exact h (hR.inj i n b' f' f h1 hn hv hlv)
        exact h2.keep g (hfar b' hbb) rfl
  · have key : ∀ k, (setH H n x k).live = true → (H k).live = true := fun k hk => by
      by_cases h : k = n
      · subst h; exact hlv
      · rwa [setH_ne H x h] at hk
    exact hR.inj i j b' f' g' h1 h2 (key i h3) (key j h4)
  · obtain ⟨i, f', h1, h2⟩ := hlk
    refine ⟨i, f', h1, ?_⟩
    by_cases h : i = n
    · subst h; exact hlv
    · rwa [setH_ne H x h] at h2
end
/-- cells that stay, one by one -/
theorem RpC.get {ρ : Rho} {w : World} : ∀ {ds : List D} {b o : Nat}, RpC ρ w ds b o → ∀ {i : Nat} {d : D}, ds[i]? = some d → ∃ v, cellAt ρ w b (o + i) v ∧ Rp ρ w d v
  | [], b, o, h, i, d, hi => by simp at hi
  | x :: r, b, o, h, i, d, hi => by
    rw [RpC_cons] at h
    cases i with
    | zero => simp at hi; subst hi; exact h.1
    | succ i =>
      have := RpC.get h.2 (i := i) (by simpa using hi)
      rw [show o + (i + 1) = o + 1 + i by omega]; exact this
theorem RpC.of {ρ : Rho} {w : World} : ∀ {ds : List D} {b o : Nat}, (∀ (i : Nat) (d : D), ds[i]? = some d → ∃ v, cellAt ρ w b (o + i) v ∧ Rp ρ w d v) → RpC ρ w ds b o
  | [], b, o, _ => RpC_nil
  | x :: r, b, o, h => RpC_cons.2 ⟨h 0 x rfl, RpC.of fun i d hi => by
      have := h (i + 1) d (by simpa using hi)
      rwa [show o + (i + 1) = o + 1 + i by omega] at this⟩
theorem RpC.part {ρ : Rho} {w : World} {ds : List D} {b o : Nat} (h : RpC ρ w ds b o) (k n : Nat) : RpC ρ w ((ds.drop k).take n) b (o + k) :=
  RpC.of fun i d hi => by
    have hlt : i < n := by have := (List.getElem?_eq_some_iff.1 hi).1; simp at this; omega
    rw [List.getElem?_take_of_lt hlt, List.getElem?_drop] at hi
    rw [show o + k + i = o + (k + i) by omega]
    exact h.get hi
/-- the values of cells -/
theorem RpC.vals {ρ : Rho} {w : World} : ∀ {ds : List D} {b o : Nat}, RpC ρ w ds b o → ∃ vs, RpL ρ w ds vs ∧ ∀ (j : Nat) (v : Value), vs[j]? = some v → w.cell? ⟨b, o + j, none⟩ = some v ∧ v.oneCell' = true
  | [], b, o, _ => ⟨[], RpL_nil.2 rfl, fun j v h => by simp at h⟩
  | x :: r, b, o, h => by
    rw [RpC_cons] at h
    obtain ⟨⟨v, h1, h2⟩, h3⟩ := h
    obtain ⟨vs, h4, h5⟩ := RpC.vals h3
    refine ⟨v :: vs, RpL_cons'.2 ⟨h2, h4⟩, fun j u hu => ?_⟩
    cases j with
    | zero => simp at hu; subst hu; exact ⟨h1.2.1, h1.2.2⟩
    | succ j =>
      have := h5 j u (by simpa using hu)
      rwa [show o + (j + 1) = o + 1 + j by omega]
theorem RpE.get {ρ : Rho} {w : World} {sz : Nat} : ∀ {els : List D} {b o : Nat}, RpE ρ w els b o → (∀ e, e ∈ els → e.size = sz) → ∀ {i : Nat} {d : D}, els[i]? = some d → RpAt ρ w d b (o + i * sz)
  | [], b, o, h, _, i, d, hi => by simp at hi
  | x :: r, b, o, h, hs, i, d, hi => by
    rw [RpE_cons] at h
    cases i with
    | zero => simp at hi; subst hi; simpa using h.1
    | succ i =>
      have hx := hs x (List.mem_cons_self ..)
      have := RpE.get (sz := sz) h.2 (fun e he => hs e (List.mem_cons_of_mem _ he)) (i := i) (by simpa using hi)
      rw [hx] at this
      rwa [show o + (i + 1) * sz = o + sz + i * sz by rw [Nat.succ_mul]; omega]
theorem RpE.of {ρ : Rho} {w : World} {sz : Nat} : ∀ {els : List D} {b o : Nat}, (∀ e, e ∈ els → e.size = sz) → (∀ (i : Nat) (d : D), els[i]? = some d → RpAt ρ w d b (o + i * sz)) → RpE ρ w els b o
  | [], b, o, _, _ => RpE_nil
  | x :: r, b, o, hs, h => by
    have hx := hs x (List.mem_cons_self ..)
    refine RpE_cons.2 ⟨by simpa using h 0 x rfl, RpE.of (sz := sz) (fun e he => hs e (List.mem_cons_of_mem _ he)) fun i d hi => ?_⟩
    have := h (i + 1) d (by simpa using hi)
    rw [hx]
    rwa [show o + (i + 1) * sz = o + sz + i * sz by rw [Nat.succ_mul]; omega] at this
end Go.Proofs.YtgloldepdhgfaaaDoor
namespace Go.Proofs.YtgloldepdhgfaaaDoor
set_option linter.unusedSimpArgs false
set_option linter.unusedVariables false
open Go.RowKit
/-- an operation leaves a value -/
def StepV (P : Program) (G : Nat → Option D) (v : Operand → Value) (o : Oper) (ρ : Rho) (w : World) (H : Nat → HO) (d : D) (up : List (Nat × HO)) : Prop :=
  ∃ n u ρ' w', (execOp v o).run P w = .ok n w' ∧ (n = .value u ∨ (n = .skip ∧ u = undef)) ∧ Rp ρ' w' d u ∧ Rel G ρ' w' (updL H up) ∧ Ex ρ w H ρ' w' (updL H up)
section
variable {P : Program} {G : Nat → Option D} {T : TypeId → Ty} {v : Operand → Value} {e : Operand → D} {o : Oper} {ρ : Rho} {w : World} {H : Nat → HO}
/-- a value, memory as it was -/
theorem StepV.same (hR : Rel G ρ w H) {d : D} {u : Value} (hr : (execOp v o).run P w = .ok (.value u) w) (hd : Rp ρ w d u) : StepV P G v o ρ w H d [] :=
  ⟨_, u, ρ, w, hr, .inl rfl, hd, hR, Ex.refl _ _ _⟩
theorem TyOK.info {t : TypeId} (h : TyOK P t (T t)) (hk : (T t).k.known = true) : ∃ i d, P.info? t = some i ∧ i.size = (T t).size ∧ i.bytes = (T t).bytes ∧ i.zero = some (T t).zero.cv ∧ (T t).zero.closed = true ∧ (T t).zero.size = (T t).size ∧ ((T t).k.isAgg = true ∨ (T t).size = 1) ∧ P.underlying t = some d ∧ KOK d (T t).k := by
  obtain ⟨i, d, h1, h2, h3, h4, h5, h6, h7, h8, h9, -⟩ := h hk
  exact ⟨i, d, h1, h2, h3, h4, h5, h6, h7, h8, h9⟩
theorem TyOK.eqp {t : TypeId} (h : TyOK P t (T t)) (hk : (T t).k.known = true) (hq : (T t).eq2 = true) : EqP P t := by
  obtain ⟨i, d, -, -, -, -, -, -, -, -, -, h9⟩ := h hk
  exact h9 hq
theorem run_isAgg {t : TypeId} (h : TyOK P t (T t)) (hk : (T t).k.known = true) (w : World) : (isAgg t).run P w = .ok (T t).k.isAgg w := by
  obtain ⟨i, d, -, -, -, -, -, -, -, h1, h2⟩ := h.info hk
  unfold isAgg
  simp only [Sem.run_bind, run_underlying h1, Result.andThen_ok]
  cases hkk : (T t).k <;> rw [hkk] at h2 hk <;> simp only [KOK] at h2
  case none => cases hk
  all_goals first
    | (subst h2; rfl)
    | (obtain ⟨_, rfl⟩ := h2; rfl)
    | (obtain ⟨_, _, _, rfl⟩ := h2; rfl)
    | (obtain ⟨_, rfl, -⟩ := h2; rfl)
theorem run_sizeOf {t : TypeId} (h : TyOK P t (T t)) (hk : (T t).k.known = true) (w : World) : (sizeOf t).run P w = .ok (T t).size w := by
  obtain ⟨i, d, h1, h2, -⟩ := h.info hk
  simp [sizeOf, typeInfo, h1, h2]
theorem run_zero {t : TypeId} (h : TyOK P t (T t)) (hk : (T t).k.known = true) (w : World) : (zeroValue t).run P w = .ok (T t).zero.cv w := by
  obtain ⟨i, d, h1, -, -, h2, -⟩ := h.info hk
  simp [zeroValue, typeInfo, h1, h2]
/-- what a place holds is loaded -/
theorem run_loadVar {t : TypeId} (h : TyOK P t (T t)) (hk : (T t).k.known = true) {b o : Nat} {vs : List Value} (hl : vs.length = (T t).size) (h1 : (T t).k.isAgg = false → (T t).size = 1)
    (hc : ∀ (j : Nat) (u : Value), vs[j]? = some u → w.cell? ⟨b, o + j, none⟩ = some u) : (loadVar t ⟨b, o, none⟩).run P w = .ok (if (T t).k.isAgg then .agg vs.toArray else vs.headD undef) w := by
  unfold loadVar
  simp only [Sem.run_bind, run_isAgg h hk, Result.andThen_ok]
  cases ha : (T t).k.isAgg with
  | true =>
    have := run_loadCells_list (P := P) w ⟨b, o, none⟩ vs (fun j u hu => by
      have := hc j u hu
      have e : (⟨b, o, none⟩ : Addr).add j = ⟨b, o + j, none⟩ := by unfold Addr.add; split <;> simp_all
      rw [e]; exact this)
    rw [hl] at this
    simp [run_sizeOf h hk, this]
  | false =>
    have h2 := h1 ha
    rw [h2] at hl
    obtain ⟨u, rfl⟩ := List.length_eq_one_iff.1 hl
    have := hc 0 u rfl
    rw [Nat.add_zero] at this
    simp [run_load, this]
theorem size_one {t : TypeId} (h : TyOK P t (T t)) (hk : (T t).k.known = true) (ha : (T t).k.isAgg = false) : (T t).size = 1 := by
  obtain ⟨i, d, -, -, -, -, -, -, h2, -⟩ := h.info hk
  exact h2.resolve_left (by rw [ha]; simp)
theorem zero_rp {t : TypeId} (h : TyOK P t (T t)) (hk : (T t).k.known = true) (ρ : Rho) (w : World) : Rp ρ w (T t).zero (T t).zero.cv := by
  obtain ⟨i, d, -, -, -, -, h1, -⟩ := h.info hk
  exact Rp_cv ρ w _ h1
/-- cells are laid -/
theorem lay_cells (hR : Rel G ρ w H) {n : Nat} (hn : H n = .free) {ds : List D} {vs : List Value} (t : TypeId) (h : RpL ρ w ds vs) :
    Rel G (ρ.lay w n) (w.alloc (.cells vs.toArray t)) (setH H n (.cells t ds)) ∧ Ex ρ w H (ρ.lay w n) (w.alloc (.cells vs.toArray t)) (setH H n (.cells t ds)) ∧
      Rp (ρ.lay w n) (w.alloc (.cells vs.toArray t)) (.box n 0) (.pointer (some ⟨w.heap.size, 0, none⟩)) := by
  obtain ⟨h1, h2⟩ := Ex.lay hR hn (o := .cells vs.toArray t) (x := .cells t ds) rfl (fun ρ' g hc => ⟨hc, vs, by simp [← World.alloc_eq], RpL.grow g ds vs h⟩)
  exact ⟨h1, h2, by rw [Rp]; exact ⟨_, 0, by simp [Rho.lay], rfl⟩⟩
theorem snd_alloc (hT : ∀ t, TyOK P t (T t)) (hR : Rel G ρ w H) {t : TypeId} (ho : o.op = .alloc t) {n : Nat} (hn : H n = .free) (hk : (T t).k.known = true) (ha : (T t).zero.cells.all D.one = true) :
    StepV P G v o ρ w H (.box n 0) [(n, .cells t (T t).zero.cells)] := by
  obtain ⟨hc, -⟩ := Rp.cells ha (zero_rp (hT t) hk ρ w)
  obtain ⟨h1, h2, h3⟩ := lay_cells hR hn t hc
  refine ⟨_, _, _, _, ?_, .inl rfl, h3, h1, h2⟩
  simp [execOp, ho, Instr.alloc, run_zero (hT t) hk, newVar, newRow]
theorem snd_box (hR : Rel G ρ w H) {t : TypeId} {x : Operand} (ho : o.op = .box t x) (hx : Rp ρ w (e x) (v x)) {n : Nat} (hn : H n = .free) (ha : (e x).cells.all D.one = true) :
    StepV P G v o ρ w H (.box n 0) [(n, .cells t (e x).cells)] := by
  obtain ⟨hc, -⟩ := Rp.cells ha hx
  obtain ⟨h1, h2, h3⟩ := lay_cells hR hn t hc
  refine ⟨_, _, _, _, ?_, .inl rfl, h3, h1, h2⟩
  simp [execOp, ho, Instr.box, newVar, newRow]
theorem snd_move (hR : Rel G ρ w H) {x : Operand} (ho : o.op = .move x ∨ o.op = .assign x) (hx : Rp ρ w (e x) (v x)) : StepV P G v o ρ w H (e x) [] := by
  refine StepV.same hR (u := v x) ?_ hx
  rcases ho with ho | ho <;> simp [execOp, ho]
theorem snd_pick (hR : Rel G ρ w H) {c a b : Operand} (ho : o.op = .pick c a b) {cb : Bool} (hc : e c = .bool cb) (hcv : Rp ρ w (e c) (v c)) (ha : Rp ρ w (e a) (v a)) (hb : Rp ρ w (e b) (v b)) :
    StepV P G v o ρ w H (if cb then e a else e b) [] := by
  rw [hc, Rp] at hcv
  refine StepV.same hR (u := if cb then v a else v b) ?_ ?_
  · simp [execOp, ho, hcv, asBool]
  · cases cb <;> simp <;> assumption
/-- an object's cells in memory -/
theorem obj_cells (hR : Rel G ρ w H) {i : Nat} {ty : TypeId} {ds : List D} (hi : H i = .cells ty ds) {off : Nat} {p : Value} (hp : Rp ρ w (.box i off) p) :
    ∃ (b f : Nat) (vs : List Value), p = .pointer (some ⟨b, off, none⟩) ∧ ρ.nm i = some (b, f) ∧ ρ.c b = some 0 ∧ w.heap[b]? = some (.cells vs.toArray ty (0, 0)) ∧ RpL ρ w ds vs := by
  rw [Rp] at hp
  obtain ⟨b, f, h1, rfl⟩ := hp
  have h2 := hR.obj i b f h1
  rw [hi] at h2
  obtain ⟨h3, vs, h4, h5⟩ := h2
  exact ⟨b, f, vs, rfl, h1, h3, h4, h5⟩
theorem partD_one {cs : List D} {o : Nat} {d : D} (h : (match cs[o]? with | some d => if d.one then some d else none | none => none) = some d) : cs[o]? = some d ∧ d.one = true := by
  cases hc : cs[o]? with
  | none => rw [hc] at h; cases h
  | some x =>
    rw [hc] at h
    dsimp only at h
    split at h
    · rename_i h1; cases h; exact ⟨rfl, h1⟩
    · cases h
theorem partD_load {y : Ty} {ds : List D} {off : Nat} {d : D} (h : partD y ds off = some d) {vs : List Value} (hv : RpL ρ w ds vs) (h1 : y.k.isAgg = false → y.size = 1) :
    ∃ us : List Value, us.length = y.size ∧ (∀ (j : Nat) (u : Value), us[j]? = some u → vs[off + j]? = some u) ∧ Rp ρ w d (if y.k.isAgg then .agg us.toArray else us.headD undef) := by
  unfold partD at h
  cases ha : y.k.isAgg with
  | true =>
    rw [ha] at h
    simp only [if_true] at h
    split at h
    · rename_i hle
      cases h
      have hlen := hv.length
      refine ⟨(vs.drop off).take y.size, by simp; omega, fun j u hu => ?_, ?_⟩
      · have hj : j < y.size := by have := (List.getElem?_eq_some_iff.1 hu).1; simp at this; omega
        rwa [List.getElem?_take_of_lt hj, List.getElem?_drop] at hu
      · simp only [if_true]
        rw [Rp]; exact ⟨_, rfl, (hv.drop off).take y.size⟩
    · cases h
  | false =>
    rw [ha] at h
    simp only [Bool.false_eq_true, if_false] at h
    obtain ⟨h, -⟩ := partD_one h
    obtain ⟨u, h2, h3⟩ := hv.get h
    refine ⟨[u], by rw [h1 ha]; rfl, fun j x hx => ?_, by simpa using h3⟩
    cases j with
    | zero => simp at hx; subst hx; simpa using h2
    | succ j => simp at hx
theorem snd_load_box (hT : ∀ t, TyOK P t (T t)) (hR : Rel G ρ w H) {t : TypeId} {x : Operand} (ho : o.op = .load t x) (hx : Rp ρ w (e x) (v x)) {i off : Nat} {ty : TypeId} {ds : List D} {d : D} (hex : e x = .box i off) (hi : H i = .cells ty ds)
    (hk : (T t).k.known = true) (hp : partD (T t) ds off = some d) : StepV P G v o ρ w H d [] := by
  rw [hex] at hx
  obtain ⟨b, f, vs, hv, -, -, hh, hr⟩ := obj_cells hR hi hx
  obtain ⟨us, h1, h2, h3⟩ := partD_load hp hr (size_one (hT t) hk)
  refine StepV.same hR ?_ h3
  have := run_loadVar (P := P) (hT t) hk (b := b) (o := off) h1 (size_one (hT t) hk) (w := w) (fun j u hu => by
    have := h2 j u hu
    simp [World.cell?, hh, this])
  simp [execOp, ho, hv, Instr.loadAt, Instr.sureAddr, this]
theorem snd_load_ref (hT : ∀ t, TyOK P t (T t)) (hR : Rel G ρ w H) {t : TypeId} {x : Operand} (ho : o.op = .load t x) (hx : Rp ρ w (e x) (v x)) {d : D} (hex : e x = .ref d)
    (hk : (T t).k.known = true) (hd : ((T t).k.isAgg = true ∧ ∃ cs, d = .agg cs ∧ cs.length = (T t).size) ∨ ((T t).k.isAgg = false ∧ d.one = true)) : StepV P G v o ρ w H d [] := by
  rw [hex] at hx
  obtain ⟨b, off, hv, hat⟩ := Rp_ref.1 hx
  rcases hd with ⟨ha, cs, rfl, hl⟩ | ⟨ha, h1⟩
  · obtain ⟨vs, hr, hc⟩ := RpC.vals (show RpC ρ w cs b off from hat)
    have := run_loadVar (P := P) (hT t) hk (by rw [hr.length]; exact hl) (size_one (hT t) hk) (w := w) (fun j u hu => (hc j u hu).1)
    refine StepV.same hR (u := .agg vs.toArray) ?_ (by rw [Rp]; exact ⟨vs, rfl, hr⟩)
    simp [execOp, ho, hv, Instr.loadAt, Instr.sureAddr, this, ha]
  · have hat2 : ∃ u, cellAt ρ w b off u ∧ Rp ρ w d u := by
      cases d <;> first | exact hat | cases h1
    obtain ⟨u, h2, h3⟩ := hat2
    have := run_loadVar (P := P) (hT t) hk (vs := [u]) (by rw [size_one (hT t) hk ha]; rfl) (size_one (hT t) hk) (w := w) (b := b) (o := off) (fun j z hz => by
      cases j with
      | zero => simp at hz; subst hz; exact h2.2.1
      | succ j => simp at hz)
    refine StepV.same hR (u := u) ?_ h3
    simp [execOp, ho, hv, Instr.loadAt, Instr.sureAddr, this, ha]
theorem snd_store (hT : ∀ t, TyOK P t (T t)) (hR : Rel G ρ w H) {t : TypeId} {x y : Operand} (ho : o.op = .store t x y) (hx : Rp ρ w (e x) (v x)) (hy : Rp ρ w (e y) (v y)) {i off : Nat} {ty : TypeId} {ds : List D}
    (hex : e x = .box i off) (hi : H i = .cells ty ds) (hk : (T t).k.known = true) (hl : (e y).cells.length = (T t).size) (hle : off + (T t).size ≤ ds.length) (ha : (e y).cells.all D.one = true) :
    StepV P G v o ρ w H .junk [(i, .cells ty (ds.take off ++ (e y).cells ++ ds.drop (off + (T t).size)))] := by
  rw [hex] at hx
  obtain ⟨b, f, vs, hv, hnm, hc0, hh, hr⟩ := obj_cells hR hi hx
  obtain ⟨hc, h1⟩ := Rp.cells ha hy
  have hlen := hr.length
  have hlc := hc.length
  have hsz : (v y).cells.size = (T t).size := by rw [← Array.length_toList, hlc, hl]
  have hrun := run_storeCells_at P b off ty (v y).cells.toList 0 vs.toArray w hh (by simp; omega) h1
  obtain ⟨r1, r2⟩ := Ex.write hR hnm (by rw [hi]; rfl) (w' := w.setRow b (vs.toArray.toList.take (off + 0) ++ (v y).cells.toList ++ vs.toArray.toList.drop (off + 0 + (v y).cells.toList.length)).toArray) rfl rfl rfl
    (by simp [World.setRow]) (fun k hk => by simp [World.setRow, Array.getElem?_modify, Ne.symm hk]) hc0
    (fun vs' ty' fz hq => by
      rw [hh] at hq; cases hq
      exact ⟨_, setRow_heap w b _ _ _ _ hh, by simp; omega⟩)
    (x := .cells ty (ds.take off ++ (e y).cells ++ ds.drop (off + (T t).size))) rfl
    (fun g => ⟨hc0, _, setRow_heap w b _ _ _ _ hh, by
      have := (((RpL.grow g _ _ hr).take off).append (RpL.grow g _ _ hc)).append ((RpL.grow g _ _ hr).drop (off + (T t).size))
      simpa [hsz] using this⟩)
  refine ⟨.skip, undef, ρ, _, ?_, .inr ⟨rfl, rfl⟩, by rw [Rp]; trivial, r1, r2⟩
  have hrun2 : (storeCells ⟨b, off, none⟩ (v y).cells.toList).run P w = _ := hrun
  simp [execOp, ho, hv, Instr.storeAt, Instr.sureAddr, storeVar, run_sizeOf (hT t) hk, hsz, hrun2]
end
end Go.Proofs.YtgloldepdhgfaaaDoor
namespace Go.Proofs.YtgloldepdhgfaaaDoor
set_option linter.unusedSimpArgs false
set_option linter.unusedVariables false
open Go.RowKit
section
variable {P : Program} {G : Nat → Option D} {T : TypeId → Ty} {v : Operand → Value} {e : Operand → D} {o : Oper} {ρ : Rho} {w : World} {H : Nat → HO}
theorem wrap_in (k : IntKind) (n : Int) : k.min ≤ k.wrap n ∧ k.wrap n ≤ k.max := by
  cases k <;> simp [IntKind.min, IntKind.max, IntKind.wrap, IntKind.signed, IntKind.bits] <;> (try split) <;> omega
theorem snd_bin (hR : Rel G ρ w H) {op : BinOp} {t t' : TypeId} {x y : Operand} (ho : o.op = .binOp op t x y t') (hx : Rp ρ w (e x) (v x)) (hy : Rp ρ w (e y) (v y)) {d : D} (h : binD op (e x) (e y) = some d) :
    StepV P G v o ρ w H d [] := by
  unfold binD at h
  split at h
  all_goals first | (cases h; done) | skip
  all_goals
    rename_i k a k' b hex hey
    rw [hex, Rp] at hx
    rw [hey, Rp] at hy
    split at h
    · rename_i hkk
      subst hkk
      cases h
      refine StepV.same hR ?_ (by first | (rw [Rp]; exact ⟨rfl, wrap_in _ _⟩) | rw [Rp])
      simp [execOp, ho, hx.1, hy.1, go_sem]
      try rfl
    · cases h
theorem tmod_in {k : IntKind} {a b : Int} (h1 : k.min ≤ a) (h2 : a ≤ k.max) : k.min ≤ a.tmod b ∧ a.tmod b ≤ k.max := by
  have hk : k.min ≤ 0 ∧ 0 ≤ k.max := by cases k <;> decide
  rcases Int.le_total 0 a with h | h
  · have := Int.tmod_nonneg b h
    have : a.tmod b ≤ a := by
      obtain ⟨n, rfl⟩ := Int.eq_ofNat_of_zero_le h
      rcases Int.le_total 0 b with hb | hb
      · obtain ⟨m, rfl⟩ := Int.eq_ofNat_of_zero_le hb
        rw [← Int.ofNat_tmod]; exact Int.ofNat_le.2 (Nat.mod_le _ _)
      · obtain ⟨m, hm⟩ := Int.eq_ofNat_of_zero_le (show 0 ≤ -b by omega)
        have : b = -(m : Int) := by omega
        rw [this, Int.tmod_neg, ← Int.ofNat_tmod]; exact Int.ofNat_le.2 (Nat.mod_le _ _)
    omega
  · obtain ⟨n, hn⟩ := Int.eq_ofNat_of_zero_le (show 0 ≤ -a by omega)
    have ha : a = -(n : Int) := by omega
    have : 0 ≤ (n : Int).tmod b ∧ (n : Int).tmod b ≤ n := by
      refine ⟨Int.tmod_nonneg b (by omega), ?_⟩
      rcases Int.le_total 0 b with hb | hb
      · obtain ⟨m, rfl⟩ := Int.eq_ofNat_of_zero_le hb
        rw [← Int.ofNat_tmod]; exact Int.ofNat_le.2 (Nat.mod_le _ _)
      · obtain ⟨m, hm⟩ := Int.eq_ofNat_of_zero_le (show 0 ≤ -b by omega)
        have : b = -(m : Int) := by omega
        rw [this, Int.tmod_neg, ← Int.ofNat_tmod]; exact Int.ofNat_le.2 (Nat.mod_le _ _)
    rw [ha, Int.neg_tmod]
    omega
theorem fdiv_in {k : IntKind} {a : Int} (n : Nat) (h1 : k.min ≤ a) (h2 : a ≤ k.max) : k.min ≤ a.fdiv (2 ^ n) ∧ a.fdiv (2 ^ n) ≤ k.max := by
  have hk : k.min ≤ 0 ∧ 0 ≤ k.max := by cases k <;> decide
  have hp : (0 : Int) < 2 ^ n := Int.pow_pos (by decide)
  rw [Int.fdiv_eq_ediv_of_nonneg _ (Int.le_of_lt hp)]
  rcases Int.le_total 0 a with h | h
  · have := Int.ediv_nonneg h (Int.le_of_lt hp)
    have := Int.ediv_le_self (2 ^ n) h
    omega
  · have h3 : a ≤ a / 2 ^ n := by
      rw [Int.le_ediv_iff_mul_le hp]
      have h5 := Int.mul_le_mul_of_nonneg_left (show (1 : Int) ≤ 2 ^ n by omega) (show 0 ≤ -a by omega)
      rw [Int.neg_mul, Int.neg_mul] at h5
      omega
    have h4 : a / 2 ^ n ≤ 0 := by
      have := Int.ediv_le_ediv hp h
      simpa using this
    omega
theorem snd_binE (hR : Rel G ρ w H) {op : BinOp} {t t' : TypeId} {x y : Operand} (ho : o.op = .binOp op t x y t') (hx : Rp ρ w (e x) (v x)) (hy : Rp ρ w (e y) (v y)) {d : D} (h : binE op (e x) (e y) = some d) :
    StepV P G v o ρ w H d [] := by
  unfold binE at h
  split at h
  all_goals first | (cases h; done) | skip
  all_goals
    rename_i k a k' b hex hey
    rw [hex, Rp] at hx
    rw [hey, Rp] at hy
    split at h
    · rename_i hkk
      cases h
      first
        | (obtain ⟨rfl, hb⟩ := hkk; refine StepV.same hR ?_ (by first | (rw [Rp]; exact ⟨rfl, wrap_in _ _⟩) | (rw [Rp]; exact ⟨rfl, tmod_in hx.2.1 hx.2.2⟩)); simp [execOp, ho, hx.1, hy.1, hb, go_sem]; done)
        | (subst hkk; refine StepV.same hR ?_ (by rw [Rp]; exact ⟨rfl, wrap_in _ _⟩); simp [execOp, ho, hx.1, hy.1, binOp, eqGuard, Op.intBits]; done)
        | (have hb : ¬ b < 0 := Int.not_lt.2 hkk; refine StepV.same hR ?_ (by first | (rw [Rp]; exact ⟨rfl, wrap_in _ _⟩) | (rw [Rp]; exact ⟨rfl, fdiv_in _ hx.2.1 hx.2.2⟩)); simp [execOp, ho, hx.1, hy.1, hb, binOp, eqGuard, Op.shift])
    · cases h
theorem snd_not (hR : Rel G ρ w H) {t : TypeId} {x : Operand} (ho : o.op = .unOp .not t x) (hx : Rp ρ w (e x) (v x)) {b : Bool} (h : e x = .bool b) : StepV P G v o ρ w H (.bool (!b)) [] := by
  rw [h, Rp] at hx
  refine StepV.same hR (u := .bool (!b)) ?_ (by rw [Rp])
  simp [execOp, ho, hx, Op.unary]
theorem snd_convert (hT : ∀ t, TyOK P t (T t)) (hR : Rel G ρ w H) {s t : TypeId} {x : Operand} (ho : o.op = .convert s t x) (hx : Rp ρ w (e x) (v x)) {k k' : IntKind} {n : Int} (h : e x = .int k' n)
    (hs : (T s).k.known = true) (ht : (T t).k = .int k) : StepV P G v o ρ w H (.int k (k.wrap n)) [] := by
  rw [h, Rp] at hx
  obtain ⟨i, d, -, -, -, -, -, -, -, h1, -⟩ := (hT s).info hs
  obtain ⟨i2, d2, -, -, -, -, -, -, -, h2, h3⟩ := (hT t).info (by rw [ht]; rfl)
  rw [ht] at h3
  simp only [KOK] at h3
  subst h3
  refine StepV.same hR (u := .int k (k.wrap n)) ?_ (by rw [Rp]; exact ⟨rfl, wrap_in _ _⟩)
  simp [execOp, ho, hx.1, convert, run_underlying h1, run_underlying h2, Conv.intToInt]
theorem snd_iface (hT : ∀ t, TyOK P t (T t)) (hR : Rel G ρ w H) {t : TypeId} {x : Operand} (ho : o.op = .makeInterface t x) (hx : Rp ρ w (e x) (v x)) (hk : (T t).k.known = true) (hi : (T t).k ≠ .iface) :
    StepV P G v o ρ w H (.iface t (e x)) [] := by
  obtain ⟨i, d, -, -, -, -, -, -, -, h1, h2⟩ := (hT t).info hk
  refine StepV.same hR (u := .iface t (v x)) ?_ (by rw [Rp]; exact ⟨_, rfl, hx⟩)
  have : ∀ ms, d ≠ .interface ms := fun ms e => by
    subst e
    cases hkk : (T t).k <;> rw [hkk] at h2 hi hk <;> simp only [KOK] at h2
    case none => cases hk
    case iface => exact hi rfl
    all_goals first
      | (cases h2; done)
      | (obtain ⟨_, h2⟩ := h2; cases h2; done)
      | (obtain ⟨_, _, _, h2⟩ := h2; cases h2; done)
      | (obtain ⟨_, h2, -⟩ := h2; cases h2; done)
  have hrun : (Instr.makeInterface t (v x)).run P w = .ok (.iface t (v x)) w := by
    simp only [Instr.makeInterface, Sem.run_bind, run_underlying h1, Result.andThen_ok]
    cases d <;> first | rfl | exact absurd rfl (this _)
  simp [execOp, ho, hrun]
theorem RpL_map {l : List Operand} (h : ∀ x, x ∈ l → Rp ρ w (e x) (v x)) : RpL ρ w (l.map e) (l.map v) := by
  induction l with
  | nil => rw [List.map_nil, List.map_nil, RpL_nil]
  | cons x r ih => exact RpL_cons'.2 ⟨h x (List.mem_cons_self ..), ih fun y hy => h y (List.mem_cons_of_mem _ hy)⟩
theorem snd_func (hR : Rel G ρ w H) {fn : Fn} {a b : Array Operand} (ho : o.op = .makeFunc fn a b) (ha : ∀ x, x ∈ a.toList → Rp ρ w (e x) (v x)) (hb : ∀ x, x ∈ b.toList → Rp ρ w (e x) (v x)) :
    StepV P G v o ρ w H (.fn fn (a.toList.map e) (b.toList.map e)) [] := by
  refine StepV.same hR (u := .func fn (a.map v) (b.map v)) ?_ ?_
  · simp [execOp, ho, Instr.makeFunc]
  · rw [Rp]; exact ⟨a.toList.map v, b.toList.map v, by cases a; cases b; simp, RpL_map ha, RpL_map hb⟩
theorem snd_extract (hR : Rel G ρ w H) {x : Operand} {n : Nat} (ho : o.op = .extract x n) (hx : Rp ρ w (e x) (v x)) {ds : List D} {d : D} (h : e x = .tuple ds) (hd : ds[n]? = some d) : StepV P G v o ρ w H d [] := by
  rw [h, Rp] at hx
  obtain ⟨us, hu, hr⟩ := hx
  obtain ⟨u, h1, h2⟩ := hr.get hd
  refine StepV.same hR (u := u) ?_ h2
  simp [execOp, ho, hu, Instr.extract, h1]
theorem snd_len (hT : ∀ t, TyOK P t (T t)) (hR : Rel G ρ w H) {c : Call} {x : Operand} {t el : TypeId} (ho : o.op = .call c) (hc : c.callee = .builtin .len) (ha : c.args = #[x]) (ht : c.argTypes = #[t]) (hx : Rp ρ w (e x) (v x))
    {els : List D} {cp : Cp} (h : e x = .slice els cp) (hk : (T t).k = .slice el) : StepV P G v o ρ w H (.int .i64 els.length) [] := by
  rw [h, Rp] at hx
  obtain ⟨A, cap, sz, hv, -, -, hl, -⟩ := hx
  obtain ⟨i, d, -, -, -, -, -, -, -, h1, h2⟩ := (hT t).info (by rw [hk]; rfl)
  rw [hk] at h2
  simp only [KOK] at h2
  subst h2
  refine StepV.same hR (u := .int .i64 els.length) ?_ (by rw [Rp]; unfold LMax at hl; exact ⟨rfl, by have : IntKind.i64.min = -9223372036854775808 := (by decide); omega, by have : IntKind.i64.max = 9223372036854775807 := (by decide); omega⟩)
  simp [execOp, ho, hc, ha, ht, hv, resolve, invoke, builtin, Builtin.len_, run_underlying h1, goInt]
/-- a slice that is lent, as any -/
def D.unl : D → D
  | .lent els _ => .slice els .any
  | d => d
theorem Rp_unl {d : D} {v : Value} (h : Rp ρ w d v) : Rp ρ w d.unl v := by
  cases d with
  | lent els sp => exact Rp_lent h
  | _ => exact h
theorem snd_len_lent (hT : ∀ t, TyOK P t (T t)) (hR : Rel G ρ w H) {c : Call} {x : Operand} {t el : TypeId} (ho : o.op = .call c) (hc : c.callee = .builtin .len) (ha : c.args = #[x]) (ht : c.argTypes = #[t]) (hx : Rp ρ w (e x) (v x))
    {els sp : List D} (h : e x = .lent els sp) (hk : (T t).k = .slice el) : StepV P G v o ρ w H (.int .i64 els.length) [] :=
  snd_len (e := fun y => (e y).unl) (cp := .any) hT hR ho hc ha ht (Rp_unl hx) (by show (e x).unl = _; rw [h]; rfl) hk
theorem partD_at {y : Ty} {cs : List D} {k b off : Nat} {d : D} (h : partD y cs k = some d) (hc : RpC ρ w cs b off) : RpAt ρ w d b (off + k) := by
  unfold partD at h
  split at h
  · split at h
    · cases h
      exact hc.part k _
    · cases h
  · obtain ⟨h, h1⟩ := partD_one h
    obtain ⟨u, h2, h3⟩ := hc.get h
    cases d
    case agg ds => cases h1
    all_goals exact ⟨u, h2, h3⟩
theorem addr_add (b o n : Nat) : (⟨b, o, none⟩ : Addr).add n = ⟨b, o + n, none⟩ := by unfold Addr.add; split <;> simp_all
theorem fields_get {fields : Array Field} {fs : List (Nat × TypeId)} (h : fields.toList.map (fun f => (f.offset, f.type)) = fs) {n o : Nat} {t : TypeId} (hn : fs[n]? = some (o, t)) : ∃ f, fields[n]? = some f ∧ f.offset = o ∧ f.type = t := by
  subst h
  rw [List.getElem?_map] at hn
  cases hf : fields.toList[n]? with
  | none => rw [hf] at hn; cases hn
  | some f => rw [hf] at hn; cases hn; exact ⟨f, by simpa using hf, rfl, rfl⟩
theorem run_fieldAt (hT : ∀ t, TyOK P t (T t)) {s ft : TypeId} {fs : List (Nat × TypeId)} {n k b off : Nat} (hs : (T s).k = .struct fs) (hn : fs[n]? = some (k, ft)) (hf : (T ft).k.known = true) (h0 : (T ft).size ≠ 0) :
    (Instr.fieldAt s (.pointer (some ⟨b, off, none⟩)) n).run P w = .ok (.pointer (some ⟨b, off + k, none⟩)) w := by
  obtain ⟨i, d, -, -, -, -, -, -, -, h1, h2⟩ := (hT s).info (by rw [hs]; rfl)
  rw [hs] at h2
  obtain ⟨fields, rfl, h3⟩ := h2
  obtain ⟨f, h4, h5, h6⟩ := fields_get h3 hn
  subst h6
  simp [Instr.fieldAt, run_underlying h1, h4, Instr.sureAddr, fieldPlace, run_sizeOf (hT _) hf, h0, addr_add, h5]
theorem snd_faddr_box (hT : ∀ t, TyOK P t (T t)) (hR : Rel G ρ w H) {s ft : TypeId} {x : Operand} {n : Nat} (ho : o.op = .fieldAddr s x n) (hx : Rp ρ w (e x) (v x)) {fs : List (Nat × TypeId)} {k i off : Nat} (hs : (T s).k = .struct fs) (hn : fs[n]? = some (k, ft))
    (hf : (T ft).k.known = true) (h0 : (T ft).size ≠ 0) (h : e x = .box i off) : StepV P G v o ρ w H (.box i (off + k)) [] := by
  rw [h, Rp] at hx
  obtain ⟨b, f, h1, h2⟩ := hx
  refine StepV.same hR (u := .pointer (some ⟨b, off + k, none⟩)) ?_ (by rw [Rp]; exact ⟨b, f, h1, rfl⟩)
  simp [execOp, ho, h2, run_fieldAt hT hs hn hf h0]
theorem snd_faddr_ref (hT : ∀ t, TyOK P t (T t)) (hR : Rel G ρ w H) {s ft : TypeId} {x : Operand} {n : Nat} (ho : o.op = .fieldAddr s x n) (hx : Rp ρ w (e x) (v x)) {fs : List (Nat × TypeId)} {k : Nat} (hs : (T s).k = .struct fs) (hn : fs[n]? = some (k, ft))
    (hf : (T ft).k.known = true) (h0 : (T ft).size ≠ 0) {cs : List D} {d : D} (h : e x = .ref (.agg cs)) (hp : partD (T ft) cs k = some d) : StepV P G v o ρ w H (.ref d) [] := by
  rw [h] at hx
  obtain ⟨b, off, h1, h2⟩ := Rp_ref.1 hx
  refine StepV.same hR (u := .pointer (some ⟨b, off + k, none⟩)) ?_ (Rp_ref.2 ⟨b, off + k, rfl, partD_at hp h2⟩)
  simp [execOp, ho, h1, run_fieldAt hT hs hn hf h0]
theorem part_spec (hT : ∀ t, TyOK P t (T t)) {t : TypeId} (hk : (T t).k.known = true) {cs : List D} {us : List Value} (hr : RpL ρ w cs us) {k : Nat} {d : D} (hp : partD (T t) cs k = some d) : ∃ u, (part t us.toArray k).run P w = .ok u w ∧ Rp ρ w d u := by
  unfold partD at hp
  cases ha : (T t).k.isAgg with
  | true =>
    rw [ha] at hp
    simp only [if_true] at hp
    split at hp
    · rename_i hle
      cases hp
      refine ⟨.agg ((us.drop k).take (T t).size).toArray, ?_, by rw [Rp]; exact ⟨_, rfl, (hr.drop k).take _⟩⟩
      simp [part, run_isAgg (hT t) hk, ha, run_sizeOf (hT t) hk, List.extract_eq_take_drop]
    · cases hp
  | false =>
    rw [ha] at hp
    simp only [Bool.false_eq_true, if_false] at hp
    obtain ⟨h1, -⟩ := partD_one hp
    obtain ⟨u, h2, h3⟩ := hr.get h1
    refine ⟨u, ?_, h3⟩
    simp [part, run_isAgg (hT t) hk, ha, h2]
theorem snd_field (hT : ∀ t, TyOK P t (T t)) (hR : Rel G ρ w H) {s ft : TypeId} {x : Operand} {n : Nat} (ho : o.op = .field s x n) (hx : Rp ρ w (e x) (v x)) {fs : List (Nat × TypeId)} {k : Nat} (hs : (T s).k = .struct fs) (hn : fs[n]? = some (k, ft))
    (hf : (T ft).k.known = true) {cs : List D} {d : D} (h : e x = .agg cs) (hp : partD (T ft) cs k = some d) : StepV P G v o ρ w H d [] := by
  rw [h, Rp] at hx
  obtain ⟨us, h1, h2⟩ := hx
  obtain ⟨i, dd, -, -, -, -, -, -, -, h3, h4⟩ := (hT s).info (by rw [hs]; rfl)
  rw [hs] at h4
  obtain ⟨fields, rfl, h5⟩ := h4
  obtain ⟨f, h6, h7, h8⟩ := fields_get h5 hn
  subst h8 h7
  obtain ⟨u, h9, h10⟩ := part_spec (P := P) hT hf h2 hp
  refine StepV.same hR (u := u) ?_ h10
  simp [execOp, ho, h1, Instr.field, run_underlying h3, h6, asAgg, h9]
theorem snd_index_slice (hT : ∀ t, TyOK P t (T t)) (hR : Rel G ρ w H) {t el : TypeId} {x ix : Operand} (ho : o.op = .indexAddr t x ix) (hx : Rp ρ w (e x) (v x)) (hix : Rp ρ w (e ix) (v ix)) (hk : (T t).k = .slice el) (hel : (T el).k.known = true)
    {els : List D} {cp : Cp} {k : IntKind} {i : Int} {d : D} (h : e x = .slice els cp) (h2 : e ix = .int k i) (hi : 0 ≤ i) (hd : els[i.toNat]? = some d) (hs : d.size = (T el).size) : StepV P G v o ρ w H (.ref d) [] := by
  rw [h, Rp] at hx
  rw [h2, Rp] at hix
  obtain ⟨A, cap, sz, hv, -, -, -, h3, -, h4⟩ := hx
  obtain ⟨b, off, rfl, h5⟩ := h4 (by rintro rfl; simp at hd)
  have hsz : sz = (T el).size := by rw [← h3 d (List.mem_of_getElem? hd), hs]
  subst hsz
  have hlt : i.toNat < els.length := (List.getElem?_eq_some_iff.1 hd).1
  obtain ⟨ii, dd, -, -, -, -, -, -, -, h6, h7⟩ := (hT t).info (by rw [hk]; rfl)
  rw [hk] at h7
  simp only [KOK] at h7
  subst h7
  refine StepV.same hR (u := .pointer (some ⟨b, off + i.toNat * (T el).size, none⟩)) ?_ (Rp_ref.2 ⟨b, _, rfl, h5.get h3 hd⟩)
  have : 0 ≤ i ∧ i < (els.length : Int) := ⟨hi, by omega⟩
  simp [execOp, ho, hv, hix.1, Instr.indexAt, asIntOf, run_underlying h6, this, run_sizeOf (hT el) hel, addr_add]
theorem snd_index_lent (hT : ∀ t, TyOK P t (T t)) (hR : Rel G ρ w H) {t el : TypeId} {x ix : Operand} (ho : o.op = .indexAddr t x ix) (hx : Rp ρ w (e x) (v x)) (hix : Rp ρ w (e ix) (v ix)) (hk : (T t).k = .slice el) (hel : (T el).k.known = true)
    {els sp : List D} {k : IntKind} {i : Int} {d : D} (h : e x = .lent els sp) (h2 : e ix = .int k i) (hi : 0 ≤ i) (hd : els[i.toNat]? = some d) (hs : d.size = (T el).size) : StepV P G v o ρ w H (.ref d) [] :=
  snd_index_slice (e := fun y => (e y).unl) (cp := .any) hT hR ho (Rp_unl hx) (Rp_unl hix) hk hel (by show (e x).unl = _; rw [h]; rfl) (by show (e ix).unl = _; rw [h2]; rfl) hi hd hs
theorem snd_index_arr (hT : ∀ t, TyOK P t (T t)) (hR : Rel G ρ w H) {t el : TypeId} {x ix : Operand} {n : Nat} (ho : o.op = .indexAddr t x ix) (hx : Rp ρ w (e x) (v x)) (hix : Rp ρ w (e ix) (v ix)) (hk : (T t).k = .arr n el) (hel : (T el).k.known = true)
    {cs : List D} {k : IntKind} {i : Int} {d : D} (h : e x = .ref (.agg cs)) (h2 : e ix = .int k i) (hi : 0 ≤ i) (hn : i.toNat < n) (hd : partD (T el) cs (i.toNat * (T el).size) = some d) : StepV P G v o ρ w H (.ref d) [] := by
  rw [h] at hx
  rw [h2, Rp] at hix
  obtain ⟨b, off, hv, hc⟩ := Rp_ref.1 hx
  obtain ⟨ii, dd, -, -, -, -, -, -, -, h6, h7⟩ := (hT t).info (by rw [hk]; rfl)
  rw [hk] at h7
  simp only [KOK] at h7
  subst h7
  refine StepV.same hR (u := .pointer (some ⟨b, off + i.toNat * (T el).size, none⟩)) ?_ (Rp_ref.2 ⟨b, _, rfl, partD_at hd hc⟩)
  have : 0 ≤ i ∧ i < (n : Int) := ⟨hi, by omega⟩
  simp [execOp, ho, hv, hix.1, Instr.indexAt, asIntOf, run_underlying h6, Instr.sureAddr, this, run_sizeOf (hT el) hel, addr_add]
theorem snd_assert (hT : ∀ t, TyOK P t (T t)) (hR : Rel G ρ w H) {xt at_ : TypeId} {x : Operand} (ho : o.op = .typeAssert x xt at_ true) (hx : Rp ρ w (e x) (v x)) {t : TypeId} {d : D} (h : e x = .iface t d) (hk : (T at_).k.known = true) (hi : (T at_).k ≠ .iface) :
    StepV P G v o ρ w H (if t = at_ then .tuple [d, .bool true] else .tuple [(T at_).zero, .bool false]) [] := by
  rw [h, Rp] at hx
  obtain ⟨u, hv, hu⟩ := hx
  obtain ⟨i, dd, -, -, -, -, -, -, -, h1, h2⟩ := (hT at_).info hk
  have : ∀ ms, dd ≠ .interface ms := fun ms e => by
    subst e
    cases hkk : (T at_).k <;> rw [hkk] at h2 hi hk <;> simp only [KOK] at h2
    case none => cases hk
    case iface => exact hi rfl
    all_goals first
      | (cases h2; done)
      | (obtain ⟨_, h2⟩ := h2; cases h2; done)
      | (obtain ⟨_, _, _, h2⟩ := h2; cases h2; done)
      | (obtain ⟨_, h2, -⟩ := h2; cases h2; done)
  have hb : ∀ b : Bool, Rp ρ w (.bool b) (.bool b) := fun b => by rw [Rp]
  by_cases ht : t = at_
  · subst ht
    refine StepV.same hR (u := .tuple #[u, .bool true]) ?_ (by rw [if_pos rfl, Rp]; exact ⟨[u, .bool true], rfl, RpL_cons'.2 ⟨hu, RpL_cons'.2 ⟨hb _, RpL_nil.2 rfl⟩⟩⟩)
    have hrun : (Instr.typeAssert (.iface t u) xt t true).run P w = .ok (.tuple #[u, .bool true]) w := by
      simp only [Instr.typeAssert, Sem.run_bind, run_underlying h1, Result.andThen_ok]
      cases dd <;> first | simp | exact absurd rfl (this _)
    simp [execOp, ho, hv, hrun]
  · refine StepV.same hR (u := .tuple #[(T at_).zero.cv, .bool false]) ?_ (by rw [if_neg ht, Rp]; exact ⟨[(T at_).zero.cv, .bool false], rfl, RpL_cons'.2 ⟨zero_rp (hT _) hk ρ w, RpL_cons'.2 ⟨hb _, RpL_nil.2 rfl⟩⟩⟩)
    have hrun : (Instr.typeAssert (.iface t u) xt at_ true).run P w = .ok (.tuple #[(T at_).zero.cv, .bool false]) w := by
      simp only [Instr.typeAssert, Sem.run_bind, run_underlying h1, Result.andThen_ok]
      cases dd <;> first | simp [ht, run_zero (hT at_) hk] | exact absurd rfl (this _)
    simp [execOp, ho, hv, hrun]
end
end Go.Proofs.YtgloldepdhgfaaaDoor
namespace Go.Proofs.YtgloldepdhgfaaaDoor
set_option linter.unusedSimpArgs false
set_option linter.unusedVariables false
open Go.RowKit
section
variable {α : Type}
/-- updates, some of them, in order -/
def U (x0 : Nat → α) (f : Nat → Nat → Option α) (E : Nat → Bool) : Nat → Nat → α
  | 0, r => x0 r
  | k + 1, r => if E k then (f k r).getD (U x0 f E k r) else U x0 f E k r
variable {x0 : Nat → α} {f : Nat → Nat → Option α} {E E' : Nat → Bool} {r : Nat}
theorem U_congr : ∀ k, (∀ j, j < k → (f j r).isSome = true → E j = E' j) → U x0 f E k r = U x0 f E' k r
  | 0, _ => rfl
  | k + 1, h => by
    have ih := U_congr k (fun j hj => h j (by omega))
    simp only [U, ih]
    cases hf : f k r with
    | none => simp
    | some x => rw [h k (by omega) (by rw [hf]; rfl)]
theorem U_stop {i : Nat} : ∀ n, i ≤ n → (∀ j, i ≤ j → j < n → (f j r).isSome = true → E j = false) → U x0 f E n r = U x0 f E i r
  | 0, h, _ => by
    have : i = 0 := by omega
    subst this; rfl
  | n + 1, h, hj => by
    by_cases hn : i = n + 1
    · subst hn; rfl
    · have ih := U_stop n (by omega) (fun j h1 h2 => hj j h1 (by omega))
      simp only [U, ih]
      cases hf : f n r with
      | none => simp
      | some x => rw [hj n (by omega) (by omega) (by rw [hf]; rfl)]; simp
theorem U_set {i n : Nat} (hi : i < n) (hE : E' i = true) (hE2 : ∀ j, j ≠ i → E' j = E j) (h : ∀ j, i < j → j < n → (f j r).isSome = true → (f i r).isSome = true → E j = false) :
    U x0 f E' n r = (f i r).getD (U x0 f E n r) := by
  cases hf : f i r with
  | none =>
    refine (U_congr n fun j hj hs => ?_)
    by_cases hji : j = i
    · subst hji; rw [hf] at hs; cases hs
    · exact hE2 j hji
  | some x =>
    rw [U_stop (i := i + 1) n (by omega) (fun j h1 h2 h3 => by rw [hE2 j (by omega)]; exact h j (by omega) h2 h3 (by rw [hf]; rfl))]
    simp [U, hE, hf]
end
def waitsFor (ops : Array Oper) (i j : Nat) : Bool := ((ops[i]?).map (·.after.toList.any fun e => Region.binds .any e && e.on == j)).getD false
/-- whom an operation waits for, as bits -/
def maskOf (acc : Array Nat) : List Edge → Nat
  | [] => 0
  | e :: r => if Region.binds .any e then (2 ^ e.on) ||| (acc.getD e.on 0) ||| maskOf acc r else maskOf acc r
def befGo : List Oper → Array Nat → Array Nat
  | [], acc => acc
  | o :: r, acc => befGo r (acc.push (maskOf acc o.after.toList))
/-- does number i wait for number j, through others too? -/
def reach (ops : Array Oper) (i j : Nat) : Bool := ((befGo ops.toList #[]).getD i 0).testBit j
theorem maskOf_bit {acc : Array Nat} {j : Nat} : ∀ {es : List Edge}, (maskOf acc es).testBit j = true → ∃ e, e ∈ es ∧ Region.binds .any e = true ∧ (e.on = j ∨ (acc.getD e.on 0).testBit j = true)
  | [], h => by simp [maskOf] at h
  | e :: r, h => by
    rw [maskOf] at h
    split at h
    · rename_i hb
      rw [Nat.testBit_or, Nat.testBit_or] at h
      simp only [Bool.or_eq_true] at h
      rcases h with (h | h) | h
      · rw [Nat.testBit_two_pow] at h
        exact ⟨e, List.mem_cons_self .., hb, .inl (by simpa using h)⟩
      · exact ⟨e, List.mem_cons_self .., hb, .inr h⟩
      · obtain ⟨e', h1, h2⟩ := maskOf_bit h
        exact ⟨e', List.mem_cons_of_mem _ h1, h2⟩
    · obtain ⟨e', h1, h2⟩ := maskOf_bit h
      exact ⟨e', List.mem_cons_of_mem _ h1, h2⟩
theorem befGo_mem {ops : Array Oper} {E : Nat → Bool} (hE : ∀ i j, E i = true → waitsFor ops i j = true → E j = true) : ∀ (l : List Oper) (acc : Array Nat), ops.toList.drop acc.size = l →
    (∀ i, i < acc.size → ∀ j, (acc.getD i 0).testBit j = true → (∀ k, waitsFor ops i k = true → E k = true) → E j = true) →
    ∀ i j, ((befGo l acc).getD i 0).testBit j = true → (∀ k, waitsFor ops i k = true → E k = true) → E j = true
  | [], acc, _, h, i, j, hb, hd => by
    rw [befGo] at hb
    rcases Nat.lt_or_ge i acc.size with hi | hi
    · exact h i hi j hb hd
    · rw [Array.getD_eq_getD_getElem?, Array.getElem?_eq_none hi] at hb; simp at hb
  | o :: r, acc, hl, h, i, j, hb, hd => by
    rw [befGo] at hb
    refine befGo_mem hE r _ ?_ ?_ i j hb hd
    · rw [Array.size_push, ← List.drop_drop, hl]; rfl
    · intro i hi j hb hd
      rw [Array.size_push] at hi
      by_cases hia : i = acc.size
      · subst hia
        have ho : ops[acc.size]? = some o := by
          have := congrArg (·[0]?) hl
          simpa using this
        rw [Array.getD_eq_getD_getElem?] at hb
        simp only [Array.getElem?_push_size, Option.getD_some] at hb
        obtain ⟨e, he, hbd, hj⟩ := maskOf_bit hb
        have hw : waitsFor ops acc.size e.on = true := by
          unfold waitsFor; rw [ho]
          simp only [Option.map_some, Option.getD_some, List.any_eq_true, Bool.and_eq_true, beq_iff_eq]
          exact ⟨e, he, hbd, rfl⟩
        have h1 := hd _ hw
        rcases hj with rfl | hj
        · exact h1
        · rcases Nat.lt_or_ge e.on acc.size with hlt | hge
          · exact h e.on hlt j hj (fun k hk => hE _ k h1 hk)
          · rw [Array.getD_eq_getD_getElem?, Array.getElem?_eq_none hge] at hj; simp at hj
      · have hlt : i < acc.size := by omega
        refine h i hlt j ?_ hd
        rw [Array.getD_eq_getD_getElem?, Array.getElem?_push_lt hlt] at hb
        rw [Array.getD_eq_getD_getElem?, Array.getElem?_eq_getElem hlt]
        exact hb
theorem reach_mem {ops : Array Oper} {E : Nat → Bool} (hE : ∀ i j, E i = true → waitsFor ops i j = true → E j = true) (i j : Nat) (hd : ∀ k, waitsFor ops i k = true → E k = true) (h : reach ops i j = true) : E j = true :=
  befGo_mem hE ops.toList #[] (by simp) (fun i hi => absurd hi (Nat.not_lt_zero _)) i j h hd
/-- last of the changes of a name -/
def lkU (r : Nat) : List (Nat × HO) → Option HO
  | [] => none
  | (n, x) :: l => match lkU r l with
    | some y => some y
    | none => if r = n then some x else none
theorem updL_lk (r : Nat) : ∀ (up : List (Nat × HO)) (H : Nat → HO), updL H up r = (lkU r up).getD (H r)
  | [], H => rfl
  | (n, x) :: l, H => by
    rw [updL, updL_lk r l, lkU]
    cases lkU r l with
    | some y => rfl
    | none => by_cases h : r = n <;> simp [h, setH]
/-- an operation's part in a statement: it leaves a value; it throws; it never comes up, since one that it waits for throws -/
inductive Kd where
  | ok | pan | nev
structure Ev where
  k : Kd
  d : D
  rd : List Nat
  up : List (Nat × HO)
/-- what is thrown -/
def thrown (u : Value) : List PanicEntry := [{ v := u, recovered := false }]
section
variable (P : Program) (G : Nat → Option D) (Q : Exit → Act → World → Prop) (ops : Array Oper)
/-- number i, with these temporaries, these objects, leaves d and changes objects so -/
def StepL (i : Nat) (dst : Option Tmp) (used : List Tmp) (tm : Nat → D) (h : Nat → HO) (ev : Ev) : Prop :=
  ∀ (ρ : Rho) (w : World) (a : Act) (H : Nat → HO), Rel G ρ w H → (∀ r, r ∈ ev.rd → H r = h r) → (∀ t, t ∈ used → Rp ρ w (tm t) (a.tmps.getD t undef)) →
    ∀ K : Act → World → Prop, (∀ u ρ' w', Rp ρ' w' ev.d u → Rel G ρ' w' (updL H ev.up) → Ex ρ w H ρ' w' (updL H ev.up) → K (a.put dst u) w') → wpOp P ops Q i K a w
/-- number i throws d -/
def StepP (i : Nat) (used : List Tmp) (tm : Nat → D) (h : Nat → HO) (ev : Ev) : Prop :=
  ∀ (ρ : Rho) (w : World) (a : Act) (H : Nat → HO), Rel G ρ w H → (∀ r, r ∈ ev.rd → H r = h r) → (∀ t, t ∈ used → Rp ρ w (tm t) (a.tmps.getD t undef)) →
    ∀ K : Act → World → Prop, (∀ u ρ' w', Rp ρ' w' ev.d u → Rel G ρ' w' (updL H ev.up) → Ex ρ w H ρ' w' (updL H ev.up) → Q (.panic (thrown u)) a w') → wpOp P ops Q i K a w
end
def dstOf (ops : Array Oper) (i : Nat) : Option Tmp := (ops[i]?).bind (·.dst)
def usedOf (ops : Array Oper) (i : Nat) : List Tmp := ((ops[i]?).map (Oper.looksAt ops)).getD []
/-- what conflicts -/
def clash (ops : Array Oper) (fp : Nat → List Nat × List Nat) (i j : Nat) : Bool :=
  (match dstOf ops j with | some t => (usedOf ops i).contains t || dstOf ops i == some t | none => false) ||
  (match dstOf ops i with | some t => (usedOf ops j).contains t | none => false) ||
  (fp i).1.any (fun r => (fp j).2.contains r) || (fp j).1.any (fun r => (fp i).2.contains r)
/-- what conflicts is ordered; temporaries are there; what is changed is looked at -/
def orderedBy (ops : Array Oper) (nt : Nat) (fp : Nat → List Nat × List Nat) : Bool :=
  (List.range ops.size).all fun i =>
    (match dstOf ops i with | some t => decide (t < nt) | none => true) && (fp i).2.all (fun r => (fp i).1.contains r) &&
    (List.range i).all fun j => !clash ops fp i j || reach ops i j
def fpOf (tr : Nat → Ev) (i : Nat) : List Nat × List Nat := ((tr i).rd, (tr i).up.map (·.1))
theorem lkU_some {r : Nat} : ∀ {up : List (Nat × HO)}, (lkU r up).isSome = true → r ∈ up.map (·.1)
  | [], h => by cases h
  | (n, x) :: l, h => by
    rw [lkU] at h
    cases hl : lkU r l with
    | some y => exact List.mem_cons_of_mem _ (lkU_some (by rw [hl]; rfl))
    | none =>
      rw [hl] at h
      by_cases hr : r = n
      · subst hr; exact List.mem_cons_self ..
      · simp [hr] at h
/-- temporaries, objects, when some have come up -/
def tmU (ops : Array Oper) (tr : Nat → Ev) (t0 : Nat → D) (E : Nat → Bool) (k : Nat) : Nat → D := U t0 (fun i t => if dstOf ops i = some t then some (tr i).d else none) E k
def hU (tr : Nat → Ev) (h0 : Nat → HO) (E : Nat → Bool) (k : Nat) : Nat → HO := U h0 (fun i r => lkU r (tr i).up) E k
theorem U_none {α : Type} {x0 : Nat → α} {f : Nat → Nat → Option α} {E : Nat → Bool} {r : Nat} : ∀ n, (∀ j, j < n → (f j r) = none) → U x0 f E n r = x0 r
  | 0, _ => rfl
  | n + 1, h => by
    have ih := U_none (x0 := x0) (E := E) n (fun j hj => h j (by omega))
    simp [U, ih, h n (by omega)]
/-- calls for later -/
def DfM (ρ : Rho) (w : World) : List Deferred → List (FuncId × List D) → Prop
  | ds, [] => ds = []
  | ds, (f, cs) :: r => ∃ (us : List Value) (ds' : List Deferred), ds = { target := .fn (.func f) us.toArray, args := #[] } :: ds' ∧ RpL ρ w cs us ∧ DfM ρ w ds' r
theorem DfM.grow {ρ ρ' : Rho} {w w' : World} (g : Grow ρ w ρ' w') : ∀ {df : List (FuncId × List D)} {ds : List Deferred}, DfM ρ w ds df → DfM ρ' w' ds df
  | [], ds, h => h
  | (f, cs) :: r, ds, ⟨us, ds', h1, h2, h3⟩ => ⟨us, ds', h1, RpL.grow g _ _ h2, DfM.grow g h3⟩
/-- where a call stands: its temporaries, its objects, its calls for later -/
structure InSt (G : Nat → Option D) (ρ0 : Rho) (w0 : World) (H0 : Nat → HO) (nt : Nat) (ρ : Rho) (w : World) (a : Act) (t : Nat → D) (h : Nat → HO) (df : List (FuncId × List D)) : Prop where
  rel : Rel G ρ w h
  ex : Ex ρ0 w0 H0 ρ w h
  tmp : ∀ k, Rp ρ w (t k) (a.tmps.getD k undef)
  size : a.tmps.size = nt
  df : DfM ρ w a.defers df
theorem Rel.kill {G : Nat → Option D} {ρ : Rho} {w : World} {H H' : Nat → HO} (hR : Rel G ρ w H) (h : ∀ r, H' r = H r ∨ H' r = .dead) : Rel G ρ w H' := by
  have hl : ∀ r, (H' r).live = true → H' r = H r := fun r hr => by
    rcases h r with h | h
    · exact h
    · rw [h] at hr; cases hr
  refine ⟨fun i hi => ?_, hR.fresh, fun i b f h1 => ?_, fun i j b f g h1 h2 h3 h4 => hR.inj i j b f g h1 h2 (by rw [← hl i h3]; exact h3) (by rw [← hl j h4]; exact h4), hR.glob⟩
  · rcases h i with h | h
    · exact hR.free i (h ▸ hi)
    · rw [h] at hi; cases hi
  · rcases h i with h | h
    · rw [h]; exact hR.obj i b f h1
    · rw [h]; trivial
theorem Ex.kill {ρ0 ρ : Rho} {w0 w : World} {H0 H H' : Nat → HO} (he : Ex ρ0 w0 H0 ρ w H) (h : ∀ r, H' r = H r ∨ H' r = .dead) : Ex ρ0 w0 H0 ρ w H' :=
  ⟨he.grow, he.frame, fun b ⟨i, f, h1, h2⟩ hb => he.live b ⟨i, f, h1, by
    rcases h i with h | h
    · rwa [← h]
    · rw [h] at h2; cases h2⟩ hb⟩
/-- temporaries that a statement writes are not known; objects that it changes neither -/
def killT (ops : Array Oper) (t0 : Nat → D) (t : Nat) : D := if (List.range ops.size).any (fun i => dstOf ops i == some t) then .junk else t0 t
def killH (n : Nat) (tr : Nat → Ev) (h0 : Nat → HO) (r : Nat) : HO := if (List.range n).any (fun i => ((tr i).up.map (·.1)).contains r) then .dead else h0 r
theorem Act.put_size {a : Act} {dst : Option Tmp} {u : Value} : (a.put dst u).tmps.size = a.tmps.size := by cases dst <;> simp [Act.put]
theorem Act.put_same {a : Act} {t : Tmp} {u : Value} (h : t < a.tmps.size) : (a.put (some t) u).tmps.getD t undef = u := by simp [Act.put, h]
theorem Act.put_ne {a : Act} {dst : Option Tmp} {t : Tmp} {u : Value} (h : dst ≠ some t) : (a.put dst u).tmps.getD t undef = a.tmps.getD t undef := by
  cases dst with
  | none => rfl
  | some d =>
    have : d ≠ t := fun e => h (by rw [e])
    simp [Act.put, Array.getElem?_setIfInBounds_ne this]
section
variable {P : Program} {G : Nat → Option D} {Q : Exit → Act → World → Prop} {ops : Array Oper} {ρ0 : Rho} {w0 : World} {H0 : Nat → HO} {nt : Nat} {t0 : Nat → D} {h0 : Nat → HO} {df : List (FuncId × List D)} {tr : Nat → Ev}
/-- the text's order -/
def allE : Nat → Bool := fun _ => true
/-- each operation does its part, behind those ahead of it in the text -/
def Good (P : Program) (G : Nat → Option D) (Q : Exit → Act → World → Prop) (ops : Array Oper) (t0 : Nat → D) (h0 : Nat → HO) (tr : Nat → Ev) : Prop := ∀ i, i < ops.size →
  match (tr i).k with
  | .ok => StepL P G Q ops i (dstOf ops i) (usedOf ops i) (tmU ops tr t0 allE i) (hU tr h0 allE i) (tr i)
  | .pan => StepP P G Q ops i (usedOf ops i) (tmU ops tr t0 allE i) (hU tr h0 allE i) (tr i)
  | .nev => ∃ j, j < ops.size ∧ reach ops i j = true ∧ (tr j).k = .pan
theorem ordered_at {fp : Nat → List Nat × List Nat} (h : orderedBy ops nt fp = true) {i : Nat} (hi : i < ops.size) :
    (∀ t, dstOf ops i = some t → t < nt) ∧ (∀ r, r ∈ (fp i).2 → r ∈ (fp i).1) ∧ ∀ j, j < i → clash ops fp i j = true → reach ops i j = true := by
  have h1 := (List.all_eq_true.1 h) i (List.mem_range.2 hi)
  simp only [Bool.and_eq_true, List.all_eq_true, List.mem_range] at h1
  obtain ⟨⟨h2, h3⟩, h4⟩ := h1
  refine ⟨fun t ht => ?_, fun r hr => by simpa using h3 r hr, fun j hj hc => ?_⟩
  · rw [ht] at h2; simpa using h2
  · have := h4 j hj
    rw [hc] at this
    simpa using this
theorem clash_used {fp : Nat → List Nat × List Nat} {i j : Nat} {t : Tmp} (h1 : dstOf ops j = some t) (h2 : t ∈ usedOf ops i) : clash ops fp i j = true := by
  unfold clash; rw [h1]; simp [h2]
theorem clash_used' {fp : Nat → List Nat × List Nat} {i j : Nat} {t : Tmp} (h1 : dstOf ops i = some t) (h2 : t ∈ usedOf ops j) : clash ops fp i j = true := by
  unfold clash; rw [h1]; simp [h2]
theorem clash_dst {fp : Nat → List Nat × List Nat} {i j : Nat} {t : Tmp} (h1 : dstOf ops i = some t) (h2 : dstOf ops j = some t) : clash ops fp i j = true := by
  unfold clash; rw [h1, h2]; simp
theorem clash_up {fp : Nat → List Nat × List Nat} {i j r : Nat} (h1 : r ∈ (fp i).1) (h2 : r ∈ (fp j).2) : clash ops fp i j = true := by
  unfold clash
  have : ((fp i).1.any fun r => (fp j).2.contains r) = true := List.any_eq_true.2 ⟨r, h1, by simpa using h2⟩
  rw [this]; simp
theorem clash_up' {fp : Nat → List Nat × List Nat} {i j r : Nat} (h1 : r ∈ (fp j).1) (h2 : r ∈ (fp i).2) : clash ops fp i j = true := by
  unfold clash
  have : ((fp j).1.any fun r => (fp i).2.contains r) = true := List.any_eq_true.2 ⟨r, h1, by simpa using h2⟩
  rw [this]; simp
/-- what holds when those of E have come up -/
structure Mid (P : Program) (G : Nat → Option D) (ops : Array Oper) (ρ0 : Rho) (w0 : World) (H0 : Nat → HO) (nt : Nat) (t0 : Nat → D) (h0 : Nat → HO) (df : List (FuncId × List D)) (tr : Nat → Ev) (E : Nat → Bool) (a : Act) (w : World) : Prop where
  st : ∃ ρ, InSt G ρ0 w0 H0 nt ρ w a (tmU ops tr t0 E ops.size) (hU tr h0 E ops.size) df
  closed : ∀ i j, E i = true → waitsFor ops i j = true → E j = true
  ok : ∀ i, E i = true → i < ops.size → (tr i).k = .ok
theorem mid_step (hord : orderedBy ops nt (fpOf tr) = true) (hgood : Good P G Q ops t0 h0 tr)
    (hpan : ∀ i, i < ops.size → (tr i).k = .pan → ∀ ρ w a u, Rp ρ w (tr i).d u → InSt G ρ0 w0 H0 nt ρ w a (killT ops t0) (killH ops.size tr h0) df → Q (.panic (thrown u)) a w)
    {E E' : Nat → Bool} {a : Act} {w : World} (hM : Mid P G ops ρ0 w0 H0 nt t0 h0 df tr E a w) {i : Nat} (hi : i < ops.size) (hEi : E i = false) (hdep : ∀ j, waitsFor ops i j = true → E j = true)
    (hE' : E' i = true) (hE2 : ∀ j, j ≠ i → E' j = E j) {K : Act → World → Prop} (hK : ∀ a' w', Mid P G ops ρ0 w0 H0 nt t0 h0 df tr E' a' w' → K a' w') : wpOp P ops Q i K a w := by
  obtain ⟨⟨ρ, hst⟩, hcl, hok⟩ := hM
  -- who conflicts and stands ahead has come up; who conflicts and stands behind has not
  have hahead : ∀ j, j < i → clash ops (fpOf tr) i j = true → E j = true := fun j hj hc => reach_mem hcl i j hdep ((ordered_at hord hi).2.2 j hj hc)
  have hbehind : ∀ j, i < j → j < ops.size → clash ops (fpOf tr) j i = true → E j = false := fun j hj hjn hc => by
    cases h : E j with
    | false => rfl
    | true =>
      have := reach_mem hcl j i (fun k hk => hcl j k h hk) ((ordered_at hord hjn).2.2 i hj hc)
      rw [hEi] at this; cases this
  have hread : ∀ r, r ∈ (tr i).rd → hU tr h0 E ops.size r = hU tr h0 allE i r := fun r hr => by
    unfold hU
    rw [U_stop (i := i) ops.size (by omega) (fun j h1 h2 h3 => ?_)]
    · refine U_congr i fun j hj hs => ?_
      exact hahead j hj (clash_up (r := r) hr (lkU_some hs))
    · by_cases hji : j = i
      · subst hji; exact hEi
      · exact hbehind j (by omega) h2 (clash_up' (r := r) hr (lkU_some h3))
  have htmp : ∀ t, t ∈ usedOf ops i → tmU ops tr t0 E ops.size t = tmU ops tr t0 allE i t := fun t ht => by
    unfold tmU
    rw [U_stop (i := i) ops.size (by omega) (fun j h1 h2 h3 => ?_)]
    · refine U_congr i fun j hj hs => ?_
      refine hahead j hj (clash_used (t := t) ?_ ht)
      by_cases h : dstOf ops j = some t
      · exact h
      · simp [h] at hs
    · by_cases hji : j = i
      · subst hji; exact hEi
      · refine hbehind j (by omega) h2 (clash_used' (t := t) ?_ ht)
        by_cases h : dstOf ops j = some t
        · exact h
        · simp [h] at h3
  have hg := hgood i hi
  cases hk : (tr i).k with
  | ok =>
    rw [hk] at hg
    dsimp only at hg
    refine hg ρ w a _ hst.rel hread (fun t ht => by rw [← htmp t ht]; exact hst.tmp t) K fun u ρ' w' hu hR' hex => hK _ _ ⟨⟨ρ', ?_⟩, ?_, ?_⟩
    · have hh : updL (hU tr h0 E ops.size) (tr i).up = hU tr h0 E' ops.size := by
        funext r
        rw [updL_lk]
        unfold hU
        rw [U_set (E := E) (E' := E') hi hE' hE2 (fun j h1 h2 h3 h4 => ?_)]
        refine hbehind j h1 h2 (clash_up' (r := r) ?_ (lkU_some h3))
        exact (ordered_at hord hi).2.1 r (lkU_some h4)
      rw [hh] at hR' hex
      refine ⟨hR', hst.ex.trans hex, fun t => ?_, by rw [Act.put_size]; exact hst.size, ?_⟩
      · have ht : tmU ops tr t0 E' ops.size t = (if dstOf ops i = some t then some (tr i).d else none).getD (tmU ops tr t0 E ops.size t) := by
          unfold tmU
          rw [U_set (E := E) (E' := E') hi hE' hE2 (fun j h1 h2 h3 h4 => ?_)]
          by_cases h : dstOf ops i = some t
          · by_cases h' : dstOf ops j = some t
            · exact hbehind j h1 h2 (clash_dst h' h)
            · simp [h'] at h3
          · simp [h] at h4
        rw [ht]
        by_cases h : dstOf ops i = some t
        · have hlt := (ordered_at hord hi).1 t h
          rw [h]
          rw [Act.put_same (by rw [hst.size]; exact hlt)]
          simpa using hu
        · rw [Act.put_ne h]
          simp only [h, if_false, Option.getD_none]
          exact Rp.grow hex.grow _ _ (hst.tmp t)
      · have := hst.df.grow hex.grow
        cases hd : dstOf ops i <;> simpa [Act.put] using this
    · intro x y hx hxy
      by_cases hxi : x = i
      · subst hxi
        by_cases hyx : y = x
        · subst hyx; exact hE'
        · rw [hE2 y hyx]; exact hdep y hxy
      · rw [hE2 x hxi] at hx
        have := hcl x y hx hxy
        by_cases hyi : y = i
        · subst hyi; exact hE'
        · rw [hE2 y hyi]; exact this
    · intro x hx hxn
      by_cases hxi : x = i
      · subst hxi; exact hk
      · rw [hE2 x hxi] at hx; exact hok x hx hxn
  | pan =>
    rw [hk] at hg
    dsimp only at hg
    refine hg ρ w a _ hst.rel hread (fun t ht => by rw [← htmp t ht]; exact hst.tmp t) K fun u ρ' w' hu hR' hex => hpan i hi hk ρ' w' a u hu ?_
    have hkl : ∀ r, killH ops.size tr h0 r = updL (hU tr h0 E ops.size) (tr i).up r ∨ killH ops.size tr h0 r = .dead := fun r => by
      unfold killH
      by_cases hany : (List.range ops.size).any (fun i => ((tr i).up.map (·.1)).contains r) = true
      · rw [if_pos hany]; exact .inr rfl
      · rw [if_neg hany]
        left
        have hno : ∀ j, j < ops.size → lkU r (tr j).up = none := fun j hj => by
          cases h : lkU r (tr j).up with
          | none => rfl
          | some x =>
            exact absurd (List.any_eq_true.2 ⟨j, List.mem_range.2 hj, by simpa using lkU_some (r := r) (up := (tr j).up) (by rw [h]; rfl)⟩) hany
        rw [updL_lk, hno i hi]
        unfold hU
        rw [U_none _ hno]
        rfl
    refine ⟨hR'.kill hkl, (hst.ex.trans hex).kill hkl, fun t => ?_, hst.size, hst.df.grow hex.grow⟩
    unfold killT
    by_cases hany : (List.range ops.size).any (fun i => dstOf ops i == some t) = true
    · rw [if_pos hany, Rp]; trivial
    · rw [if_neg hany]
      have hno : ∀ j, j < ops.size → (if dstOf ops j = some t then some (tr j).d else none) = none := fun j hj => by
        by_cases h : dstOf ops j = some t
        · exact absurd (List.any_eq_true.2 ⟨j, List.mem_range.2 hj, by simp [h]⟩) hany
        · simp [h]
      have := hst.tmp t
      unfold tmU at this
      rw [U_none _ hno] at this
      exact Rp.grow hex.grow _ _ this
  | nev =>
    rw [hk] at hg
    obtain ⟨j, hj, hr, hjk⟩ := hg
    have h1 := reach_mem hcl i j hdep hr
    have := hok j h1 hj
    rw [hjk] at this; cases this
end
end Go.Proofs.YtgloldepdhgfaaaDoor
namespace Go.Proofs.YtgloldepdhgfaaaDoor
set_option linter.unusedSimpArgs false
set_option linter.unusedVariables false
open Go.RowKit
theorem RpC.append {ρ : Rho} {w : World} : ∀ {asl bs : List D} {b o : Nat}, RpC ρ w asl b o → RpC ρ w bs b (o + asl.length) → RpC ρ w (asl ++ bs) b o
  | [], bs, b, o, _, h => by simpa using h
  | a :: r, bs, b, o, h, g => by
    rw [RpC_cons] at h
    rw [List.cons_append]
    exact RpC_cons.2 ⟨h.1, RpC.append h.2 (by rw [List.length_cons] at g; rwa [show o + 1 + r.length = o + (r.length + 1) by omega])⟩
theorem RpE.append {ρ : Rho} {w : World} {sz : Nat} {asl bs : List D} {b o : Nat} (ha : ∀ e, e ∈ asl → e.size = sz) (hb : ∀ e, e ∈ bs → e.size = sz) (h : RpE ρ w asl b o) (g : RpE ρ w bs b (o + asl.length * sz)) : RpE ρ w (asl ++ bs) b o := by
  refine RpE.of (sz := sz) (fun e he => ?_) fun i d hi => ?_
  · rcases List.mem_append.1 he with he | he
    · exact ha e he
    · exact hb e he
  · by_cases hlt : i < asl.length
    · rw [List.getElem?_append_left hlt] at hi
      exact h.get ha hi
    · rw [List.getElem?_append_right (by omega)] at hi
      have := g.get hb hi
      rwa [show o + asl.length * sz + (i - asl.length) * sz = o + i * sz by rw [Nat.add_assoc, ← Nat.add_mul]; congr 2; omega] at this
/-- elements' cells, as values -/
theorem RpE.vals {ρ : Rho} {w : World} : ∀ {els : List D} {b o : Nat}, RpE ρ w els b o → ∃ vs : List Value, vs.length = (els.map D.size).sum ∧ (∀ (j : Nat) (v : Value), vs[j]? = some v → w.cell? ⟨b, o + j, none⟩ = some v ∧ v.oneCell' = true) ∧
      ∀ (ρ' : Rho) (w' : World) (b' o' : Nat), Grow ρ w ρ' w' → (∀ (j : Nat) (v : Value), vs[j]? = some v → cellAt ρ' w' b' (o' + j) v) → RpE ρ' w' els b' o'
  | [], b, o, _ => ⟨[], rfl, fun j v h => by simp at h, fun _ _ _ _ _ _ => RpE_nil⟩
  | e :: r, b, o, h => by
    rw [RpE_cons] at h
    obtain ⟨vs, h1, h2, h3⟩ := RpE.vals h.2
    have key : ∃ us : List Value, us.length = e.size ∧ (∀ (j : Nat) (v : Value), us[j]? = some v → w.cell? ⟨b, o + j, none⟩ = some v ∧ v.oneCell' = true) ∧
        ∀ (ρ' : Rho) (w' : World) (b' o' : Nat), Grow ρ w ρ' w' → (∀ (j : Nat) (v : Value), us[j]? = some v → cellAt ρ' w' b' (o' + j) v) → RpAt ρ' w' e b' o' := by
      have hat := h.1
      cases e
      case agg cs =>
        obtain ⟨us, g1, g2⟩ := RpC.vals (show RpC ρ w cs b o from hat)
        refine ⟨us, g1.length, g2, fun ρ' w' b' o' g hc => ?_⟩
        show RpC ρ' w' cs b' o'
        exact RpC.of fun i d hi => by
          obtain ⟨v, e1, e2⟩ := g1.get hi
          exact ⟨v, hc i v e1, Rp.grow g d v e2⟩
      all_goals
        obtain ⟨u, g1, g2⟩ := hat
        refine ⟨[u], rfl, fun j v hj => ?_, fun ρ' w' b' o' g hc => ⟨u, hc 0 u rfl, Rp.grow g _ u g2⟩⟩
        cases j with
        | zero => simp at hj; subst hj; exact ⟨g1.2.1, g1.2.2⟩
        | succ j => simp at hj
    obtain ⟨us, g1, g2, g3⟩ := key
    refine ⟨us ++ vs, by simp [g1, h1], fun j v hj => ?_, fun ρ' w' b' o' g hc => RpE_cons.2 ⟨g3 ρ' w' b' o' g fun j v hj => hc j v ?_, h3 ρ' w' b' _ g fun j v hj => ?_⟩⟩
    · by_cases hlt : j < us.length
      · rw [List.getElem?_append_left hlt] at hj; exact g2 j v hj
      · rw [List.getElem?_append_right (by omega)] at hj
        have := h2 (j - us.length) v hj
        rwa [show o + e.size + (j - us.length) = o + j by omega] at this
    · rw [List.getElem?_append_left (List.getElem?_eq_some_iff.1 hj).1]; exact hj
    · have := hc (us.length + j) v (by rw [List.getElem?_append_right (by omega)]; simpa using hj)
      rwa [show o' + (us.length + j) = o' + e.size + j by omega] at this
theorem sum_size {sz : Nat} : ∀ {els : List D}, (∀ e, e ∈ els → e.size = sz) → (els.map D.size).sum = els.length * sz
  | [], _ => by simp
  | e :: r, h => by
    rw [List.map_cons, List.sum_cons, sum_size fun x hx => h x (List.mem_cons_of_mem _ hx), h e (List.mem_cons_self ..), List.length_cons, Nat.succ_mul]; omega
section
variable {P : Program} {G : Nat → Option D} {ρ : Rho} {w : World} {H : Nat → HO}
/-- a slice's cells, as what is appended -/
theorem slice_src {tx e' : TypeId} (hk : P.underlying tx = some (.slice e')) {els : List D} {c : Cp} {v : Value} {sz : Nat} (hs : ∀ e, e ∈ els → e.size = sz) (h : Rp ρ w (.slice els c) v) :
    ∃ (A : Option Addr) (cap : Nat) (vs : List Value), v = .slice A els.length cap ∧ Src P sz tx v els.length vs w ∧ (Builtin.firstCells sz els.length v).run P w.drew = .ok vs.toArray w.drew ∧
      ∀ (ρ' : Rho) (w' : World) (b' o' : Nat), Grow ρ w ρ' w' → (∀ (j : Nat) (u : Value), vs[j]? = some u → cellAt ρ' w' b' (o' + j) u) → RpE ρ' w' els b' o' := by
  rw [Rp] at h
  obtain ⟨A, cap, sz', rfl, -, -, -, -, -, h5⟩ := h
  by_cases hne : els = []
  · subst hne
    have : Src P sz tx (.slice A 0 cap) 0 [] w := by
      cases A with
      | none => exact Src.ofNil w hk cap
      | some a => exact Src.ofSlice w hk a 0 cap [] (by simp) (fun j u h => by simp at h) (fun u h => by cases h)
    exact ⟨A, cap, [], rfl, this, this.cellsD, fun _ _ _ _ _ _ => RpE_nil⟩
  · obtain ⟨b, o, rfl, h6⟩ := h5 hne
    obtain ⟨vs, h7, h8, h9⟩ := RpE.vals h6
    rw [sum_size hs] at h7
    have : Src P sz tx (.slice (some ⟨b, o, none⟩) els.length cap) els.length vs w := Src.ofSlice w hk _ _ cap vs h7 (fun j u hu => by rw [addr_add]; exact (h8 j u hu).1) (fun u hu => by
      obtain ⟨j, hj⟩ := List.getElem?_of_mem hu
      exact (h8 j u hj).2)
    exact ⟨_, cap, vs, rfl, this, this.cellsD, h9⟩
theorem run_append_in {t tx ty e et : TypeId} {i : TypeInfo} (ht : P.underlying t = some (.slice e)) (hi : P.info? e = some i) {g o sLen sCap : Nat} {cur : Array Value} (hg : w.heap[g]? = some (.cells cur et (0, 0)))
    {x : Value} {n : Nat} {news : List Value} (hs : Src P i.size tx x n news w) (hroom : sLen + n ≤ sCap) (hfit : o + sLen * i.size + news.length ≤ cur.size) :
    (Builtin.append_ #[t, tx] ty #[.slice (some ⟨g, o, none⟩) sLen sCap, x]).run P w =
      .ok (.slice (some ⟨g, o, none⟩) (sLen + n) sCap) (w.setRow g (cur.toList.take (o + sLen * i.size) ++ news ++ cur.toList.drop (o + sLen * i.size + news.length)).toArray) := by
  have hst := run_storeCells_at P g (o + sLen * i.size) et news 0 cur w hg (by simpa using hfit) hs.one
  simp only [Nat.add_zero] at hst
  rcases hs.kind with ⟨e', hk⟩ | hk <;>
    simp [Builtin.append_, run_underlying ht, run_underlying hk, sizeOf, typeInfo, hi, hs.len, hroom, hs.cells, addr_add, hst]
/-- a right is handed on: old's to nx's, its block grown -/
def Rho.hand (ρ : Rho) (nx b f : Nat) : Rho := ⟨fun k => if k = b then some f else ρ.c k, fun i => if i = nx then some (b, f) else ρ.nm i⟩
/-- a row in a new block -/
theorem Ex.row (hR : Rel G ρ w H) {nx f : Nat} (hn : H nx = .free) (vs : List Value) (t : TypeId) (hf : f ≤ vs.length) : Rel G (ρ.hand nx w.heap.size f) (w.drew.alloc (.cells vs.toArray t)) (setH H nx .tok) ∧ Ex ρ w H (ρ.hand nx w.heap.size f) (w.drew.alloc (.cells vs.toArray t)) (setH H nx .tok) := by
  obtain ⟨hRd, hed⟩ := Ex.drew hR
  have hne : ∀ b, b < w.heap.size → (ρ.hand nx w.heap.size f).c b = ρ.c b := fun b hb => by simp [Rho.hand, Nat.ne_of_lt hb]
  have hnm : ∀ i, i ≠ nx → (ρ.hand nx w.heap.size f).nm i = ρ.nm i := fun i hi => by simp [Rho.hand, hi]
  have hn0 : (ρ.hand nx w.heap.size f).nm nx = some (w.heap.size, f) := by simp [Rho.hand]
  have hblk : ∀ b, b < w.heap.size → (w.drew.alloc (.cells vs.toArray t)).heap[b]? = w.heap[b]? := fun b hb => Below.heap_alloc w.drew _ b hb
  have g : Grow ρ w (ρ.hand nx w.heap.size f) (w.drew.alloc (.cells vs.toArray t)) :=
    ⟨rfl, rfl, rfl, by simp, fun b hb h => ⟨(hne b hb).trans h, hblk b hb⟩, fun b k hb h => ⟨.inl ⟨k, (hne b hb).trans h, Nat.le_refl _⟩, fun us ty fz hh => ⟨us, (hblk b hb).trans hh, rfl, fun _ _ => rfl⟩⟩, fun i x hx => by
      by_cases hi : i = nx
      · subst hi; rw [hR.free i hn] at hx; cases hx
      · rw [hnm i hi]; exact hx⟩
  have hold : ∀ i b f', i ≠ nx → (ρ.hand nx w.heap.size f).nm i = some (b, f') → (H i).live = true → b < w.heap.size := fun i b f' hi h1 h2 => by
    rw [hnm i hi] at h1
    exact (hR.obj i b f' h1).lt h2
  refine ⟨⟨fun i hi => ?_, fun b hb => ?_, fun i b f' h1 => ?_, fun i j b f1 f2 h1 h2 h3 h4 => ?_, fun gg d hd => (hR.glob gg d hd).grow g⟩, g, fun b hb hnl => ⟨hblk b hb, hne b hb⟩, fun b hlv hb => ?_⟩
  · by_cases h : i = nx
    · subst h; rw [setH_same] at hi; cases hi
    · rw [setH_ne H _ h] at hi; rw [hnm i h]; exact hR.free i hi
  · have : b ≠ w.heap.size := by simp at hb; omega
    have h2 := hR.fresh b (by simp at hb; omega)
    simp [Rho.hand, this, h2]
  · by_cases h : i = nx
    · subst h
      rw [setH_same]
      rw [hn0] at h1; cases h1
      exact ⟨by simp [Rho.hand], by simp⟩
    · rw [setH_ne H _ h]
      have h2 := hR.obj i b f' (by rw [← hnm i h]; exact h1)
      cases hlv : (H i).live with
      | false =>
        revert hlv h2; generalize H i = ho; intro h2 hlv
        cases ho <;> first | exact trivial | cases hlv
      | true => exact h2.keep g (hblk b (h2.lt hlv)) (hne b (h2.lt hlv))
  · by_cases hi : i = nx
    · by_cases hj : j = nx
      · rw [hi, hj]
      · exfalso
        subst hi
        rw [hn0] at h1; cases h1
        rw [setH_ne H _ hj] at h4
        have := hold j _ _ hj h2 h4
        omega
    · by_cases hj : j = nx
      · exfalso
        subst hj
        rw [hn0] at h2; cases h2
        rw [setH_ne H _ hi] at h3
        have := hold i _ _ hi h1 h3
        omega
      · rw [setH_ne H _ hi] at h3
        rw [setH_ne H _ hj] at h4
        exact hR.inj i j b f1 f2 (by rw [← hnm i hi]; exact h1) (by rw [← hnm j hj]; exact h2) h3 h4
  · obtain ⟨i, f', h1, h2⟩ := hlv
    by_cases hi : i = nx
    · subst hi; rw [hn0] at h1; cases h1; omega
    · rw [setH_ne H _ hi] at h2
      exact ⟨i, f', by rw [← hnm i hi]; exact h1, h2⟩
/-- no right at all, but a name -/
theorem Ex.name (hR : Rel G ρ w H) {nx : Nat} (hn : H nx = .free) : Rel G ρ w (setH H nx .tok) ∧ Ex ρ w H ρ w (setH H nx .tok) := by
  have h0 := hR.free nx hn
  have key : ∀ i b f, ρ.nm i = some (b, f) → setH H nx .tok i = H i := fun i b f h => setH_ne H _ (fun e => by subst e; rw [h0] at h; cases h)
  refine ⟨⟨fun i hi => ?_, hR.fresh, fun i b f h => by rw [key i b f h]; exact hR.obj i b f h, fun i j b f g h1 h2 h3 h4 => hR.inj i j b f g h1 h2 (by rwa [key i _ _ h1] at h3) (by rwa [key j _ _ h2] at h4), hR.glob⟩, Grow.refl _ _, fun b hb hl => ⟨rfl, rfl⟩, fun b ⟨i, f, h1, h2⟩ hb => ⟨i, f, h1, by rwa [key i _ _ h1] at h2⟩⟩
  by_cases h : i = nx
  · subst h; exact h0
  · rw [setH_ne H _ h] at hi; exact hR.free i hi
theorem setH_comm (H : Nat → HO) {i j : Nat} (x y : HO) (h : i ≠ j) : setH (setH H i x) j y = setH (setH H j y) i x := by
  funext k
  by_cases hi : k = i
  · subst hi; rw [setH_ne _ _ h, setH_same, setH_same]
  · by_cases hj : k = j
    · subst hj; rw [setH_same, setH_ne _ _ hi, setH_same]
    · rw [setH_ne _ _ hj, setH_ne _ _ hi, setH_ne _ _ hi, setH_ne _ _ hj]
theorem dead_one (H : Nat → HO) (i : Nat) : ∀ r, setH H i .dead r = H r ∨ setH H i .dead r = .dead := fun r => by
  by_cases h : r = i
  · subst h; rw [setH_same]; exact .inr rfl
  · rw [setH_ne _ _ h]; exact .inl rfl
/-- a row grows where it lies -/
theorem Ex.growIn (hR : Rel G ρ w H) {i nx b f f' : Nat} (hi : H i = .tok) (hn : H nx = .free) (hnm : ρ.nm i = some (b, f)) (hff : f ≤ f') {cur cur' : Array Value} {t : TypeId} (hg : w.heap[b]? = some (.cells cur t (0, 0)))
    (hsz : cur'.size = cur.size) (hsame : ∀ o, o < f → cur'[o]? = cur[o]?) :
    Rel G (ρ.hand nx b f') (w.setRow b cur') (setH (setH H i .dead) nx .tok) ∧ Ex ρ w H (ρ.hand nx b f') (w.setRow b cur') (setH (setH H i .dead) nx .tok) := by
  have hin : i ≠ nx := fun e => by subst e; rw [hi] at hn; cases hn
  have hcb : ρ.c b = some f := by have := hR.obj i b f hnm; rw [hi] at this; exact this.1
  have hb : b < w.heap.size := (Array.getElem?_eq_some_iff.1 hg).1
  have hrow := setRow_heap w b cur cur' t (0, 0) hg
  have hfar : ∀ k, k ≠ b → (w.setRow b cur').heap[k]? = w.heap[k]? := fun k hk => by simp [World.setRow, Array.getElem?_modify, Ne.symm hk]
  have hcne : ∀ k, k ≠ b → (ρ.hand nx b f').c k = ρ.c k := fun k hk => by simp [Rho.hand, hk]
  have hcb' : (ρ.hand nx b f').c b = some f' := by simp [Rho.hand]
  have hnme : ∀ k, k ≠ nx → (ρ.hand nx b f').nm k = ρ.nm k := fun k hk => by simp [Rho.hand, hk]
  have hn0 : (ρ.hand nx b f').nm nx = some (b, f') := by simp [Rho.hand]
  have hlive : Live ρ H b := ⟨i, f, hnm, by rw [hi]; rfl⟩
  have g : Grow ρ w (ρ.hand nx b f') (w.setRow b cur') := by
    refine ⟨rfl, rfl, rfl, by simp [World.setRow], fun k hk h => ?_, fun k m hk h => ?_, fun k x hx => ?_⟩
    · have : k ≠ b := fun e => by subst e; rw [hcb] at h; cases h
      exact ⟨(hcne k this).trans h, hfar k this⟩
    · by_cases hkb : k = b
      · subst hkb
        rw [hcb] at h; cases h
        refine ⟨.inl ⟨f', hcb', hff⟩, fun vs ty fz hh => ?_⟩
        rw [hg] at hh; cases hh
        exact ⟨cur', hrow, hsz, hsame⟩
      · exact ⟨.inl ⟨m, (hcne k hkb).trans h, Nat.le_refl _⟩, fun vs ty fz hh => ⟨vs, (hfar k hkb).trans hh, rfl, fun _ _ => rfl⟩⟩
    · by_cases hk : k = nx
      · subst hk; rw [hR.free k hn] at hx; cases hx
      · rw [hnme k hk]; exact hx
  have hval : ∀ k, k ≠ nx → k ≠ i → setH (setH H i .dead) nx .tok k = H k := fun k h1 h2 => by rw [setH_ne _ _ h1, setH_ne _ _ h2]
  have hvi : setH (setH H i .dead) nx .tok i = .dead := by rw [setH_ne _ _ hin, setH_same]
  have hother : ∀ k b' f'', k ≠ nx → k ≠ i → ρ.nm k = some (b', f'') → (H k).live = true → b' ≠ b := fun k b' f'' h1 h2 h3 h4 e => by
    subst e
    exact h2 (hR.inj k i b' f'' f h3 hnm h4 (by rw [hi]; rfl))
  refine ⟨⟨fun k hk => ?_, fun k hk => ?_, fun k b' f'' h1 => ?_, fun k j b' f1 f2 h1 h2 h3 h4 => ?_, fun gg d hd => (hR.glob gg d hd).grow g⟩, g, fun k hk hnl => ?_, fun k hlk hk => ?_⟩
  · by_cases h : k = nx
    · subst h; rw [setH_same] at hk; cases hk
    · by_cases h2 : k = i
      · subst h2; rw [hvi] at hk; cases hk
      · rw [hval k h h2] at hk; rw [hnme k h]; exact hR.free k hk
  · have hk2 : w.heap.size ≤ k := by simpa [World.setRow] using hk
    rw [hcne k (by omega)]; exact hR.fresh k hk2
  · by_cases h : k = nx
    · subst h; rw [setH_same]; rw [hn0] at h1; cases h1
      exact ⟨hcb', by simpa [World.setRow] using hb⟩
    · by_cases h2 : k = i
      · subst h2; rw [hvi]; trivial
      · rw [hval k h h2]
        rw [hnme k h] at h1
        have h3 := hR.obj k b' f'' h1
        cases hlv : (H k).live with
        | false =>
          revert hlv h3; generalize H k = ho; intro h3 hlv
          cases ho <;> first | exact trivial | cases hlv
        | true =>
          have := hother k b' f'' h h2 h1 hlv
          exact h3.keep g (hfar b' this) (hcne b' this)
  · by_cases hk : k = nx
    · by_cases hj : j = nx
      · rw [hk, hj]
      · exfalso
        subst hk
        rw [hn0] at h1; cases h1
        by_cases hji : j = i
        · subst hji; rw [hvi] at h4; cases h4
        · rw [hval j hj hji] at h4
          rw [hnme j hj] at h2
          exact hother j _ _ hj hji h2 h4 rfl
    · by_cases hki : k = i
      · subst hki; rw [hvi] at h3; cases h3
      · rw [hval k hk hki] at h3
        rw [hnme k hk] at h1
        by_cases hj : j = nx
        · exfalso
          subst hj
          rw [hn0] at h2; cases h2
          exact hother k _ _ hk hki h1 h3 rfl
        · by_cases hji : j = i
          · subst hji; rw [hvi] at h4; cases h4
          · rw [hval j hj hji] at h4
            rw [hnme j hj] at h2
            exact hR.inj k j b' f1 f2 h1 h2 h3 h4
  · have : k ≠ b := fun e => hnl (e ▸ hlive)
    exact ⟨hfar k this, hcne k this⟩
  · obtain ⟨j, f1, h1, h2⟩ := hlk
    by_cases hj : j = nx
    · subst hj; rw [hn0] at h1; cases h1; exact hlive
    · by_cases hji : j = i
      · subst hji; rw [hvi] at h2; cases h2
      · rw [hval j hj hji] at h2
        rw [hnme j hj] at h1
        exact ⟨j, f1, h1, h2⟩
theorem cvs_length : ∀ ds : List D, (D.cvs ds).length = ds.length
  | [] => by rw [D.cvs]; rfl
  | d :: r => by rw [D.cvs]; simp [cvs_length r]
theorem cv_size (d : D) : d.cv.cells.size = d.size ∨ d.closed = false := by
  cases d <;> first | exact .inr rfl | skip
  all_goals first | (left; rw [D.cv]; rfl) | skip
  case agg ds => left; rw [D.cv]; simp [Value.cells, D.size, cvs_length]
def appUp (cx : Cp) (nx : Nat) : List (Nat × HO) :=
  match cx with
  | .tok i => [(i, .dead), (nx, .tok)]
  | _ => [(nx, .tok)]
section
variable {T : TypeId → Ty} {v : Operand → Value} {e : Operand → D} {o : Oper}
theorem app_up (hR : Rel G ρ w H) {ρ' : Rho} {w' : World} {cx : Cp} {nx : Nat} (hn : H nx = .free) (hc : cx = .full ∨ ∃ i, cx = .tok i ∧ H i = .tok) (h : Rel G ρ' w' (setH H nx .tok) ∧ Ex ρ w H ρ' w' (setH H nx .tok)) :
    Rel G ρ' w' (updL H (appUp cx nx)) ∧ Ex ρ w H ρ' w' (updL H (appUp cx nx)) := by
  rcases hc with rfl | ⟨i, rfl, hi⟩
  · exact h
  · have hin : i ≠ nx := fun e => by subst e; rw [hi] at hn; cases hn
    show Rel G ρ' w' (setH (setH H i .dead) nx .tok) ∧ Ex ρ w H ρ' w' (setH (setH H i .dead) nx .tok)
    rw [setH_comm H _ _ hin]
    exact ⟨h.1.kill (dead_one _ i), h.2.kill (dead_one _ i)⟩
theorem heap_new (w : World) (o : Obj) : (w.alloc o).heap[w.heap.size]? = some o := by rw [← World.alloc_eq]; simp
theorem snd_append (hT : ∀ t, TyOK P t (T t)) (hR : Rel G ρ w H) {c : Call} {x y : Operand} {t t2 el el2 : TypeId} (ho : o.op = .call c) (hcl : c.callee = .builtin .append) (ha : c.args = #[x, y]) (ht : c.argTypes = #[t, t2])
    (hx : Rp ρ w (e x) (v x)) (hy : Rp ρ w (e y) (v y)) {els els2 : List D} {cx cy : Cp} (hex : e x = .slice els cx) (hey : e y = .slice els2 cy) (hk : (T t).k = .slice el) (hk2 : (T t2).k = .slice el2) (hel : (T el).k.known = true) (hby : (T el).bytes ≤ 256)
    (hs1 : ∀ d, d ∈ els → d.size = (T el).size) (hs2 : ∀ d, d ∈ els2 → d.size = (T el).size) (hl : els.length + els2.length ≤ LMax) {nx : Nat} (hn : H nx = .free) (hc : cx = .full ∨ ∃ i, cx = .tok i ∧ H i = .tok) :
    StepV P G v o ρ w H (.slice (els ++ els2) (.tok nx)) (appUp cx nx) := by
  obtain ⟨it, d, -, -, -, -, -, -, -, h1, h2⟩ := (hT t).info (by rw [hk]; rfl)
  rw [hk] at h2; simp only [KOK] at h2; subst h2
  obtain ⟨it2, d2, -, -, -, -, -, -, -, h3, h4⟩ := (hT t2).info (by rw [hk2]; rfl)
  rw [hk2] at h4; simp only [KOK] at h4; subst h4
  obtain ⟨i, d3, hi, hsz, hbt, hz, hzc, hzs, -, -, -⟩ := (hT el).info hel
  rw [hex] at hx
  rw [hey] at hy
  obtain ⟨By, cy2, news, hvy, hsrc, -, hputy⟩ := slice_src (P := P) (sz := (T el).size) h3 hs2 hy
  obtain ⟨Ax, cx2, olds, hvx, hsrcx, holdD, hputx⟩ := slice_src (P := P) (sz := (T el).size) h1 hs1 hx
  have hx' := hx
  rw [Rp] at hx'
  obtain ⟨A, cap, sz, hv, hle, hcm, hll, hsz2, hcap, hels⟩ := hx'
  rw [hvx] at hv
  simp only [Value.slice.injEq, true_and] at hv
  obtain ⟨rfl, rfl⟩ := hv
  have hrunop : ∀ {u : Value} {w' : World}, (Builtin.append_ #[t, t2] o.type #[v x, v y]).run P w = .ok u w' → (execOp v o).run P w = .ok (.value u) w' := fun {u w'} h => by
    simp [execOp, ho, hcl, ha, ht, resolve, invoke, builtin, h]
  have hlen1 := hsrcx.newsLen
  have hlen2 := hsrc.newsLen
  have hone1 := hsrcx.one
  have hone2 := hsrc.one
  -- the row in a new block
  have hgrow : Ax = Ax → cx2 < els.length + els2.length → StepV P G v o ρ w H (.slice (els ++ els2) (.tok nx)) (appUp cx nx) := fun _ hlt => by
    have h63 : ((els.length + els2.length : Nat) : Int) ≤ 9223372036854775807 := by unfold LMax at hl; omega
    have hfit : Builtin.nextslicecap (els.length + els2.length) cx2 * i.bytes ≤ 281474976710656 := by
      have g1 := nextslicecap_le hlt
      have g2 := Nat.mul_le_mul g1 (show i.bytes ≤ 256 by omega)
      unfold LMax at hl
      omega
    have hrun := run_append_grow_src w t t2 o.type el i _ h1 hi hz Ax els.length cx2 olds (by rw [hsz, ← hvx]; exact holdD) (v y) els2.length news (by rw [hsz]; exact hsrc) hlt h63 hfit
    have hcg := grownCap_ge w (els.length + els2.length) cx2 el
    have hcm' : grownCap w (els.length + els2.length) cx2 el ≤ maxLen := grownCap_le_maxLen w _ cx2 el (by unfold LMax at hl; simp only [maxLen]; omega)
    generalize grownCap w (els.length + els2.length) cx2 el = cap' at hrun hcg hcm'
    have hvs : (olds ++ news).toArray ++ Builtin.zeroCells (T el).zero.cv.cells (cap' - (els.length + els2.length)) = (olds ++ news ++ (Builtin.zeroCells (T el).zero.cv.cells (cap' - (els.length + els2.length))).toList).toArray := by apply Array.ext'; simp
    rw [hvs] at hrun
    have hfl : (els.length + els2.length) * (T el).size ≤ (olds ++ news ++ (Builtin.zeroCells (T el).zero.cv.cells (cap' - (els.length + els2.length))).toList).length := by simp [hlen1, hlen2, Nat.add_mul]
    have hex2 := Ex.row hR hn (olds ++ news ++ (Builtin.zeroCells (T el).zero.cv.cells (cap' - (els.length + els2.length))).toList) el hfl
    obtain ⟨r1, r2⟩ := app_up hR hn hc hex2
    refine ⟨_, _, _, _, hrunop (by rw [hvx]; exact hrun), .inl rfl, ?_, r1, r2⟩
    have hcellat : ∀ (j : Nat) (u : Value), (olds ++ news)[j]? = some u → cellAt (ρ.hand nx w.heap.size ((els.length + els2.length) * (T el).size)) (w.drew.alloc (.cells (olds ++ news ++ (Builtin.zeroCells (T el).zero.cv.cells (cap' - (els.length + els2.length))).toList).toArray el)) w.heap.size (0 + j) u := fun j u hj => by
      have hjl := (List.getElem?_eq_some_iff.1 hj).1
      refine ⟨fun k hk => ?_, ?_, ?_⟩
      · simp only [Rho.hand, if_true, Option.some.injEq] at hk
        rw [← hk, Nat.add_mul, ← hlen1, ← hlen2, ← List.length_append]; omega
      · rw [show w.heap.size = w.drew.heap.size from rfl, World.cell?_alloc_new, Nat.zero_add]
        rw [List.getElem?_toArray, List.getElem?_append_left hjl]; exact hj
      · rcases List.mem_append.1 (List.mem_of_getElem? hj) with h | h
        · exact hone1 u h
        · exact hone2 u h
    rw [Rp]
    refine ⟨some ⟨w.heap.size, 0, none⟩, cap', (T el).size, by rw [List.length_append], by rw [List.length_append]; exact hcg, hcm', by rw [List.length_append]; exact hl, fun d hd => (List.mem_append.1 hd).elim (hs1 d) (hs2 d), .inr ⟨w.heap.size, 0, (els.length + els2.length) * (T el).size, _, el, by rw [List.length_append]; omega, rfl, by simp [Rho.hand], by rw [List.length_append]; omega, by simp, heap_new w.drew _, ?_⟩, fun _ => ⟨w.heap.size, 0, rfl, ?_⟩⟩
    · have hzz : (T el).zero.cv.cells.size = (T el).size := by
        rcases cv_size (T el).zero with h | h
        · rw [h, hzs]
        · rw [hzc] at h; cases h
      have : cap' * (T el).size = (els.length + els2.length) * (T el).size + (cap' - (els.length + els2.length)) * (T el).size := by rw [← Nat.add_mul]; congr 1; omega
      simp only [Nat.zero_add, List.size_toArray, List.length_append, hlen1, hlen2, Array.length_toList, size_zeroCells, hzz]
      rw [this, Nat.add_mul]
      omega
    · refine RpE.append hs1 hs2 (hputx _ _ _ _ r2.grow fun j u hj => hcellat j u (by rw [List.getElem?_append_left (List.getElem?_eq_some_iff.1 hj).1]; exact hj)) (hputy _ _ _ _ r2.grow fun j u hj => ?_)
      have := hcellat (olds.length + j) u (by rw [List.getElem?_append_right (by omega)]; simpa using hj)
      rw [hlen1] at this
      rwa [show 0 + els.length * (T el).size + j = 0 + (els.length * (T el).size + j) by omega]
  -- nothing is brought, there is no room
  have hnone : els2 = [] → cx2 = els.length → StepV P G v o ρ w H (.slice (els ++ els2) (.tok nx)) (appUp cx nx) := fun he hcn => by
    subst he
    have hnn : news = [] := List.eq_nil_of_length_eq_zero (by simpa using hlen2)
    subst hnn
    have hrun := run_append_nothing (P := P) w t t2 o.type el i h1 hi Ax els.length cx2 (by omega) (v y) (by rw [hsz]; exact hsrc)
    obtain ⟨r1, r2⟩ := app_up hR hn hc (Ex.name hR hn)
    refine ⟨_, _, ρ, w, hrunop (by rw [hvx]; exact hrun), .inl rfl, ?_, r1, r2⟩
    rw [Rp, List.append_nil]
    exact ⟨Ax, cx2, sz, rfl, hle, hcm, hll, hsz2, .inl hcn, hels⟩
  have hfull : cx2 = els.length → StepV P G v o ρ w H (.slice (els ++ els2) (.tok nx)) (appUp cx nx) := fun hcn => by
    by_cases he : els2 = []
    · exact hnone he hcn
    · exact hgrow rfl (by have := List.length_pos_iff.2 he; omega)
  rcases hc with rfl | ⟨j, rfl, hj⟩
  · exact hfull hcap
  · rcases hcap with hcap | ⟨b, off, f, vs, ty, h0, rfl, hnm, hf, hb, hh, hroom⟩
    · exact hfull hcap
    · by_cases hfits : els.length + els2.length ≤ cx2
      · -- in place
        have hne : els ≠ [] := fun e => by subst e; simp at h0
        obtain ⟨d, hd⟩ := List.exists_mem_of_ne_nil els hne
        have hszz : sz = (T el).size := by rw [← hsz2 d hd, hs1 d hd]
        subst hszz
        obtain ⟨b', off', hA, hE⟩ := hels hne
        simp only [Option.some.injEq, Addr.mk.injEq, and_true] at hA
        obtain ⟨rfl, rfl⟩ := hA
        have hmul : (els.length + els2.length) * (T el).size ≤ cx2 * (T el).size := Nat.mul_le_mul_right _ hfits
        rw [Nat.add_mul] at hmul
        have hfit2 : off + els.length * i.size + news.length ≤ vs.size := by rw [hsz, hlen2]; omega
        have hrun := run_append_in (P := P) (w := w) (t := t) (tx := t2) (ty := o.type) h1 hi hh (by rw [hsz]; exact hsrc) hfits hfit2
        rw [hsz, hf] at hrun
        have hcur : (vs.toList.take f ++ news ++ vs.toList.drop (f + news.length)).toArray.size = vs.size := by simp; omega
        have hpre : ∀ k, k < f → (vs.toList.take f ++ news ++ vs.toList.drop (f + news.length)).toArray[k]? = vs[k]? := fun k hk => by
          rw [List.getElem?_toArray, List.append_assoc, List.getElem?_append_left (by simp; omega), List.getElem?_take_of_lt hk]; simp
        obtain ⟨r1, r2⟩ := Ex.growIn hR hj hn hnm (f' := f + news.length) (by omega) hh hcur hpre
        refine ⟨_, _, _, _, hrunop (by rw [hvx]; exact hrun), .inl rfl, ?_, r1, r2⟩
        have hrow := setRow_heap w b vs (vs.toList.take f ++ news ++ vs.toList.drop (f + news.length)).toArray ty (0, 0) hh
        rw [Rp]
        refine ⟨some ⟨b, off, none⟩, cx2, (T el).size, by rw [List.length_append], by rw [List.length_append]; exact hfits, hcm, by rw [List.length_append]; exact hl, fun d hd => (List.mem_append.1 hd).elim (hs1 d) (hs2 d),
          .inr ⟨b, off, f + news.length, _, ty, by rw [List.length_append]; omega, rfl, by simp [Rho.hand], by rw [List.length_append, Nat.add_mul, hlen2]; omega, by simpa [World.setRow] using hb, hrow, by rw [hcur]; exact hroom⟩,
          fun _ => ⟨b, off, rfl, RpE.append hs1 hs2 (RpE.grow r2.grow _ _ _ hE) (hputy _ _ _ _ r2.grow fun k u hk => ?_)⟩⟩
        have hkl := (List.getElem?_eq_some_iff.1 hk).1
        rw [hf]
        refine ⟨fun m hm => ?_, ?_, hone2 u (List.mem_of_getElem? hk)⟩
        · simp only [Rho.hand, if_true, Option.some.injEq] at hm
          omega
        · simp only [World.cell?, hrow, Option.isSome_none, Bool.false_eq_true, if_false]
          rw [List.getElem?_toArray, List.append_assoc, List.getElem?_append_right (by simp; omega), List.getElem?_append_left (by simp; omega)]
          rw [← hk]; congr 1; simp; omega
      · exact hgrow rfl (by omega)
end
end
end Go.Proofs.YtgloldepdhgfaaaDoor
namespace Go.Proofs.YtgloldepdhgfaaaDoor
set_option linter.unusedSimpArgs false
set_option linter.unusedVariables false
open Go.RowKit
theorem fold_set : ∀ (vs : List Value) (k off : Nat) (cells : Array Value), off + k + vs.length ≤ cells.size →
    ((vs.zipIdx k).foldl (fun cs (p : Value × Nat) => cs.setIfInBounds (off + p.2) p.1) cells).toList = cells.toList.take (off + k) ++ vs ++ cells.toList.drop (off + k + vs.length)
  | [], k, off, cells, h => by simp
  | v :: r, k, off, cells, h => by
    rw [List.zipIdx_cons, List.foldl_cons]
    have ih := fold_set r (k + 1) off (cells.setIfInBounds (off + k) v) (by simp at h ⊢; omega)
    rw [ih]
    have := list_seg_step cells.toList (off + k) v r (by simp at h ⊢; omega)
    simpa [Array.toList_setIfInBounds, Nat.add_assoc] using this
theorem fill_one (place : Nat → Option (Nat × Nat)) (cells : Array Value) (i : Nat) (v : Value) (r : List (Nat × Value)) {off size : Nat} (hp : place i = some (off, size)) (hs : v.cells.size = size) (hle : off + size ≤ cells.size) :
    Instr.fill place cells ((i, v) :: r) = Instr.fill place (cells.toList.take off ++ v.cells.toList ++ cells.toList.drop (off + size)).toArray r := by
  have hf := fold_set v.cells.toList 0 off cells (by simp; omega)
  have he : v.cells.zipIdx.foldl (fun cs (p : Value × Nat) => cs.setIfInBounds (off + p.2) p.1) cells = (cells.toList.take off ++ v.cells.toList ++ cells.toList.drop (off + size)).toArray := by
    apply Array.ext'
    rw [← Array.foldl_toList, Array.toList_zipIdx]
    simp only [Nat.add_zero] at hf
    rw [hf, Array.length_toList, hs]
  have hg : ¬ (v.cells.size ≠ size || decide (off + v.cells.size > cells.size)) = true := by simp; omega
  rw [Instr.fill, hp]
  dsimp only
  rw [if_neg (by simpa using hg)]
  exact congrArg (fun c => Instr.fill place c r) he
section
variable {P : Program} {G : Nat → Option D} {ρ : Rho} {w : World} {H : Nat → HO} {T : TypeId → Ty} {v : Operand → Value} {e : Operand → D} {o : Oper}
theorem fillD_rel {places : List (Nat × Nat)} {place : Nat → Option (Nat × Nat)} (hpl : ∀ i x, places[i]? = some x → place i = some x) : ∀ {ps : List (Nat × D)} {qs : List (Nat × Value)} {cells cs : List D} {us : List Value}, fillD places cells ps = some cs → RpL ρ w cells us →
    (ps.map (·.1) = qs.map (·.1)) → RpL ρ w (ps.map (·.2)) (qs.map (·.2)) → ∃ us' : List Value, Instr.fill place us.toArray qs = some us'.toArray ∧ RpL ρ w cs us'
  | [], qs, cells, cs, us, h, hr, hk, hv => by
    rw [fillD] at h; cases h
    have : qs = [] := by cases qs with | nil => rfl | cons a b => simp at hk
    subst this
    exact ⟨us, by rw [Instr.fill], hr⟩
  | (i, d) :: r, qs, cells, cs, us, h, hr, hk, hv => by
    cases qs with
    | nil => simp at hk
    | cons q qs =>
      obtain ⟨j, x⟩ := q
      simp only [List.map_cons, List.cons.injEq] at hk
      obtain ⟨rfl, hk⟩ := hk
      simp only [List.map_cons] at hv
      obtain ⟨h1, h2⟩ := RpL_cons'.1 hv
      rw [fillD] at h
      cases hp : places[i]? with
      | none => rw [hp] at h; cases h
      | some os =>
        obtain ⟨off, size⟩ := os
        rw [hp] at h
        dsimp only at h
        split at h
        · rename_i hcond
          obtain ⟨g1, g2, g3⟩ := hcond
          obtain ⟨c1, c2⟩ := Rp.cells g3 h1
          have hsz : x.cells.size = size := by rw [← Array.length_toList, c1.length, g1]
          have hul := hr.length
          rw [fill_one place us.toArray i x qs (hpl i _ hp) hsz (by simp; omega)]
          refine fillD_rel hpl h ?_ hk h2
          exact ((hr.take off).append c1).append (hr.drop (off + size))
        · cases h
theorem run_fields (hT : ∀ t, TyOK P t (T t)) : ∀ {fields : List Field}, (∀ f, f ∈ fields → (T f.type).k.known = true) → fields.mapM (fun f => (P.info? f.type).map fun i => (f.offset, i.size)) = some (fields.map fun f => (f.offset, (T f.type).size))
  | [], _ => rfl
  | f :: r, h => by
    obtain ⟨i, d, h1, h2, -⟩ := (hT f.type).info (h f (List.mem_cons_self ..))
    rw [List.mapM_cons, run_fields hT fun g hg => h g (List.mem_cons_of_mem _ hg)]
    simp [h1, h2]
theorem snd_build (hT : ∀ t, TyOK P t (T t)) (hR : Rel G ρ w H) {t : TypeId} {ps : Array (Nat × Operand)} (ho : o.op = .build t ps) (hp : ∀ p, p ∈ ps.toList → Rp ρ w (e p.2) (v p.2)) {fs : List (Nat × TypeId)} (hk : (T t).k = .struct fs) {cs : List D}
    (h : fillD (fs.map fun f => (f.1, (T f.2).size)) (T t).zero.cells (ps.toList.map fun p => (p.1, e p.2)) = some cs) (hfs : ∀ f, f ∈ fs → (T f.2).k.known = true) (hza : (T t).zero.cells.all D.one = true) : StepV P G v o ρ w H (.agg cs) [] := by
  obtain ⟨it, d, h1, -, -, h2, -, -, -, h3, h4⟩ := (hT t).info (by rw [hk]; rfl)
  rw [hk] at h4
  obtain ⟨fields, rfl, h5⟩ := h4
  obtain ⟨hz, -⟩ := Rp.cells hza (zero_rp (hT t) (by rw [hk]; rfl) ρ w)
  have hmp := run_fields hT (fields := fields.toList) (fun f hf => by
    refine hfs (f.offset, f.type) ?_
    rw [← h5]; exact List.mem_map.2 ⟨f, hf, rfl⟩)
  have hpls : (fields.toList.map fun f => (f.offset, (T f.type).size)) = fs.map fun f => (f.1, (T f.2).size) := by rw [← h5, List.map_map]; rfl
  rw [hpls] at hmp
  obtain ⟨us', g1, g2⟩ := fillD_rel (ρ := ρ) (w := w) (place := fun i => (fs.map fun f => (f.1, (T f.2).size)).toArray[i]?) (fun i x hx => by simpa using hx) (qs := ps.toList.map fun p => (p.1, v p.2)) h hz (by simp) (by
    rw [List.map_map, List.map_map]
    have := RpL_map (ρ := ρ) (w := w) (e := e) (v := v) (l := ps.toList.map (·.2)) (fun x hx => by
      obtain ⟨p, hp1, rfl⟩ := List.mem_map.1 hx
      exact hp p hp1)
    rw [List.map_map, List.map_map] at this
    exact this)
  have hrun := run_build (P := P) w t (ps.map fun p => (p.1, v p.2)) us'.toArray (by
    unfold Program.built
    rw [h1, h3]
    dsimp only
    rw [h2, hmp]
    dsimp only
    rw [Array.toList_map]
    have e1 : (T t).zero.cv.cells.toList.toArray = (T t).zero.cv.cells := by simp
    rw [e1] at g1
    exact g1)
  refine StepV.same hR (u := .agg us'.toArray) ?_ (by rw [Rp]; exact ⟨us', rfl, g2⟩)
  simp only [execOp, ho]
  have e2 : (ps.map fun (i, x) => (i, v x)) = ps.map fun p => (p.1, v p.2) := rfl
  rw [e2]
  simp [hrun]
/-- whole rows -/
theorem fill_rows {place : Nat → Option (Nat × Nat)} {sz : Nat} (hpl : ∀ i, place i = some (i * sz, sz)) : ∀ (vs : List Value) (done : List Value) (k : Nat) (rest : List Value), done.length = k * sz → (∀ x, x ∈ vs → x.cells.size = sz) → rest.length = vs.length * sz →
    Instr.fill place (done ++ rest).toArray ((List.range' k vs.length).zip vs) = some (done ++ vs.flatMap fun x => x.cells.toList).toArray
  | [], done, k, rest, h1, h2, h3 => by
    have : rest = [] := List.eq_nil_of_length_eq_zero (by simpa using h3)
    subst this
    simp [Instr.fill]
  | x :: r, done, k, rest, h1, h2, h3 => by
    have hx := h2 x (List.mem_cons_self ..)
    rw [List.length_cons, List.range'_succ, List.zip_cons_cons]
    rw [List.length_cons, Nat.succ_mul] at h3
    rw [fill_one place _ k x _ (hpl k) hx (by simp [h1]; omega)]
    have e1 : ((done ++ rest).toArray.toList.take (k * sz) ++ x.cells.toList ++ (done ++ rest).toArray.toList.drop (k * sz + sz)).toArray = ((done ++ x.cells.toList) ++ rest.drop sz).toArray := by
      congr 1
      rw [List.toList_toArray, ← h1, List.take_left, List.drop_append, List.drop_eq_nil_of_le (by omega)]
      simp
    rw [e1, fill_rows hpl r (done ++ x.cells.toList) (k + 1) (rest.drop sz) (by simp [h1, hx, Nat.succ_mul]) (fun y hy => h2 y (List.mem_cons_of_mem _ hy)) (by simp; omega)]
    simp
theorem snd_slice_lit (hT : ∀ t, TyOK P t (T t)) (hR : Rel G ρ w H) {t el : TypeId} {n : Nat} {ps : Array (Nat × Operand)} (ho : o.op = .buildSlice t n ps) (hp : ∀ p, p ∈ ps.toList → Rp ρ w (e p.2) (v p.2)) (hk : (T t).k = .slice el) (hel : (T el).k.known = true)
    (hr : ps.toList.map (·.1) = List.range n) (hall : ∀ p, p ∈ ps.toList → (e p.2).cells.all D.one = true ∧ (e p.2).cells.length = (T el).size ∧ (e p.2).size = (T el).size) (hmax : n * (T el).size ≤ 2 ^ 24) (hz : (T el).size ≠ 0) :
    StepV P G v o ρ w H (.slice (ps.toList.map fun p => e p.2) .full) [] := by
  obtain ⟨it, d, -, -, -, -, -, -, -, h3, h4⟩ := (hT t).info (by rw [hk]; rfl)
  rw [hk] at h4; simp only [KOK] at h4; subst h4
  obtain ⟨ie, d2, hi1, hi2, -, hi3, hi4, hi5, -⟩ := (hT el).info hel
  have hn : ps.toList.length = n := by have := congrArg List.length hr; simpa using this
  have hcz : (T el).zero.cv.cells.size = (T el).size := by
    rcases cv_size (T el).zero with h | h
    · rw [h, hi5]
    · rw [hi4] at h; cases h
  have hcs : ∀ x, x ∈ ps.toList.map (fun p => v p.2) → x.cells.size = (T el).size := fun x hx => by
    obtain ⟨p, hp1, rfl⟩ := List.mem_map.1 hx
    obtain ⟨g1, g2, -⟩ := hall p hp1
    obtain ⟨c1, -⟩ := Rp.cells g1 (hp p hp1)
    rw [← Array.length_toList, c1.length, g2]
  have hlist : ps.toList.map (fun p => (p.1, v p.2)) = (List.range' 0 (ps.toList.map (fun p => v p.2)).length).zip (ps.toList.map (fun p => v p.2)) := by
    rw [List.length_map, hn, ← List.range_eq_range', ← hr, List.zip_map']
  have hfill := fill_rows (place := fun i => some (i * (T el).size, (T el).size)) (fun _ => rfl) (ps.toList.map fun p => v p.2) [] 0 ((Array.range (n * (T el).size)).map ((T el).zero.cv.cells[· % (T el).zero.cv.cells.size]!)).toList (by simp) hcs (by simp [← hn])
  rw [List.nil_append, List.nil_append, ← hlist] at hfill
  generalize hcells : (ps.toList.map fun p => v p.2).flatMap (fun x => x.cells.toList) = cells at hfill
  obtain ⟨r1, r2⟩ := Ex.laid hR (.cells cells.toArray el)
  have hrun : (Instr.buildSlice t n (ps.map fun p => (p.1, v p.2))).run P w = .ok (.slice (some ⟨w.heap.size, 0, none⟩) n n) (w.alloc (.cells cells.toArray el)) := by
    have hz2 : (zeroValue el).run P w = .ok (T el).zero.cv w := run_zero (hT el) hel w
    have hmax' : ¬ (16777216 < n * (T el).size) := by omega
    have hf2 : Instr.fill (fun i => some (i * (T el).size, (T el).size)) ((Array.range (n * (T el).size)).map ((T el).zero.cv.cells[· % (T el).zero.cv.cells.size]!)) (ps.map fun p => (p.1, v p.2)).toList = some cells.toArray := by
      rw [Array.toList_map]; rw [Array.toArray_toList] at hfill; exact hfill
    by_cases hn0 : n * (T el).size = 0
    · have hn00 : n = 0 := (Nat.mul_eq_zero.1 hn0).resolve_right hz
      subst hn00
      have hps : ps = #[] := by
        have : ps.toList = [] := List.eq_nil_of_length_eq_zero hn
        exact Array.toList_eq_nil_iff.1 this
      subst hps
      have : cells = [] := by rw [← hcells]; rfl
      subst this
      simp [Instr.buildSlice, run_underlying h3, run_sizeOf (hT el) hel, Instr.fill, newRow, Array.range_zero']
    · simp only [Instr.buildSlice, Sem.run_bind, run_underlying h3, Result.andThen_ok, run_sizeOf (hT el) hel]
      simp only [show ¬ (n * (T el).size > 2 ^ 24) by omega, if_false, hn0, Sem.run_bind, hz2, Result.andThen_ok, Sem.run_pure, pure_bind]
      rw [hf2]
      simp [newRow]
  refine ⟨.value (.slice (some ⟨w.heap.size, 0, none⟩) n n), .slice (some ⟨w.heap.size, 0, none⟩) n n, ρ, w.alloc (.cells cells.toArray el), ?_, .inl rfl, ?_, r1, r2⟩
  · simp only [execOp, ho]
    have e2 : (ps.map fun (i, x) => (i, v x)) = ps.map fun p => (p.1, v p.2) := rfl
    rw [e2]
    simp only [Sem.run_bind, hrun, Result.andThen_ok, Sem.run_pure]
  · have hlm : n ≤ LMax := by
      have : n * 1 ≤ n * (T el).size := Nat.mul_le_mul_left _ (by omega)
      unfold LMax; omega
    rw [Rp]
    refine ⟨some ⟨w.heap.size, 0, none⟩, n, (T el).size, by rw [List.length_map, hn], by rw [List.length_map, hn]; omega, by simp only [maxLen]; unfold LMax at hlm; omega, by rw [List.length_map, hn]; exact hlm, fun x hx => ?_, by show n = _; rw [List.length_map, hn], fun _ => ⟨w.heap.size, 0, rfl, ?_⟩⟩
    · obtain ⟨p, hp1, rfl⟩ := List.mem_map.1 hx
      exact (hall p hp1).2.2
    · have hw : ∀ (j : Nat) (u : Value), cells[j]? = some u → (w.alloc (.cells cells.toArray el)).cell? ⟨w.heap.size, j, none⟩ = some u := fun j u hj => by rw [World.cell?_alloc_new]; simpa using hj
      have hone : ∀ u, u ∈ cells → u.oneCell' = true := fun u hu => by
        rw [← hcells] at hu
        obtain ⟨x, hx, hxu⟩ := List.mem_flatMap.1 hu
        obtain ⟨p, hp1, rfl⟩ := List.mem_map.1 hx
        exact (Rp.cells (hall p hp1).1 (hp p hp1)).2 u hxu
      have hst : ∀ o, Stab ρ w.heap.size o := fun o k hk => by rw [hR.fresh _ (Nat.le_refl _)] at hk; cases hk
      have key : ∀ (l : List (Nat × Operand)) (o : Nat), (∀ p, p ∈ l → p ∈ ps.toList) → (∀ (j : Nat) (u : Value), ((l.map fun p => v p.2).flatMap fun x => x.cells.toList)[j]? = some u → cells[o + j]? = some u) → RpE ρ (w.alloc (.cells cells.toArray el)) (l.map fun p => e p.2) w.heap.size o := by
        intro l
        induction l with
        | nil => intro o _ _; exact RpE_nil
        | cons p r ih =>
          intro o hm hc
          have hpm := hm p (List.mem_cons_self ..)
          obtain ⟨a1, a2, a3⟩ := hall p hpm
          obtain ⟨c1, -⟩ := Rp.cells a1 (hp p hpm)
          have hvl : (v p.2).cells.toList.length = (T el).size := by rw [c1.length, a2]
          rw [List.map_cons]
          refine RpE_cons.2 ⟨?_, ?_⟩
          · have hcell : ∀ (j : Nat) (u : Value), (v p.2).cells.toList[j]? = some u → cellAt ρ (w.alloc (.cells cells.toArray el)) w.heap.size (o + j) u := fun j u hj => by
              have := hc j u (by rw [List.map_cons, List.flatMap_cons, List.getElem?_append_left (List.getElem?_eq_some_iff.1 hj).1]; exact hj)
              exact ⟨hst _, hw _ _ this, hone u (List.mem_of_getElem? this)⟩
            have hgr := RpL.grow r2.grow _ _ c1
            generalize e p.2 = d at c1 hgr a1 a2 a3
            cases d
            case agg cs =>
              show RpC _ _ cs _ _
              exact RpC.of fun i x hi => by
                obtain ⟨u, e1, e2⟩ := hgr.get (show (D.agg cs).cells[i]? = some x from hi)
                exact ⟨u, hcell i u e1, e2⟩
            all_goals
              obtain ⟨u, e1, e2⟩ := hgr.get (i := 0) rfl
              exact ⟨u, hcell 0 u e1, e2⟩
          · refine ih _ (fun q hq => hm q (List.mem_cons_of_mem _ hq)) fun j u hj => ?_
            have := hc ((v p.2).cells.toList.length + j) u (by rw [List.map_cons, List.flatMap_cons, List.getElem?_append_right (by omega)]; simpa using hj)
            rw [hvl] at this
            rw [a3]
            rwa [show o + (T el).size + j = o + ((T el).size + j) by omega]
      exact key ps.toList 0 (fun p h => h) (fun j u hj => by rw [hcells] at hj; simpa using hj)
end
end Go.Proofs.YtgloldepdhgfaaaDoor
namespace Go.Proofs.YtgloldepdhgfaaaDoor
set_option linter.unusedSimpArgs false
set_option linter.unusedVariables false
open Go.RowKit Go.MapKept
section
variable {P : Program} {G : Nat → Option D} {ρ : Rho} {w : World} {H : Nat → HO} {T : TypeId → Ty} {v : Operand → Value} {e : Operand → D} {o : Oper}
theorem isIntK_rp {k : IntKind} {d : D} {u : Value} (h : isIntK k d = true) (hr : Rp ρ w d u) : ∃ n, d = .int k n ∧ u = .int k n := by
  cases d <;> first | (cases h; done) | skip
  case int j n =>
    have : j = k := by simpa [isIntK] using h
    subst this
    rw [Rp] at hr
    exact ⟨n, rfl, hr.1⟩
theorem findNow_rel {k kk : IntKind} {a : Int} : ∀ {es : List (D × D)} {l : List MapEntry} (i : Nat), (es.all fun p => isIntK k p.1) = true → RpL ρ w (es.map (·.1)) (l.map (·.key)) → RpL ρ w (es.map (·.2)) (l.map (·.val)) →
    match findD (.int k a) es with
    | some d => ∃ j u, Instr.findNow (.int kk) (.int k a) l i = some (some (j, u)) ∧ Rp ρ w d u
    | none => Instr.findNow (.int kk) (.int k a) l i = some none
  | [], l, i, _, h1, _ => by
    rw [List.map_nil, RpL_nil] at h1
    have : l = [] := List.map_eq_nil_iff.1 h1
    subst this
    rfl
  | p :: es, l, i, h, h1, h2 => by
    cases l with
    | nil => rw [List.map_cons, RpL_cons] at h1; obtain ⟨_, _, h1, -⟩ := h1; cases h1
    | cons m l =>
      rw [List.all_cons, Bool.and_eq_true] at h
      simp only [List.map_cons] at h1 h2
      obtain ⟨g1, g2⟩ := RpL_cons'.1 h1
      obtain ⟨g3, g4⟩ := RpL_cons'.1 h2
      obtain ⟨n, e1, e2⟩ := isIntK_rp h.1 g1
      have ih := findNow_rel (k := k) (kk := kk) (a := a) (i + 1) h.2 g2 g4
      rw [findD, e1]
      by_cases han : a = n
      · subst han
        simp only [keyEq, decide_true, Bool.and_self, if_true]
        exact ⟨i, m.val, by rw [Instr.findNow, e2]; simp [Instr.sameNow], g3⟩
      · have hk : keyEq (.int k a) (.int k n) = false := by simp [keyEq, han]
        rw [hk]
        simp only [Bool.false_eq_true, if_false]
        have hs : Instr.findNow (.int kk) (.int k a) (m :: l) i = Instr.findNow (.int kk) (.int k a) l (i + 1) := by
          rw [Instr.findNow, e2]
          have : (a == n) = false := by simpa using han
          simp [Instr.sameNow, this]
        rw [hs]
        exact ih
theorem run_getMap {b : Nat} {ents : Array MapEntry} {clock : Nat} (h : w.heap[b]? = some (.map ents clock)) : (getObj b).run P w = .ok (.map ents clock) w := by simp [getObj, Sem.run, h]
theorem run_setMap {b : Nat} {ents : Array MapEntry} {clock : Nat} (h : w.heap[b]? = some (.map ents clock)) (o : Obj) : (setObj b o).run P w = .ok () { w with heap := w.heap.setIfInBounds b o } := by simp [setObj, Sem.run, h]
theorem run_checkKey_int {kt : TypeId} {kk k : IntKind} {a : Int} (h : P.underlying kt = some (.int kk)) (b : Bool) (n : Nat) : (Instr.checkKey b (n + 1) kt (.int k a)).run P w = .ok () w := by
  simp only [Instr.checkKey, Sem.run_bind, run_underlying h, Result.andThen_ok]
  rfl
theorem lookup_core (hT : ∀ t, TyOK P t (T t)) (hR : Rel G ρ w H) {t kt el : TypeId} {m ix : Operand} {ok : Bool} (ho : o.op = .lookup t m ix ok) (hix : Rp ρ w (e ix) (v ix)) {kk k : IntKind} {a : Int} (hk : (T t).k = .map kt el) (hkt : (T kt).k = .int kk)
    (hel : (T el).k.known = true) {es : List (D × D)} {b : Nat} {ents : Array MapEntry} {clock : Nat} (hv : v m = .map (some b)) (hh : w.heap[b]? = some (.map ents clock)) (h1 : RpL ρ w (es.map (·.1)) (ents.toList.map (·.key))) (h2 : RpL ρ w (es.map (·.2)) (ents.toList.map (·.val))) (hei : e ix = .int k a) (hall : (es.all fun p => isIntK k p.1) = true) :
    StepV P G v o ρ w H (match findD (.int k a) es with | some d => if ok then .tuple [d, .bool true] else d | none => if ok then .tuple [(T el).zero, .bool false] else (T el).zero) [] := by
  rw [hei, Rp] at hix
  obtain ⟨it, d, -, -, -, -, -, -, -, g1, g2⟩ := (hT t).info (by rw [hk]; rfl)
  rw [hk] at g2; simp only [KOK] at g2; subst g2
  obtain ⟨it2, d2, -, -, -, -, -, -, -, g3, g4⟩ := (hT kt).info (by rw [hkt]; rfl)
  rw [hkt] at g4; simp only [KOK] at g4; subst g4
  have hf := findNow_rel (ρ := ρ) (w := w) (kk := kk) (a := a) 0 hall h1 h2
  have hb : ∀ b : Bool, Rp ρ w (.bool b) (.bool b) := fun b => by rw [Rp]
  have hgo : ∀ (r : Option (Nat × Value)), Instr.findNow (.int kk) (.int k a) ents.toList 0 = some r → (Instr.lookup t (v m) (v ix) ok).run P w = (match r with | some (_, u) => .ok (if ok then .tuple #[u, .bool true] else u) w | none => .ok (if ok then .tuple #[(T el).zero.cv, .bool false] else (T el).zero.cv) w) := fun r hr => by
    have hck := run_checkKey_int (P := P) (w := w) (k := k) (a := a) g3 ents.isEmpty 9999
    simp only [Nat.reduceAdd] at hck
    simp only [Instr.lookup, Sem.run_bind, run_underlying g1, hv, hix.1, Result.andThen_ok, run_getMap hh, Sem.run_pure, hck, Instr.findKey, run_underlying g3, hr]
    cases r with
    | none => simp [run_zero (hT el) hel]
    | some p => rfl
  cases hfd : findD (.int k a) es with
  | some d =>
    rw [hfd] at hf
    obtain ⟨j, u, e1, e2⟩ := hf
    have hrun := hgo _ e1
    dsimp only at hrun ⊢
    refine StepV.same hR (by simp only [execOp, ho, Sem.run_bind, hrun, Result.andThen_ok, Sem.run_pure]; rfl) ?_
    cases ok
    · simpa using e2
    · simp only [if_true]; rw [Rp]; exact ⟨[u, .bool true], rfl, RpL_cons'.2 ⟨e2, RpL_cons'.2 ⟨hb _, RpL_nil.2 rfl⟩⟩⟩
  | none =>
    rw [hfd] at hf
    have hrun := hgo _ hf
    dsimp only at hrun ⊢
    refine StepV.same hR (by simp only [execOp, ho, Sem.run_bind, hrun, Result.andThen_ok, Sem.run_pure]; rfl) ?_
    have hz := zero_rp (hT el) hel ρ w
    cases ok
    · simpa using hz
    · simp only [if_true]; rw [Rp]; exact ⟨[(T el).zero.cv, .bool false], rfl, RpL_cons'.2 ⟨hz, RpL_cons'.2 ⟨hb _, RpL_nil.2 rfl⟩⟩⟩
theorem snd_lookup (hT : ∀ t, TyOK P t (T t)) (hR : Rel G ρ w H) {t kt el : TypeId} {m ix : Operand} {ok : Bool} (ho : o.op = .lookup t m ix ok) (hm : Rp ρ w (e m) (v m)) (hix : Rp ρ w (e ix) (v ix)) {kk k : IntKind} {a : Int} (hk : (T t).k = .map kt el) (hkt : (T kt).k = .int kk)
    (hel : (T el).k.known = true) {i : Nat} {es : List (D × D)} (hem : e m = .map i) (hei : e ix = .int k a) (hi : H i = .mp es) (hall : (es.all fun p => isIntK k p.1) = true) :
    StepV P G v o ρ w H (match findD (.int k a) es with | some d => if ok then .tuple [d, .bool true] else d | none => if ok then .tuple [(T el).zero, .bool false] else (T el).zero) [] := by
  rw [hem, Rp] at hm
  obtain ⟨b, f, hnm, hv⟩ := hm
  have hobj := hR.obj i b f hnm
  rw [hi] at hobj
  obtain ⟨-, ents, clock, hh, h1, h2, -⟩ := hobj
  exact lookup_core hT hR ho hix hk hkt hel hv hh h1 h2 hei hall
theorem snd_lookupc (hT : ∀ t, TyOK P t (T t)) (hR : Rel G ρ w H) {t kt el : TypeId} {m ix : Operand} {ok : Bool} (ho : o.op = .lookup t m ix ok) (hm : Rp ρ w (e m) (v m)) (hix : Rp ρ w (e ix) (v ix)) {kk k : IntKind} {a : Int} (hk : (T t).k = .map kt el) (hkt : (T kt).k = .int kk)
    (hel : (T el).k.known = true) {ks vs : List D} (hem : e m = .mapc ks vs) (hei : e ix = .int k a) (hl : ks.length = vs.length) (hall : ((ks.zip vs).all fun p => isIntK k p.1) = true) :
    StepV P G v o ρ w H (match findD (.int k a) (ks.zip vs) with | some d => if ok then .tuple [d, .bool true] else d | none => if ok then .tuple [(T el).zero, .bool false] else (T el).zero) [] := by
  rw [hem, Rp] at hm
  obtain ⟨b, ents, clock, hv, -, hh, h1, h2⟩ := hm
  exact lookup_core hT hR ho hix hk hkt hel hv hh (by rw [List.map_fst_zip (by omega)]; exact h1) (by rw [List.map_snd_zip (by omega)]; exact h2) hei hall
theorem snd_makeMap (hR : Rel G ρ w H) {t : TypeId} (ho : o.op = .makeMap t none) {n : Nat} (hn : H n = .free) : StepV P G v o ρ w H (.map n) [(n, .mp [])] := by
  obtain ⟨h1, h2⟩ := Ex.lay hR hn (o := .map #[] 0) (x := .mp []) rfl (fun ρ' g hc => ⟨hc, #[], 0, heap_new w _, RpL_nil.2 rfl, RpL_nil.2 rfl, ⟨by simp, by simp, by simp⟩, Nat.zero_le _⟩)
  refine ⟨.value (.map (some w.heap.size)), .map (some w.heap.size), _, _, ?_, .inl rfl, ?_, h1, h2⟩
  · simp [execOp, ho, Instr.makeMap]
  · rw [Rp]; exact ⟨w.heap.size, 0, by simp [Rho.lay], rfl⟩
theorem keys_ne {k : IntKind} {a : Int} : ∀ {es : List (D × D)} {l : List Value}, (es.all fun p => isIntK k p.1) = true → findD (.int k a) es = none → RpL ρ w (es.map (·.1)) l → ¬ Value.int k a ∈ l
  | [], l, _, _, h => by rw [List.map_nil, RpL_nil] at h; subst h; simp
  | p :: es, l, ha, hf, h => by
    rw [List.map_cons, RpL_cons] at h
    obtain ⟨v, us, rfl, h1, h2⟩ := h
    rw [List.all_cons, Bool.and_eq_true] at ha
    obtain ⟨n, e1, e2⟩ := isIntK_rp ha.1 h1
    rw [findD, e1] at hf
    have hne : a ≠ n := fun e => by subst e; simp [keyEq] at hf
    have hk : keyEq (.int k a) (.int k n) = false := by simp [keyEq, hne]
    rw [hk] at hf
    simp only [Bool.false_eq_true, if_false] at hf
    intro hm
    rcases List.mem_cons.1 hm with h | h
    · rw [e2] at h
      simp only [Value.int.injEq, true_and] at h
      exact hne h
    · exact keys_ne ha.2 hf h2 h
theorem stamped_push {ents : Array MapEntry} {clock : Nat} {key : Value} (u : Value) (h : Stamped ents clock) (hk : ¬ key ∈ ents.toList.map (·.key)) : Stamped (ents.push { key := key, val := u, born := clock }) (clock + 1) := by
  obtain ⟨h1, h2, h3⟩ := h
  refine ⟨fun x hx => ?_, ?_, ?_⟩
  · rw [Array.toList_push] at hx
    rcases List.mem_append.1 hx with h | h
    · have := h1 x h; omega
    · rw [List.mem_singleton.1 h]; exact Nat.lt_succ_self _
  · rw [Array.toList_push, List.map_append]
    refine List.nodup_append.2 ⟨h2, by simp, fun a ha b hb => ?_⟩
    simp only [List.map_cons, List.map_nil, List.mem_singleton] at hb
    subst hb
    obtain ⟨x, hx, rfl⟩ := List.mem_map.1 ha
    have := h1 x hx
    omega
  · rw [Array.toList_push, List.map_append]
    refine List.nodup_append.2 ⟨h3, by simp, fun a ha b hb => ?_⟩
    simp only [List.map_cons, List.map_nil, List.mem_singleton] at hb
    subst hb
    exact fun e => hk (e ▸ ha)
theorem snd_insert (hT : ∀ t, TyOK P t (T t)) (hR : Rel G ρ w H) {t kt el : TypeId} {m ix x : Operand} (ho : o.op = .mapUpdate t m ix x ∨ o.op = .insert t m ix x) (hm : Rp ρ w (e m) (v m)) (hix : Rp ρ w (e ix) (v ix)) (hx : Rp ρ w (e x) (v x)) {kk k : IntKind} {a : Int} (hk : (T t).k = .map kt el) (hkt : (T kt).k = .int kk)
    {i : Nat} {es : List (D × D)} (hem : e m = .map i) (hei : e ix = .int k a) (hi : H i = .mp es) (hall : (es.all fun p => isIntK k p.1) = true) (hno : findD (.int k a) es = none) (hlt' : es.length < LMax) :
    StepV P G v o ρ w H .junk [(i, .mp (es ++ [(.int k a, e x)]))] := by
  rw [hem, Rp] at hm
  obtain ⟨b, f, hnm, hv⟩ := hm
  have hix' := hix
  rw [hei, Rp] at hix
  have hobj := hR.obj i b f hnm
  rw [hi] at hobj
  obtain ⟨hc0, ents, clock, hh, h1, h2, ⟨hst1, hst2, hst3⟩, hlm⟩ := hobj
  obtain ⟨it, d, -, -, -, -, -, -, -, g1, g2⟩ := (hT t).info (by rw [hk]; rfl)
  rw [hk] at g2; simp only [KOK] at g2; subst g2
  obtain ⟨it2, d2, -, -, -, -, -, -, -, g3, g4⟩ := (hT kt).info (by rw [hkt]; rfl)
  rw [hkt] at g4; simp only [KOK] at g4; subst g4
  have hf := findNow_rel (ρ := ρ) (w := w) (kk := kk) (a := a) 0 hall h1 h2
  rw [hno] at hf
  dsimp only at hf
  have hlt : b < w.heap.size := (Array.getElem?_eq_some_iff.1 hh).1
  obtain ⟨r1, r2⟩ := Ex.write hR hnm (by rw [hi]; rfl) (w' := { w with heap := w.heap.setIfInBounds b (.map (ents.push { key := .int k a, val := v x, born := clock }) (clock + 1)) }) rfl rfl rfl (by simp)
    (fun k hk => by simp [Array.getElem?_setIfInBounds_ne (Ne.symm hk)]) hc0 (fun vs ty fz hq => by rw [hh] at hq; cases hq)
    (x := .mp (es ++ [(.int k a, e x)])) rfl (fun g => ⟨hc0, ents.push { key := .int k a, val := v x, born := clock }, clock + 1, by simp [hlt], by
      simp only [List.map_append, Array.toList_push, List.map_cons, List.map_nil]
      refine (RpL.grow g _ _ h1).append (RpL_cons'.2 ⟨Rp.grow g _ _ ?_, RpL_nil.2 rfl⟩)
      rw [Rp]; exact ⟨rfl, hix.2⟩, by
      simp only [List.map_append, Array.toList_push, List.map_cons, List.map_nil]
      exact (RpL.grow g _ _ h2).append (RpL_cons'.2 ⟨Rp.grow g _ _ hx, RpL_nil.2 rfl⟩), stamped_push (v x) ⟨hst1, hst2, hst3⟩ (keys_ne hall hno h1), by simp; omega⟩)
  refine ⟨.skip, undef, ρ, _, ?_, .inr ⟨rfl, rfl⟩, by rw [Rp]; trivial, r1, r2⟩
  have hrun : (Instr.mapUpdate t (v m) (v ix) (v x)).run P w = .ok () { w with heap := w.heap.setIfInBounds b (.map (ents.push { key := .int k a, val := v x, born := clock }) (clock + 1)) } := by
    have hck := run_checkKey_int (P := P) (w := w) (k := k) (a := a) g3 false 9999
    simp only [Nat.reduceAdd] at hck
    simp [Instr.mapUpdate, run_underlying g1, hv, hix.1, run_getMap hh, run_setMap hh, hck, run_underlying g3, Instr.findKey, hf]
  rcases ho with ho | ho <;> simp [execOp, ho, hrun]
theorem RpE.part {sz : Nat} {els : List D} {b off : Nat} (h : RpE ρ w els b off) (hs : ∀ x, x ∈ els → x.size = sz) (l n : Nat) : RpE ρ w ((els.take n).drop l) b (off + l * sz) := by
  refine RpE.of (sz := sz) (fun x hx => hs x (List.mem_of_mem_take (List.mem_of_mem_drop hx))) fun i d hi => ?_
  rw [List.getElem?_drop] at hi
  have hlt : l + i < n := by have := (List.getElem?_eq_some_iff.1 hi).1; simp at this; omega
  rw [List.getElem?_take_of_lt hlt] at hi
  have := h.get hs hi
  rwa [show off + (l + i) * sz = off + l * sz + i * sz by rw [Nat.add_mul]; omega] at this
theorem bnd_run {x : Option Operand} (hx : ∀ y, x = some y → Rp ρ w (e y) (v y)) {r : Option Nat} (h : bndD e x = some r) : (x.map v = none ∧ r = none) ∨ ∃ k n, x.map v = some (.int k n) ∧ 0 ≤ n ∧ r = some n.toNat := by
  cases x with
  | none => simp [bndD] at h; exact .inl ⟨rfl, h.symm⟩
  | some y =>
    have hy := hx y rfl
    simp only [bndD] at h
    split at h
    · rename_i k n hey
      split at h
      · rename_i h0
        cases h
        rw [hey, Rp] at hy
        exact .inr ⟨k, n, by simp [hy.1], h0, rfl⟩
      · cases h
    · cases h
theorem snd_slice (hT : ∀ t, TyOK P t (T t)) (hR : Rel G ρ w H) {t el : TypeId} {x : Operand} {lo hi mx : Option Operand} (ho : o.op = .slice t x lo hi mx) (hx : Rp ρ w (e x) (v x)) (hlo : ∀ y, lo = some y → Rp ρ w (e y) (v y)) (hhi : ∀ y, hi = some y → Rp ρ w (e y) (v y)) (hmx : ∀ y, mx = some y → Rp ρ w (e y) (v y))
    (hk : (T t).k = .slice el) (hel : (T el).k.known = true) {els : List D} {cx : Cp} (hex : e x = .slice els cx) {l h m : Option Nat} (hl : bndD e lo = some l) (hh : bndD e hi = some h) (hm : bndD e mx = some m)
    (h1 : l.getD 0 ≤ h.getD els.length) (h2 : h.getD els.length ≤ els.length) (h3 : ∀ n, m = some n → h.isSome = true ∧ h = some n) (hsz : ∀ d, d ∈ els → d.size = (T el).size) :
    StepV P G v o ρ w H (.slice ((els.take (h.getD els.length)).drop (l.getD 0)) (if m.isSome || (cx.isFull && decide (h = some 0) && els.isEmpty) then .full else .any)) [] := by
  rw [hex, Rp] at hx
  obtain ⟨A, cap, sz, hv, hle, hcm, hll, hs, hcapok, hE⟩ := hx
  have hfl : (cx.isFull && decide (h = some 0) && els.isEmpty) = true → cap = 0 ∧ els.length = 0 := fun hb => by
    simp only [Bool.and_eq_true, List.isEmpty_iff] at hb
    cases cx <;> simp [Cp.isFull] at hb
    have : cap = els.length := hcapok
    rw [hb.2] at this
    exact ⟨by simpa using this, by rw [hb.2]; rfl⟩
  obtain ⟨it, d, -, -, -, -, -, -, -, g1, g2⟩ := (hT t).info (by rw [hk]; rfl)
  rw [hk] at g2; simp only [KOK] at g2; subst g2
  have hbm := bnd_run hmx hm
  have hbh := bnd_run hhi hh
  have hbl := bnd_run hlo hl
  -- the bounds, as numbers
  have hM : ∃ M, h.getD els.length ≤ M ∧ M ≤ cap ∧ (m.isSome = true → M = h.getD els.length) ∧ (Instr.sliceBounds true els.length cap (lo.map v) (hi.map v) (mx.map v)).run P w = .ok (l.getD 0, h.getD els.length, M) w := by
    rcases hbm with ⟨e1, rfl⟩ | ⟨k1, n1, e1, p1, rfl⟩
    · rcases hbh with ⟨e2, rfl⟩ | ⟨k2, n2, e2, p2, rfl⟩
      · rcases hbl with ⟨e3, rfl⟩ | ⟨k3, n3, e3, p3, rfl⟩
        · exact ⟨cap, by simpa using hle, Nat.le_refl _, by simp, by simp [Instr.sliceBounds, e1, e2, e3]⟩
        · have : 0 ≤ n3 ∧ n3 ≤ (els.length : Int) := ⟨p3, by simp at h1; omega⟩
          exact ⟨cap, by simpa using hle, Nat.le_refl _, by simp, by simp [Instr.sliceBounds, e1, e2, e3, Instr.sliceBound, asIntOf, this]⟩
      · simp only [Option.getD_some] at h1 h2 ⊢
        have q2 : 0 ≤ n2 ∧ n2 ≤ (cap : Int) := ⟨p2, by omega⟩
        rcases hbl with ⟨e3, rfl⟩ | ⟨k3, n3, e3, p3, rfl⟩
        · exact ⟨cap, by omega, Nat.le_refl _, by simp, by simp [Instr.sliceBounds, e1, e2, e3, Instr.sliceBound, asIntOf, q2]⟩
        · simp only [Option.getD_some] at h1
          have : 0 ≤ n3 ∧ n3 ≤ max n2 0 := ⟨p3, by omega⟩
          exact ⟨cap, by omega, Nat.le_refl _, by simp, by simp [Instr.sliceBounds, e1, e2, e3, Instr.sliceBound, asIntOf, this, q2]⟩
    · obtain ⟨hs1, hs2⟩ := h3 _ rfl
      rcases hbh with ⟨e2, rfl⟩ | ⟨k2, n2, e2, p2, rfl⟩
      · cases hs1
      · simp only [Option.some.injEq] at hs2
        simp only [Option.getD_some] at h1 h2 ⊢
        have q1 : 0 ≤ n1 ∧ n1 ≤ (cap : Int) := ⟨p1, by omega⟩
        have q2 : 0 ≤ n2 ∧ n2 ≤ max n1 0 := ⟨p2, by omega⟩
        rcases hbl with ⟨e3, rfl⟩ | ⟨k3, n3, e3, p3, rfl⟩
        · exact ⟨n1.toNat, by omega, by omega, fun _ => by omega, by simp [Instr.sliceBounds, e1, e2, e3, Instr.sliceBound, asIntOf, q1, q2]⟩
        · simp only [Option.getD_some] at h1
          have : 0 ≤ n3 ∧ n3 ≤ max n2 0 := ⟨p3, by omega⟩
          exact ⟨n1.toNat, by omega, by omega, fun _ => by omega, by simp [Instr.sliceBounds, e1, e2, e3, Instr.sliceBound, asIntOf, q1, q2, this]⟩
  obtain ⟨M, m1, m2, m3, hrunB⟩ := hM
  generalize l.getD 0 = L at *
  generalize h.getD els.length = Hh at *
  have hlen : ((els.take Hh).drop L).length = Hh - L := by simp; omega
  have hrun : (Instr.sliceAt t (v x) (lo.map v) (hi.map v) (mx.map v)).run P w = .ok (.slice (if M = L then A else A.map (·.add (L * (T el).size))) (Hh - L) (M - L)) w := by
    simp [Instr.sliceAt, run_underlying g1, hv, Instr.slice, hrunB, run_sizeOf (hT el) hel]
  refine StepV.same hR (u := .slice (if M = L then A else A.map (·.add (L * (T el).size))) (Hh - L) (M - L)) (by simp [execOp, ho, hrun]) ?_
  rw [Rp]
  refine ⟨_, M - L, sz, by rw [hlen], by rw [hlen]; omega, by omega, by rw [hlen]; omega, fun d hd => hs d (List.mem_of_mem_take (List.mem_of_mem_drop hd)), ?_, fun hne => ?_⟩
  · cases hmi : m.isSome with
    | true => simp only [Bool.true_or, if_true]; show M - L = _; rw [hlen, m3 hmi]
    | false =>
      cases hbf : (cx.isFull && decide (h = some 0) && els.isEmpty) with
      | false => simp only [Bool.false_or, Bool.false_eq_true, if_false]; trivial
      | true =>
        simp only [Bool.or_true, if_true]
        obtain ⟨q1, q2⟩ := hfl hbf
        show M - L = _
        rw [hlen]
        omega
  · have hpos : 0 < Hh - L := by rw [← hlen]; exact List.length_pos_iff.2 hne
    have hels : els ≠ [] := fun e => by subst e; simp at hne
    obtain ⟨b, off, rfl, hEl⟩ := hE hels
    have hML : M ≠ L := by omega
    refine ⟨b, off + L * (T el).size, by simp [hML, addr_add], ?_⟩
    exact RpE.part hEl hsz L Hh
end
end Go.Proofs.YtgloldepdhgfaaaDoor
namespace Go.Proofs.YtgloldepdhgfaaaDoor
set_option linter.unusedSimpArgs false
set_option linter.unusedVariables false
open Go.RowKit Go.MapKept
theorem RpL.elem {ρ : Rho} {w : World} {sz : Nat} : ∀ {els : List D} {us : List Value}, RpL ρ w (els.flatMap D.cells) us → (∀ e, e ∈ els → e.size = sz) → ∀ {k : Nat} {d : D}, els[k]? = some d → RpL ρ w d.cells ((us.drop (k * sz)).take sz)
  | [], us, _, _, k, d, hk => by simp at hk
  | e :: r, us, h, hs, k, d, hk => by
    have hl : e.cells.length = sz := by rw [← hs e (List.mem_cons_self ..)]; cases e <;> rfl
    rw [List.flatMap_cons] at h
    have h1 := h.take e.cells.length
    have h2 := h.drop e.cells.length
    rw [List.take_left] at h1
    rw [List.drop_left] at h2
    cases k with
    | zero => simp at hk; subst hk; rw [← hl]; simpa using h1
    | succ k =>
      have := RpL.elem h2 (fun x hx => hs x (List.mem_cons_of_mem _ hx)) (k := k) (d := d) (by simpa using hk)
      rw [List.drop_drop, hl] at this
      rw [show (k + 1) * sz = sz + k * sz by rw [Nat.succ_mul]; omega]
      exact this
theorem cells_len (d : D) : d.cells.length = d.size := by cases d <;> rfl
theorem flat_len {sz : Nat} : ∀ {els : List D}, (∀ e, e ∈ els → e.size = sz) → (els.flatMap D.cells).length = els.length * sz
  | [], _ => by simp
  | e :: r, h => by
    rw [List.flatMap_cons, List.length_append, cells_len, h e (List.mem_cons_self ..), flat_len fun x hx => h x (List.mem_cons_of_mem _ hx), List.length_cons, Nat.succ_mul]; omega
theorem flat_set {sz : Nat} : ∀ {els : List D} {k : Nat} {d : D}, (∀ e, e ∈ els → e.size = sz) → k < els.length → (els.set k d).flatMap D.cells = (els.flatMap D.cells).take (k * sz) ++ d.cells ++ (els.flatMap D.cells).drop ((k + 1) * sz)
  | [], k, d, _, h => by simp at h
  | e :: r, k, d, hs, h => by
    have hl : e.cells.length = sz := by rw [cells_len]; exact hs e (List.mem_cons_self ..)
    cases k with
    | zero =>
      rw [List.set_cons_zero, List.flatMap_cons, List.flatMap_cons, Nat.zero_add, Nat.one_mul, ← hl, List.drop_left]
      simp
    | succ k =>
      rw [List.set_cons_succ, List.flatMap_cons, List.flatMap_cons, flat_set (fun x hx => hs x (List.mem_cons_of_mem _ hx)) (by simpa using h)]
      have e1 : (k + 1) * sz = e.cells.length + k * sz := by rw [Nat.succ_mul, hl]; omega
      have e2 : (k + 1 + 1) * sz = e.cells.length + (k + 1) * sz := by rw [Nat.succ_mul (k + 1), hl]; omega
      rw [e2, List.drop_length_add_append, e1, List.take_length_add_append]
      simp only [List.append_assoc]
theorem flat_get {sz : Nat} : ∀ {els : List D} {k : Nat} {d : D}, (∀ e, e ∈ els → e.size = sz) → els[k]? = some d → d.cells = ((els.flatMap D.cells).drop (k * sz)).take sz
  | [], k, d, _, h => by simp at h
  | e :: r, k, d, hs, h => by
    have hl : e.cells.length = sz := by rw [cells_len]; exact hs e (List.mem_cons_self ..)
    cases k with
    | zero => simp at h; subst h; rw [List.flatMap_cons, Nat.zero_mul, List.drop_zero, ← hl, List.take_left]
    | succ k =>
      rw [List.flatMap_cons, show (k + 1) * sz = e.cells.length + k * sz by rw [Nat.succ_mul, hl]; omega, List.drop_length_add_append]
      exact flat_get (fun x hx => hs x (List.mem_cons_of_mem _ hx)) (by simpa using h)
section
variable {P : Program} {G : Nat → Option D} {ρ : Rho} {w : World} {H : Nat → HO}
/-- a block more is the call's own, with a number -/
def Rho.layF (ρ : Rho) (w : World) (n f : Nat) : Rho := ⟨fun b => if b = w.heap.size then some 0 else ρ.c b, fun i => if i = n then some (w.heap.size, f) else ρ.nm i⟩
theorem Grow.layF (hR : Rel G ρ w H) {n f : Nat} (hn : H n = .free) (o : Obj) : Grow ρ w (ρ.layF w n f) (w.alloc o) := by
  have hne : ∀ b, b < w.heap.size → (ρ.layF w n f).c b = ρ.c b := fun b hb => by simp [Rho.layF, Nat.ne_of_lt hb]
  refine ⟨rfl, rfl, rfl, by simp, fun b hb h => ⟨(hne b hb).trans h, Below.heap_alloc w o b hb⟩, fun b k hb h => ⟨.inl ⟨k, (hne b hb).trans h, Nat.le_refl _⟩, fun vs ty fz hh => ⟨vs, (Below.heap_alloc w o b hb).trans hh, rfl, fun _ _ => rfl⟩⟩, fun i x hx => ?_⟩
  by_cases hi : i = n
  · subst hi; rw [hR.free i hn] at hx; cases hx
  · simp [Rho.layF, hi, hx]
theorem Ex.layF (hR : Rel G ρ w H) {n f : Nat} (hn : H n = .free) {o : Obj} {x : HO} (hl : x.live = true) (hx : ∀ ρ', Grow ρ w ρ' (w.alloc o) → ρ'.c w.heap.size = some 0 → ObjAt ρ' (w.alloc o) w.heap.size f x) :
    Rel G (ρ.layF w n f) (w.alloc o) (setH H n x) ∧ Ex ρ w H (ρ.layF w n f) (w.alloc o) (setH H n x) := by
  have g := Grow.layF (f := f) hR hn o
  have hne : ∀ b, b < w.heap.size → (ρ.layF w n f).c b = ρ.c b := fun b hb => by simp [Rho.layF, Nat.ne_of_lt hb]
  have hnm : ∀ i, i ≠ n → (ρ.layF w n f).nm i = ρ.nm i := fun i hi => by simp [Rho.layF, hi]
  have hn0 : (ρ.layF w n f).nm n = some (w.heap.size, f) := by simp [Rho.layF]
  have hold : ∀ i b f', i ≠ n → (ρ.layF w n f).nm i = some (b, f') → (H i).live = true → b < w.heap.size := fun i b f' hi h1 h2 => by
    rw [hnm i hi] at h1
    exact (hR.obj i b f' h1).lt h2
  refine ⟨⟨fun i hi => ?_, fun b hb => ?_, fun i b f' h1 => ?_, fun i j b f' g' h1 h2 h3 h4 => ?_, fun gg d hd => (hR.glob gg d hd).grow g⟩, g, fun b hb hnl => ⟨Below.heap_alloc w o b hb, hne b hb⟩, fun b hlv hb => ?_⟩
  · by_cases h : i = n
    · subst h; rw [setH_same] at hi; subst hi; cases hl
    · rw [setH_ne H x h] at hi; rw [hnm i h]; exact hR.free i hi
  · have : b ≠ w.heap.size := by simp at hb; omega
    have h2 := hR.fresh b (by simp at hb; omega)
    simp [Rho.layF, this, h2]
  · by_cases h : i = n
    · subst h
      rw [setH_same]
      rw [hn0] at h1; cases h1
      exact hx _ g (by simp [Rho.layF])
    · rw [setH_ne H x h]
      have h2 := hR.obj i b f' (by rw [← hnm i h]; exact h1)
      cases hlv : (H i).live with
      | false =>
        revert hlv h2; generalize H i = ho; intro h2 hlv
        cases ho <;> first | exact trivial | cases hlv
      | true => exact h2.keep g (Below.heap_alloc w o b (h2.lt hlv)) (hne b (h2.lt hlv))
  · by_cases hi : i = n
    · by_cases hj : j = n
      · rw [hi, hj]
      · exfalso
        subst hi
        rw [hn0] at h1; cases h1
        rw [setH_ne H x hj] at h4
        have := hold j _ _ hj h2 h4
        omega
    · by_cases hj : j = n
      · exfalso
        subst hj
        rw [hn0] at h2; cases h2
        rw [setH_ne H x hi] at h3
        have := hold i _ _ hi h1 h3
        omega
      · rw [setH_ne H x hi] at h3
        rw [setH_ne H x hj] at h4
        exact hR.inj i j b f' g' (by rw [← hnm i hi]; exact h1) (by rw [← hnm j hj]; exact h2) h3 h4
  · obtain ⟨i, f', h1, h2⟩ := hlv
    by_cases hi : i = n
    · subst hi; rw [hn0] at h1; cases h1; omega
    · rw [setH_ne H x hi] at h2
      exact ⟨i, f', by rw [← hnm i hi]; exact h1, h2⟩
/-- a name without a block -/
theorem Ex.nameX (hR : Rel G ρ w H) {nx : Nat} (hn : H nx = .free) {x : HO} (hl : x.live = true) : Rel G ρ w (setH H nx x) ∧ Ex ρ w H ρ w (setH H nx x) := by
  have h0 := hR.free nx hn
  have hne : ∀ i y, ρ.nm i = some y → i ≠ nx := fun i y h e => by subst e; rw [h0] at h; cases h
  refine ⟨⟨fun i hi => ?_, hR.fresh, fun i b f h => ?_, fun i j b f g h1 h2 h3 h4 => ?_, hR.glob⟩, Grow.refl _ _, fun _ _ _ => ⟨rfl, rfl⟩, fun b ⟨i, f, h1, h2⟩ _ => ⟨i, f, h1, by rwa [setH_ne _ _ (hne i _ h1)] at h2⟩⟩
  · by_cases h : i = nx
    · subst h; exact h0
    · rw [setH_ne _ _ h] at hi; exact hR.free i hi
  · rw [setH_ne _ _ (hne i _ h)]; exact hR.obj i b f h
  · rw [setH_ne _ _ (hne i _ h1)] at h3
    rw [setH_ne _ _ (hne j _ h2)] at h4
    exact hR.inj i j b f g h1 h2 h3 h4
/-- an object under a new name -/
def Rho.as (ρ : Rho) (nx i : Nat) : Rho := ⟨ρ.c, fun k => if k = nx then ρ.nm i else ρ.nm k⟩
theorem Ex.rename (hR : Rel G ρ w H) {i nx : Nat} (hn : H nx = .free) (hi : (H i).live = true) : Rel G (ρ.as nx i) w (setH (setH H i .dead) nx (H i)) ∧ Ex ρ w H (ρ.as nx i) w (setH (setH H i .dead) nx (H i)) := by
  have hin : i ≠ nx := fun e => by subst e; rw [hn] at hi; cases hi
  have h0 := hR.free nx hn
  have hg : ∀ k x, ρ.nm k = some x → (ρ.as nx i).nm k = some x := fun k x h => by
    have : k ≠ nx := fun e => by subst e; rw [h0] at h; cases h
    simp [Rho.as, this, h]
  have g : Grow ρ w (ρ.as nx i) w := ⟨rfl, rfl, rfl, Nat.le_refl _, fun _ _ h => ⟨h, rfl⟩, fun b k _ h => ⟨.inl ⟨k, h, Nat.le_refl _⟩, fun vs ty fz hh => ⟨vs, hh, rfl, fun _ _ => rfl⟩⟩, hg⟩
  have hsrc : ∀ k x, (ρ.as nx i).nm k = some x → (k = nx ∧ ρ.nm i = some x) ∨ (k ≠ nx ∧ ρ.nm k = some x) := fun k x h => by
    by_cases hk : k = nx
    · left; refine ⟨hk, ?_⟩; simpa [Rho.as, hk] using h
    · right; refine ⟨hk, ?_⟩; simpa [Rho.as, hk] using h
  have hH : ∀ k, k ≠ nx → setH (setH H i .dead) nx (H i) k = if k = i then .dead else H k := fun k hk => by
    rw [setH_ne _ _ hk]
    split
    · rename_i h; subst h; rw [setH_same]
    · rename_i h; rw [setH_ne _ _ h]
  have hlv : ∀ k x, (ρ.as nx i).nm k = some x → (setH (setH H i .dead) nx (H i) k).live = true → ∃ k0, ρ.nm k0 = some x ∧ (H k0).live = true ∧ (k = nx ∧ k0 = i ∨ k ≠ nx ∧ k0 = k ∧ k ≠ i) := fun k x h1 h2 => by
    rcases hsrc k x h1 with ⟨rfl, h3⟩ | ⟨hk, h3⟩
    · exact ⟨i, h3, hi, .inl ⟨rfl, rfl⟩⟩
    · rw [hH k hk] at h2
      split at h2
      · cases h2
      · rename_i hki; exact ⟨k, h3, h2, .inr ⟨hk, rfl, hki⟩⟩
  refine ⟨⟨fun k hk => ?_, hR.fresh, fun k b f h => ?_, fun k l b f1 f2 h1 h2 h3 h4 => ?_, fun gg d hd => (hR.glob gg d hd).grow g⟩, g, fun _ _ _ => ⟨rfl, rfl⟩, fun b ⟨k, f, h1, h2⟩ _ => ?_⟩
  · by_cases hkn : k = nx
    · subst hkn; rw [setH_same] at hk; rw [hk] at hi; cases hi
    · rw [hH k hkn] at hk
      split at hk
      · cases hk
      · cases hq : (ρ.as nx i).nm k with
        | none => rfl
        | some x =>
          rcases hsrc k x hq with ⟨h3, -⟩ | ⟨-, h3⟩
          · exact absurd h3 hkn
          · rw [hR.free k hk] at h3; cases h3
  · rcases hsrc k _ h with ⟨rfl, h3⟩ | ⟨hk, h3⟩
    · rw [setH_same]; exact (hR.obj i b f h3).keep g rfl rfl
    · rw [hH k hk]
      split
      · trivial
      · exact (hR.obj k b f h3).keep g rfl rfl
  · obtain ⟨k0, a1, a2, a3⟩ := hlv k _ h1 h3
    obtain ⟨l0, b1, b2, b3⟩ := hlv l _ h2 h4
    have := hR.inj k0 l0 b f1 f2 a1 b1 a2 b2
    rcases a3 with ⟨rfl, rfl⟩ | ⟨q1, rfl, q2⟩ <;> rcases b3 with ⟨rfl, rfl⟩ | ⟨q3, rfl, q4⟩
    · rfl
    · exact absurd this.symm q4
    · exact absurd this q2
    · exact this
  · obtain ⟨k0, a1, a2, -⟩ := hlv k _ h1 h2
    exact ⟨k0, f, a1, a2⟩
variable {T : TypeId → Ty} {v : Operand → Value} {e : Operand → D} {o : Oper}
theorem i64_nat {n : Nat} (h : n ≤ LMax) : IntKind.i64.min ≤ (n : Int) ∧ (n : Int) ≤ IntKind.i64.max := by
  unfold LMax at h
  have h1 : IntKind.i64.min = -9223372036854775808 := by decide
  have h2 : IntKind.i64.max = 9223372036854775807 := by decide
  omega
theorem snd_len_own (hT : ∀ t, TyOK P t (T t)) (hR : Rel G ρ w H) {c : Call} {x : Operand} {t el : TypeId} (ho : o.op = .call c) (hc : c.callee = .builtin .len) (ha : c.args = #[x]) (ht : c.argTypes = #[t]) (hx : Rp ρ w (e x) (v x))
    {i n : Nat} (h : e x = .own i n) (hk : (T t).k = .slice el) : StepV P G v o ρ w H (.int .i64 n) [] := by
  rw [h, Rp] at hx
  have hv : ∃ A cap, v x = .slice A n cap ∧ n ≤ LMax := by
    rcases hx with ⟨rfl, A, hv⟩ | ⟨b, f, -, hv, -, hl⟩
    · exact ⟨A, 0, hv, Nat.zero_le _⟩
    · exact ⟨_, _, hv, hl⟩
  obtain ⟨A, cap, hv, hl⟩ := hv
  obtain ⟨ii, d, -, -, -, -, -, -, -, h1, h2⟩ := (hT t).info (by rw [hk]; rfl)
  rw [hk] at h2
  simp only [KOK] at h2
  subst h2
  refine StepV.same hR (u := .int .i64 n) ?_ (by rw [Rp]; exact ⟨rfl, i64_nat hl⟩)
  simp [execOp, ho, hc, ha, ht, hv, resolve, invoke, builtin, Builtin.len_, run_underlying h1, goInt]
/-- what a row is in memory -/
theorem obj_row (hR : Rel G ρ w H) {i b f sz : Nat} {els : List D} (hi : H i = .row sz els) (hn : ρ.nm i = some (b, f)) : ObjAt ρ w b f (.row sz els) := by
  have := hR.obj i b f hn
  rwa [hi] at this
theorem snd_index_own (hT : ∀ t, TyOK P t (T t)) (hR : Rel G ρ w H) {t el : TypeId} {x ix : Operand} (ho : o.op = .indexAddr t x ix) (hx : Rp ρ w (e x) (v x)) (hix : Rp ρ w (e ix) (v ix)) (hk : (T t).k = .slice el) (hel : (T el).k.known = true)
    {j n : Nat} {k : IntKind} {i : Int} (h : e x = .own j n) (h2 : e ix = .int k i) (hi : 0 ≤ i) (hn : i.toNat < n) : StepV P G v o ρ w H (.ebox j (T el).size i.toNat 0) [] := by
  rw [h, Rp] at hx
  rw [h2, Rp] at hix
  rcases hx with ⟨rfl, -⟩ | ⟨b, f, hnm, hv, -, -⟩
  · omega
  obtain ⟨ii, dd, -, -, -, -, -, -, -, h6, h7⟩ := (hT t).info (by rw [hk]; rfl)
  rw [hk] at h7
  simp only [KOK] at h7
  subst h7
  refine StepV.same hR (u := .pointer (some ⟨b, i.toNat * (T el).size, none⟩)) ?_ (by rw [Rp]; exact ⟨b, f, hnm, rfl⟩)
  have : 0 ≤ i ∧ i < (n : Int) := ⟨hi, by omega⟩
  simp [execOp, ho, hv, hix.1, Instr.indexAt, asIntOf, run_underlying h6, this, run_sizeOf (hT el) hel, addr_add]
theorem snd_faddr_ebox (hT : ∀ t, TyOK P t (T t)) (hR : Rel G ρ w H) {s ft : TypeId} {x : Operand} {n : Nat} (ho : o.op = .fieldAddr s x n) (hx : Rp ρ w (e x) (v x)) {fs : List (Nat × TypeId)} {k i sz j off : Nat} (hs : (T s).k = .struct fs) (hn : fs[n]? = some (k, ft))
    (hf : (T ft).k.known = true) (h0 : (T ft).size ≠ 0) (h : e x = .ebox i sz j off) : StepV P G v o ρ w H (.ebox i sz j (off + k)) [] := by
  rw [h, Rp] at hx
  obtain ⟨b, f, h1, hv⟩ := hx
  refine StepV.same hR (u := .pointer (some ⟨b, j * sz + (off + k), none⟩)) ?_ (by rw [Rp]; exact ⟨b, f, h1, rfl⟩)
  have := run_fieldAt (P := P) (w := w) (b := b) (off := j * sz + off) hT hs hn hf h0
  rw [Nat.add_assoc] at this
  simp [execOp, ho, hv, this]
theorem snd_load_ebox (hT : ∀ t, TyOK P t (T t)) (hR : Rel G ρ w H) {t : TypeId} {x : Operand} (ho : o.op = .load t x) (hx : Rp ρ w (e x) (v x)) {i sz k off : Nat} {els : List D} {d d' : D} (hex : e x = .ebox i sz k off) (hi : H i = .row sz els)
    (hd : els[k]? = some d) (hk : (T t).k.known = true) (hp : partD (T t) d.cells off = some d') : StepV P G v o ρ w H d' [] := by
  rw [hex, Rp] at hx
  obtain ⟨b, f, hnm, hv⟩ := hx
  obtain ⟨hc0, a1, a2, a3, a4, a5, ty, vs, us, hh, hr, h2, h3⟩ := obj_row hR hi hnm
  have hre := RpL.elem hr a2 hd
  obtain ⟨zs, q1, q2, q3⟩ := partD_load hp hre (size_one (hT t) hk)
  refine StepV.same hR ?_ q3
  have := run_loadVar (P := P) (hT t) hk (b := b) (o := k * sz + off) q1 (size_one (hT t) hk) (w := w) (fun j u hu => by
    have e1 := q2 j u hu
    have hlt := (List.getElem?_eq_some_iff.1 e1).1
    rw [List.length_take] at hlt
    rw [List.getElem?_take_of_lt (by omega), List.getElem?_drop] at e1
    have e1l := (List.getElem?_eq_some_iff.1 e1).1
    simp only [World.cell?, hh, Option.isSome_none, Bool.false_eq_true, if_false]
    rw [List.getElem?_toArray, List.getElem?_append_left (by omega), show k * sz + off + j = k * sz + (off + j) by omega]; exact e1)
  simp [execOp, ho, hv, Instr.loadAt, Instr.sureAddr, this]
theorem snd_store_ebox (hT : ∀ t, TyOK P t (T t)) (hR : Rel G ρ w H) {t : TypeId} {x y : Operand} (ho : o.op = .store t x y) (hx : Rp ρ w (e x) (v x)) (hy : Rp ρ w (e y) (v y)) {i sz k off : Nat} {els : List D} {d : D}
    (hex : e x = .ebox i sz k off) (hi : H i = .row sz els) (hd : els[k]? = some d) (hk : (T t).k.known = true) (hl : (e y).cells.length = (T t).size) (hle : off + (T t).size ≤ d.cells.length) (ha : (e y).cells.all D.one = true) :
    StepV P G v o ρ w H .junk [(i, .row sz (els.set k (reD d (d.cells.take off ++ (e y).cells ++ d.cells.drop (off + (T t).size)))))] := by
  rw [hex, Rp] at hx
  obtain ⟨b, f, hnm, hv⟩ := hx
  obtain ⟨hc0, a1, a2, a3, a4, a5, ty, vs, us, hh, hr, h2, h3⟩ := obj_row hR hi hnm
  obtain ⟨hc, h1⟩ := Rp.cells ha hy
  have hlc := hc.length
  have hsz : (v y).cells.size = (T t).size := by rw [← Array.length_toList, hlc, hl]
  have hkl : k < els.length := (List.getElem?_eq_some_iff.1 hd).1
  have hdl : d.cells.length = sz := by rw [cells_len]; exact a2 d (List.mem_of_getElem? hd)
  have hul : us.length = els.length * sz := by rw [hr.length, flat_len a2]
  have hkm : (k + 1) * sz ≤ els.length * sz := Nat.mul_le_mul_right _ hkl
  rw [Nat.succ_mul] at hkm
  have hrun := run_storeCells_at P b (k * sz + off) ty (v y).cells.toList 0 (us ++ vs).toArray w hh (by simp; omega) h1
  generalize hd' : reD d (d.cells.take off ++ (e y).cells ++ d.cells.drop (off + (T t).size)) = d'
  have hcells : d'.cells = d.cells.take off ++ (e y).cells ++ d.cells.drop (off + (T t).size) := by
    subst hd'
    cases hda : d.isAggX with
    | true => cases d <;> first | rfl | cases hda
    | false =>
      have hdc : d.cells = [d] := by cases d <;> first | rfl | cases hda
      have hlen : (d.cells.take off ++ (e y).cells ++ d.cells.drop (off + (T t).size)).length = 1 := by
        rw [List.length_append, List.length_append, List.length_take, List.length_drop, hl]
        rw [hdc] at hle ⊢
        simp only [List.length_cons, List.length_nil] at hle ⊢
        omega
      obtain ⟨z, hz⟩ := List.length_eq_one_iff.1 hlen
      rw [hz]
      have hzr : reD d [z] = z := by cases d <;> first | rfl | cases hda
      rw [hzr]
      have hmem : z ∈ d.cells.take off ++ (e y).cells ++ d.cells.drop (off + (T t).size) := by rw [hz]; simp
      have hzn : z.isAggX = false := by
        rcases List.mem_append.1 hmem with h | h
        · rcases List.mem_append.1 h with h | h
          · have := List.mem_of_mem_take h
            rw [hdc] at this
            rw [List.mem_singleton.1 this]; exact hda
          · have := List.all_eq_true.1 ha z h
            cases z <;> first | rfl | cases this
        · have := List.mem_of_mem_drop h
          rw [hdc] at this
          rw [List.mem_singleton.1 this]; exact hda
      cases z <;> first | rfl | cases hzn
  have hd'l : d'.size = sz := by
    rw [← cells_len, hcells, List.length_append, List.length_append, List.length_take, List.length_drop, hl]; omega
  have hnew : (us ++ vs).take (k * sz + off + 0) ++ (v y).cells.toList ++ (us ++ vs).drop (k * sz + off + 0 + (v y).cells.toList.length) = (us.take (k * sz + off) ++ (v y).cells.toList ++ us.drop (k * sz + off + (v y).cells.toList.length)) ++ vs := by
    have e1 : (v y).cells.toList.length = (T t).size := by rw [hlc, hl]
    rw [Nat.add_zero, e1, List.take_append_of_le_length (by omega), List.drop_append_of_le_length (by omega)]
    simp
  have hrel : ∀ ρ', Grow ρ w ρ' (w.setRow b ((us ++ vs).toArray.toList.take (k * sz + off + 0) ++ (v y).cells.toList ++ (us ++ vs).toArray.toList.drop (k * sz + off + 0 + (v y).cells.toList.length)).toArray) →
      RpL ρ' (w.setRow b ((us ++ vs).toArray.toList.take (k * sz + off + 0) ++ (v y).cells.toList ++ (us ++ vs).toArray.toList.drop (k * sz + off + 0 + (v y).cells.toList.length)).toArray) ((els.set k d').flatMap D.cells) (us.take (k * sz + off) ++ (v y).cells.toList ++ us.drop (k * sz + off + (v y).cells.toList.length)) := fun ρ' g => by
    have hrg := RpL.grow g _ _ hr
    have hcg := RpL.grow g _ _ hc
    rw [flat_set a2 hkl, hcells]
    have e1 : (v y).cells.toList.length = (T t).size := by rw [hlc, hl]
    have hde : d.cells = ((els.flatMap D.cells).drop (k * sz)).take sz := flat_get a2 hd
    have p1 : (els.flatMap D.cells).take (k * sz) ++ (d.cells.take off ++ (e y).cells ++ d.cells.drop (off + (T t).size)) ++ (els.flatMap D.cells).drop ((k + 1) * sz) = (els.flatMap D.cells).take (k * sz + off) ++ (e y).cells ++ (els.flatMap D.cells).drop (k * sz + off + (T t).size) := by
      rw [hde]
      have s1 : (els.flatMap D.cells).take (k * sz + off) = (els.flatMap D.cells).take (k * sz) ++ (((els.flatMap D.cells).drop (k * sz)).take sz).take off := by
        rw [List.take_add, List.take_take, Nat.min_eq_left (by omega)]
      have s2 : (((els.flatMap D.cells).drop (k * sz)).take sz).drop (off + (T t).size) ++ (els.flatMap D.cells).drop ((k + 1) * sz) = (els.flatMap D.cells).drop (k * sz + off + (T t).size) := by
        have : (els.flatMap D.cells).drop ((k + 1) * sz) = (((els.flatMap D.cells).drop (k * sz)).drop sz) := by rw [List.drop_drop, Nat.succ_mul]
        rw [this, ← List.drop_append_of_le_length (by rw [List.length_take, List.length_drop, flat_len a2]; omega), List.take_append_drop, List.drop_drop]
        congr 1; omega
      rw [s1, ← s2]
      simp only [List.append_assoc]
    rw [p1]
    have hfin := ((hrg.take (k * sz + off)).append hcg).append (hrg.drop (k * sz + off + (T t).size))
    rw [e1]
    rw [e1] at hfin
    exact hfin
  obtain ⟨r1, r2⟩ := Ex.write hR hnm (by rw [hi]; rfl) (w' := w.setRow b ((us ++ vs).toArray.toList.take (k * sz + off + 0) ++ (v y).cells.toList ++ (us ++ vs).toArray.toList.drop (k * sz + off + 0 + (v y).cells.toList.length)).toArray) rfl rfl rfl
    (by simp [World.setRow]) (fun k hk => by simp [World.setRow, Array.getElem?_modify, Ne.symm hk]) hc0
    (fun vs' ty' fz hq => by
      rw [hh] at hq; cases hq
      exact ⟨_, setRow_heap w b _ _ _ _ hh, by simp; omega⟩)
    (x := .row sz (els.set k d')) rfl
    (fun g => ⟨hc0, a1, (fun z hz => (List.mem_or_eq_of_mem_set hz).elim (a2 z) (fun h => h ▸ hd'l)), by rw [List.length_set]; exact a3, a4, by rw [List.length_set]; exact a5, ty, vs, us.take (k * sz + off) ++ (v y).cells.toList ++ us.drop (k * sz + off + (v y).cells.toList.length), by
      rw [setRow_heap w b _ _ _ _ hh]
      show some (Obj.cells ((us ++ vs).take _ ++ _ ++ (us ++ vs).drop _).toArray ty (0, 0)) = _
      rw [hnew], hrel _ g, by
      have e1 : (v y).cells.toList.length = (T t).size := by rw [hlc, hl]
      simp only [List.length_append, List.length_take, List.length_drop, e1]; omega, fun u hu => by
      rcases List.mem_append.1 hu with hu | hu
      · rcases List.mem_append.1 hu with hu | hu
        · exact h3 u (List.mem_of_mem_take hu)
        · exact h1 u hu
      · exact h3 u (List.mem_of_mem_drop hu)⟩)
  refine ⟨.skip, undef, ρ, _, ?_, .inr ⟨rfl, rfl⟩, by rw [Rp]; trivial, r1, r2⟩
  have hrun2 : (storeCells ⟨b, k * sz + off, none⟩ (v y).cells.toList).run P w = _ := hrun
  simp [execOp, ho, hv, Instr.storeAt, Instr.sureAddr, storeVar, run_sizeOf (hT t) hk, hsz, hrun2]
theorem setH_twice (H : Nat → HO) (n : Nat) (x y : HO) : setH (setH H n x) n y = setH H n y := by
  funext k; unfold setH; split <;> rfl
/-- elements that stay, as values -/
theorem RpE.flat {ρ : Rho} {w : World} : ∀ {els : List D} {b o : Nat}, RpE ρ w els b o → ∃ vs : List Value, RpL ρ w (els.flatMap D.cells) vs ∧ ∀ (j : Nat) (v : Value), vs[j]? = some v → w.cell? ⟨b, o + j, none⟩ = some v ∧ v.oneCell' = true
  | [], b, o, _ => ⟨[], RpL_nil.2 rfl, fun j v h => by simp at h⟩
  | e :: r, b, o, h => by
    rw [RpE_cons] at h
    obtain ⟨vs, h1, h2⟩ := RpE.flat h.2
    have key : ∃ us : List Value, RpL ρ w e.cells us ∧ ∀ (j : Nat) (v : Value), us[j]? = some v → w.cell? ⟨b, o + j, none⟩ = some v ∧ v.oneCell' = true := by
      have hat := h.1
      cases e
      case agg cs =>
        obtain ⟨us, g1, g2⟩ := RpC.vals (show RpC ρ w cs b o from hat)
        exact ⟨us, g1, g2⟩
      all_goals
        obtain ⟨u, g1, g2⟩ := hat
        refine ⟨[u], RpL_cons'.2 ⟨g2, RpL_nil.2 rfl⟩, fun j v hj => ?_⟩
        cases j with
        | zero => simp at hj; subst hj; exact ⟨g1.2.1, g1.2.2⟩
        | succ j => simp at hj
    obtain ⟨us, g1, g2⟩ := key
    have hl : us.length = e.size := by rw [g1.length, cells_len]
    refine ⟨us ++ vs, by rw [List.flatMap_cons]; exact g1.append h1, fun j v hj => ?_⟩
    by_cases hlt : j < us.length
    · rw [List.getElem?_append_left hlt] at hj; exact g2 j v hj
    · rw [List.getElem?_append_right (by omega)] at hj
      have := h2 (j - us.length) v hj
      rwa [show o + e.size + (j - us.length) = o + j by omega] at this
theorem slice_flat {tx e' : TypeId} (hk : P.underlying tx = some (.slice e')) {els : List D} {c : Cp} {v : Value} {sz : Nat} (hs : ∀ e, e ∈ els → e.size = sz) (h : Rp ρ w (.slice els c) v) :
    ∃ vs : List Value, Src P sz tx v els.length vs w ∧ RpL ρ w (els.flatMap D.cells) vs := by
  rw [Rp] at h
  obtain ⟨A, cap, sz', rfl, -, -, -, -, -, h5⟩ := h
  by_cases hne : els = []
  · subst hne
    have : Src P sz tx (.slice A 0 cap) 0 [] w := by
      cases A with
      | none => exact Src.ofNil w hk cap
      | some a => exact Src.ofSlice w hk a 0 cap [] (by simp) (fun j u h => by simp at h) (fun u h => by cases h)
    exact ⟨[], this, RpL_nil.2 rfl⟩
  · obtain ⟨b, o, rfl, h6⟩ := h5 hne
    obtain ⟨vs, h7, h8⟩ := RpE.flat h6
    have hlen := h7.length
    rw [flat_len hs] at hlen
    have : Src P sz tx (.slice (some ⟨b, o, none⟩) els.length cap) els.length vs w := Src.ofSlice w hk _ _ cap vs hlen (fun j u hu => by rw [addr_add]; exact (h8 j u hu).1) (fun u hu => by
      obtain ⟨j, hj⟩ := List.getElem?_of_mem hu
      exact (h8 j u hj).2)
    exact ⟨vs, this, h7⟩
variable {T : TypeId → Ty} {v : Operand → Value} {e : Operand → D} {o : Oper}
theorem flat_append (asl bs : List D) : (asl ++ bs).flatMap D.cells = asl.flatMap D.cells ++ bs.flatMap D.cells := List.flatMap_append ..
theorem snd_append_own (hT : ∀ t, TyOK P t (T t)) (hR : Rel G ρ w H) {c : Call} {x y : Operand} {t t2 el el2 : TypeId} (ho : o.op = .call c) (hcl : c.callee = .builtin .append) (ha : c.args = #[x, y]) (ht : c.argTypes = #[t, t2])
    (hx : Rp ρ w (e x) (v x)) (hy : Rp ρ w (e y) (v y)) {els els2 : List D} {cy : Cp} {i sz : Nat} (hex : e x = .own i els.length) (hi : H i = .row sz els) (hey : e y = .slice els2 cy) (hk : (T t).k = .slice el) (hk2 : (T t2).k = .slice el2) (hel : (T el).k.known = true) (hby : (T el).bytes ≤ 256)
    (hs : sz = (T el).size) (hp : 0 < sz) (hs1 : ∀ d, d ∈ els → d.size = sz) (hs2 : ∀ d, d ∈ els2 → d.size = sz) (hl : els.length + els2.length ≤ LMax) {nx : Nat} (hn : H nx = .free) :
    StepV P G v o ρ w H (.own nx (els.length + els2.length)) [(i, .dead), (nx, .row sz (els ++ els2))] := by
  subst hs
  have hin : i ≠ nx := fun e => by subst e; rw [hn] at hi; cases hi
  obtain ⟨it, d, -, -, -, -, -, -, -, h1, h2⟩ := (hT t).info (by rw [hk]; rfl)
  rw [hk] at h2; simp only [KOK] at h2; subst h2
  obtain ⟨it2, d2, -, -, -, -, -, -, -, h3, h4⟩ := (hT t2).info (by rw [hk2]; rfl)
  rw [hk2] at h4; simp only [KOK] at h4; subst h4
  obtain ⟨ii, d3, hii, hsz, hbt, hz, hzc, hzs, -, -, -⟩ := (hT el).info hel
  rw [hey] at hy
  obtain ⟨news, hsrc, hnr⟩ := slice_flat (P := P) (sz := (T el).size) h3 hs2 hy
  have hlen2 := hsrc.newsLen
  have hone2 := hsrc.one
  have hrunop : ∀ {u : Value} {w' : World}, (Builtin.append_ #[t, t2] o.type #[v x, v y]).run P w = .ok u w' → (execOp v o).run P w = .ok (.value u) w' := fun {u w'} h => by
    simp [execOp, ho, hcl, ha, ht, resolve, invoke, builtin, h]
  have hsall : ∀ d, d ∈ els ++ els2 → d.size = (T el).size := fun d hd => (List.mem_append.1 hd).elim (hs1 d) (hs2 d)
  have hcomm : ∀ y : HO, setH (setH H nx y) i .dead = setH (setH H i .dead) nx y := fun y => (setH_comm H _ _ hin).symm
  -- a row in a new block
  have hgrow : ∀ (A : Option Addr) (cap : Nat) (olds : List Value), v x = .slice A els.length cap → (Builtin.firstCells (T el).size els.length (.slice A els.length cap)).run P w.drew = .ok olds.toArray w.drew → RpL ρ w (els.flatMap D.cells) olds → (∀ u, u ∈ olds → u.oneCell' = true) → cap < els.length + els2.length →
      StepV P G v o ρ w H (.own nx (els.length + els2.length)) [(i, .dead), (nx, .row (T el).size (els ++ els2))] := fun A cap olds hvx hold hor hone1 hlt => by
    have h63 : ((els.length + els2.length : Nat) : Int) ≤ 9223372036854775807 := by unfold LMax at hl; omega
    have hfit : Builtin.nextslicecap (els.length + els2.length) cap * ii.bytes ≤ 281474976710656 := by
      have g1 := nextslicecap_le hlt
      have g2 := Nat.mul_le_mul g1 (show ii.bytes ≤ 256 by omega)
      unfold LMax at hl
      omega
    have hrun := run_append_grow_src w t t2 o.type el ii _ h1 hii hz A els.length cap olds (by rw [hsz]; exact hold) (v y) els2.length news (by rw [hsz]; exact hsrc) hlt h63 hfit
    have hcg := grownCap_ge w (els.length + els2.length) cap el
    have hcm' : grownCap w (els.length + els2.length) cap el ≤ maxLen := grownCap_le_maxLen w _ cap el (by unfold LMax at hl; simp only [maxLen]; omega)
    generalize grownCap w (els.length + els2.length) cap el = cap' at hrun hcg hcm'
    have hlen1 : olds.length = els.length * (T el).size := by rw [hor.length, flat_len hs1]
    have hvs : (olds ++ news).toArray ++ Builtin.zeroCells (T el).zero.cv.cells (cap' - (els.length + els2.length)) = ((olds ++ news) ++ (Builtin.zeroCells (T el).zero.cv.cells (cap' - (els.length + els2.length))).toList).toArray := by apply Array.ext'; simp
    rw [hvs] at hrun
    obtain ⟨hRd, hed⟩ := Ex.drew hR
    have hzz : (T el).zero.cv.cells.size = (T el).size := by
      rcases cv_size (T el).zero with h | h
      · rw [h, hzs]
      · rw [hzc] at h; cases h
    obtain ⟨r1, r2⟩ := Ex.layF (f := cap') hRd hn (o := .cells ((olds ++ news) ++ (Builtin.zeroCells (T el).zero.cv.cells (cap' - (els.length + els2.length))).toList).toArray el) (x := .row (T el).size (els ++ els2)) rfl (fun ρ' g hc => by
      refine ⟨hc, hp, hsall, by rw [List.length_append]; exact hcg, hcm', by rw [List.length_append]; exact hl, el, (Builtin.zeroCells (T el).zero.cv.cells (cap' - (els.length + els2.length))).toList, olds ++ news, heap_new w.drew _, ?_, ?_, fun u hu => (List.mem_append.1 hu).elim (hone1 u) (hone2 u)⟩
      · rw [flat_append]
        exact RpL.grow g _ _ (RpL.grow hed.grow _ _ (hor.append hnr))
      · have : cap' * (T el).size = (els.length + els2.length) * (T el).size + (cap' - (els.length + els2.length)) * (T el).size := by rw [← Nat.add_mul]; congr 1; omega
        simp only [List.length_append, hlen1, hlen2, Array.length_toList, size_zeroCells, hzz]
        rw [this, Nat.add_mul]
        omega)
    have q1 := r1.kill (dead_one _ i)
    have q2 := (hed.trans r2).kill (dead_one _ i)
    rw [hcomm] at q1 q2
    refine ⟨_, _, _, _, hrunop (by rw [hvx]; exact hrun), .inl rfl, ?_, q1, q2⟩
    rw [Rp]
    exact .inr ⟨w.drew.heap.size, cap', by simp [Rho.layF], rfl, hcg, hl⟩
  have hx' := hx
  rw [hex, Rp] at hx'
  rcases hx' with ⟨h0, A, hvx⟩ | ⟨b, f, hnm, hvx, hnf, -⟩
  · have he : els = [] := List.eq_nil_of_length_eq_zero h0
    subst he
    by_cases he2 : els2 = []
    · subst he2
      have hnn : news = [] := List.eq_nil_of_length_eq_zero (by simpa using hlen2)
      subst hnn
      have hrun := run_append_nothing (P := P) w t t2 o.type el ii h1 hii A 0 0 (Nat.le_refl _) (v y) (by rw [hsz]; exact hsrc)
      obtain ⟨r1, r2⟩ := Ex.nameX hR hn (x := .row (T el).size ([] ++ [])) rfl
      have q1 := r1.kill (dead_one _ i)
      have q2 := r2.kill (dead_one _ i)
      rw [hcomm] at q1 q2
      refine ⟨_, _, ρ, w, hrunop (by rw [hvx]; exact hrun), .inl rfl, ?_, q1, q2⟩
      rw [Rp]
      exact .inl ⟨rfl, A, rfl⟩
    · refine hgrow A 0 [] hvx ?_ (RpL_nil.2 rfl) (fun u hu => by cases hu) (by have := List.length_pos_iff.2 he2; simpa using this)
      have : Src P (T el).size t (.slice A 0 0) 0 [] w := by
        cases A with
        | none => exact Src.ofNil w h1 0
        | some a => exact Src.ofSlice w h1 a 0 0 [] (by simp) (fun j u h => by simp at h) (fun u h => by cases h)
      exact this.cellsD
  · obtain ⟨hc0, a1, a2, a3, a4, a5, ty, vs, us, hh, hr, g2, g3⟩ := obj_row hR hi hnm
    have hul : us.length = els.length * (T el).size := by rw [hr.length, flat_len hs1]
    have hsx : Src P (T el).size t (.slice (some ⟨b, 0, none⟩) els.length f) els.length us w := Src.ofSlice w h1 _ _ f us hul (fun j u hu => by
      have hlt := (List.getElem?_eq_some_iff.1 hu).1
      rw [addr_add]
      simp only [Nat.zero_add, World.cell?, hh, Option.isSome_none, Bool.false_eq_true, if_false]
      rw [List.getElem?_toArray, List.getElem?_append_left hlt]; exact hu) g3
    by_cases hfits : els.length + els2.length ≤ f
    · have hmul : (els.length + els2.length) * (T el).size ≤ f * (T el).size := Nat.mul_le_mul_right _ hfits
      rw [Nat.add_mul] at hmul
      have hfit2 : 0 + els.length * ii.size + news.length ≤ (us ++ vs).toArray.size := by rw [hsz, hlen2]; simp; omega
      have hrun := run_append_in (P := P) (w := w) (t := t) (tx := t2) (ty := o.type) h1 hii hh (by rw [hsz]; exact hsrc) hfits hfit2
      rw [hsz] at hrun
      have hnew : (us ++ vs).take (0 + els.length * (T el).size) ++ news ++ (us ++ vs).drop (0 + els.length * (T el).size + news.length) = (us ++ news) ++ vs.drop news.length := by
        rw [Nat.zero_add, ← hul, List.take_left, List.drop_length_add_append]
      have hnew' : ((us ++ vs).toArray.toList.take (0 + els.length * (T el).size) ++ news ++ (us ++ vs).toArray.toList.drop (0 + els.length * (T el).size + news.length)).toArray = ((us ++ news) ++ vs.drop news.length).toArray := by rw [← hnew]
      rw [hnew'] at hrun
      obtain ⟨r1, r2⟩ := Ex.write hR hnm (by rw [hi]; rfl) (w' := w.setRow b ((us ++ news) ++ vs.drop news.length).toArray) rfl rfl rfl (by simp [World.setRow]) (fun k hk => by simp [World.setRow, Array.getElem?_modify, Ne.symm hk]) hc0
        (fun vs' ty' fz hq => by
          rw [hh] at hq; cases hq
          exact ⟨_, setRow_heap w b _ _ _ _ hh, by simp; omega⟩)
        (x := .row (T el).size (els ++ els2)) rfl
        (fun g => ⟨hc0, a1, hsall, by rw [List.length_append]; exact hfits, a4, by rw [List.length_append]; exact hl, ty, vs.drop news.length, us ++ news, setRow_heap w b _ _ _ _ hh, by
          rw [flat_append]; exact RpL.grow g _ _ (hr.append hnr), by simp; omega, fun u hu => (List.mem_append.1 hu).elim (g3 u) (hone2 u)⟩)
      have hn' : setH H i (.row (T el).size (els ++ els2)) nx = .free := by rw [setH_ne _ _ (Ne.symm hin)]; exact hn
      obtain ⟨s1, s2⟩ := Ex.rename r1 hn' (i := i) (by rw [setH_same]; rfl)
      rw [setH_same, setH_twice] at s1 s2
      refine ⟨_, _, _, _, hrunop (by rw [hvx]; exact hrun), .inl rfl, ?_, s1, r2.trans s2⟩
      rw [Rp]
      exact .inr ⟨b, f, by simp [Rho.as, hnm], rfl, hfits, hl⟩
    · exact hgrow _ f us hvx hsx.cellsD hr g3 (by omega)
end
section
variable {P : Program} {G : Nat → Option D} {ρ : Rho} {w : World} {H : Nat → HO} {T : TypeId → Ty} {v : Operand → Value} {e : Operand → D} {o : Oper}
theorem flat_rep {z : D} {sz : Nat} (hz : z.size = sz) : ∀ {c j : Nat}, j < c * sz → ((List.replicate c z).flatMap D.cells)[j]? = z.cells[j % sz]?
  | 0, j, h => by omega
  | c + 1, j, h => by
    rw [List.replicate_succ, List.flatMap_cons]
    have hl : z.cells.length = sz := by rw [cells_len]; exact hz
    by_cases hj : j < sz
    · rw [List.getElem?_append_left (by omega), Nat.mod_eq_of_lt hj]
    · rw [Nat.succ_mul] at h
      rw [List.getElem?_append_right (by omega), hl, flat_rep hz (c := c) (by omega)]
      rw [Nat.mod_eq_sub_mod (a := j) (by omega)]
theorem made_get (z : Array Value) (n j : Nat) : (madeCells z n)[j]? = if j < n then some (z[j % z.size]!) else none := by
  unfold madeCells
  rw [Array.getElem?_map]
  by_cases h : j < n
  · rw [if_pos h, Array.getElem?_eq_getElem (by simpa using h), Array.getElem_range]; rfl
  · rw [if_neg h, Array.getElem?_eq_none (by simpa using h)]; rfl
theorem upd_now {k kk : IntKind} {a : Int} {x : D} {u : Value} (hu : Rp ρ w x u) : ∀ {es : List (D × D)} {l : List MapEntry} (i : Nat) {d : D}, (es.all fun p => isIntK k p.1) = true → RpL ρ w (es.map (·.1)) (l.map (·.key)) → RpL ρ w (es.map (·.2)) (l.map (·.val)) → findD (.int k a) es = some d →
    ∃ j z m, Instr.findNow (.int kk) (.int k a) l i = some (some (i + j, z)) ∧ l[j]? = some m ∧ m.key = .int k a ∧ RpL ρ w ((updE (.int k a) x es).map (·.1)) ((l.modify j fun e => { e with key := .int k a, val := u }).map (·.key)) ∧ RpL ρ w ((updE (.int k a) x es).map (·.2)) ((l.modify j fun e => { e with key := .int k a, val := u }).map (·.val))
  | [], l, i, d, _, h1, _, hf => by cases hf
  | p :: es, l, i, d, h, h1, h2, hf => by
    cases l with
    | nil => rw [List.map_cons, RpL_cons] at h1; obtain ⟨_, _, h1, -⟩ := h1; cases h1
    | cons m l =>
      rw [List.all_cons, Bool.and_eq_true] at h
      simp only [List.map_cons] at h1 h2
      obtain ⟨g1, g2⟩ := RpL_cons'.1 h1
      obtain ⟨g3, g4⟩ := RpL_cons'.1 h2
      obtain ⟨n, e1, e2⟩ := isIntK_rp h.1 g1
      rw [findD, e1] at hf
      rw [updE, e1]
      by_cases han : a = n
      · subst han
        have hk : keyEq (.int k a) (.int k a) = true := by simp [keyEq]
        rw [hk]
        simp only [if_true]
        refine ⟨0, m.val, m, by rw [Instr.findNow, e2]; simp [Instr.sameNow], rfl, e2, ?_, ?_⟩
        · simp only [List.map_cons, List.modify_zero_cons]
          exact RpL_cons'.2 ⟨by rw [e1, e2] at g1; exact g1, g2⟩
        · simp only [List.map_cons, List.modify_zero_cons]
          exact RpL_cons'.2 ⟨hu, g4⟩
      · have hk : keyEq (.int k a) (.int k n) = false := by simp [keyEq, han]
        rw [hk] at hf ⊢
        simp only [Bool.false_eq_true, if_false] at hf ⊢
        obtain ⟨j, z, m', q1, q2, q3, q4, q5⟩ := upd_now (k := k) (kk := kk) (a := a) hu (i + 1) h.2 g2 g4 hf
        have hs : Instr.findNow (.int kk) (.int k a) (m :: l) i = Instr.findNow (.int kk) (.int k a) l (i + 1) := by
          rw [Instr.findNow, e2]
          have : (a == n) = false := by simpa using han
          simp [Instr.sameNow, this]
        refine ⟨j + 1, z, m', by rw [hs, q1, show i + 1 + j = i + (j + 1) by omega], by simpa using q2, q3, ?_, ?_⟩
        · simp only [List.map_cons, List.modify_succ_cons]
          exact RpL_cons'.2 ⟨g1, q4⟩
        · simp only [List.map_cons, List.modify_succ_cons]
          exact RpL_cons'.2 ⟨g3, q5⟩
theorem updE_length (k x : D) : ∀ es : List (D × D), (updE k x es).length = es.length
  | [] => rfl
  | p :: r => by
    rw [updE]
    split
    · rfl
    · rw [List.length_cons, updE_length k x r]; rfl
theorem stamped_modify {ents : Array MapEntry} {clock j : Nat} {m : MapEntry} {key u : Value} (h : Stamped ents clock) (hj : ents.toList[j]? = some m) (hk : m.key = key) : Stamped (ents.modify j fun e => { e with key := key, val := u }) clock := by
  obtain ⟨h1, h2, h3⟩ := h
  have hb : ((ents.modify j fun e => { e with key := key, val := u }).toList.map (·.born)) = ents.toList.map (·.born) := by
    rw [Array.toList_modify]
    apply List.ext_getElem?
    intro i
    rw [List.getElem?_map, List.getElem?_map, List.getElem?_modify]
    cases ents.toList[i]? with
    | none => rfl
    | some x => simp only [Option.map_eq_map, Option.map_some]; split <;> rfl
  have hkk : ((ents.modify j fun e => { e with key := key, val := u }).toList.map (·.key)) = ents.toList.map (·.key) := by
    rw [Array.toList_modify]
    apply List.ext_getElem?
    intro i
    rw [List.getElem?_map, List.getElem?_map, List.getElem?_modify]
    cases hi : ents.toList[i]? with
    | none => rfl
    | some x =>
      simp only [Option.map_eq_map, Option.map_some]
      split
      · rename_i hij; subst hij; rw [hi] at hj; cases hj; rw [← hk]
      · rfl
  refine ⟨fun x hx => ?_, by rw [hb]; exact h2, by rw [hkk]; exact h3⟩
  have hm : x.born ∈ (ents.modify j fun e => { e with key := key, val := u }).toList.map (·.born) := List.mem_map.2 ⟨x, hx, rfl⟩
  rw [hb] at hm
  obtain ⟨y, hy, e⟩ := List.mem_map.1 hm
  rw [← e]; exact h1 y hy
theorem snd_update (hT : ∀ t, TyOK P t (T t)) (hR : Rel G ρ w H) {t kt el : TypeId} {m ix x : Operand} (ho : o.op = .mapUpdate t m ix x) (hm : Rp ρ w (e m) (v m)) (hix : Rp ρ w (e ix) (v ix)) (hx : Rp ρ w (e x) (v x)) {kk k : IntKind} {a : Int} (hk : (T t).k = .map kt el) (hkt : (T kt).k = .int kk)
    {i : Nat} {es : List (D × D)} {d : D} (hem : e m = .map i) (hei : e ix = .int k a) (hi : H i = .mp es) (hall : (es.all fun p => isIntK k p.1) = true) (hyes : findD (.int k a) es = some d) :
    StepV P G v o ρ w H .junk [(i, .mp (updE (.int k a) (e x) es))] := by
  rw [hem, Rp] at hm
  obtain ⟨b, f, hnm, hv⟩ := hm
  rw [hei, Rp] at hix
  have hobj := hR.obj i b f hnm
  rw [hi] at hobj
  obtain ⟨hc0, ents, clock, hh, h1, h2, ⟨hst1, hst2, hst3⟩, hlm⟩ := hobj
  obtain ⟨it, d', -, -, -, -, -, -, -, g1, g2⟩ := (hT t).info (by rw [hk]; rfl)
  rw [hk] at g2; simp only [KOK] at g2; subst g2
  obtain ⟨it2, d2, -, -, -, -, -, -, -, g3, g4⟩ := (hT kt).info (by rw [hkt]; rfl)
  rw [hkt] at g4; simp only [KOK] at g4; subst g4
  have hlt : b < w.heap.size := (Array.getElem?_eq_some_iff.1 hh).1
  obtain ⟨j, z, m', q1, q2, q3, -, -⟩ := upd_now (ρ := ρ) (w := w) (kk := kk) (a := a) hx 0 hall h1 h2 hyes
  rw [Nat.zero_add] at q1
  obtain ⟨r1, r2⟩ := Ex.write hR hnm (by rw [hi]; rfl) (w' := { w with heap := w.heap.setIfInBounds b (.map (ents.modify j fun e => { e with key := .int k a, val := v x }) clock) }) rfl rfl rfl (by simp)
    (fun k hk => by simp [Array.getElem?_setIfInBounds_ne (Ne.symm hk)]) hc0 (fun vs ty fz hq => by rw [hh] at hq; cases hq)
    (x := .mp (updE (.int k a) (e x) es)) rfl (fun g => by
      obtain ⟨j2, z2, m2, p1, p2, p3, p4, p5⟩ := upd_now (ρ := ρ) (kk := kk) (a := a) (Rp.grow g _ _ hx) 0 hall (RpL.grow g _ _ h1) (RpL.grow g _ _ h2) hyes
      rw [q1, Nat.zero_add] at p1
      cases p1
      refine ⟨hc0, ents.modify j fun e => { e with key := .int k a, val := v x }, clock, by simp [hlt], ?_, ?_, ?_, by rw [updE_length]; exact hlm⟩
      · rw [Array.toList_modify]; exact p4
      · rw [Array.toList_modify]; exact p5
      · exact stamped_modify ⟨hst1, hst2, hst3⟩ q2 q3)
  refine ⟨.skip, undef, ρ, _, ?_, .inr ⟨rfl, rfl⟩, by rw [Rp]; trivial, r1, r2⟩
  have hrun : (Instr.mapUpdate t (v m) (v ix) (v x)).run P w = .ok () { w with heap := w.heap.setIfInBounds b (.map (ents.modify j fun e => { e with key := .int k a, val := v x }) clock) } := by
    have hck := run_checkKey_int (P := P) (w := w) (k := k) (a := a) g3 false 9999
    simp only [Nat.reduceAdd] at hck
    have q2' : ents[j]? = some m' := by simpa using q2
    have hsb : Instr.sameBits 10000 (.int k a) (.int k a) = true := by simp [Instr.sameBits]
    simp [Instr.mapUpdate, run_underlying g1, hv, hix.1, run_getMap hh, run_setMap hh, hck, run_underlying g3, Instr.findKey, q1, q2', q3, Instr.keyThatStays, hsb]
  simp [execOp, ho, hrun]
end
end Go.Proofs.YtgloldepdhgfaaaDoor
