/-
  What is kept when some blocks alone are written.
-/
import Derived.Test.YtmghkfiepcomgaaDoorAcc
namespace Go.Proofs.YtmghkfiepcomgaaDoor
open Go.RowKit

/-- below block B all is as it was, but for the blocks of X -/
structure Off (X : Nat → Prop) (B : Nat) (w w' : World) : Prop where
  os : w'.os = w.os
  tape : w'.tape = w.tape
  output : w'.output = w.output
  size : w.heap.size ≤ w'.heap.size
  block : ∀ k, k < B → ¬ X k → w'.heap[k]? = w.heap[k]?

section
variable {X Y : Nat → Prop} {B C : Nat} {a b w w' : World}
theorem Off.refl (X : Nat → Prop) (B : Nat) (w : World) : Off X B w w := ⟨rfl, rfl, rfl, Nat.le_refl _, fun _ _ _ => rfl⟩
theorem Off.trans {c : World} (h : Off X B a b) (k : Off X B b c) : Off X B a c :=
  ⟨k.os.trans h.os, k.tape.trans h.tape, k.output.trans h.output, Nat.le_trans h.size k.size, fun i hi hx => (k.block i hi hx).trans (h.block i hi hx)⟩
theorem Off.mono (h : Off X C a b) (hBC : B ≤ C) : Off X B a b := ⟨h.os, h.tape, h.output, h.size, fun k hk hx => h.block k (Nat.lt_of_lt_of_le hk hBC) hx⟩
theorem Off.sub (h : Off X B a b) (hXY : ∀ k, k < B → X k → Y k) : Off Y B a b := ⟨h.os, h.tape, h.output, h.size, fun k hk hx => h.block k hk (fun h' => hx (hXY k hk h'))⟩
theorem Off.of (h : Below B a b) : Off X B a b := ⟨h.os, h.tape, h.output, h.size, fun k hk _ => h.block k hk⟩
theorem Off.below (h : Off X B a b) (hX : ∀ k, k < B → ¬ X k) : Below B a b := ⟨h.os, h.tape, h.output, h.size, fun k hk => h.block k hk (hX k hk)⟩
theorem Off.alloc (h : Off X B a w) (hB : B ≤ w.heap.size) (o : Obj) : Off X B a (w.alloc o) :=
  h.trans (Off.of ((Below.refl B w).alloc hB o))
theorem Off.drew (h : Off X B a w) : Off X B a w.drew := h.trans (Off.of ((Below.refl B w).drew))
theorem Off.drewN (h : Off X B a w) (n : Nat) : Off X B a (w.drewN n) := ⟨h.os, h.tape, h.output, h.size, h.block⟩
theorem Off.setCell (h : Off X B a w) {p : Addr} (hp : B ≤ p.block ∨ X p.block) (u : Value) : Off X B a (w.setCell p u) := by
  rcases hp with hp | hp
  · exact h.trans (Off.of ((Below.refl B w).setCell hp u))
  · refine ⟨h.os, h.tape, h.output, ?_, fun k hk hx => ?_⟩
    · have := h.size; simpa [World.setCell] using this
    · rw [Below.heap_setCell w p u k (by rintro rfl; exact hx hp)]
      exact h.block k hk hx
theorem Off.keep (h : Off X B w w') {F : Nat → Prop} (hF : ∀ b, F b → b < B ∧ ¬ X b) : Keep F w w' := fun b hb => h.block b (hF b hb).1 (hF b hb).2
theorem Off.cell (h : Off X B w w') {g o : Nat} {v : Value} (hg : g < B) (hx : ¬ X g) (hc : w.cell? ⟨g, o, none⟩ = some v) : w'.cell? ⟨g, o, none⟩ = some v :=
  (World.cell?_of_block (w := w) (a := ⟨g, o, none⟩) (h.block g hg hx)).trans hc
theorem Off.blk (h : Off X B w w') {g : Nat} {t : TypeId} {cs : List Value} (hg : g < B) (hx : ¬ X g) (hc : Blk w g t cs) : Blk w' g t cs := (h.block g hg hx).trans hc
end
end Go.Proofs.YtmghkfiepcomgaaDoor
