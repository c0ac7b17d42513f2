/-
  Statements whose ends are many: what one wrote may be forgotten behind it.
-/
import Derived.Test.YtlepjegkcmphoaaDrng
set_option linter.unusedSimpArgs false
set_option linter.unusedVariables false
namespace Go.Proofs.Ytlepjegkcmphoaa
open Go.RowKit

/-- the second list knows as much at least -/
def leT : List D → List D → Prop
  | [], [] => True
  | a :: r, b :: s => (a = .junk ∨ a = b ∨ a = b.fgt) ∧ leT r s
  | _, _ => False
theorem leT_len : ∀ {l m : List D}, leT l m → l.length = m.length
  | [], [], _ => rfl
  | a :: r, b :: s, h => by rw [List.length_cons, List.length_cons, leT_len h.2]
  | [], _ :: _, h => h.elim
  | _ :: _, [], h => h.elim
theorem leT_tm : ∀ {l m : List D}, leT l m → ∀ k, tmOf l k = .junk ∨ tmOf l k = tmOf m k ∨ tmOf l k = (tmOf m k).fgt
  | [], [], _, k => .inr (.inl rfl)
  | a :: r, b :: s, h, 0 => h.1
  | a :: r, b :: s, h, k + 1 => leT_tm h.2 k
  | [], _ :: _, h, _ => h.elim
  | _ :: _, [], h, _ => h.elim
theorem leT_refl : ∀ l : List D, leT l l
  | [] => trivial
  | a :: r => ⟨.inr (.inl rfl), leT_refl r⟩
theorem leT_fgt : ∀ (l : List D) (t : Nat), leT (l.modify t D.fgt) l
  | [], t => by cases t <;> trivial
  | a :: r, 0 => ⟨.inr (.inr rfl), leT_refl r⟩
  | a :: r, t + 1 => ⟨.inr (.inl rfl), leT_fgt r t⟩
theorem leT_junk : ∀ (l : List D) (t : Nat), leT (l.modify t fun _ => .junk) l
  | [], t => by cases t <;> trivial
  | a :: r, 0 => ⟨.inl rfl, leT_refl r⟩
  | a :: r, t + 1 => ⟨.inr (.inl rfl), leT_junk r t⟩

theorem leT_set : ∀ (i : Nat) {l m : List D}, leT l m → leT (l.set i .junk) m
  | i, [], [], h => by cases i <;> trivial
  | 0, a :: r, b :: s, h => ⟨.inl rfl, h.2⟩
  | i + 1, a :: r, b :: s, h => ⟨h.1, leT_set i h.2⟩
  | _, [], _ :: _, h => h.elim
  | _, _ :: _, [], h => h.elim

section
variable {P : Program} {G : Nat → Option D} {M : Nat} {Q : DQ} {tl tl' : List D} {hl : List HO} {df : Df}
theorem wpD_weak {c : Code} (h : leT tl tl') (hw : wpD P G M c Q tl hl df) : wpD P G M c Q tl' hl df := fun ρ0 w0 H0 ρ w a hbs hst => by
  have hlen := leT_len h
  have := hw ρ0 w0 H0 ρ w a hbs ⟨hst.rel, hst.ex, fun k => by
    rcases leT_tm h k with e | e | e
    · rw [e, Rp]; trivial
    · rw [e]; exact hst.tmp k
    · rw [e]; exact Rp_fgt _ _ (hst.tmp k), hst.size.trans hlen.symm, hst.df⟩
  rw [hlen] at this
  exact this

/-- a temporary's right to grow is forgotten -/
theorem wpD_fgtT {c : Code} (t : Nat) (h : wpD P G M c Q (tl.modify t D.fgt) hl df) : wpD P G M c Q tl hl df := wpD_weak (leT_fgt tl t) h
/-- a temporary is forgotten -/
theorem wpD_junkT {c : Code} (t : Nat) (h : wpD P G M c Q (tl.modify t fun _ => .junk) hl df) : wpD P G M c Q tl hl df := wpD_weak (leT_junk tl t) h

theorem leT_put : ∀ (W : List Nat) {l m : List D}, leT l m → leT (putAll l W (W.map fun _ => .junk)) m
  | [], l, m, h => by cases l <;> exact h
  | i :: r, l, m, h => leT_put r (leT_set i h)
/-- temporaries are forgotten -/
theorem wpD_junkW {c : Code} (W : List Nat) (h : wpD P G M c Q (putAll tl W (W.map fun _ => .junk)) hl df) : wpD P G M c Q tl hl df := wpD_weak (leT_put W (leT_refl tl)) h

/-- behind a statement whose ends are many: ds: what is still known of the temporaries W -/
theorem wpD_seqf {x y : Code} (W : List Nat) (ds : List D) (hl1 : List HO) (h1 : wpD P G M y Q (putAll tl W ds) hl1 df)
    (h2 : ∀ K : List D → List HO → Df → Prop, (∀ tl', leT (putAll tl W ds) tl' → K tl' hl1 df) → wpD P G M x (thenD K Q) tl hl df) : wpD P G M (.seq x y) Q tl hl df :=
  wpD_seqk fun K hK => h2 K fun tl' h => hK _ _ _ (wpD_weak h h1)
end
end Go.Proofs.Ytlepjegkcmphoaa
