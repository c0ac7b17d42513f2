/-
  Statements whose ends are many: what one wrote may be forgotten behind it.
-/
import Derived.Test.YtbjgdeednmhpfaaDrng
set_option linter.unusedSimpArgs false
set_option linter.unusedVariables false
namespace Go.Proofs.Ytbjgdeednmhpfaa
open Go.RowKit

/-- the second list knows as much at least -/
def leT : List D → List D → Prop
  | [], [] => True
  | a :: r, b :: s => (a = .junk ∨ a = b ∨ a = b.fgt) ∧ leT r s
  | _, _ => False
theorem leT_len : ∀ {l m : List D}, leT l m → l.length = m.length
  | [], [], _ => rfl
  | a :: r, b :: s, h => by rw [List.length_cons, List.length_cons, leT_len h.2]
  | [], _ :: _, h => h.elim
  | _ :: _, [], h => h.elim
theorem leT_tm : ∀ {l m : List D}, leT l m → ∀ k, tmOf l k = .junk ∨ tmOf l k = tmOf m k ∨ tmOf l k = (tmOf m k).fgt
  | [], [], _, k => .inr (.inl rfl)
  | a :: r, b :: s, h, 0 => h.1
  | a :: r, b :: s, h, k + 1 => leT_tm h.2 k
  | [], _ :: _, h, _ => h.elim
  | _ :: _, [], h, _ => h.elim
theorem leT_refl : ∀ l : List D, leT l l
  | [] => trivial
  | a :: r => ⟨.inr (.inl rfl), leT_refl r⟩
theorem leT_fgt : ∀ (l : List D) (t : Nat), leT (l.modify t D.fgt) l
  | [], t => by cases t <;> trivial
  | a :: r, 0 => ⟨.inr (.inr rfl), leT_refl r⟩
  | a :: r, t + 1 => ⟨.inr (.inl rfl), leT_fgt r t⟩
theorem leT_junk : ∀ (l : List D) (t : Nat), leT (l.modify t fun _ => .junk) l
  | [], t => by cases t <;> trivial
  | a :: r, 0 => ⟨.inl rfl, leT_refl r⟩
  | a :: r, t + 1 => ⟨.inr (.inl rfl), leT_junk r t⟩

theorem leT_set : ∀ (i : Nat) {l m : List D}, leT l m → leT (l.set i .junk) m
  | i, [], [], h => by cases i <;> trivial
  | 0, a :: r, b :: s, h => ⟨.inl rfl, h.2⟩
  | i + 1, a :: r, b :: s, h => ⟨h.1, leT_set i h.2⟩
  | _, [], _ :: _, h => h.elim
  | _, _ :: _, [], h => h.elim

section
variable {P : Program} {G : Nat → Option D} {M : Nat} {Q : DQ} {tl tl' : List D} {hl : List HO} {df : Df}
theorem wpD_weak {c : Code} (h : leT tl tl') (hw : wpD P G M c Q tl hl df) : wpD P G M c Q tl' hl df := fun ρ0 w0 H0 ρ w a hbs hst => by
  have hlen := leT_len h
  have := hw ρ0 w0 H0 ρ w a hbs ⟨hst.rel, hst.ex, fun k => by
    rcases leT_tm h k with e | e | e
    · rw [e, Rp]; trivial
    · rw [e]; exact hst.tmp k
    · rw [e]; exact Rp_fgt _ _ (hst.tmp k), hst.size.trans hlen.symm, hst.df⟩
  rw [hlen] at this
  exact this

/-- a temporary's right to grow is forgotten -/
theorem wpD_fgtT {c : Code} (t : Nat) (h : wpD P G M c Q (tl.modify t D.fgt) hl df) : wpD P G M c Q tl hl df := wpD_weak (leT_fgt tl t) h
/-- a temporary is forgotten -/
theorem wpD_junkT {c : Code} (t : Nat) (h : wpD P G M c Q (tl.modify t fun _ => .junk) hl df) : wpD P G M c Q tl hl df := wpD_weak (leT_junk tl t) h

theorem leT_put : ∀ (W : List Nat) {l m : List D}, leT l m → leT (putAll l W (W.map fun _ => .junk)) m
  | [], l, m, h => by cases l <;> exact h
  | i :: r, l, m, h => leT_put r (leT_set i h)
/-- temporaries are forgotten -/
theorem wpD_junkW {c : Code} (W : List Nat) (h : wpD P G M c Q (putAll tl W (W.map fun _ => .junk)) hl df) : wpD P G M c Q tl hl df := wpD_weak (leT_put W (leT_refl tl)) h

/-- behind a statement whose ends are many: ds: what is still known of the temporaries W -/
theorem wpD_seqf {x y : Code} (W : List Nat) (ds : List D) (hl1 : List HO) (h1 : wpD P G M y Q (putAll tl W ds) hl1 df)
    (h2 : ∀ K : List D → List HO → Df → Prop, (∀ tl', leT (putAll tl W ds) tl' → K tl' hl1 df) → wpD P G M x (thenD K Q) tl hl df) : wpD P G M (.seq x y) Q tl hl df :=
  wpD_seqk fun K hK => h2 K fun tl' h => hK _ _ _ (wpD_weak h h1)
/-- the same; its ends may have their objects under other names -/
theorem wpD_seqm (hG : ∀ g d, G g = some d → d.pure = true) {x y : Code} (W : List Nat) (ds : List D) (hl1 : List HO) (h1 : wpD P G M y Q (putAll tl W ds) hl1 [])
    (h2 : ∀ K : List D → List HO → Df → Prop, (∀ tl', leT (putAll tl W ds) tl' → K tl' hl1 []) →
      (∀ (κ : List Nat) tl' hl', κ.Nodup → (κ.all fun i => decide (M ≤ i)) = true → leT (putAll tl W ds) (movT M κ tl') → movH M κ hl' = hl1 → K tl' hl' []) → wpD P G M x (thenD K Q) tl hl []) : wpD P G M (.seq x y) Q tl hl [] :=
  wpD_seqk fun K hK => h2 K (fun tl' h => hK _ _ _ (wpD_weak h h1)) fun κ tl' hl' hnd hge h hh => hK _ _ _ (wpD_mov κ hG hnd hge rfl (by
    rw [hh]; exact wpD_weak h h1))

/-! loops whose rounds leave temporaries of which nothing is said: J; S: those of which something is -/
theorem leT_set2 : ∀ (i : Nat) (x : D) {l m : List D}, leT l m → leT (l.set i x) (m.set i x)
  | i, x, [], [], h => by cases i <;> trivial
  | 0, x, a :: r, b :: s, h => ⟨.inr (.inl rfl), h.2⟩
  | i + 1, x, a :: r, b :: s, h => ⟨h.1, leT_set2 i x h.2⟩
  | _, _, [], _ :: _, h => h.elim
  | _, _, _ :: _, [], h => h.elim
theorem leT_set3 : ∀ (i : Nat) (x : D) {l m : List D}, leT l m → leT (l.set i .junk) (m.set i x)
  | i, x, [], [], h => by cases i <;> trivial
  | 0, x, a :: r, b :: s, h => ⟨.inl rfl, h.2⟩
  | i + 1, x, a :: r, b :: s, h => ⟨h.1, leT_set3 i x h.2⟩
  | _, _, [], _ :: _, h => h.elim
  | _, _, _ :: _, [], h => h.elim
theorem leT_all : ∀ (S : List Nat) (ds : List D) {l m : List D}, leT l m → leT (putAll l S ds) (putAll m S ds)
  | [], ds, l, m, h => by cases ds <;> exact h
  | i :: r, [], l, m, h => h
  | i :: r, d :: ds, l, m, h => leT_all r ds (leT_set2 i d h)
theorem leT_pp : ∀ (J S : List Nat) (js ds : List D) {l m : List D}, js.length = J.length → leT l m → leT (putAll l (J ++ S) (J.map (fun _ => .junk) ++ ds)) (putAll m (J ++ S) (js ++ ds))
  | [], S, [], ds, l, m, _, h => leT_all S ds h
  | i :: r, S, j :: js, ds, l, m, hl, h => leT_pp r S js ds (by simpa using hl) (leT_set3 i j h)
  | [], S, _ :: _, ds, l, m, hl, h => by simp at hl
  | i :: r, S, [], ds, l, m, hl, h => by simp at hl
theorem getW_app (J S : List Nat) (tl : List D) : getW (J ++ S) tl = getW J tl ++ getW S tl := List.map_append ..
theorem getW_len (J : List Nat) (tl : List D) : (getW J tl).length = J.length := List.length_map ..

theorem wpD_loopWJ {c : Code} (J S : List Nat) (I : Nat → List D → List HO → Prop) (n0 : Nat) (h0 : tl = putAll tl (J ++ S) (getW (J ++ S) tl)) (hI : I n0 (getW S tl) hl)
    (hr : ∀ n ds hl' (A : List D → List HO → Df → Prop), (∀ m tl2 hl2, m < n → tl2 = putAll tl (J ++ S) (getW (J ++ S) tl2) → I m (getW S tl2) hl2 → A tl2 hl2 df) → I n ds hl' → wpD P G M c (thenD A Q) (putAll tl (J ++ S) (J.map (fun _ => .junk) ++ ds)) hl' df) : wpD P G M (.loop c) Q tl hl df := by
  refine wpD_loopW (J ++ S) (fun n ys hl => ∃ js ds, ys = js ++ ds ∧ js.length = J.length ∧ I n ds hl) n0 h0 ⟨_, _, getW_app .., getW_len .., hI⟩ ?_
  rintro n ys hl' A hA ⟨js, ds, rfl, hj, hIn⟩
  exact wpD_weak (leT_pp J S js ds hj (leT_refl _)) (hr n ds hl' A (fun m tl2 hl2 h1 h2 h3 => hA m tl2 hl2 h1 h2 ⟨_, _, getW_app .., getW_len .., h3⟩) hIn)

theorem wpD_loopVJ {c : Code} (hG : ∀ g d, G g = some d → d.pure = true) (J S : List Nat) (I : Nat → List D → List HO → Prop) (n0 : Nat) (h0 : tl = putAll tl (J ++ S) (getW (J ++ S) tl)) (hI : I n0 (getW S tl) hl)
    (hr : ∀ n ds hl' (A : List D → List HO → Df → Prop), (∀ k tl2 hl2, k < n → tl2.map (D.cut hl.length) = putAll tl (J ++ S) (getW (J ++ S) (tl2.map (D.cut hl.length))) → I k (getW S (tl2.map (D.cut hl.length))) ((hl2.take hl.length).map (HO.cut hl.length)) → A tl2 hl2 []) → I n ds hl' →
      wpD P G M c (thenD A Q) (putAll tl (J ++ S) (J.map (fun _ => .junk) ++ ds)) hl' []) : wpD P G M (.loop c) Q tl hl [] := by
  refine wpD_loopV hG (J ++ S) (fun n ys hl => ∃ js ds, ys = js ++ ds ∧ js.length = J.length ∧ I n ds hl) n0 h0 ⟨_, _, getW_app .., getW_len .., hI⟩ ?_
  rintro n ys hl' A hA ⟨js, ds, rfl, hj, hIn⟩
  exact wpD_weak (leT_pp J S js ds hj (leT_refl _)) (hr n ds hl' A (fun m tl2 hl2 h1 h2 h3 => hA m tl2 hl2 h1 h2 ⟨_, _, getW_app .., getW_len .., h3⟩) hIn)

theorem wpD_loopMJ {c : Code} (hG : ∀ g d, G g = some d → d.pure = true) (J S : List Nat) (I : Nat → List D → List HO → Prop) (n0 : Nat) (h0 : tl = putAll tl (J ++ S) (getW (J ++ S) tl)) (hI : I n0 (getW S tl) hl)
    (hr : ∀ n ds hl' (A : List D → List HO → Df → Prop), (∀ k tl2 hl2, k < n → tl2 = putAll tl (J ++ S) (getW (J ++ S) tl2) → I k (getW S tl2) hl2 → A tl2 hl2 []) →
      (∀ (κ : List Nat) k tl2 hl2, κ.Nodup → (κ.all fun i => decide (M ≤ i)) = true → k < n → movT M κ tl2 = putAll tl (J ++ S) (getW (J ++ S) (movT M κ tl2)) → I k (getW S (movT M κ tl2)) (movH M κ hl2) → A tl2 hl2 []) → I n ds hl' →
      wpD P G M c (thenD A Q) (putAll tl (J ++ S) (J.map (fun _ => .junk) ++ ds)) hl' []) : wpD P G M (.loop c) Q tl hl [] := by
  refine wpD_loopM hG (J ++ S) (fun n ys hl => ∃ js ds, ys = js ++ ds ∧ js.length = J.length ∧ I n ds hl) n0 h0 ⟨_, _, getW_app .., getW_len .., hI⟩ ?_
  rintro n ys hl' A hA hA2 ⟨js, ds, rfl, hj, hIn⟩
  exact wpD_weak (leT_pp J S js ds hj (leT_refl _)) (hr n ds hl' A (fun m tl2 hl2 h1 h2 h3 => hA m tl2 hl2 h1 h2 ⟨_, _, getW_app .., getW_len .., h3⟩)
    (fun κ m tl2 hl2 k1 k2 h1 h2 h3 => hA2 κ m tl2 hl2 k1 k2 h1 h2 ⟨_, _, getW_app .., getW_len .., h3⟩) hIn)


theorem wpD_rangeJ {T : TypeId → Ty} (hT : ∀ t, TyOK P t (T t)) (hG : ∀ g d, G g = some d → d.pure = true) {b0 b1 r1 r2 : Nat} {ops1 ops2 : Array Oper} {o1 o2 o3 : Oper} {body : Code} {ti tk tn td ts : Nat} (J S : List Nat) (n : Nat) (I : Nat → List D → List HO → Prop)
    (h1 : ops1.toList = [o1]) (e1 : o1.op = .binOp .lss ti (.tmp tk) (.tmp tn) ti) (g1 : o1.guard = none) (d1 : o1.dst = some td) (h2 : ops2.toList = [o2, o3]) (e2 : o2.op = .binOp .add ti (.tmp tk) (.const (.int .i64 1)) ti) (g2 : o2.guard = none) (d2 : o2.dst = some ts)
    (e3 : o3.op = .move (.tmp ts)) (g3 : o3.guard = none) (d3 : o3.dst = some tk) (hti : (T ti).k = .int .i64) (hlen : tk < tl.length ∧ td < tl.length ∧ ts < tl.length) (hne : td ≠ tk ∧ td ≠ tn ∧ ts ≠ tk ∧ ts ≠ tn ∧ tk ≠ tn) (hn : tl.getD tn .junk = .int .i64 n) (hnl : n ≤ LMax) (hk0 : tl.getD tk .junk = .int .i64 0)
    (hw : tl = (putAll tl (J ++ S) (getW (J ++ S) tl)).set tk (.int .i64 0)) (htn : ¬ tn ∈ J ++ S)
    (hI : I 0 (getW S tl) hl)
    (hr : ∀ k ds hl' (A : List D → List HO → Df → Prop), k < n → I k ds hl' →
      (∀ tl2 hl2, (tl2.set ts (.int .i64 (k + 1))).set tk (.int .i64 (k + 1)) = (putAll tl (J ++ S) (getW (J ++ S) ((tl2.set ts (.int .i64 (k + 1))).set tk (.int .i64 (k + 1))))).set tk (.int .i64 (k + 1)) → I (k + 1) (getW S ((tl2.set ts (.int .i64 (k + 1))).set tk (.int .i64 (k + 1)))) hl2 → tl2.getD tk .junk = .int .i64 k → A tl2 hl2 []) →
      (∀ (κ : List Nat) tl2 hl2, κ.Nodup → (κ.all fun i => decide (M ≤ i)) = true → movT M κ ((tl2.set ts (.int .i64 (k + 1))).set tk (.int .i64 (k + 1))) = (putAll tl (J ++ S) (getW (J ++ S) (movT M κ ((tl2.set ts (.int .i64 (k + 1))).set tk (.int .i64 (k + 1)))))).set tk (.int .i64 (k + 1)) →
        I (k + 1) (getW S (movT M κ ((tl2.set ts (.int .i64 (k + 1))).set tk (.int .i64 (k + 1))))) (movH M κ hl2) → tl2.getD tk .junk = .int .i64 k → A tl2 hl2 []) →
      wpD P G M body (blockD b1 (thenD A (blockD b0 Q))) (((putAll tl (J ++ S) (J.map (fun _ => .junk) ++ ds)).set tk (.int .i64 k)).set td (.bool true)) hl' [])
    (he : ∀ ds hl' tl', I n ds hl' → leT (((putAll tl (J ++ S) (J.map (fun _ => .junk) ++ ds)).set tk (.int .i64 n)).set td (.bool false)) tl' → Q .nrm tl' hl' []) :
    wpD P G M (.block b0 (.loop (.seq (.region r1 ops1 false) (.seq (.cond (.tmp td) .skip (.exit b0)) (.seq (.block b1 body) (.region r2 ops2 false)))))) Q tl hl [] := by
  refine wpD_range hT hG (J ++ S) n (fun k ys hl => ∃ js ds, ys = js ++ ds ∧ js.length = J.length ∧ I k ds hl) h1 e1 g1 d1 h2 e2 g2 d2 e3 g3 d3 hti hlen hne hn hnl hk0 hw htn ⟨_, _, getW_app .., getW_len .., hI⟩ ?_ ?_
  · rintro k ys hl' A hk ⟨js, ds, rfl, hj, hIn⟩ hA hA2
    refine wpD_weak (leT_set2 _ _ (leT_set2 _ _ (leT_pp J S js ds hj (leT_refl _)))) (hr k ds hl' A hk hIn (fun tl2 hl2 h1 h2 h3 => hA tl2 hl2 h1 ⟨_, _, getW_app .., getW_len .., h2⟩ h3)
      (fun κ tl2 hl2 k1 k2 h1 h2 h3 => hA2 κ tl2 hl2 k1 k2 h1 ⟨_, _, getW_app .., getW_len .., h2⟩ h3))
  · rintro ys hl' ⟨js, ds, rfl, hj, hIn⟩
    exact he ds hl' _ hIn (leT_set2 _ _ (leT_set2 _ _ (leT_pp J S js ds hj (leT_refl _))))
end
end Go.Proofs.Ytbjgdeednmhpfaa
