/-
  MH3: the texts Drng Denc Dglob Dfor Tcl Tbi Tow Twk Tlf Tpt Tsz Tfr Lmap Lhid Lay Lsort Llev Lmad Lleq Llaw Lpd Lkit, one behind the other.
-/
import Derived.WalkKit
import Derived.Maps.RangeWalk
import Derived.Shelf.SlIterI.Nil
import Derived.Shelf.SortM.Plain
import Derived.Shelf.SortM.SortNone
import Derived.Ground.GgzProg
import Derived.Ground.SlgmProg
import Derived.Test.YtebmlojhdnldgaaDoorChecked
import Derived.Test.YtebmlojhdnldgaaDoorMH2
namespace Go.Proofs.YtebmlojhdnldgaaDoor
set_option linter.unusedSimpArgs false
set_option linter.unusedVariables false
open Go.RowKit
section
variable {G : Nat → Option D} {tl : List D} {hl : List HO} {P : Program} {Q : DQ} {M : Nat}
def Out.mov (m : Nat) (κ : List Nat) : Out → Out
  | .ret d => .ret (d.mov m κ)
  | .pan d => .pan (d.mov m κ)
/-- what is told, some objects under other names -/
def PostM (m : Nat) (Post : Out → List HO → Prop) (o : Out) (hl : List HO) : Prop := Post o hl ∨ ∃ κ : List Nat, κ.Nodup ∧ (κ.all fun i => decide (m ≤ i)) = true ∧ Post (o.mov m κ) (movH m κ hl)
theorem Spec.movd (hG : ∀ g d, G g = some d → d.pure = true) {f : FuncId} {args : List D} {hc : List HO} {Post : Out → List HO → Prop} (h : Spec P G f args hc (PostM hc.length Post)) : Spec P G f args hc Post := by
  intro ρ w vs hR hvs
  obtain ⟨h1, h2⟩ := h ρ w vs hR hvs
  refine ⟨h1, h2.mono ?_⟩
  rintro e w' ⟨ρ', out, hc', hp | ⟨κ, hnd, hge, hp⟩, ho, g1, g2⟩
  · exact ⟨ρ', out, hc', hp, ho, g1, g2⟩
  · have hbs : ∀ i, hc.length ≤ i → ρ.nm i = none := fun i hi => hR.free i (by unfold hOf; rw [List.getD_eq_getElem?_getD, List.getElem?_eq_none hi]; rfl)
    have hst : InSt G ρ w (hOf hc) 0 ρ' w' { tmps := #[], defers := [] } (tmOf []) (hOf hc') [] := ⟨g1, g2, fun k => by show Rp ρ' w' .junk _; rw [Rp]; trivial, rfl, rfl⟩
    have hst2 := hst.mov (κ := κ) hG hbs hnd (fun i hi => by simpa using List.all_eq_true.1 hge i hi) rfl
    refine ⟨ρ'.mov hc.length κ, out.mov hc.length κ, movH hc.length κ hc', hp, ?_, hst2.rel, hst2.ex⟩
    have hm : ∀ d u, Rp ρ' w' d u → Rp (ρ'.mov hc.length κ) w' (d.mov hc.length κ) u := fun d u hu => by
      unfold D.mov
      split
      · rename_i hok; exact Rp_ren mov_nm rfl _ _ hok hu
      · rw [Rp]; trivial
    cases out with
    | ret d => obtain ⟨u, e1, e2⟩ := ho; exact ⟨u, e1, hm d u e2⟩
    | pan d => obtain ⟨u, e1, e2⟩ := ho; exact ⟨u, e1, hm d u e2⟩
/-- a loop: at a round's end some objects may be kept under other names -/
theorem wpD_loopG {c : Code} (hG : ∀ g d, G g = some d → d.pure = true) (I : Nat → List D → List HO → Prop) (n0 : Nat) (hI : I n0 tl hl)
    (hr : ∀ n tl' hl' (A : List D → List HO → Df → Prop), tl'.length = tl.length → (∀ k tl2 hl2, k < n → I k tl2 hl2 → A tl2 hl2 []) →
      (∀ (κ : List Nat) k tl2 hl2, κ.Nodup → (κ.all fun i => decide (M ≤ i)) = true → k < n → I k (movT M κ tl2) (movH M κ hl2) → A tl2 hl2 []) → I n tl' hl' → wpD P G M c (thenD A Q) tl' hl' []) : wpD P G M (.loop c) Q tl hl [] := fun ρ0 w0 H0 ρ w a hbs hst => by
  intro b k cs
  have key : ∀ n tl' hl' ρ w a, tl'.length = tl.length → I n tl' hl' → InSt G ρ0 w0 H0 tl.length ρ w a (tmOf tl') (hOf hl') [] →
      ∃ e a' w', LiftQ G ρ0 w0 H0 tl.length Q e a' w' ∧ Arrives P (lone (b.at a (.code c :: .inLoop c :: k)) cs w) b k cs e a' w' := by
    intro n
    induction n using Nat.strongRecOn with
    | _ n ih =>
      intro tl' hl' ρ w a hl1 hI hst
      obtain ⟨e, a₁, w₁, hq, harr⟩ := hr n tl' hl' (fun tl2 hl2 df2 => df2 = [] ∧ ((∃ k, k < n ∧ I k tl2 hl2) ∨ ∃ (κ : List Nat) (k : Nat), κ.Nodup ∧ (κ.all fun i => decide (M ≤ i)) = true ∧ k < n ∧ I k (movT M κ tl2) (movH M κ hl2))) hl1
        (fun k tl2 hl2 h1 h3 => ⟨rfl, .inl ⟨k, h1, h3⟩⟩) (fun κ k tl2 hl2 h1 h2 h3 h5 => ⟨rfl, .inr ⟨κ, k, h1, h2, h3, h5⟩⟩) hI ρ0 w0 H0 ρ w a hbs (hl1 ▸ hst) b (.inLoop c :: k) cs
      rw [hl1] at hq
      obtain ⟨x, tl2, hl2, df2, ρ2, h1, h2, h3, h4⟩ := hq
      cases x with
      | nrm =>
        cases h2
        obtain ⟨rfl, ⟨k', hk', hI2⟩ | ⟨κ, k', hnd, hge, hk', hI2⟩⟩ := h1
        · obtain ⟨e₂, a₂, w₂, hq₂, harr₂⟩ := ih k' hk' _ _ ρ2 w₁ a₁ h3 hI2 h4
          exact ⟨e₂, a₂, w₂, hq₂, .of_steps (Steps.trans harr (.one step_inLoop)) harr₂⟩
        · have h5 := h4.mov hG hbs hnd (fun i hi => by simpa using List.all_eq_true.1 hge i hi) rfl
          obtain ⟨e₂, a₂, w₂, hq₂, harr₂⟩ := ih k' hk' _ _ (ρ2.mov M κ) w₁ a₁ (by unfold movT; rw [List.length_map]; exact h3) hI2 h5
          exact ⟨e₂, a₂, w₂, hq₂, .of_steps (Steps.trans harr (.one step_inLoop)) harr₂⟩
      | ret => cases h2; exact ⟨_, a₁, w₁, ⟨.ret, tl2, hl2, df2, ρ2, h1, rfl, h3, h4⟩, .pass (x := .inLoop c) rfl (fun _ _ => .inl (by simp)) harr⟩
      | ext i => cases h2; exact ⟨_, a₁, w₁, ⟨.ext i, tl2, hl2, df2, ρ2, h1, rfl, h3, h4⟩, .pass (x := .inLoop c) rfl (fun _ _ => .inl (by simp)) harr⟩
      | pan d =>
        obtain ⟨u, rfl, hu⟩ := h2
        exact ⟨_, a₁, w₁, ⟨.pan d, tl2, hl2, df2, ρ2, h1, ⟨u, rfl, hu⟩, h3, h4⟩, .pass (x := .inLoop c) rfl (fun _ _ => .inl (by simp)) harr⟩
  obtain ⟨e, a', w', hq, harr⟩ := key n0 _ _ ρ w a rfl hI hst
  exact ⟨e, a', w', hq, .of_steps (.one step_loop) harr⟩
variable {T : TypeId → Ty}
theorem putAll_getD {n : Nat} : ∀ (W : List Nat) (tl ys : List D), ¬ n ∈ W → (putAll tl W ys).getD n .junk = tl.getD n .junk
  | [], tl, ys, _ => by cases ys <;> rfl
  | i :: r, tl, [], _ => rfl
  | i :: r, tl, y :: ys, h => by
    rw [putAll, putAll_getD r _ _ (fun hm => h (List.mem_cons_of_mem _ hm)), List.getD_eq_getElem?_getD, List.getElem?_set_ne (fun e => h (by rw [← e]; exact List.mem_cons_self ..)), ← List.getD_eq_getElem?_getD]
/-- A loop over a slice's places: I k: so many rounds are done. -/
theorem wpD_rangeA (hT : ∀ t, TyOK P t (T t)) (hG : ∀ g d, G g = some d → d.pure = true) {b0 b1 r1 r2 : Nat} {ops1 ops2 : Array Oper} {o1 o2 o3 : Oper} {body : Code} {ti tk tn td ts : Nat} (W : List Nat) (n : Nat) (I : Nat → List D → List HO → Prop)
    (h1 : ops1.toList = [o1]) (e1 : o1.op = .binOp .lss ti (.tmp tk) (.tmp tn) ti) (g1 : o1.guard = none) (d1 : o1.dst = some td) (h2 : ops2.toList = [o2, o3]) (e2 : o2.op = .binOp .add ti (.tmp tk) (.const (.int .i64 1)) ti) (g2 : o2.guard = none) (d2 : o2.dst = some ts)
    (e3 : o3.op = .move (.tmp ts)) (g3 : o3.guard = none) (d3 : o3.dst = some tk) (hti : (T ti).k = .int .i64) (hlen : tk < tl.length ∧ td < tl.length ∧ ts < tl.length) (hne : td ≠ tk ∧ td ≠ tn ∧ ts ≠ tk ∧ ts ≠ tn ∧ tk ≠ tn) (hn : tl.getD tn .junk = .int .i64 n) (hnl : n ≤ LMax) (hk0 : tl.getD tk .junk = .int .i64 0)
    (hw : tl = (putAll tl W (getW W tl)).set tk (.int .i64 0)) (htn : ¬ tn ∈ W)
    (hI : I 0 (getW W tl) hl)
    (hr : ∀ k ys hl' (A : List D → List HO → Df → Prop), k < n → I k ys hl' →
      (∀ tl2 hl2, (tl2.set ts (.int .i64 (k + 1))).set tk (.int .i64 (k + 1)) = (putAll tl W (getW W ((tl2.set ts (.int .i64 (k + 1))).set tk (.int .i64 (k + 1))))).set tk (.int .i64 (k + 1)) → I (k + 1) (getW W ((tl2.set ts (.int .i64 (k + 1))).set tk (.int .i64 (k + 1)))) hl2 → tl2.getD tk .junk = .int .i64 k → A tl2 hl2 []) →
      (∀ (κ : List Nat) tl2 hl2, κ.Nodup → (κ.all fun i => decide (M ≤ i)) = true → movT M κ ((tl2.set ts (.int .i64 (k + 1))).set tk (.int .i64 (k + 1))) = (putAll tl W (getW W (movT M κ ((tl2.set ts (.int .i64 (k + 1))).set tk (.int .i64 (k + 1)))))).set tk (.int .i64 (k + 1)) →
        I (k + 1) (getW W (movT M κ ((tl2.set ts (.int .i64 (k + 1))).set tk (.int .i64 (k + 1))))) (movH M κ hl2) → tl2.getD tk .junk = .int .i64 k → A tl2 hl2 []) →
      (∀ tl3 tl2 hl2, leT tl3 tl2 → A tl3 hl2 [] → A tl2 hl2 []) →
      wpD P G M body (blockD b1 (thenD A (blockD b0 Q))) (((putAll tl W ys).set tk (.int .i64 k)).set td (.bool true)) hl' [])
    (he : ∀ ys hl', I n ys hl' → Q .nrm (((putAll tl W ys).set tk (.int .i64 n)).set td (.bool false)) hl' []) :
    wpD P G M (.block b0 (.loop (.seq (.region r1 ops1 false) (.seq (.cond (.tmp td) .skip (.exit b0)) (.seq (.block b1 body) (.region r2 ops2 false)))))) Q tl hl [] := by
  have hnl' := hnl
  unfold LMax at hnl'
  refine wpD_block ?_
  refine wpD_loopG hG (fun m tl' hl' => ∃ k ys, m + k = n ∧ tl' = (putAll tl W ys).set tk (.int .i64 k) ∧ I k ys hl') n ⟨0, _, rfl, hw, hI⟩ ?_
  rintro m tl' hl' A hlen' hA hA' ⟨k, ys, hm, rfl, hIk⟩
  have hpl : (putAll tl W ys).length = tl.length := putAll_length _ _ _
  have hgn : ((putAll tl W ys).set tk (.int .i64 k)).getD tn .junk = .int .i64 n := by
    rw [List.getD_eq_getElem?_getD, List.getElem?_set_ne hne.2.2.2.2, ← List.getD_eq_getElem?_getD, putAll_getD _ _ _ htn, hn]
  have hgk : ((putAll tl W ys).set tk (.int .i64 k)).getD tk .junk = .int .i64 k := by
    rw [List.getD_eq_getElem?_getD, List.getElem?_set_self (by rw [hpl]; exact hlen.1)]; rfl
  refine wpD_seq (wpD_region hT ?_)
  rw [h1, wpS_cons, wpS_nil]
  have hev : evOp T (opD G (tmOf ((putAll tl W ys).set tk (.int .i64 k)))) (hOf hl') hl'.length o1 = some (.val (.bool (decide ((k : Int) < n))) [] []) := by
    unfold evOp
    rw [e1]
    simp only [opD, tmOf, hgn, hgk, nilTest_lss, Bool.false_eq_true, if_false, pairX_int, binX, binD, isCst, hti]
    rfl
  have hwt : wantD ops1 (tmOf ((putAll tl W ys).set tk (.int .i64 k))) o1 = some true := by unfold wantD; rw [g1]
  rw [hwt, hev]
  simp only [if_true, d1, putS, updS, thenD]
  have hset : ((((putAll tl W ys).set tk (.int .i64 k)).set td (.bool (decide ((k : Int) < n))))).getD td .junk = .bool (decide ((k : Int) < n)) := by
    rw [List.getD_eq_getElem?_getD, List.getElem?_set_self (by rw [List.length_set, hpl]; exact hlen.2.1)]; rfl
  refine wpD_seq (wpD_part (b := decide ((k : Int) < n)) hset (fun hk => ?_) (fun hk => ?_))
  · have hkn : k < n := by simpa using hk
    refine wpD_skip ?_
    refine wpD_seq (wpD_block ?_)
    rw [hk]
    -- behind the body
    have hinc : ∀ tl2 hl2, tl2.getD tk .junk = .int .i64 k → A ((tl2.set ts (.int .i64 (k + 1))).set tk (.int .i64 (k + 1))) hl2 [] → tl2.length = tl.length → wpD P G M (.region r2 ops2 false) (thenD A (blockD b0 Q)) tl2 hl2 [] := fun tl2 hl2 hq hAA hl2l => by
      refine wpD_region hT ?_
      have hev2 : evOp T (opD G (tmOf tl2)) (hOf hl2) hl2.length o2 = some (.val (.int .i64 (k + 1)) [] []) := by
        unfold evOp
        rw [e2]
        have hw1 : IntKind.i64.wrap ((k : Int) + 1) = (k : Int) + 1 := i64w (by omega) (by omega)
        have hc1 : D.ofV (.int .i64 1) = .int .i64 1 := by kernel_rfl
        simp only [opD, tmOf, hq, nilTest_add, Bool.false_eq_true, if_false, pairX_int, binX, binD, isCst, hti, hc1, if_true, hw1]
        rfl
      rw [h2, wpS_cons]
      have hwt2 : wantD ops2 (tmOf tl2) o2 = some true := by unfold wantD; rw [g2]
      rw [hwt2, hev2]
      simp only [if_true, d2, putS, updS]
      rw [wpS_cons]
      have hwt3 : wantD ops2 (tmOf (tl2.set ts (.int .i64 (k + 1)))) o3 = some true := by unfold wantD; rw [g3]
      have hev3 : evOp T (opD G (tmOf (tl2.set ts (.int .i64 (k + 1))))) (hOf hl2) hl2.length o3 = some (.val (.int .i64 (k + 1)) [] []) := by
        unfold evOp
        rw [e3]
        simp only [opD, tmOf]
        rw [List.getD_eq_getElem?_getD, List.getElem?_set_self (by rw [hl2l]; exact hlen.2.2)]; rfl
      rw [hwt3, hev3]
      simp only [if_true, d3, putS, updS, wpS_nil, thenD]
      exact hAA
    have hcast : ((k + 1 : Nat) : Int) = (k : Int) + 1 := by omega
    refine wpD_mono (hr k ys hl' (fun tl hl df => wpD P G M (.region r2 ops2 false) (thenD A (blockD b0 Q)) tl hl df) hkn hIk (fun tl2 hl2 heq hI1 hq => ?_) (fun κ tl2 hl2 hnd hge heq hI1 hq => ?_) (fun tl3 tl2 hl2 hle h => wpD_weak hle h)) (fun x tl hl df hx => ?_)
    · have hl2l : tl2.length = tl.length := by
        have := congrArg List.length heq
        simpa [putAll_length] using this
      refine hinc tl2 hl2 hq (hA (m - 1) _ _ (by omega) ⟨k + 1, _, by omega, ?_, hI1⟩) hl2l
      rw [hcast]; exact heq
    · have hl2l : tl2.length = tl.length := by
        have := congrArg List.length heq
        simpa [putAll_length, movT] using this
      refine hinc tl2 hl2 hq (hA' κ (m - 1) _ _ hnd hge (by omega) ⟨k + 1, _, by omega, ?_, hI1⟩) hl2l
      rw [hcast]; exact heq
    · cases x with
      | nrm => exact hx
      | ret => exact hx
      | pan d => exact hx
      | ext i =>
        show (if i = b1 then _ else _)
        have hx' : (if i = b1 then wpD P G M (.region r2 ops2 false) (thenD A (blockD b0 Q)) tl hl df else blockD b0 Q (.ext i) tl hl df) := hx
        split
        · rename_i hi; rw [if_pos hi] at hx'; exact hx'
        · rename_i hi; rw [if_neg hi] at hx'; exact hx'
  · have hkn : k = n := by have : ¬ ((k : Int) < n) := by simpa using hk
                           omega
    subst hkn
    refine wpD_exit ?_
    rw [hk]
    show (if b0 = b0 then _ else _)
    rw [if_pos rfl]
    exact he ys hl' hIk
/-- A loop over a slice's places: I k: so many rounds are done. -/
theorem wpD_range (hT : ∀ t, TyOK P t (T t)) (hG : ∀ g d, G g = some d → d.pure = true) {b0 b1 r1 r2 : Nat} {ops1 ops2 : Array Oper} {o1 o2 o3 : Oper} {body : Code} {ti tk tn td ts : Nat} (W : List Nat) (n : Nat) (I : Nat → List D → List HO → Prop)
    (h1 : ops1.toList = [o1]) (e1 : o1.op = .binOp .lss ti (.tmp tk) (.tmp tn) ti) (g1 : o1.guard = none) (d1 : o1.dst = some td) (h2 : ops2.toList = [o2, o3]) (e2 : o2.op = .binOp .add ti (.tmp tk) (.const (.int .i64 1)) ti) (g2 : o2.guard = none) (d2 : o2.dst = some ts)
    (e3 : o3.op = .move (.tmp ts)) (g3 : o3.guard = none) (d3 : o3.dst = some tk) (hti : (T ti).k = .int .i64) (hlen : tk < tl.length ∧ td < tl.length ∧ ts < tl.length) (hne : td ≠ tk ∧ td ≠ tn ∧ ts ≠ tk ∧ ts ≠ tn ∧ tk ≠ tn) (hn : tl.getD tn .junk = .int .i64 n) (hnl : n ≤ LMax) (hk0 : tl.getD tk .junk = .int .i64 0)
    (hw : tl = (putAll tl W (getW W tl)).set tk (.int .i64 0)) (htn : ¬ tn ∈ W)
    (hI : I 0 (getW W tl) hl)
    (hr : ∀ k ys hl' (A : List D → List HO → Df → Prop), k < n → I k ys hl' →
      (∀ tl2 hl2, (tl2.set ts (.int .i64 (k + 1))).set tk (.int .i64 (k + 1)) = (putAll tl W (getW W ((tl2.set ts (.int .i64 (k + 1))).set tk (.int .i64 (k + 1))))).set tk (.int .i64 (k + 1)) → I (k + 1) (getW W ((tl2.set ts (.int .i64 (k + 1))).set tk (.int .i64 (k + 1)))) hl2 → tl2.getD tk .junk = .int .i64 k → A tl2 hl2 []) →
      (∀ (κ : List Nat) tl2 hl2, κ.Nodup → (κ.all fun i => decide (M ≤ i)) = true → movT M κ ((tl2.set ts (.int .i64 (k + 1))).set tk (.int .i64 (k + 1))) = (putAll tl W (getW W (movT M κ ((tl2.set ts (.int .i64 (k + 1))).set tk (.int .i64 (k + 1)))))).set tk (.int .i64 (k + 1)) →
        I (k + 1) (getW W (movT M κ ((tl2.set ts (.int .i64 (k + 1))).set tk (.int .i64 (k + 1))))) (movH M κ hl2) → tl2.getD tk .junk = .int .i64 k → A tl2 hl2 []) →
      wpD P G M body (blockD b1 (thenD A (blockD b0 Q))) (((putAll tl W ys).set tk (.int .i64 k)).set td (.bool true)) hl' [])
    (he : ∀ ys hl', I n ys hl' → Q .nrm (((putAll tl W ys).set tk (.int .i64 n)).set td (.bool false)) hl' []) :
    wpD P G M (.block b0 (.loop (.seq (.region r1 ops1 false) (.seq (.cond (.tmp td) .skip (.exit b0)) (.seq (.block b1 body) (.region r2 ops2 false)))))) Q tl hl [] :=
  wpD_rangeA hT hG W n I h1 e1 g1 d1 h2 e2 g2 d2 e3 g3 d3 hti hlen hne hn hnl hk0 hw htn hI (fun k ys hl' A hk hIk hA hA2 _ => hr k ys hl' A hk hIk hA hA2) he
end
end Go.Proofs.YtebmlojhdnldgaaDoor

namespace Go.Proofs.YtebmlojhdnldgaaDoor
set_option linter.unusedSimpArgs false
set_option linter.unusedVariables false
open Go.RowKit
@[simp] theorem pures_nil : D.pures [] = true := rfl
@[simp] theorem fgts_nil : D.fgts [] = [] := rfl
@[simp] theorem cells_agg (cs : List D) : (D.agg cs).cells = cs := rfl
@[simp] theorem size_agg (cs : List D) : (D.agg cs).size = cs.length := rfl
@[simp] theorem one_agg (cs : List D) : (D.agg cs).one = false := rfl
@[simp] theorem cells_junk  : (D.junk : D).cells = [(D.junk : D)] := rfl
@[simp] theorem size_junk  : (D.junk : D).size = 1 := rfl
@[simp] theorem one_junk  : (D.junk : D).one = false := rfl
@[simp] theorem cells_int (x0 : IntKind) (x1 : Int) : (D.int x0 x1 : D).cells = [(D.int x0 x1 : D)] := rfl
@[simp] theorem size_int (x0 : IntKind) (x1 : Int) : (D.int x0 x1 : D).size = 1 := rfl
@[simp] theorem one_int (x0 : IntKind) (x1 : Int) : (D.int x0 x1 : D).one = true := rfl
@[simp] theorem cells_bool (x0 : Bool) : (D.bool x0 : D).cells = [(D.bool x0 : D)] := rfl
@[simp] theorem size_bool (x0 : Bool) : (D.bool x0 : D).size = 1 := rfl
@[simp] theorem one_bool (x0 : Bool) : (D.bool x0 : D).one = true := rfl
@[simp] theorem cells_str {x0} : (D.str x0 : D).cells = [(D.str x0 : D)] := rfl
@[simp] theorem size_str {x0} : (D.str x0 : D).size = 1 := rfl
@[simp] theorem one_str {x0} : (D.str x0 : D).one = true := rfl
@[simp] theorem cells_nilp  : (D.nilp : D).cells = [(D.nilp : D)] := rfl
@[simp] theorem size_nilp  : (D.nilp : D).size = 1 := rfl
@[simp] theorem one_nilp  : (D.nilp : D).one = true := rfl
@[simp] theorem cells_nilf  : (D.nilf : D).cells = [(D.nilf : D)] := rfl
@[simp] theorem size_nilf  : (D.nilf : D).size = 1 := rfl
@[simp] theorem one_nilf  : (D.nilf : D).one = true := rfl
@[simp] theorem cells_nili  : (D.nili : D).cells = [(D.nili : D)] := rfl
@[simp] theorem size_nili  : (D.nili : D).size = 1 := rfl
@[simp] theorem one_nili  : (D.nili : D).one = true := rfl
@[simp] theorem cells_nilm  : (D.nilm : D).cells = [(D.nilm : D)] := rfl
@[simp] theorem size_nilm  : (D.nilm : D).size = 1 := rfl
@[simp] theorem one_nilm  : (D.nilm : D).one = true := rfl
@[simp] theorem cells_fn (x0) (x1 x2 : List D) : (D.fn x0 x1 x2 : D).cells = [(D.fn x0 x1 x2 : D)] := rfl
@[simp] theorem size_fn (x0) (x1 x2 : List D) : (D.fn x0 x1 x2 : D).size = 1 := rfl
@[simp] theorem one_fn (x0) (x1 x2 : List D) : (D.fn x0 x1 x2 : D).one = true := rfl
@[simp] theorem cells_iface (x0) (x1 : D) : (D.iface x0 x1 : D).cells = [(D.iface x0 x1 : D)] := rfl
@[simp] theorem size_iface (x0) (x1 : D) : (D.iface x0 x1 : D).size = 1 := rfl
@[simp] theorem one_iface (x0) (x1 : D) : (D.iface x0 x1 : D).one = true := rfl
@[simp] theorem cells_tuple (x0 : List D) : (D.tuple x0 : D).cells = [(D.tuple x0 : D)] := rfl
@[simp] theorem size_tuple (x0 : List D) : (D.tuple x0 : D).size = 1 := rfl
@[simp] theorem one_tuple (x0 : List D) : (D.tuple x0 : D).one = false := rfl
@[simp] theorem cells_slice (x0 : List D) (x1 : Cp) : (D.slice x0 x1 : D).cells = [(D.slice x0 x1 : D)] := rfl
@[simp] theorem size_slice (x0 : List D) (x1 : Cp) : (D.slice x0 x1 : D).size = 1 := rfl
@[simp] theorem one_slice (x0 : List D) (x1 : Cp) : (D.slice x0 x1 : D).one = true := rfl
@[simp] theorem cells_box (x0 x1 : Nat) : (D.box x0 x1 : D).cells = [(D.box x0 x1 : D)] := rfl
@[simp] theorem size_box (x0 x1 : Nat) : (D.box x0 x1 : D).size = 1 := rfl
@[simp] theorem one_box (x0 x1 : Nat) : (D.box x0 x1 : D).one = true := rfl
@[simp] theorem cells_ref (x0 : D) : (D.ref x0 : D).cells = [(D.ref x0 : D)] := rfl
@[simp] theorem size_ref (x0 : D) : (D.ref x0 : D).size = 1 := rfl
@[simp] theorem one_ref (x0 : D) : (D.ref x0 : D).one = true := rfl
@[simp] theorem cells_map (x0 : Nat) : (D.map x0 : D).cells = [(D.map x0 : D)] := rfl
@[simp] theorem size_map (x0 : Nat) : (D.map x0 : D).size = 1 := rfl
@[simp] theorem one_map (x0 : Nat) : (D.map x0 : D).one = true := rfl
@[simp] theorem cells_own (x0 x1 : Nat) : (D.own x0 x1 : D).cells = [(D.own x0 x1 : D)] := rfl
@[simp] theorem size_own (x0 x1 : Nat) : (D.own x0 x1 : D).size = 1 := rfl
@[simp] theorem one_own (x0 x1 : Nat) : (D.own x0 x1 : D).one = true := rfl
@[simp] theorem cells_ebox (x0 x1 x2 x3 : Nat) : (D.ebox x0 x1 x2 x3 : D).cells = [(D.ebox x0 x1 x2 x3 : D)] := rfl
@[simp] theorem size_ebox (x0 x1 x2 x3 : Nat) : (D.ebox x0 x1 x2 x3 : D).size = 1 := rfl
@[simp] theorem one_ebox (x0 x1 x2 x3 : Nat) : (D.ebox x0 x1 x2 x3 : D).one = true := rfl
@[simp] theorem cells_mapc (x0 x1 : List D) : (D.mapc x0 x1 : D).cells = [(D.mapc x0 x1 : D)] := rfl
@[simp] theorem size_mapc (x0 x1 : List D) : (D.mapc x0 x1 : D).size = 1 := rfl
@[simp] theorem one_mapc (x0 x1 : List D) : (D.mapc x0 x1 : D).one = true := rfl
@[simp] theorem range_1 : List.range 1 = [0] := rfl
@[simp] theorem range_2 : List.range 2 = [0, 1] := rfl
@[simp] theorem range_3 : List.range 3 = [0, 1, 2] := rfl
@[simp] theorem range_4 : List.range 4 = [0, 1, 2, 3] := rfl
@[simp] theorem range_5 : List.range 5 = [0, 1, 2, 3, 4] := rfl
@[simp] theorem range_6 : List.range 6 = [0, 1, 2, 3, 4, 5] := rfl
@[simp] theorem range_7 : List.range 7 = [0, 1, 2, 3, 4, 5, 6] := rfl
@[simp] theorem range_8 : List.range 8 = [0, 1, 2, 3, 4, 5, 6, 7] := rfl
abbrev LV := List (Int × Int)
inductive T where
  | mk (k n a : Int) (ls : List LV) (ks : List T)
namespace T
def k : T → Int | .mk k _ _ _ _ => k
def n : T → Int | .mk _ n _ _ _ => n
def a : T → Int | .mk _ _ a _ _ => a
def ls : T → List LV | .mk _ _ _ ls _ => ls
def ks : T → List T | .mk _ _ _ _ ks => ks
@[simp] theorem k_mk (k n a : Int) (ls : List LV) (ks : List T) : (T.mk k n a ls ks).k = k := rfl
@[simp] theorem n_mk (k n a : Int) (ls : List LV) (ks : List T) : (T.mk k n a ls ks).n = n := rfl
@[simp] theorem a_mk (k n a : Int) (ls : List LV) (ks : List T) : (T.mk k n a ls ks).a = a := rfl
@[simp] theorem ls_mk (k n a : Int) (ls : List LV) (ks : List T) : (T.mk k n a ls ks).ls = ls := rfl
@[simp] theorem ks_mk (k n a : Int) (ls : List LV) (ks : List T) : (T.mk k n a ls ks).ks = ks := rfl
/-- induction over terms, the kids by membership -/
theorem ind {P : T → Prop} (h : ∀ k n a ls ks, (∀ t, t ∈ ks → P t) → P (.mk k n a ls ks)) (t : T) : P t :=
  T.rec (motive_1 := P) (motive_2 := fun ks => ∀ t, t ∈ ks → P t) (fun k n a ls ks ih => h k n a ls ks ih)
    (fun t ht => by cases ht) (fun x r hx hr t ht => by
      cases ht with
      | head => exact hx
      | tail _ hm => exact hr t hm) t
end T
def encP (p : Int × Int) : D := .agg [.int .i64 p.1, .int .i64 p.2]
def encL (l : LV) : D := .agg [.slice (l.map encP) .any]
mutual
def encT : T → D
  | .mk k n a ls ks => .agg [.int .i64 k, .int .i64 n, .int .i64 a, .slice (ls.map encL) .any, .slice (encTs ks) .any]
def encTs : List T → List D
  | [] => []
  | t :: r => encT t :: encTs r
end
theorem encTs_map : ∀ ks : List T, encTs ks = ks.map encT
  | [] => rfl
  | t :: r => by rw [encTs, encTs_map r]; rfl
theorem encT_eq (t : T) : encT t = .agg [.int .i64 t.k, .int .i64 t.n, .int .i64 t.a, .slice (t.ls.map encL) .any, .slice (t.ks.map encT) .any] := by
  cases t; rw [encT, encTs_map]; rfl
theorem encP_pure (p : Int × Int) : (encP p).pure = true := rfl
theorem encL_pure (l : LV) : (encL l).pure = true := by
  simp [encL, D.pure, D.pures, D.pures_map, encP_pure, Cp.free]
theorem encT_pure (t : T) : (encT t).pure = true := by
  induction t using T.ind with
  | h k n a ls ks ih =>
    rw [encT, encTs_map]
    simp [D.pure, D.pures, D.pures_map, encL_pure, Cp.free]
    exact ih
@[simp high] theorem encP_fgt (p : Int × Int) : (encP p).fgt = encP p := rfl
@[simp high] theorem encL_fgt (l : LV) : (encL l).fgt = encL l := by simp [encL, D.fgt, D.fgts]
@[simp high] theorem encT_fgt (t : T) : (encT t).fgt = encT t := by simp [encT_eq, D.fgt, D.fgts]
@[simp high] theorem encP_size (p : Int × Int) : (encP p).size = 2 := rfl
@[simp high] theorem encL_size (l : LV) : (encL l).size = 1 := rfl
@[simp high] theorem encT_size (t : T) : (encT t).size = 5 := by rw [encT_eq]; rfl
@[simp high] theorem encP_cells (p : Int × Int) : (encP p).cells = [.int .i64 p.1, .int .i64 p.2] := rfl
@[simp high] theorem encL_cells (l : LV) : (encL l).cells = [.slice (l.map encP) .any] := rfl
@[simp high] theorem encT_cells (t : T) : (encT t).cells = [.int .i64 t.k, .int .i64 t.n, .int .i64 t.a, .slice (t.ls.map encL) .any, .slice (t.ks.map encT) .any] := by rw [encT_eq]; rfl
attribute [simp high] encP_pure encL_pure encT_pure
def Ps (l : List (Int × Int)) : D := .slice (l.map encP) .any
def Ints (l : List Int) : D := .slice (l.map (.int .i64)) .any
def Lvs (l : List LV) : D := .slice (l.map encL) .any
def Ts (l : List T) : D := .slice (l.map encT) .any
theorem Lvs_pure (l : List LV) : (Lvs l).pure = true := by simp [Lvs, D.pure, D.pures_map, encL_pure, Cp.free]
theorem Ts_pure (l : List T) : (Ts l).pure = true := by simp [Ts, D.pure, D.pures_map, encT_pure, Cp.free]
mutual
theorem D.frz_pure (bx : FK) (i : Nat) (x : D) : ∀ d : D, d.pure = true → D.frz bx i x d = d
  | .junk, _ => rfl
  | .int _ _, _ => rfl
  | .bool _, _ => rfl
  | .str _, _ => rfl
  | .nilp, _ => rfl
  | .nilf, _ => rfl
  | .nili, _ => rfl
  | .nilm, _ => rfl
  | .box _ _, h => by simp [D.pure] at h
  | .map _, h => by simp [D.pure] at h
  | .own _ _, h => by simp [D.pure] at h
  | .ebox _ _ _ _, h => by simp [D.pure] at h
  | .fn f a b, h => by
    rw [D.pure, Bool.and_eq_true] at h
    rw [D.frz, D.frzs_pure bx i x a h.1, D.frzs_pure bx i x b h.2]
  | .iface t d, h => by rw [D.pure] at h; rw [D.frz, D.frz_pure bx i x d h]
  | .tuple ds, h => by rw [D.pure] at h; rw [D.frz, D.frzs_pure bx i x ds h]
  | .agg ds, h => by rw [D.pure] at h; rw [D.frz, D.frzs_pure bx i x ds h]
  | .slice els c, h => by
    rw [D.pure, Bool.and_eq_true] at h
    rw [D.frz, D.frzs_pure bx i x els h.1]
  | .ref d, h => by rw [D.pure] at h; rw [D.frz, D.frz_pure bx i x d h]
  | .mapc ks vs, h => by
    rw [D.pure, Bool.and_eq_true] at h
    rw [D.frz, D.frzs_pure bx i x ks h.1, D.frzs_pure bx i x vs h.2]
theorem D.frzs_pure (bx : FK) (i : Nat) (x : D) : ∀ ds : List D, D.pures ds = true → D.frzs bx i x ds = ds
  | [], _ => rfl
  | d :: r, h => by
    rw [D.pures, Bool.and_eq_true] at h
    rw [D.frzs, D.frz_pure bx i x d h.1, D.frzs_pure bx i x r h.2]
end
@[simp high] theorem encP_frz (bx : FK) (i : Nat) (x : D) (p : Int × Int) : D.frz bx i x (encP p) = encP p := D.frz_pure bx i x _ (encP_pure p)
@[simp high] theorem encL_frz (bx : FK) (i : Nat) (x : D) (l : LV) : D.frz bx i x (encL l) = encL l := D.frz_pure bx i x _ (encL_pure l)
@[simp high] theorem encT_frz (bx : FK) (i : Nat) (x : D) (t : T) : D.frz bx i x (encT t) = encT t := D.frz_pure bx i x _ (encT_pure t)
@[simp high] theorem mapP_frz (bx : FK) (i : Nat) (x : D) (l : LV) : D.frzs bx i x (l.map encP) = l.map encP := D.frzs_pure bx i x _ (by simp [D.pures_map, D.pure])
@[simp high] theorem mapL_frz (bx : FK) (i : Nat) (x : D) (l : List LV) : D.frzs bx i x (l.map encL) = l.map encL := D.frzs_pure bx i x _ (by simp [D.pures_map, D.pure])
@[simp high] theorem mapT_frz (bx : FK) (i : Nat) (x : D) (l : List T) : D.frzs bx i x (l.map encT) = l.map encT := D.frzs_pure bx i x _ (by simp [D.pures_map, D.pure])
@[simp high] theorem mapI_frz (bx : FK) (i : Nat) (x : D) (l : List Int) : D.frzs bx i x (l.map (.int .i64)) = l.map (.int .i64) := D.frzs_pure bx i x _ (by simp [D.pures_map, D.pure])
@[simp high] theorem mapB_frz (bx : FK) (i : Nat) (x : D) (l : List Bool) : D.frzs bx i x (l.map .bool) = l.map .bool := D.frzs_pure bx i x _ (by simp [D.pures_map, D.pure])
@[simp high] theorem encP_low (m : Nat) (p : Int × Int) : (encP p).low m = true := D.low_pure m _ (encP_pure p)
@[simp high] theorem encL_low (m : Nat) (l : LV) : (encL l).low m = true := D.low_pure m _ (encL_pure l)
@[simp high] theorem encT_low (m : Nat) (t : T) : (encT t).low m = true := D.low_pure m _ (encT_pure t)
@[simp high] theorem mapP_low (m : Nat) (l : LV) : D.lows m (l.map encP) = true := D.lows_pure m _ (by simp [D.pures_map, D.pure])
@[simp high] theorem mapL_low (m : Nat) (l : List LV) : D.lows m (l.map encL) = true := D.lows_pure m _ (by simp [D.pures_map, D.pure])
@[simp high] theorem mapT_low (m : Nat) (l : List T) : D.lows m (l.map encT) = true := D.lows_pure m _ (by simp [D.pures_map, D.pure])
@[simp high] theorem mapI_low (m : Nat) (l : List Int) : D.lows m (l.map (.int .i64)) = true := D.lows_pure m _ (by simp [D.pures_map, D.pure])
@[simp high] theorem mapB_low (m : Nat) (l : List Bool) : D.lows m (l.map .bool) = true := D.lows_pure m _ (by simp [D.pures_map, D.pure])
@[simp high] theorem encP_okN (p : Nat → Bool) (x : Int × Int) : (encP x).okN p = true := D.okN_pure p _ (encP_pure x)
@[simp high] theorem encP_ren (σ : Nat → Nat) (x : Int × Int) : D.ren σ (encP x) = encP x := D.ren_pure σ _ (encP_pure x)
@[simp high] theorem encL_okN (p : Nat → Bool) (x : LV) : (encL x).okN p = true := D.okN_pure p _ (encL_pure x)
@[simp high] theorem encL_ren (σ : Nat → Nat) (x : LV) : D.ren σ (encL x) = encL x := D.ren_pure σ _ (encL_pure x)
@[simp high] theorem encT_okN (p : Nat → Bool) (x : T) : (encT x).okN p = true := D.okN_pure p _ (encT_pure x)
@[simp high] theorem encT_ren (σ : Nat → Nat) (x : T) : D.ren σ (encT x) = encT x := D.ren_pure σ _ (encT_pure x)
@[simp high] theorem mapP_okN (p : Nat → Bool) (l : LV) : D.okNs p (l.map encP) = true := D.okNs_pure p _ (by simp [D.pures_map, D.pure])
@[simp high] theorem mapP_ren (σ : Nat → Nat) (l : LV) : D.rens σ (l.map encP) = l.map encP := D.rens_pure σ _ (by simp [D.pures_map, D.pure])
@[simp high] theorem mapP_pures (l : LV) : D.pures (l.map encP) = true := by simp [D.pures_map, D.pure]
@[simp high] theorem mapL_okN (p : Nat → Bool) (l : List LV) : D.okNs p (l.map encL) = true := D.okNs_pure p _ (by simp [D.pures_map, D.pure])
@[simp high] theorem mapL_ren (σ : Nat → Nat) (l : List LV) : D.rens σ (l.map encL) = l.map encL := D.rens_pure σ _ (by simp [D.pures_map, D.pure])
@[simp high] theorem mapL_pures (l : List LV) : D.pures (l.map encL) = true := by simp [D.pures_map, D.pure]
@[simp high] theorem mapT_okN (p : Nat → Bool) (l : List T) : D.okNs p (l.map encT) = true := D.okNs_pure p _ (by simp [D.pures_map, D.pure])
@[simp high] theorem mapT_ren (σ : Nat → Nat) (l : List T) : D.rens σ (l.map encT) = l.map encT := D.rens_pure σ _ (by simp [D.pures_map, D.pure])
@[simp high] theorem mapT_pures (l : List T) : D.pures (l.map encT) = true := by simp [D.pures_map, D.pure]
@[simp high] theorem mapI_okN (p : Nat → Bool) (l : List Int) : D.okNs p (l.map (.int .i64)) = true := D.okNs_pure p _ (by simp [D.pures_map, D.pure])
@[simp high] theorem mapI_ren (σ : Nat → Nat) (l : List Int) : D.rens σ (l.map (.int .i64)) = l.map (.int .i64) := D.rens_pure σ _ (by simp [D.pures_map, D.pure])
@[simp high] theorem mapI_pures (l : List Int) : D.pures (l.map (.int .i64)) = true := by simp [D.pures_map, D.pure]
@[simp high] theorem mapB_okN (p : Nat → Bool) (l : List Bool) : D.okNs p (l.map .bool) = true := D.okNs_pure p _ (by simp [D.pures_map, D.pure])
@[simp high] theorem mapB_ren (σ : Nat → Nat) (l : List Bool) : D.rens σ (l.map .bool) = l.map .bool := D.rens_pure σ _ (by simp [D.pures_map, D.pure])
@[simp high] theorem mapB_pures (l : List Bool) : D.pures (l.map .bool) = true := by simp [D.pures_map, D.pure]
@[simp] theorem okNs_append (p : Nat → Bool) : ∀ a b : List D, D.okNs p (a ++ b) = (D.okNs p a && D.okNs p b)
  | [], b => by rw [List.nil_append, D.okNs, Bool.true_and]
  | d :: a, b => by rw [List.cons_append, D.okNs, D.okNs, okNs_append p a b, Bool.and_assoc]
theorem flat_okN (p : Nat → Bool) : ∀ els : List D, D.pures els = true → D.okNs p (els.flatMap D.cells) = true
  | [], _ => rfl
  | e :: r, h => by
    rw [D.pures, Bool.and_eq_true] at h
    rw [List.flatMap_cons]
    have h1 : D.okNs p e.cells = true := by
      have := D.okN_pure p e h.1
      cases e
      case agg cs => rw [D.okN] at this; exact this
      all_goals (show D.okNs p [_] = true; rw [D.okNs, this]; rfl)
    have h2 := flat_okN p r h.2
    rw [okNs_append, h1, h2]; rfl
@[simp high] theorem rowP_okN (p : Nat → Bool) (l : LV) : D.okNs p ((l.map encP).flatMap D.cells) = true := flat_okN p _ (by simp [D.pures_map, D.pure])
@[simp high] theorem rowP_ren (σ : Nat → Nat) (l : LV) : (l.map encP).map (D.ren σ) = l.map encP := by rw [← D.rens_map]; exact D.rens_pure σ _ (by simp [D.pures_map, D.pure])
@[simp high] theorem rowP_renc (σ : Nat → Nat) (l : LV) : l.map (D.ren σ ∘ encP) = l.map encP := by rw [← List.map_map]; exact rowP_ren σ l
@[simp high] theorem rowL_okN (p : Nat → Bool) (l : List LV) : D.okNs p ((l.map encL).flatMap D.cells) = true := flat_okN p _ (by simp [D.pures_map, D.pure])
@[simp high] theorem rowL_ren (σ : Nat → Nat) (l : List LV) : (l.map encL).map (D.ren σ) = l.map encL := by rw [← D.rens_map]; exact D.rens_pure σ _ (by simp [D.pures_map, D.pure])
@[simp high] theorem rowL_renc (σ : Nat → Nat) (l : List LV) : l.map (D.ren σ ∘ encL) = l.map encL := by rw [← List.map_map]; exact rowL_ren σ l
@[simp high] theorem rowT_okN (p : Nat → Bool) (l : List T) : D.okNs p ((l.map encT).flatMap D.cells) = true := flat_okN p _ (by simp [D.pures_map, D.pure])
@[simp high] theorem rowT_ren (σ : Nat → Nat) (l : List T) : (l.map encT).map (D.ren σ) = l.map encT := by rw [← D.rens_map]; exact D.rens_pure σ _ (by simp [D.pures_map, D.pure])
@[simp high] theorem rowT_renc (σ : Nat → Nat) (l : List T) : l.map (D.ren σ ∘ encT) = l.map encT := by rw [← List.map_map]; exact rowT_ren σ l
@[simp high] theorem rowI_okN (p : Nat → Bool) (l : List Int) : D.okNs p ((l.map (.int .i64)).flatMap D.cells) = true := flat_okN p _ (by simp [D.pures_map, D.pure])
@[simp high] theorem rowI_ren (σ : Nat → Nat) (l : List Int) : (l.map (.int .i64)).map (D.ren σ) = l.map (.int .i64) := by rw [← D.rens_map]; exact D.rens_pure σ _ (by simp [D.pures_map, D.pure])
@[simp high] theorem rowI_renc (σ : Nat → Nat) (l : List Int) : l.map (D.ren σ ∘ (.int .i64)) = l.map (.int .i64) := by rw [← List.map_map]; exact rowI_ren σ l
/-- in the bounds of an int -/
def I64 (n : Int) : Prop := -9223372036854775808 ≤ n ∧ n ≤ 9223372036854775807
/-- what of a term lies in memory: numbers in bounds, lists not too long -/
def okL (l : LV) : Prop := l.length ≤ LMax ∧ ∀ p, p ∈ l → I64 p.1 ∧ I64 p.2
inductive okT : T → Prop where
  | mk {k n a : Int} {ls : List LV} {ks : List T} (hk : I64 k) (hn : I64 n) (ha : I64 a) (hl : ls.length ≤ LMax) (hls : ∀ l, l ∈ ls → okL l) (hks : ks.length ≤ LMax) (h : ∀ t, t ∈ ks → okT t) : okT (.mk k n a ls ks)
theorem okT.k {t : T} (h : okT t) : I64 t.k := by cases h; assumption
theorem okT.n {t : T} (h : okT t) : I64 t.n := by cases h; assumption
theorem okT.a {t : T} (h : okT t) : I64 t.a := by cases h; assumption
theorem okT.ll {t : T} (h : okT t) : t.ls.length ≤ LMax := by cases h; assumption
theorem okT.ls {t : T} (h : okT t) : ∀ l, l ∈ t.ls → okL l := by cases h; assumption
theorem okT.kl {t : T} (h : okT t) : t.ks.length ≤ LMax := by cases h; assumption
theorem okT.ks {t : T} (h : okT t) : ∀ x, x ∈ t.ks → okT x := by cases h; assumption
end Go.Proofs.YtebmlojhdnldgaaDoor

namespace Go.Proofs.YtebmlojhdnldgaaDoor
set_option linter.unusedSimpArgs false
set_option linter.unusedVariables false
open Go.RowKit
/-- what a kind has: Num, At, levels, kids, the kid below its binder -/
def kindRowsD : List (Bool × Bool × Int × Int × Int) := [(false, false, 0, 0, 0), (true, false, 0, 0, -1), (false, false, 1, 0, -1), (true, false, -1, 0, -1), (false, false, 0, 2, 1), (false, false, 0, 2, 1), (false, false, 0, 2, -1),
  (false, false, 0, 3, 2), (true, true, -1, 0, -1), (true, true, -1, 0, -1), (true, true, -1, 0, -1), (false, true, 0, 0, -1), (false, false, 0, 2, 1), (false, false, 0, 2, -1), (false, false, 0, 1, -1), (false, false, 0, 1, -1),
  (false, false, 0, 2, 1), (false, false, 0, 2, -1), (false, false, 0, 5, 1), (false, false, 0, 3, -1), (false, false, 0, 0, -1), (false, false, 0, 6, -1), (true, false, 0, 0, -1), (true, true, 0, 0, -1), (false, true, 0, 2, -1)]
def kindCellsD : List D := kindRowsD.flatMap fun r => [.bool r.1, .bool r.2.1, .int .i64 r.2.2.1, .int .i64 r.2.2.2.1, .int .i64 r.2.2.2.2]
def kindAt (k : Int) : Bool × Bool × Int × Int × Int := kindRowsD.getD k.toNat (false, false, 0, 0, 0)
def glob : Nat → Option D := fun g => if g = 0 then some (.agg kindCellsD) else none
theorem globPure : ∀ g d, glob g = some d → d.pure = true := fun g d h => by
  unfold glob at h
  split at h
  · cases h; rfl
  · cases h
@[simp] theorem glob_kinds : glob 0 = some (.agg kindCellsD) := rfl
theorem kind_part : ∀ k : Nat, k < 25 → partD (tyOf 147) kindCellsD (k * 5) = some (.agg [.bool (kindAt k).1, .bool (kindAt k).2.1, .int .i64 (kindAt k).2.2.1, .int .i64 (kindAt k).2.2.2.1, .int .i64 (kindAt k).2.2.2.2])
  | 0, _ => by kernel_rfl
  | 1, _ => by kernel_rfl
  | 2, _ => by kernel_rfl
  | 3, _ => by kernel_rfl
  | 4, _ => by kernel_rfl
  | 5, _ => by kernel_rfl
  | 6, _ => by kernel_rfl
  | 7, _ => by kernel_rfl
  | 8, _ => by kernel_rfl
  | 9, _ => by kernel_rfl
  | 10, _ => by kernel_rfl
  | 11, _ => by kernel_rfl
  | 12, _ => by kernel_rfl
  | 13, _ => by kernel_rfl
  | 14, _ => by kernel_rfl
  | 15, _ => by kernel_rfl
  | 16, _ => by kernel_rfl
  | 17, _ => by kernel_rfl
  | 18, _ => by kernel_rfl
  | 19, _ => by kernel_rfl
  | 20, _ => by kernel_rfl
  | 21, _ => by kernel_rfl
  | 22, _ => by kernel_rfl
  | 23, _ => by kernel_rfl
  | 24, _ => by kernel_rfl
  | n + 25, h => absurd h (by omega)
theorem enters (f : FuncId) (fn : Func) (hf : Tryd.prog.funcs[f]? = some fn) (hb : fn.body.isSome = true) (hn : fn.name ≠ "runtime.NumGoroutine") (vs : Array Value) (w : World) : (callFunc f vs).run Tryd.prog w = .ok (.enter f vs) w := by
  simp [callFunc, hf, hn]
  cases hq : fn.body with
  | none => rw [hq] at hb; cases hb
  | some c => simp
end Go.Proofs.YtebmlojhdnldgaaDoor

namespace Go.Proofs.YtebmlojhdnldgaaDoor
set_option linter.unusedSimpArgs false
set_option linter.unusedVariables false
open Go.RowKit
section
variable {P : Program} {G : Nat → Option D} {M : Nat} {Q : DQ} {tl tl' : List D} {hl : List HO} {df : Df}
/-- leT, not looked into -/
structure LeT (l m : List D) : Prop where
  h : leT l m
theorem LeT.refl (l : List D) : LeT l l := ⟨leT_refl l⟩
theorem wpD_weakL {c : Code} (h : LeT tl tl') (hw : wpD P G M c Q tl hl df) : wpD P G M c Q tl' hl df := wpD_weak h.h hw
/-- a temporary's right to grow is forgotten -/
theorem wpD_fgtT {c : Code} (t : Nat) (h : wpD P G M c Q (tl.modify t D.fgt) hl df) : wpD P G M c Q tl hl df := fun ρ0 w0 H0 ρ w a hbs hst => by
  have hlen : (tl.modify t D.fgt).length = tl.length := List.length_modify ..
  have := h ρ0 w0 H0 ρ w a hbs ⟨hst.rel, hst.ex, fun k => by
    have hk := hst.tmp k
    have e : tmOf (tl.modify t D.fgt) k = if t = k then (tmOf tl k).fgt else tmOf tl k := by
      unfold tmOf
      rw [List.getD_eq_getElem?_getD, List.getD_eq_getElem?_getD, List.getElem?_modify]
      split
      · cases tl[k]? <;> rfl
      · simp
    rw [e]
    split
    · exact Rp_fgt _ _ hk
    · exact hk, hst.size.trans hlen.symm, hst.df⟩
  rw [hlen] at this
  exact this
/-- behind a statement whose ends are many: ds: what is still known of the temporaries W -/
theorem wpD_seqf {x y : Code} (W : List Nat) (ds : List D) (hl1 : List HO) (h1 : wpD P G M y Q (putAll tl W ds) hl1 df)
    (h2 : ∀ K : List D → List HO → Df → Prop, (∀ tl', leT (putAll tl W ds) tl' → K tl' hl1 df) → wpD P G M x (thenD K Q) tl hl df) : wpD P G M (.seq x y) Q tl hl df :=
  wpD_seqk fun K hK => h2 K fun tl' h => hK _ _ _ (wpD_weak h h1)
theorem mov_junk (m : Nat) (κ : List Nat) : D.mov m κ .junk = .junk := by unfold D.mov; split <;> rfl
theorem wpD_loopWJ {c : Code} (J S : List Nat) (I : Nat → List D → List HO → Prop) (n0 : Nat) (h0 : tl = putAll tl (J ++ S) (getW (J ++ S) tl)) (hI : I n0 (getW S tl) hl)
    (hr : ∀ n ds hl' (A : List D → List HO → Df → Prop), (∀ m tl3 tl2 hl2, LeT tl3 tl2 → m < n → tl3 = putAll tl (J ++ S) (getW (J ++ S) tl3) → I m (getW S tl3) hl2 → A tl2 hl2 df) → I n ds hl' →
      wpD P G M c (thenD A Q) (putAll tl (J ++ S) (J.map (fun _ => .junk) ++ ds)) hl' df) : wpD P G M (.loop c) Q tl hl df := by
  refine wpD_loop (fun n tl2 hl2 df2 => df2 = df ∧ ∃ ds, leT (putAll tl (J ++ S) (J.map (fun _ => .junk) ++ ds)) tl2 ∧ I n ds hl2) n0 ⟨rfl, _, leT_shape h0, hI⟩ ?_
  rintro n tl' hl' df' - ⟨rfl, ds, hle, hIn⟩
  exact wpD_weak hle (hr n ds hl' _ (fun m tl3 tl2 hl2 k h1 h2 h3 => ⟨m, h1, rfl, _, leT_trans (leT_shape h2) k.h, h3⟩) hIn)
theorem wpD_loopMJ {c : Code} (hG : ∀ g d, G g = some d → d.pure = true) (J S : List Nat) (I : Nat → List D → List HO → Prop) (n0 : Nat) (h0 : tl = putAll tl (J ++ S) (getW (J ++ S) tl)) (hI : I n0 (getW S tl) hl)
    (hr : ∀ n ds hl' (A : List D → List HO → Df → Prop), (∀ k tl3 tl2 hl2, LeT tl3 tl2 → k < n → tl3 = putAll tl (J ++ S) (getW (J ++ S) tl3) → I k (getW S tl3) hl2 → A tl2 hl2 []) →
      (∀ (κ : List Nat) k tl3 tl2 hl2, LeT tl3 tl2 → κ.Nodup → (κ.all fun i => decide (M ≤ i)) = true → k < n → movT M κ tl3 = putAll tl (J ++ S) (getW (J ++ S) (movT M κ tl3)) → I k (getW S (movT M κ tl3)) (movH M κ hl2) → A tl2 hl2 []) → I n ds hl' →
      wpD P G M c (thenD A Q) (putAll tl (J ++ S) (J.map (fun _ => .junk) ++ ds)) hl' []) : wpD P G M (.loop c) Q tl hl [] := by
  refine wpD_loopG hG (fun n tl2 hl2 => ∃ ds, leT (putAll tl (J ++ S) (J.map (fun _ => .junk) ++ ds)) tl2 ∧ I n ds hl2) n0 ⟨_, leT_shape h0, hI⟩ ?_
  rintro n tl' hl' A - hA hA2 ⟨ds, hle, hIn⟩
  exact wpD_weak hle (hr n ds hl' _ (fun m tl3 tl2 hl2 k h1 h2 h3 => hA m tl2 hl2 h1 ⟨_, leT_trans (leT_shape h2) k.h, h3⟩)
    (fun κ m tl3 tl2 hl2 k k1 k2 h1 h2 h3 => hA2 κ m tl2 hl2 k1 k2 h1 ⟨_, leT_trans (leT_shape h2) (leT_map (mov_junk M κ) k.h), h3⟩) hIn)
theorem wpD_rangeJ {T : TypeId → Ty} (hT : ∀ t, TyOK P t (T t)) (hG : ∀ g d, G g = some d → d.pure = true) {b0 b1 r1 r2 : Nat} {ops1 ops2 : Array Oper} {o1 o2 o3 : Oper} {body : Code} {ti tk tn td ts : Nat} (J S : List Nat) (n : Nat) (I : Nat → List D → List HO → Prop)
    (h1 : ops1.toList = [o1]) (e1 : o1.op = .binOp .lss ti (.tmp tk) (.tmp tn) ti) (g1 : o1.guard = none) (d1 : o1.dst = some td) (h2 : ops2.toList = [o2, o3]) (e2 : o2.op = .binOp .add ti (.tmp tk) (.const (.int .i64 1)) ti) (g2 : o2.guard = none) (d2 : o2.dst = some ts)
    (e3 : o3.op = .move (.tmp ts)) (g3 : o3.guard = none) (d3 : o3.dst = some tk) (hti : (T ti).k = .int .i64) (hlen : tk < tl.length ∧ td < tl.length ∧ ts < tl.length) (hne : td ≠ tk ∧ td ≠ tn ∧ ts ≠ tk ∧ ts ≠ tn ∧ tk ≠ tn) (hn : tl.getD tn .junk = .int .i64 n) (hnl : n ≤ LMax) (hk0 : tl.getD tk .junk = .int .i64 0)
    (hw : tl = (putAll tl (J ++ S) (getW (J ++ S) tl)).set tk (.int .i64 0)) (htn : ¬ tn ∈ J ++ S)
    (hI : I 0 (getW S tl) hl)
    (hr : ∀ k ds hl' (A : List D → List HO → Df → Prop), k < n → I k ds hl' →
      (∀ tl3 tl2 hl2, LeT tl3 tl2 → (tl3.set ts (.int .i64 (k + 1))).set tk (.int .i64 (k + 1)) = (putAll tl (J ++ S) (getW (J ++ S) ((tl3.set ts (.int .i64 (k + 1))).set tk (.int .i64 (k + 1))))).set tk (.int .i64 (k + 1)) → I (k + 1) (getW S ((tl3.set ts (.int .i64 (k + 1))).set tk (.int .i64 (k + 1)))) hl2 → tl3.getD tk .junk = .int .i64 k → A tl2 hl2 []) →
      (∀ (κ : List Nat) tl3 tl2 hl2, LeT tl3 tl2 → κ.Nodup → (κ.all fun i => decide (M ≤ i)) = true → movT M κ ((tl3.set ts (.int .i64 (k + 1))).set tk (.int .i64 (k + 1))) = (putAll tl (J ++ S) (getW (J ++ S) (movT M κ ((tl3.set ts (.int .i64 (k + 1))).set tk (.int .i64 (k + 1)))))).set tk (.int .i64 (k + 1)) →
        I (k + 1) (getW S (movT M κ ((tl3.set ts (.int .i64 (k + 1))).set tk (.int .i64 (k + 1))))) (movH M κ hl2) → tl3.getD tk .junk = .int .i64 k → A tl2 hl2 []) →
      wpD P G M body (blockD b1 (thenD A (blockD b0 Q))) (((putAll tl (J ++ S) (J.map (fun _ => .junk) ++ ds)).set tk (.int .i64 k)).set td (.bool true)) hl' [])
    (he : ∀ ds hl' tl', I n ds hl' → LeT (((putAll tl (J ++ S) (J.map (fun _ => .junk) ++ ds)).set tk (.int .i64 n)).set td (.bool false)) tl' → Q .nrm tl' hl' []) :
    wpD P G M (.block b0 (.loop (.seq (.region r1 ops1 false) (.seq (.cond (.tmp td) .skip (.exit b0)) (.seq (.block b1 body) (.region r2 ops2 false)))))) Q tl hl [] := by
  refine wpD_rangeA hT hG (J ++ S) n (fun k ys hl => ∃ js ds, ys = js ++ ds ∧ js.length = J.length ∧ I k ds hl) h1 e1 g1 d1 h2 e2 g2 d2 e3 g3 d3 hti hlen hne hn hnl hk0 hw htn ⟨_, _, getW_app .., getW_len .., hI⟩ ?_ ?_
  · rintro k ys hl' A hk ⟨js, ds, rfl, hj, hIn⟩ hA hA2 hAm
    refine wpD_weak (leT_set2 _ _ (leT_set2 _ _ (leT_pp J S js ds hj (leT_refl _)))) (hr k ds hl' A hk hIn (fun tl3 tl2 hl2 h0 h1 h2 h3 => hAm _ _ _ h0.h (hA tl3 hl2 h1 ⟨_, _, getW_app .., getW_len .., h2⟩ h3))
      (fun κ tl3 tl2 hl2 h0 k1 k2 h1 h2 h3 => hAm _ _ _ h0.h (hA2 κ tl3 hl2 k1 k2 h1 ⟨_, _, getW_app .., getW_len .., h2⟩ h3)))
  · rintro ys hl' ⟨js, ds, rfl, hj, hIn⟩
    exact he ds hl' _ hIn ⟨leT_set2 _ _ (leT_set2 _ _ (leT_pp J S js ds hj (leT_refl _)))⟩
/-! in the midst of a statement an empty slice becomes the call's own row -/
variable {T : TypeId → Ty}
theorem wpS_soundA {ops : Array Oper} (hT : ∀ t, TyOK P t (T t)) {ρ0 : Rho} {w0 : World} {H0 : Nat → HO} {Q : Exit → Act → World → Prop} (l2 : List Oper) : ∀ (l : List Oper) (tl : List D) (hl : List HO) (df : Df) (K : List D → List HO → Df → Prop) (QP : D → List D → List HO → Df → Prop), wpS P G T ops l tl hl df K QP →
    (∀ tl' hl' df' ρ w a, K tl' hl' df' → tl'.length = tl.length → InSt G ρ0 w0 H0 tl.length ρ w a (tmOf tl') (hOf hl') df' → wpList P ops Q l2 a w) →
    (∀ d u tl' hl' df' ρ w a, QP d tl' hl' df' → tl'.length = tl.length → InSt G ρ0 w0 H0 tl.length ρ w a (tmOf tl') (hOf hl') df' → Rp ρ w d u → Q (.panic (thrown u)) a w) →
    ∀ ρ w a, InSt G ρ0 w0 H0 tl.length ρ w a (tmOf tl) (hOf hl) df → wpList P ops Q (l ++ l2) a w
  | [], tl, hl, df, K, QP, h, hK, hP, ρ, w, a, hst => hK tl hl df ρ w a h rfl hst
  | o :: r, tl, hl, df, K, QP, h, hK, hP, ρ, w, a, hst => by
    show wpOne P ops Q o (wpList P ops Q (r ++ l2)) a w
    have hu : ∀ t, t ∈ Oper.looksAt ops o → Rp ρ w (tmOf tl t) (a.tmps.getD t undef) := fun t _ => hst.tmp t
    rw [wpS] at h
    cases hw : wantD ops (tmOf tl) o with
    | none => rw [hw] at h; exact h.elim
    | some g =>
      rw [hw] at h
      dsimp only at h
      cases g with
      | false =>
        simp only [Bool.false_eq_true, if_false] at h
        refine one_off hw hst.rel hu fun u ρ' w' h1 h2 h3 => ?_
        refine wpS_soundA hT l2 r _ _ _ K QP h (fun tl' hl' df' ρ w a k1 k2 k3 => ?_) (fun d u tl' hl' df' ρ w a k1 k2 k3 k4 => ?_) ρ' w' _ (hst.put o.dst h1 h2 h3)
        · rw [putS_length] at k2 k3; exact hK _ _ _ _ _ _ k1 k2 k3
        · rw [putS_length] at k2 k3; exact hP _ _ _ _ _ _ _ _ k1 k2 k3 k4
      | true =>
        simp only [if_true] at h
        cases hev : evOp T (opD G (tmOf tl)) (hOf hl) hl.length o with
        | none => rw [hev] at h; exact h.elim
        | some x =>
          rw [hev] at h
          cases x with
          | val d rd up =>
            dsimp only at h
            refine one_val hT hw hev hst.rel (fun _ _ => rfl) hu fun u ρ' w' h1 h2 h3 => ?_
            refine wpS_soundA hT l2 r _ _ _ K QP h (fun tl' hl' df' ρ w a k1 k2 k3 => ?_) (fun d u tl' hl' df' ρ w a k1 k2 k3 k4 => ?_) ρ' w' _ (hst.put o.dst h1 h2 h3)
            · rw [putS_length] at k2 k3; exact hK _ _ _ _ _ _ k1 k2 k3
            · rw [putS_length] at k2 k3; exact hP _ _ _ _ _ _ _ _ k1 k2 k3 k4
          | call f args =>
            dsimp only at h
            obtain ⟨Φ, hc, h0⟩ := h
            refine one_callR hw hev hc hst.rel hu fun out e up ρ' w' hphi h2 h3 hout => ?_
            have h := h0 out up hphi
            cases out with
            | ret d =>
              obtain ⟨u, rfl, h1⟩ := hout
              dsimp only at h ⊢
              refine wpS_soundA hT l2 r _ _ _ K QP h (fun tl' hl' df' ρ w a k1 k2 k3 => ?_) (fun d u tl' hl' df' ρ w a k1 k2 k3 k4 => ?_) ρ' w' _ (hst.put o.dst h1 h2 h3)
              · rw [putS_length] at k2 k3; exact hK _ _ _ _ _ _ k1 k2 k3
              · rw [putS_length] at k2 k3; exact hP _ _ _ _ _ _ _ _ k1 k2 k3 k4
            | pan d =>
              obtain ⟨u, rfl, h1⟩ := hout
              dsimp only at h ⊢
              refine hP d u tl (updS hl up) df ρ' w' a h rfl ?_ h1
              rw [hOf_upd]
              exact ⟨h2, hst.ex.trans h3, fun k => Rp.grow h3.grow _ _ (hst.tmp k), hst.size, hst.df.grow h3.grow⟩
          | bit =>
            dsimp only at h
            refine one_bit hT hw hev hst.rel hu fun b u ρ' w' h1 h2 h3 => ?_
            refine wpS_soundA hT l2 r _ _ _ K QP (h b) (fun tl' hl' df' ρ w a k1 k2 k3 => ?_) (fun d u tl' hl' df' ρ w a k1 k2 k3 k4 => ?_) ρ' w' _ (hst.put o.dst h1 h2 h3)
            · rw [putS_length] at k2 k3; exact hK _ _ _ _ _ _ k1 k2 k3
            · rw [putS_length] at k2 k3; exact hP _ _ _ _ _ _ _ _ k1 k2 k3 k4
          | pan d =>
            dsimp only at h
            refine one_pan hw hev hst.rel hu fun u ρ' w' h1 h2 h3 => ?_
            exact hP d u tl hl df ρ' w' a h rfl ⟨h2, hst.ex.trans h3, fun k => Rp.grow h3.grow _ _ (hst.tmp k), hst.size, hst.df.grow h3.grow⟩ h1
          | dfr f cap =>
            dsimp only at h
            unfold wpOne
            rw [wantD_spec hw hu, if_pos rfl]
            obtain ⟨vs, h1, h2⟩ := evOp_dfr (P := P) (ρ := ρ) (w := w) (v := a.eval) hev (fun x hx => opD_rp hst.rel hu x hx)
            left
            unfold Oper.wp
            rw [h2, Oper.upon_defer]
            have hst2 : InSt G ρ0 w0 H0 (putS tl o.dst (.tuple [])).length ρ w ({ a with defers := { target := .fn (.func f) vs.toArray, args := #[] } :: a.defers }.put o.dst undef) (tmOf (putS tl o.dst (.tuple []))) (hOf hl) ((f, cap) :: df) := by
              refine ⟨hst.rel, hst.ex, ?_, by rw [Act.put_size, putS_length]; exact hst.size, ?_⟩
              · exact tmOf_put (a := { a with defers := { target := .fn (.func f) vs.toArray, args := #[] } :: a.defers }) hst.size (Grow.refl _ _) hst.tmp (by rw [Rp]; exact ⟨[], rfl, RpL_nil.2 rfl⟩)
              · have : DfM ρ w ({ target := .fn (.func f) vs.toArray, args := #[] } :: a.defers) ((f, cap) :: df) := ⟨vs, a.defers, rfl, h1, hst.df⟩
                cases o.dst <;> simpa [Act.put] using this
            refine wpS_soundA hT l2 r _ _ _ K QP h (fun tl' hl' df' ρ w a k1 k2 k3 => ?_) (fun d u tl' hl' df' ρ w a k1 k2 k3 k4 => ?_) ρ w _ hst2
            · rw [putS_length] at k2 k3; exact hK _ _ _ _ _ _ k1 k2 k3
            · rw [putS_length] at k2 k3; exact hP _ _ _ _ _ _ _ _ k1 k2 k3 k4
theorem InSt.ownT {ρ0 ρ : Rho} {w0 w : World} {H0 : Nat → HO} {a : Act} (hst : InSt G ρ0 w0 H0 tl.length ρ w a (tmOf tl) (hOf hl) df) (t sz : Nat) :
    InSt G ρ0 w0 H0 tl.length ρ w a (tmOf (tl.modify t (D.ownd hl.length))) (hOf (hl ++ [.row sz []])) df := by
  have h1 := hst.nameX (x := .row sz []) rfl
  refine ⟨h1.rel, h1.ex, fun k => ?_, h1.size, h1.df⟩
  have h2 := h1.tmp k
  unfold tmOf at h2 ⊢
  rw [List.getD_eq_getElem?_getD] at h2 ⊢
  rw [List.getElem?_modify]
  cases hk : tl[k]? with
  | none => show Rp ρ w .junk _; rw [Rp]; trivial
  | some x =>
    rw [hk] at h2
    show Rp ρ w (if t = k then D.ownd hl.length x else x) _
    split
    · exact Rp_ownd h2
    · exact h2
/-- a statement in the text's order; behind its n-th operation the temporary t becomes a row of the call's own -/
theorem wpD_regionO (hT : ∀ t, TyOK P t (T t)) (n t sz : Nat) {id : Nat} {ops : Array Oper}
    (h : wpS P G T ops (ops.toList.take n) tl hl df (fun tl hl df => wpS P G T ops (ops.toList.drop n) (tl.modify t (D.ownd hl.length)) (hl ++ [.row sz []]) df (fun tl hl df => Q .nrm tl hl df) (fun d tl hl df => Q (.pan d) tl hl df)) (fun d tl hl df => Q (.pan d) tl hl df)) :
    wpD P G M (.region id ops false) Q tl hl df := fun ρ0 w0 H0 ρ w a hbs hst => by
  refine wp_region_list ?_
  have key := wpS_soundA (ops := ops) hT (ρ0 := ρ0) (w0 := w0) (H0 := H0) (Q := LiftQ G ρ0 w0 H0 tl.length Q) (ops.toList.drop n) (ops.toList.take n) tl hl df _ _ h (fun tl' hl' df' ρ w a k1 k2 k3 => ?_) (fun d u tl' hl' df' ρ w a k1 k2 k3 k4 => ⟨.pan d, tl', hl', df', ρ, k1, ⟨u, rfl, k4⟩, k2, k3⟩) ρ w a hst
  · rw [List.take_append_drop] at key; exact key
  · have hlen : (tl'.modify t (D.ownd hl'.length)).length = tl.length := by rw [List.length_modify]; exact k2
    have k4 := InSt.ownT (tl := tl') (by rw [k2]; exact k3) t sz
    refine wpS_sound hT _ _ _ _ _ _ k1 (fun tl2 hl2 df2 ρ w a k1 k2 k3 => ⟨.nrm, tl2, hl2, df2, ρ, k1, rfl, by rw [k2]; exact hlen, by rw [hlen] at k3; exact k3⟩)
      (fun d u tl2 hl2 df2 ρ w a k1 k2 k3 k4 => ⟨.pan d, tl2, hl2, df2, ρ, k1, ⟨u, rfl, k4⟩, by rw [k2]; exact hlen, by rw [hlen] at k3; exact k3⟩) ρ w a (by rw [hlen]; rw [k2] at k4; exact k4)
end
end Go.Proofs.YtebmlojhdnldgaaDoor

namespace Go.Proofs.YtebmlojhdnldgaaDoor
set_option linter.unusedSimpArgs false
set_option linter.unusedVariables false
set_option maxHeartbeats 10000000
set_option maxRecDepth 20000
open Go.RowKit
attribute [local simp] wpAft_ret wpAft_pan wantD evOp opD tmOf putS updS setS hOf isFree isTok fillD TK.isAgg TK.known partD thenD blockD putAll D.ofV inB nilTest isNilS binX binD binE isCst bndD capB IntKind.min IntKind.max IntKind.signed IntKind.bits dstOf late
theorem cloneP_spec (l : LV) (hl : l.length ≤ LMax) : Spec Tryd.prog glob 136 [.slice (l.map encP) .any] [] (fun o _ => o.fgt = .ret (.slice (l.map encP) .any)) := by
  refine Spec.movd globPure (wpD_spec tyOK Tryd.func136 rfl (enters _ _ Tryd.func136 rfl (by decide)) rfl rfl ?_)
  (refine wpD_seqk fun K hK => ?_; refine wpD_region tyOK ?_; ((try simp only [wpAft_ret, wpAft_pan, putS, updS, setS]); (repeat (rw [wpS_cons]; simp)); (try simp only [wpS_nil, thenD, blockD])); refine hK _ _ _ ?_; clear hK K)
  refine wpD_seqk fun K1 hK1 => ?_
  cases l with
  | nil =>
    (refine wpD_seqk fun K hK => ?_; refine wpD_region tyOK ?_; ((try simp only [wpAft_ret, wpAft_pan, putS, updS, setS]); (repeat (rw [wpS_cons]; simp)); (try simp only [wpS_nil, thenD, blockD])))
    refine ⟨hK _ _ _ ?_, hK _ _ _ ?_⟩
    · refine wpD_part rfl (fun h => by simp at h) (fun _ => ?_)
      refine wpD_skip (hK1 _ _ _ ?_)
      (refine wpD_seqk fun K hK => ?_; refine wpD_region tyOK ?_; ((try simp only [wpAft_ret, wpAft_pan, putS, updS, setS]); (repeat (rw [wpS_cons]; simp)); (try simp only [wpS_nil, thenD, blockD])); refine hK _ _ _ ?_; clear hK K)
      (refine wpD_ret ?_; (try simp only [thenD, blockD]); refine EndQ.ret rfl (.inl ?_); simp [tmOf, Out.fgt, D.fgt, D.fgts])
    · refine wpD_part rfl (fun _ => ?_) (fun h => by simp at h)
      (refine wpD_seqk fun K hK => ?_; refine wpD_region tyOK ?_; ((try simp only [wpAft_ret, wpAft_pan, putS, updS, setS]); (repeat (rw [wpS_cons]; simp)); (try simp only [wpS_nil, thenD, blockD])); refine hK _ _ _ ?_; clear hK K)
      (refine wpD_ret ?_; (try simp only [thenD, blockD]); refine EndQ.ret rfl (.inl ?_); simp [tmOf, Out.fgt, D.fgt, D.fgts])
  | cons p r =>
    have hr : r.length + 1 ≤ LMax := by simpa using hl
    (refine wpD_seqk fun K hK => ?_; refine wpD_region tyOK ?_; ((try simp only [wpAft_ret, wpAft_pan, putS, updS, setS]); (repeat (rw [wpS_cons]; simp)); (try simp only [wpS_nil, thenD, blockD])); refine hK _ _ _ ?_; clear hK K)
    refine wpD_part rfl (fun h => by simp at h) (fun _ => ?_)
    refine wpD_skip (hK1 _ _ _ ?_)
    (refine wpD_seqk fun K hK => ?_; refine wpD_region tyOK ?_; ((try simp only [wpAft_ret, wpAft_pan, putS, updS, setS]); (repeat (rw [wpS_cons]; simp [hr])); (try simp only [wpS_nil, thenD, blockD])); refine hK _ _ _ ?_; clear hK K)
    (refine wpD_ret ?_; (try simp only [thenD, blockD]); refine EndQ.ret rfl (.inl ?_); simp [tmOf, Out.fgt, D.fgt, D.fgts])
/-- a row of the call's own, or nothing -/
def OwnE (sz : Nat) (els : List D) (o : Out) (hc : List HO) : Prop := (els = [] ∧ o.fgt = .ret (.slice [] .any) ∧ hc = []) ∨ (o = .ret (.own 0 els.length) ∧ hc = [.row sz els])
theorem cloneL_spec (ls : List LV) (hl : ls.length ≤ LMax) : Spec Tryd.prog glob 135 [.slice (ls.map encL) .any] [] (OwnE 1 (ls.map encL)) := by
  refine Spec.movd globPure (wpD_spec tyOK Tryd.func135 rfl (enters _ _ Tryd.func135 rfl (by decide)) rfl rfl ?_)
  (refine wpD_seqk fun K hK => ?_; refine wpD_region tyOK ?_; ((try simp only [wpAft_ret, wpAft_pan, putS, updS, setS]); (repeat (rw [wpS_cons]; simp)); (try simp only [wpS_nil, thenD, blockD])); refine hK _ _ _ ?_; clear hK K)
  refine wpD_seqk fun K1 hK1 => ?_
  cases ls with
  | nil =>
    (refine wpD_seqk fun K hK => ?_; refine wpD_region tyOK ?_; ((try simp only [wpAft_ret, wpAft_pan, putS, updS, setS]); (repeat (rw [wpS_cons]; simp)); (try simp only [wpS_nil, thenD, blockD])))
    refine ⟨hK _ _ _ ?_, hK _ _ _ ?_⟩
    · refine wpD_part rfl (fun h => by simp at h) (fun _ => ?_)
      refine wpD_skip (hK1 _ _ _ ?_)
      (refine wpD_seqk fun K hK => ?_; refine wpD_region tyOK ?_; ((try simp only [wpAft_ret, wpAft_pan, putS, updS, setS]); (repeat (rw [wpS_cons]; simp)); (try simp only [wpS_nil, thenD, blockD])); refine hK _ _ _ ?_; clear hK K)
      refine wpD_fgtT 2 ?_
      simp [D.fgt]
      (refine wpD_ret ?_; (try simp only [thenD, blockD]); refine EndQ.ret rfl (.inr ⟨[], by decide, by simp, ?_⟩); simp [Out.mov, movT, movH, movD, D.mov, HO.mov, okM, renM, getW, D.ren, D.rens, D.okN, D.okNs, Cp.ren, Cp.okN, HO.ren, HO.okN, okA, renA, renO, hOf, handed, D.fgt, D.fgts, List.range_succ, List.idxOf_cons, tmOf, Out.fgt, D.fgt, D.fgts])
      exact .inl ⟨rfl, by simp [Out.fgt, D.fgt], rfl⟩
    · refine wpD_part rfl (fun _ => ?_) (fun h => by simp at h)
      (refine wpD_seqk fun K hK => ?_; refine wpD_region tyOK ?_; ((try simp only [wpAft_ret, wpAft_pan, putS, updS, setS]); (repeat (rw [wpS_cons]; simp)); (try simp only [wpS_nil, thenD, blockD])); refine hK _ _ _ ?_; clear hK K)
      (refine wpD_ret ?_; (try simp only [thenD, blockD]); refine EndQ.ret rfl (.inr ⟨[], by decide, by simp, ?_⟩); simp [Out.mov, movT, movH, movD, D.mov, HO.mov, okM, renM, getW, D.ren, D.rens, D.okN, D.okNs, Cp.ren, Cp.okN, HO.ren, HO.okN, okA, renA, renO, hOf, handed, D.fgt, D.fgts, List.range_succ, List.idxOf_cons, tmOf, Out.fgt, D.fgt, D.fgts])
      exact .inl ⟨rfl, by simp [Out.fgt, D.fgt], rfl⟩
  | cons p r =>
    have hr : r.length + 1 ≤ LMax := by simpa using hl
    (refine wpD_seqk fun K hK => ?_; refine wpD_region tyOK ?_; ((try simp only [wpAft_ret, wpAft_pan, putS, updS, setS]); (repeat (rw [wpS_cons]; simp)); (try simp only [wpS_nil, thenD, blockD])); refine hK _ _ _ ?_; clear hK K)
    refine wpD_part rfl (fun h => by simp at h) (fun _ => ?_)
    refine wpD_skip (hK1 _ _ _ ?_)
    refine wpD_seqk fun K hK => ?_
    refine wpD_regionO tyOK 1 5 1 ?_
    simp only [List.take_succ_cons, List.take_zero, List.drop_succ_cons, List.drop_zero]
    ((try simp only [wpAft_ret, wpAft_pan, putS, updS, setS]); (repeat (rw [wpS_cons]; simp)); (try simp only [wpS_nil, thenD, blockD]))
    simp [D.ownd]
    ((try simp only [wpAft_ret, wpAft_pan, putS, updS, setS]); (repeat (rw [wpS_cons]; simp [hr])); (try simp only [wpS_nil, thenD, blockD]))
    (refine hK _ _ _ ?_; clear hK K)
    (refine wpD_ret ?_; (try simp only [thenD, blockD]); refine EndQ.ret rfl (.inr ⟨[1], by decide, by simp, ?_⟩); simp [Out.mov, movT, movH, movD, D.mov, HO.mov, okM, renM, getW, D.ren, D.rens, D.okN, D.okNs, Cp.ren, Cp.okN, HO.ren, HO.okN, okA, renA, renO, hOf, handed, D.fgt, D.fgts, List.range_succ, List.idxOf_cons, tmOf, Out.fgt, D.fgt, D.fgts])
    exact .inr ⟨by simp, rfl⟩
end Go.Proofs.YtebmlojhdnldgaaDoor

namespace Go.Proofs.YtebmlojhdnldgaaDoor
set_option linter.unusedSimpArgs false
set_option linter.unusedVariables false
set_option maxHeartbeats 10000000
set_option maxRecDepth 20000
open Go.RowKit
attribute [local simp] wpAft_ret wpAft_pan wantD evOp opD tmOf putS updS setS hOf isFree isTok fillD TK.isAgg TK.known partD thenD blockD putAll D.ofV inB nilTest isNilS binX binD binE isCst bndD capB IntKind.min IntKind.max IntKind.signed IntKind.bits dstOf late
def bindsB (k : Int) (kid : Int) : Bool := decide (0 < k) && decide (k < 25) && decide (0 ≤ kid) && decide ((kindAt k).2.2.2.2 = kid)
theorem binds_spec (k kid : Int) : Spec Tryd.prog glob 40 [.int .i64 k, .int .i64 kid] [] (fun o _ => o.fgt = .ret (.bool (bindsB k kid))) := by
  refine Spec.movd globPure (wpD_spec tyOK Tryd.func40 rfl (enters _ _ Tryd.func40 rfl (by decide)) rfl rfl ?_)
  (refine wpD_seqk fun K hK => ?_; refine wpD_region tyOK ?_; ((try simp only [wpAft_ret, wpAft_pan, putS, updS, setS]); (repeat (rw [wpS_cons]; simp)); (try simp only [wpS_nil, thenD, blockD])); refine hK _ _ _ ?_; clear hK K)
  by_cases h1 : 0 < k
  · by_cases h2 : k < 25
    · by_cases h3 : 0 ≤ kid
      · obtain ⟨j, rfl⟩ : ∃ j : Nat, k = j := ⟨k.toNat, by omega⟩
        have hj : j < 25 := by omega
        have hp := kind_part j hj
        simp [partD, TK.isAgg] at hp
        have h0 : 0 < j := by omega
        have h2' : (j : Int) < 25 := h2
        (refine wpD_seqk fun K hK => ?_; refine wpD_region tyOK ?_; ((try simp only [wpAft_ret, wpAft_pan, putS, updS, setS]); (repeat (rw [wpS_cons]; simp [h0, h2', h3, hj, hp])); (try simp only [wpS_nil, thenD, blockD])); refine hK _ _ _ ?_; clear hK K)
        (refine wpD_ret ?_; (try simp only [thenD, blockD]); refine EndQ.ret rfl (.inl ?_); simp [tmOf, Out.fgt, D.fgt, D.fgts])
        simp [bindsB, h0, h2', h3]
      · (refine wpD_seqk fun K hK => ?_; refine wpD_region tyOK ?_; ((try simp only [wpAft_ret, wpAft_pan, putS, updS, setS]); (repeat (rw [wpS_cons]; simp [h1, h2, h3])); (try simp only [wpS_nil, thenD, blockD])); refine hK _ _ _ ?_; clear hK K)
        (refine wpD_ret ?_; (try simp only [thenD, blockD]); refine EndQ.ret rfl (.inl ?_); simp [tmOf, Out.fgt, D.fgt, D.fgts])
        simp [bindsB, h3]
    · (refine wpD_seqk fun K hK => ?_; refine wpD_region tyOK ?_; ((try simp only [wpAft_ret, wpAft_pan, putS, updS, setS]); (repeat (rw [wpS_cons]; simp [h1, h2])); (try simp only [wpS_nil, thenD, blockD])); refine hK _ _ _ ?_; clear hK K)
      (refine wpD_ret ?_; (try simp only [thenD, blockD]); refine EndQ.ret rfl (.inl ?_); simp [tmOf, Out.fgt, D.fgt, D.fgts])
      simp [bindsB, h2]
  · (refine wpD_seqk fun K hK => ?_; refine wpD_region tyOK ?_; ((try simp only [wpAft_ret, wpAft_pan, putS, updS, setS]); (repeat (rw [wpS_cons]; simp [h1])); (try simp only [wpS_nil, thenD, blockD])); refine hK _ _ _ ?_; clear hK K)
    (refine wpD_ret ?_; (try simp only [thenD, blockD]); refine EndQ.ret rfl (.inl ?_); simp [tmOf, Out.fgt, D.fgt, D.fgts])
    simp [bindsB, h1]
end Go.Proofs.YtebmlojhdnldgaaDoor

namespace Go.Proofs.YtebmlojhdnldgaaDoor
set_option linter.unusedSimpArgs false
set_option linter.unusedVariables false
set_option maxHeartbeats 10000000
set_option maxRecDepth 20000
open Go.RowKit
attribute [local simp] wpAft_ret wpAft_pan wantD evOp opD tmOf putS updS setS hOf isFree isTok fillD TK.isAgg TK.known partD thenD blockD putAll D.ofV inB nilTest isNilS binX binD binE isCst bndD capB IntKind.min IntKind.max IntKind.signed IntKind.bits dstOf late
theorem set_same {α : Type} : ∀ {l : List α} {k : Nat} {x : α}, l[k]? = some x → l.set k x = l
  | [], k, x, h => by simp at h
  | a :: r, 0, x, h => by simp at h; rw [h]; rfl
  | a :: r, k + 1, x, h => by rw [List.set_cons_succ, set_same (by simpa using h)]
theorem own_spec (t : T) (ht : okT t) : Spec Tryd.prog glob 83 [encT t] [] (fun o _ => o.fgt = .ret (encT t)) := by
  obtain ⟨kk, nn, aa, ls, ks⟩ := t
  have hll : ls.length ≤ LMax := ht.ll
  have hls := ht.ls
  simp only [T.ls_mk] at hls
  have hcl := cloneL_spec ls hll
  rw [encT_eq]
  simp only [T.k_mk, T.n_mk, T.a_mk, T.ls_mk, T.ks_mk]
  refine Spec.movd globPure (wpD_spec tyOK Tryd.func83 rfl (enters _ _ Tryd.func83 rfl (by decide)) rfl rfl ?_)
  (refine wpD_seqk fun K hK => ?_; refine wpD_region tyOK ?_; ((try simp only [wpAft_ret, wpAft_pan, putS, updS, setS]); (repeat (rw [wpS_cons]; simp)); (try simp only [wpS_nil, thenD, blockD])); refine hK _ _ _ ?_; clear hK K)
  (refine wpD_seqk fun K hK => ?_; refine wpD_region tyOK ?_; ((try simp only [wpAft_ret, wpAft_pan, putS, updS, setS]); (repeat (rw [wpS_cons]; simp)); (try simp only [wpS_nil, thenD, blockD])))
  refine CallX.objs globPure [] true hcl ?_ ?_ (by decide) (by simp) (by simp [D.ren, D.rens, D.okN, D.okNs, Cp.ren, Cp.okN, HO.ren, HO.okN, okA, renA, renO, hOf, handed, D.fgt, D.fgts, List.range_succ, List.idxOf_cons]) (by simp [D.ren, D.rens, D.okN, D.okNs, Cp.ren, Cp.okN, HO.ren, HO.okN, okA, renA, renO, hOf, handed, D.fgt, D.fgts, List.range_succ, List.idxOf_cons]) (by simp [D.ren, D.rens, D.okN, D.okNs, Cp.ren, Cp.okN, HO.ren, HO.okN, okA, renA, renO, hOf, handed, D.fgt, D.fgts, List.range_succ, List.idxOf_cons]) (by simp [D.ren, D.rens, D.okN, D.okNs, Cp.ren, Cp.okN, HO.ren, HO.okN, okA, renA, renO, hOf, handed, D.fgt, D.fgts, List.range_succ, List.idxOf_cons])
  · rintro o hc (⟨hn, ho, rfl⟩ | ⟨rfl, rfl⟩)
    · refine ⟨true, ?_⟩
      rw [show told true o = _ from ho]
      clear ho
      have hn' : ls = [] := by cases ls with | nil => rfl | cons _ _ => simp at hn
      subst hn'
      simp [D.ren, D.rens, D.okN, D.okNs, Cp.ren, Cp.okN, HO.ren, HO.okN, okA, renA, renO, hOf, handed, D.fgt, D.fgts, List.range_succ, List.idxOf_cons, Out.ren, told, Out.fgt, upO, updS, setS]
      ((try simp only [wpAft_ret, wpAft_pan, putS, updS, setS]); (repeat (rw [wpS_cons]; simp)); (try simp only [wpS_nil, thenD, blockD]))
      (refine hK _ _ _ ?_; clear hK K)
      refine wpD_seqk fun K1 hK1 => ?_
      (refine wpD_seqk fun K hK => ?_; refine wpD_region tyOK ?_; ((try simp only [wpAft_ret, wpAft_pan, putS, updS, setS]); (repeat (rw [wpS_cons]; simp)); (try simp only [wpS_nil, thenD, blockD])); refine hK _ _ _ ?_; clear hK K)
      refine wpD_rangeJ tyOK globPure (ti := 3) (tk := 11) (tn := 10) (td := 12) (ts := 26) [3, 11, 12, 13, 14, 15, 16, 17, 18, 19, 20, 21, 22, 23, 24, 25, 26] [] (0) (fun k ys hl => ys = [] ∧ hl = [.cells 27 [.int .i64 kk, .int .i64 nn, .int .i64 aa, .slice [] .any, .slice (ks.map encT) .any], .cells 27 [.int .i64 0, .int .i64 0, .int .i64 0, .slice [] .full, .slice [] .full]]) rfl rfl rfl rfl rfl rfl rfl rfl rfl rfl rfl rfl (by simp) (by decide) rfl (by first | assumption | omega | (unfold LMax; omega)) rfl (by kernel_rfl) (by decide) ?_ ?_ ?_
      · exact ⟨rfl, rfl⟩
      · rintro i ys hl A hi
        exact absurd hi (by omega)
      · rintro ys hl tl' ⟨rfl, rfl⟩ htl
        refine hK1 _ _ _ (wpD_weakL htl ?_)
        simp only [putAll, List.set, List.map_cons, List.map_nil, List.cons_append, List.nil_append]
        (refine wpD_seqk fun K hK => ?_; refine wpD_region tyOK ?_; ((try simp only [wpAft_ret, wpAft_pan, putS, updS, setS]); (repeat (rw [wpS_cons]; simp)); (try simp only [wpS_nil, thenD, blockD])); refine hK _ _ _ ?_; clear hK K)
        (refine wpD_ret ?_; (try simp only [thenD, blockD]); refine EndQ.ret rfl (.inl ?_); simp [tmOf, Out.fgt, D.fgt, D.fgts])
    · refine ⟨false, ?_⟩
      simp [D.ren, D.rens, D.okN, D.okNs, Cp.ren, Cp.okN, HO.ren, HO.okN, okA, renA, renO, hOf, handed, D.fgt, D.fgts, List.range_succ, List.idxOf_cons, Out.ren, told, Out.fgt, upO, updS, setS]
      ((try simp only [wpAft_ret, wpAft_pan, putS, updS, setS]); (repeat (rw [wpS_cons]; simp)); (try simp only [wpS_nil, thenD, blockD]))
      (refine hK _ _ _ ?_; clear hK K)
      refine wpD_seqk fun K1 hK1 => ?_
      (refine wpD_seqk fun K hK => ?_; refine wpD_region tyOK ?_; ((try simp only [wpAft_ret, wpAft_pan, putS, updS, setS]); (repeat (rw [wpS_cons]; simp)); (try simp only [wpS_nil, thenD, blockD])); refine hK _ _ _ ?_; clear hK K)
      refine wpD_rangeJ tyOK globPure (ti := 3) (tk := 11) (tn := 10) (td := 12) (ts := 26) [3, 11, 12, 13, 14, 15, 16, 17, 18, 19, 20, 21, 22, 23, 24, 25, 26] [] (ls.length) (fun k ys hl => ys = [] ∧ hl = [.cells 27 [.int .i64 kk, .int .i64 nn, .int .i64 aa, .own 2 ls.length, .slice (ks.map encT) .any], .cells 27 [.int .i64 0, .int .i64 0, .int .i64 0, .slice [] .full, .slice [] .full], .row 1 (ls.map encL)]) rfl rfl rfl rfl rfl rfl rfl rfl rfl rfl rfl rfl (by simp) (by decide) rfl (by first | assumption | omega | (unfold LMax; omega)) rfl (by kernel_rfl) (by decide) ?_ ?_ ?_
      · exact ⟨rfl, rfl⟩
      · rintro i ys hl A hi ⟨rfl, rfl⟩ hA hA2
        simp only [putAll, List.set, List.map_cons, List.map_nil, List.cons_append, List.nil_append]
        have hi' : (i : Int) < ls.length := by omega
        have hcp := cloneP_spec ls[i] (hls _ (List.getElem_mem hi)).1
        (refine wpD_seqk fun K hK => ?_; refine wpD_region tyOK ?_; ((try simp only [wpAft_ret, wpAft_pan, putS, updS, setS]); (repeat (rw [wpS_cons]; simp)); (try simp only [wpS_nil, thenD, blockD])); refine hK _ _ _ ?_; clear hK K)
        (refine wpD_drawk tyOK (by kernel_rfl) (by kernel_rfl) fun KT hKT => ?_; ((try simp only [wpAftT_ret, wpAftT_pan, putS, updS, setS]); (repeat (rw [wpT_cons]; simp [hi, hi', encL])); (try simp only [wpT_nil])))
        refine CallY.pure globPure (hcp) ?_ (by simp [D.fgts, D.fgt]) (by simp [D.pures, D.pure, Cp.free, D.pures_map]) (by simp [Out.pure, D.pure, D.pures, Cp.free, D.pures_map])
        ((try simp only [wpAftT_ret, wpAftT_pan, putS, updS, setS]); (repeat (rw [wpT_cons]; simp [hi, hi', encL])); (try simp only [wpT_nil]))
        (refine hKT _ _ _ _ (by kernel_rfl) ?_; clear hKT KT; (try simp only [thenD, blockD]))
        rw [show reD (D.agg [D.slice (List.map encP ls[i]) Cp.any]) [D.slice (List.map encP ls[i]) Cp.any] = encL ls[i] from rfl, set_same (by simp [hi])]
        (refine hA _ _ _ (LeT.refl _) (by kernel_rfl) ?_ rfl; simp only [getW, List.map_cons, List.map_nil])
        exact ⟨trivial, trivial⟩
      · rintro ys hl tl' ⟨rfl, rfl⟩ htl
        refine hK1 _ _ _ (wpD_weakL htl ?_)
        simp only [putAll, List.set, List.map_cons, List.map_nil, List.cons_append, List.nil_append]
        (refine wpD_stayO 2 rfl ?_; simp [D.frzs, D.frz, HO.frz, dfFrz, FK.isB, FK.isM, FK.isO, D.isLen])
        (refine wpD_seqk fun K hK => ?_; refine wpD_region tyOK ?_; ((try simp only [wpAft_ret, wpAft_pan, putS, updS, setS]); (repeat (rw [wpS_cons]; simp)); (try simp only [wpS_nil, thenD, blockD])); refine hK _ _ _ ?_; clear hK K)
        (refine wpD_ret ?_; (try simp only [thenD, blockD]); refine EndQ.ret rfl (.inl ?_); simp [tmOf, Out.fgt, D.fgt, D.fgts])
  · rintro o hc (⟨hn, ho, rfl⟩ | ⟨rfl, rfl⟩) <;> simp
/-- what stands for a walk at so many binders, with a closure -/
def walkF (d : Int) (g : FuncId) (cap : List D) : D := .agg [.int .i64 d, .fn (.func g) [] cap]
def belowD (d k : Int) (i : Int) : Int := if bindsB k i then IntKind.i64.wrap (d + 1) else d
theorem means_spec (d n : Int) : Spec Tryd.prog glob 82 [.agg [.int .i64 d], .int .i64 n] [] (fun o _ => o.fgt = .ret (.tuple [.int .i64 (IntKind.i64.wrap (n - d)), .bool (decide (d ≤ n))])) := by
  refine Spec.movd globPure (wpD_spec tyOK Tryd.func82 rfl (enters _ _ Tryd.func82 rfl (by decide)) rfl rfl ?_)
  (refine wpD_seqk fun K hK => ?_; refine wpD_region tyOK ?_; ((try simp only [wpAft_ret, wpAft_pan, putS, updS, setS]); (repeat (rw [wpS_cons]; simp)); (try simp only [wpS_nil, thenD, blockD])); refine hK _ _ _ ?_; clear hK K)
  (refine wpD_seqk fun K hK => ?_; refine wpD_drawk tyOK (by kernel_rfl) (by kernel_rfl) fun KT hKT => ?_; ((try simp only [wpAftT_ret, wpAftT_pan, putS, updS, setS]); (repeat (rw [wpT_cons]; simp)); (try simp only [wpT_nil])))
  (refine hKT _ _ _ _ (by kernel_rfl) ?_; clear hKT KT; (try simp only [thenD, blockD]))
  (refine hK _ _ _ ?_; clear hK K)
  (refine wpD_ret ?_; (try simp only [thenD, blockD]); refine EndQ.ret rfl (.inl ?_); simp [tmOf, Out.fgt, D.fgt, D.fgts])
theorem below_spec (d k : Int) (i : Int) (g : FuncId) (cap : List D) (hp : D.pures cap = true) : Spec Tryd.prog glob 137 [walkF d g cap, .int .i64 k, .int .i64 i] [] (fun o _ => o.fgt = .ret (walkF (belowD d k i) g cap)) := by
  have hb := binds_spec k i
  refine Spec.movd globPure (wpD_spec tyOK Tryd.func137 rfl (enters _ _ Tryd.func137 rfl (by decide)) rfl rfl ?_)
  unfold walkF belowD
  (refine wpD_seqk fun K hK => ?_; refine wpD_region tyOK ?_; ((try simp only [wpAft_ret, wpAft_pan, putS, updS, setS]); (repeat (rw [wpS_cons]; simp)); (try simp only [wpS_nil, thenD, blockD])); refine hK _ _ _ ?_; clear hK K)
  refine wpD_seqk fun K1 hK1 => ?_
  cases hbb : bindsB k i with
  | true =>
    rw [hbb] at hb
    (refine wpD_seqk fun K hK => ?_; refine wpD_region tyOK ?_; ((try simp only [wpAft_ret, wpAft_pan, putS, updS, setS]); (repeat (rw [wpS_cons]; simp)); (try simp only [wpS_nil, thenD, blockD])))
    refine CallX.pure globPure (hb) ?_ (by simp [D.fgts, D.fgt]) (by simp [D.pures, D.pure, Cp.free, D.pures_map]) (by simp [Out.pure, D.pure, D.pures, Cp.free, D.pures_map])
    ((try simp only [wpAft_ret, wpAft_pan, putS, updS, setS]); (repeat (rw [wpS_cons]; simp)); (try simp only [wpS_nil, thenD, blockD]))
    (refine hK _ _ _ ?_; clear hK K)
    refine wpD_part rfl (fun _ => ?_) (fun h => by simp at h)
    (refine wpD_region tyOK ?_; ((try simp only [wpAft_ret, wpAft_pan, putS, updS, setS]); (repeat (rw [wpS_cons]; simp)); (try simp only [wpS_nil, thenD, blockD])))
    refine hK1 _ _ _ ?_
    (refine wpD_seqk fun K hK => ?_; refine wpD_region tyOK ?_; ((try simp only [wpAft_ret, wpAft_pan, putS, updS, setS]); (repeat (rw [wpS_cons]; simp)); (try simp only [wpS_nil, thenD, blockD])); refine hK _ _ _ ?_; clear hK K)
    (refine wpD_ret ?_; (try simp only [thenD, blockD]); refine EndQ.ret rfl (.inl ?_); simp [tmOf, Out.fgt, D.fgt, D.fgts])
    simp [hbb]
  | false =>
    rw [hbb] at hb
    (refine wpD_seqk fun K hK => ?_; refine wpD_region tyOK ?_; ((try simp only [wpAft_ret, wpAft_pan, putS, updS, setS]); (repeat (rw [wpS_cons]; simp)); (try simp only [wpS_nil, thenD, blockD])))
    refine CallX.pure globPure (hb) ?_ (by simp [D.fgts, D.fgt]) (by simp [D.pures, D.pure, Cp.free, D.pures_map]) (by simp [Out.pure, D.pure, D.pures, Cp.free, D.pures_map])
    ((try simp only [wpAft_ret, wpAft_pan, putS, updS, setS]); (repeat (rw [wpS_cons]; simp)); (try simp only [wpS_nil, thenD, blockD]))
    (refine hK _ _ _ ?_; clear hK K)
    refine wpD_part rfl (fun h => by simp at h) (fun _ => ?_)
    refine wpD_skip (hK1 _ _ _ ?_)
    (refine wpD_seqk fun K hK => ?_; refine wpD_region tyOK ?_; ((try simp only [wpAft_ret, wpAft_pan, putS, updS, setS]); (repeat (rw [wpS_cons]; simp)); (try simp only [wpS_nil, thenD, blockD])); refine hK _ _ _ ?_; clear hK K)
    (refine wpD_ret ?_; (try simp only [thenD, blockD]); refine EndQ.ret rfl (.inl ?_); simp [tmOf, Out.fgt, D.fgt, D.fgts])
    simp [hbb]
end Go.Proofs.YtebmlojhdnldgaaDoor

namespace Go.Proofs.YtebmlojhdnldgaaDoor
set_option linter.unusedSimpArgs false
set_option linter.unusedVariables false
set_option maxHeartbeats 10000000
set_option maxRecDepth 20000
open Go.RowKit
attribute [local simp] wpAft_ret wpAft_pan wantD evOp opD tmOf putS updS setS hOf isFree isTok fillD TK.isAgg TK.known partD thenD blockD putAll D.ofV inB nilTest isNilS binX binD binE isCst bndD capB IntKind.min IntKind.max IntKind.signed IntKind.bits dstOf late
/-- of a node: what it is at once; or its new number and levels -/
abbrev Turn := Int → T → Sum T (Int × List LV)
mutual
def T.walk (turn : Turn) : T → Int → T
  | .mk k n a ls ks, d => match turn d (.mk k n a ls ks) with
    | .inl u => u
    | .inr x => .mk k x.1 a x.2 (T.walks turn k ks 0 d)
def T.walks (turn : Turn) (k : Int) : List T → Nat → Int → List T
  | [], _, _ => []
  | t :: r, i, d => T.walk turn t (belowD d k i) :: T.walks turn k r (i + 1) d
end
theorem T.walks_length (turn : Turn) (k d : Int) : ∀ (ks : List T) (i : Nat), (T.walks turn k ks i d).length = ks.length
  | [], i => rfl
  | t :: r, i => by rw [T.walks, List.length_cons, List.length_cons, T.walks_length turn k d r (i + 1)]
theorem T.walks_snoc (turn : Turn) (k d : Int) : ∀ (ks : List T) (i j : Nat) (h : j < ks.length), T.walks turn k (ks.take (j + 1)) i d = T.walks turn k (ks.take j) i d ++ [T.walk turn ks[j] (belowD d k ((i + j : Nat) : Int))]
  | [], i, j, h => by simp at h
  | t :: r, i, 0, h => by simp [T.walks]
  | t :: r, i, j + 1, h => by
    have h' : j < r.length := by simpa using h
    simp only [List.take_succ_cons, T.walks, List.cons_append, List.getElem_cons_succ]
    rw [T.walks_snoc turn k d r (i + 1) j h', show i + 1 + j = i + (j + 1) by omega]
mutual
/-- how deep a term is -/
def T.deep : T → Nat
  | .mk _ _ _ _ ks => 1 + T.deeps ks
def T.deeps : List T → Nat
  | [] => 0
  | t :: r => max (T.deep t) (T.deeps r)
end
theorem T.deep_mem {t : T} {ks : List T} (h : t ∈ ks) : t.deep ≤ T.deeps ks := by
  induction ks with
  | nil => cases h
  | cons x r ih =>
    rw [T.deeps]
    cases h with
    | head => omega
    | tail _ hm => have := ih hm; omega
theorem T.deep_kid {t : T} {k n a : Int} {ls : List LV} {ks : List T} (h : t ∈ ks) : t.deep + 1 ≤ (T.mk k n a ls ks).deep := by
  have := T.deep_mem h
  rw [T.deep]; omega
def DM : Nat := 1099511627776
/-- so many binders, and those within, are not too many -/
def Fits (d : Int) (t : T) : Prop := 0 ≤ d ∧ d + t.deep ≤ DM
theorem Fits.kid {d k n a : Int} {ls : List LV} {ks : List T} (h : Fits d (.mk k n a ls ks)) {t : T} (ht : t ∈ ks) (i : Int) : Fits (belowD d k i) t := by
  have h1 := T.deep_kid (k := k) (n := n) (a := a) (ls := ls) ht
  obtain ⟨h2, h3⟩ := h
  unfold DM at h3
  unfold Fits belowD DM
  split
  · rw [i64w (by omega) (by omega)]; omega
  · omega
/-- the kids that are walked -/
def wksT (turn : Turn) (k d : Int) (ks : List T) (j : Nat) : List T := T.walks turn k (ks.take j) 0 d
theorem wksT_succ {turn : Turn} {k d : Int} {ks : List T} {j : Nat} (h : j < ks.length) : wksT turn k d ks (j + 1) = wksT turn k d ks j ++ [T.walk turn ks[j] (belowD d k j)] := by
  unfold wksT; rw [T.walks_snoc turn k d ks 0 j h, Nat.zero_add]
theorem wksT_end {turn : Turn} {k d : Int} {ks : List T} {j : Nat} (h : ks.length ≤ j) : wksT turn k d ks j = T.walks turn k ks 0 d := by unfold wksT; rw [List.take_of_length_le h]
theorem wksT_len {turn : Turn} {k d : Int} {ks : List T} {j : Nat} (h : j ≤ ks.length) : (wksT turn k d ks j).length = j := by unfold wksT; rw [T.walks_length, List.length_take]; omega
/-- what a closure tells -/
def turnOut (turn : Turn) (d : Int) (t : T) : D := match turn d t with
  | .inl u => .tuple [encT u, .bool true]
  | .inr x => .tuple [encT (.mk t.k x.1 t.a x.2 t.ks), .bool false]
theorem walkT_spec (turn : Turn) (g : FuncId) (cap : List D) (hcf : D.fgts cap = cap) (hp : D.pures cap = true) (hg : ∀ d t, Fits d t → okT t → Spec Tryd.prog glob g ([walkF d g cap, encT t] ++ cap) [] (fun o _ => o.fgt = .ret (turnOut turn d t))) (t : T) :
    ∀ d, Fits d t → okT t → Spec Tryd.prog glob 84 [walkF d g cap, encT t] [] (fun o _ => o.fgt = .ret (encT (T.walk turn t d))) := by
  induction t using T.ind with
  | h kk nn aa ls ks ih =>
    intro d hfit ht
    have hgt := hg d _ hfit ht
    have hcN : ∀ p, D.okNs p cap = true := fun p => D.okNs_pure p cap hp
    have hcR : ∀ σ, D.rens σ cap = cap := fun σ => D.rens_pure σ cap hp
    have hkl : ks.length ≤ LMax := ht.kl
    have hks : ∀ x, x ∈ ks → okT x := ht.ks
    have hw : T.walk turn (.mk kk nn aa ls ks) d = match turn d (.mk kk nn aa ls ks) with
      | .inl u => u
      | .inr x => .mk kk x.1 aa x.2 (T.walks turn kk ks 0 d) := by rw [T.walk]
    rw [hw]
    have hE : encT (.mk kk nn aa ls ks) = .agg [.int .i64 kk, .int .i64 nn, .int .i64 aa, .slice (ls.map encL) .any, .slice (ks.map encT) .any] := encT_eq _
    unfold walkF at hgt ⊢
    unfold turnOut at hgt
    rw [hE] at hgt ⊢
    cases hturn : turn d (.mk kk nn aa ls ks) with
    | inl u =>
      simp only [hturn] at hgt
      refine Spec.movd globPure (wpD_spec tyOK Tryd.func84 rfl (enters _ _ Tryd.func84 rfl (by decide)) rfl rfl ?_)
      (refine wpD_seqk fun K hK => ?_; refine wpD_region tyOK ?_; ((try simp only [wpAft_ret, wpAft_pan, putS, updS, setS]); (repeat (rw [wpS_cons]; simp)); (try simp only [wpS_nil, thenD, blockD])); refine hK _ _ _ ?_; clear hK K)
      (refine wpD_seqk fun K hK => ?_; refine wpD_region tyOK ?_; ((try simp only [wpAft_ret, wpAft_pan, putS, updS, setS]); (repeat (rw [wpS_cons]; simp)); (try simp only [wpS_nil, thenD, blockD])))
      refine CallX.pure globPure hgt ?_ (by simp [D.fgts, D.fgt, hcf]) (by simp [D.pures, D.pure, Cp.free, hp]) (by simp [Out.pure, D.pure, D.pures])
      ((try simp only [wpAft_ret, wpAft_pan, putS, updS, setS]); (repeat (rw [wpS_cons]; simp)); (try simp only [wpS_nil, thenD, blockD]))
      (refine hK _ _ _ ?_; clear hK K)
      refine wpD_seqk fun K1 hK1 => ?_
      (refine wpD_seqk fun K hK => ?_; refine wpD_region tyOK ?_; ((try simp only [wpAft_ret, wpAft_pan, putS, updS, setS]); (repeat (rw [wpS_cons]; simp)); (try simp only [wpS_nil, thenD, blockD])); refine hK _ _ _ ?_; clear hK K)
      refine wpD_part rfl (fun _ => ?_) (fun h => by simp at h)
      (refine wpD_seqk fun K hK => ?_; refine wpD_region tyOK ?_; ((try simp only [wpAft_ret, wpAft_pan, putS, updS, setS]); (repeat (rw [wpS_cons]; simp)); (try simp only [wpS_nil, thenD, blockD])); refine hK _ _ _ ?_; clear hK K)
      (refine wpD_ret ?_; (try simp only [thenD, blockD]); refine EndQ.ret rfl (.inl ?_); simp [tmOf, Out.fgt, D.fgt, D.fgts])
      exact (encT_eq u).symm
    | inr x =>
      simp only [hturn, T.k_mk, T.a_mk, T.ks_mk] at hgt
      rw [encT_eq] at hgt
      simp only [T.k_mk, T.n_mk, T.a_mk, T.ls_mk, T.ks_mk] at hgt
      refine Spec.movd globPure (wpD_spec tyOK Tryd.func84 rfl (enters _ _ Tryd.func84 rfl (by decide)) rfl rfl ?_)
      (refine wpD_seqk fun K hK => ?_; refine wpD_region tyOK ?_; ((try simp only [wpAft_ret, wpAft_pan, putS, updS, setS]); (repeat (rw [wpS_cons]; simp)); (try simp only [wpS_nil, thenD, blockD])); refine hK _ _ _ ?_; clear hK K)
      (refine wpD_seqk fun K hK => ?_; refine wpD_region tyOK ?_; ((try simp only [wpAft_ret, wpAft_pan, putS, updS, setS]); (repeat (rw [wpS_cons]; simp)); (try simp only [wpS_nil, thenD, blockD])))
      refine CallX.pure globPure hgt ?_ (by simp [D.fgts, D.fgt, hcf]) (by simp [D.pures, D.pure, Cp.free, hp]) (by simp [Out.pure, D.pure, D.pures, Cp.free])
      ((try simp only [wpAft_ret, wpAft_pan, putS, updS, setS]); (repeat (rw [wpS_cons]; simp)); (try simp only [wpS_nil, thenD, blockD]))
      (refine hK _ _ _ ?_; clear hK K)
      refine wpD_seqk fun K1 hK1 => ?_
      (refine wpD_seqk fun K hK => ?_; refine wpD_region tyOK ?_; ((try simp only [wpAft_ret, wpAft_pan, putS, updS, setS]); (repeat (rw [wpS_cons]; simp)); (try simp only [wpS_nil, thenD, blockD])); refine hK _ _ _ ?_; clear hK K)
      refine wpD_part rfl (fun h => by simp at h) (fun _ => ?_)
      refine wpD_skip (hK1 _ _ _ ?_)
      clear hK1 K1
      (refine wpD_seqk fun K hK => ?_; refine wpD_region tyOK ?_; ((try simp only [wpAft_ret, wpAft_pan, putS, updS, setS]); (repeat (rw [wpS_cons]; simp)); (try simp only [wpS_nil, thenD, blockD])); refine hK _ _ _ ?_; clear hK K)
      (refine wpD_seqk fun K hK => ?_; refine wpD_region tyOK ?_; ((try simp only [wpAft_ret, wpAft_pan, putS, updS, setS]); (repeat (rw [wpS_cons]; simp)); (try simp only [wpS_nil, thenD, blockD])); refine hK _ _ _ ?_; clear hK K)
      refine wpD_tokO 3 4 (ty := 27) (ds := [.int .i64 kk, .int .i64 x.1, .int .i64 aa, .slice (x.2.map encL) .any, .slice [] .full]) rfl ?_
      simp [D.tokd]
      refine wpD_seqk fun K1 hK1 => ?_
      (refine wpD_seqk fun K hK => ?_; refine wpD_region tyOK ?_; ((try simp only [wpAft_ret, wpAft_pan, putS, updS, setS]); (repeat (rw [wpS_cons]; simp)); (try simp only [wpS_nil, thenD, blockD])); refine hK _ _ _ ?_; clear hK K)
      refine wpD_rangeJ tyOK globPure (ti := 3) (tk := 25) (tn := 24) (td := 26) (ts := 42) [8, 9, 25, 26, 27, 28, 29, 30, 31, 32, 33, 34, 35, 36, 37, 38, 39, 40, 41, 42] [] (ks.length) (fun k ys hl => ys = [] ∧ hl = [.cells 127 [.int .i64 d, .fn (.func g) [] cap], .cells 27 [.int .i64 kk, .int .i64 nn, .int .i64 aa, .slice (ls.map encL) .any, .slice (ks.map encT) .any], .cells 27 [.int .i64 0, .int .i64 0, .int .i64 0, .slice [] .full, .slice [] .full], .cells 27 [.int .i64 kk, .int .i64 x.1, .int .i64 aa, .slice (x.2.map encL) .any, .slice ((wksT turn kk d ks k).map encT) (.tok 4)], .tok]) rfl rfl rfl rfl rfl rfl rfl rfl rfl rfl rfl rfl (by simp) (by decide) rfl (by first | assumption | omega | (unfold LMax; omega)) rfl (by kernel_rfl) (by decide) ?_ ?_ ?_
      · exact ⟨rfl, rfl⟩
      · rintro i ys hl A hi ⟨rfl, rfl⟩ hA hA2
        simp only [putAll, List.set, List.map_cons, List.map_nil, List.cons_append, List.nil_append]
        have hi' : (i : Int) < ks.length := by omega
        have hsn := wksT_succ (turn := turn) (k := kk) (d := d) hi
        have hln := wksT_len (turn := turn) (k := kk) (d := d) (Nat.le_of_lt hi)
        have hrec := ih ks[i] (List.getElem_mem hi) (belowD d kk i) (hfit.kid (List.getElem_mem hi) i) (hks _ (List.getElem_mem hi))
        have hbel := below_spec d kk i g cap hp
        unfold walkF at hrec hbel
        obtain ⟨y, hy⟩ : ∃ y, ks[i] = y := ⟨_, rfl⟩
        rw [hy] at hrec hsn
        have hEy := encT_eq y
        rw [hEy] at hrec
        have hel : (wksT turn kk d ks i).length + 1 ≤ LMax := by omega
        generalize wksT turn kk d ks i = es at hsn hln hel ⊢
        (refine wpD_seqk fun K hK => ?_; refine wpD_region tyOK ?_; ((try simp only [wpAft_ret, wpAft_pan, putS, updS, setS]); (repeat (rw [wpS_cons]; simp [hi, hi', hy, hEy])); (try simp only [wpS_nil, thenD, blockD])); refine hK _ _ _ ?_; clear hK K)
        (refine wpD_drawk tyOK (by kernel_rfl) (by kernel_rfl) fun KT hKT => ?_; ((try simp only [wpAftT_ret, wpAftT_pan, putS, updS, setS]); (repeat (rw [wpT_cons]; simp [hi, hi', hy])); (try simp only [wpT_nil])))
        refine CallY.pure globPure (hbel) ?_ (by simp [D.fgts, D.fgt, hp]) (by simp [D.pures, D.pure, Cp.free, D.pures_map, hp]) (by simp [Out.pure, D.pure, D.pures, Cp.free, D.pures_map, hp])
        ((try simp only [wpAftT_ret, wpAftT_pan, putS, updS, setS]); (repeat (rw [wpT_cons]; simp [hi, hi', hy])); (try simp only [wpT_nil]))
        refine CallY.pure globPure (hrec) ?_ (by simp [D.fgts, D.fgt, hp]) (by simp [D.pures, D.pure, Cp.free, D.pures_map, hp]) (by simp [Out.pure, D.pure, D.pures, Cp.free, D.pures_map, hp])
        ((try simp only [wpAftT_ret, wpAftT_pan, putS, updS, setS]); (repeat (rw [wpT_cons]; simp [hel])); (try simp only [wpT_nil]))
        (refine hKT _ _ _ _ (by kernel_rfl) ?_; clear hKT KT; (try simp only [thenD, blockD]))
        (refine hA2 ([0, 1, 2, 3, 6]) _ _ _ (LeT.refl _) (by decide) (by simp) (by simp [movT, movH, movD, D.mov, HO.mov, okM, renM, getW, D.ren, D.rens, D.okN, D.okNs, Cp.ren, Cp.okN, HO.ren, HO.okN, okA, renA, renO, hOf, handed, D.fgt, D.fgts, List.range_succ, List.idxOf_cons, putAll, hcN, hcR]) ?_ rfl; simp [movT, movH, movD, D.mov, HO.mov, okM, renM, getW, D.ren, D.rens, D.okN, D.okNs, Cp.ren, Cp.okN, HO.ren, HO.okN, okA, renA, renO, hOf, handed, D.fgt, D.fgts, List.range_succ, List.idxOf_cons, hcN, hcR])
        rw [hsn, show es.map encT ++ [encT (T.walk turn y (belowD d kk i))] = (es ++ [T.walk turn y (belowD d kk i)]).map encT by simp, mapT_ren]
      · rintro ys hl tl' ⟨rfl, rfl⟩ htl
        refine hK1 _ _ _ (wpD_weakL htl ?_)
        simp only [putAll, List.set, List.map_cons, List.map_nil, List.cons_append, List.nil_append]
        rw [wksT_end (Nat.le_refl _)]
        (refine wpD_seqk fun K hK => ?_; refine wpD_region tyOK ?_; ((try simp only [wpAft_ret, wpAft_pan, putS, updS, setS]); (repeat (rw [wpS_cons]; simp)); (try simp only [wpS_nil, thenD, blockD])); refine hK _ _ _ ?_; clear hK K)
        (refine wpD_ret ?_; (try simp only [thenD, blockD]); refine EndQ.ret rfl (.inl ?_); simp [tmOf, Out.fgt, D.fgt, D.fgts])
        rw [encT_eq]
        rfl
end Go.Proofs.YtebmlojhdnldgaaDoor

namespace Go.Proofs.YtebmlojhdnldgaaDoor
set_option linter.unusedSimpArgs false
set_option linter.unusedVariables false
set_option maxHeartbeats 10000000
set_option maxRecDepth 20000
open Go.RowKit
attribute [local simp] wpAft_ret wpAft_pan wantD evOp opD tmOf putS updS setS hOf isFree isTok fillD TK.isAgg TK.known partD thenD blockD putAll D.ofV inB nilTest isNilS binX binD binE isCst bndD capB IntKind.min IntKind.max IntKind.signed IntKind.bits dstOf late
def liftNum (n fr d k m : Int) : Int := if k = 1 ∧ d ≤ m ∧ fr ≤ IntKind.i64.wrap (m - d) then IntKind.i64.wrap (m + n) else m
def liftTurn (n fr : Int) : Turn := fun d t => .inr (liftNum n fr d t.k t.n, t.ls)
theorem i64_wrap (n : Int) : I64 (IntKind.i64.wrap n) := by
  have := wrap_in IntKind.i64 n
  simp [IntKind.min, IntKind.max, IntKind.signed, IntKind.bits] at this
  exact ⟨by omega, by omega⟩
theorem okT.num {t : T} (h : okT t) {m : Int} (hm : I64 m) : okT (.mk t.k m t.a t.ls t.ks) := by
  cases h with
  | mk hk hn ha hl hls hks h => exact .mk hk hm ha hl hls hks h
theorem liftNum_ok {n fr d k m : Int} (h : I64 m) : I64 (liftNum n fr d k m) := by
  unfold liftNum; split
  · exact i64_wrap _
  · exact h
def liftCap (n fr : Int) : List D := [.ref (.int .i64 fr), .ref (.int .i64 n)]
theorem lift1_spec (n fr d : Int) (t : T) (ht : okT t) : Spec Tryd.prog glob 81 ([walkF d 81 (liftCap n fr), encT t] ++ liftCap n fr) [] (fun o _ => o.fgt = .ret (turnOut (liftTurn n fr) d t)) := by
  obtain ⟨kk, nn, aa, ls, ks⟩ := t
  have hm := means_spec d nn
  have how := own_spec (.mk kk (liftNum n fr d kk nn) aa ls ks) (ht.num (liftNum_ok ht.n))
  have hln : liftNum n fr d kk nn = if kk = 1 ∧ d ≤ nn ∧ fr ≤ IntKind.i64.wrap (nn - d) then IntKind.i64.wrap (nn + n) else nn := rfl
  unfold turnOut liftTurn
  simp only [T.k_mk, T.n_mk, T.a_mk, T.ls_mk, T.ks_mk]
  generalize liftNum n fr d kk nn = num at how hln ⊢
  rw [encT_eq] at how
  rw [encT_eq, encT_eq]
  simp only [T.k_mk, T.n_mk, T.a_mk, T.ls_mk, T.ks_mk] at how ⊢
  unfold walkF liftCap
  refine Spec.movd globPure (wpD_spec tyOK Tryd.func81 rfl (enters _ _ Tryd.func81 rfl (by decide)) rfl rfl ?_)
  simp only [List.cons_append, List.nil_append]
  (refine wpD_seqk fun K hK => ?_; refine wpD_region tyOK ?_; ((try simp only [wpAft_ret, wpAft_pan, putS, updS, setS]); (repeat (rw [wpS_cons]; simp)); (try simp only [wpS_nil, thenD, blockD])); refine hK _ _ _ ?_; clear hK K)
  refine wpD_seqk fun K1 hK1 => ?_
  (refine wpD_seqk fun K hK => ?_; refine wpD_region tyOK ?_; ((try simp only [wpAft_ret, wpAft_pan, putS, updS, setS]); (repeat (rw [wpS_cons]; simp)); (try simp only [wpS_nil, thenD, blockD])))
  refine CallX.pure globPure (hm) ?_ (by simp [D.fgts, D.fgt]) (by simp [D.pures, D.pure, Cp.free, D.pures_map]) (by simp [Out.pure, D.pure, D.pures, Cp.free, D.pures_map])
  ((try simp only [wpAft_ret, wpAft_pan, putS, updS, setS]); (repeat (rw [wpS_cons]; simp)); (try simp only [wpS_nil, thenD, blockD]))
  (refine hK _ _ _ ?_; clear hK K)
  by_cases h1 : kk = 1
  · subst h1
    by_cases h2 : d ≤ nn
    · by_cases h3 : fr ≤ IntKind.i64.wrap (nn - d)
      · rw [if_pos ⟨rfl, h2, h3⟩] at hln
        (refine wpD_seqk fun K hK => ?_; refine wpD_region tyOK ?_; ((try simp only [wpAft_ret, wpAft_pan, putS, updS, setS]); (repeat (rw [wpS_cons]; simp [h2, h3])); (try simp only [wpS_nil, thenD, blockD])); refine hK _ _ _ ?_; clear hK K)
        refine wpD_part rfl (fun _ => ?_) (fun h => by simp at h)
        (refine wpD_region tyOK ?_; ((try simp only [wpAft_ret, wpAft_pan, putS, updS, setS]); (repeat (rw [wpS_cons]; simp)); (try simp only [wpS_nil, thenD, blockD])))
        refine hK1 _ _ _ ?_
        rw [← hln]
        (refine wpD_seqk fun K hK => ?_; refine wpD_region tyOK ?_; ((try simp only [wpAft_ret, wpAft_pan, putS, updS, setS]); (repeat (rw [wpS_cons]; simp)); (try simp only [wpS_nil, thenD, blockD])))
        refine CallX.pure globPure (how) ?_ (by simp [D.fgts, D.fgt]) (by simp [D.pures, D.pure, Cp.free, D.pures_map]) (by simp [Out.pure, D.pure, D.pures, Cp.free, D.pures_map])
        ((try simp only [wpAft_ret, wpAft_pan, putS, updS, setS]); (repeat (rw [wpS_cons]; simp)); (try simp only [wpS_nil, thenD, blockD]))
        (refine hK _ _ _ ?_; clear hK K)
        (refine wpD_ret ?_; (try simp only [thenD, blockD]); refine EndQ.ret rfl (.inl ?_); simp [tmOf, Out.fgt, D.fgt, D.fgts])
      · rw [if_neg (fun h => h3 h.2.2)] at hln
        (refine wpD_seqk fun K hK => ?_; refine wpD_region tyOK ?_; ((try simp only [wpAft_ret, wpAft_pan, putS, updS, setS]); (repeat (rw [wpS_cons]; simp [h2, h3])); (try simp only [wpS_nil, thenD, blockD])); refine hK _ _ _ ?_; clear hK K)
        refine wpD_part rfl (fun h => by simp at h) (fun _ => ?_)
        refine wpD_skip (hK1 _ _ _ ?_)
        rw [hln] at how
        (refine wpD_seqk fun K hK => ?_; refine wpD_region tyOK ?_; ((try simp only [wpAft_ret, wpAft_pan, putS, updS, setS]); (repeat (rw [wpS_cons]; simp)); (try simp only [wpS_nil, thenD, blockD])))
        refine CallX.pure globPure (how) ?_ (by simp [D.fgts, D.fgt]) (by simp [D.pures, D.pure, Cp.free, D.pures_map]) (by simp [Out.pure, D.pure, D.pures, Cp.free, D.pures_map])
        ((try simp only [wpAft_ret, wpAft_pan, putS, updS, setS]); (repeat (rw [wpS_cons]; simp)); (try simp only [wpS_nil, thenD, blockD]))
        (refine hK _ _ _ ?_; clear hK K)
        (refine wpD_ret ?_; (try simp only [thenD, blockD]); refine EndQ.ret rfl (.inl ?_); simp [tmOf, Out.fgt, D.fgt, D.fgts])
        rw [hln]
    · rw [if_neg (fun h => h2 h.2.1)] at hln
      (refine wpD_seqk fun K hK => ?_; refine wpD_region tyOK ?_; ((try simp only [wpAft_ret, wpAft_pan, putS, updS, setS]); (repeat (rw [wpS_cons]; simp [h2])); (try simp only [wpS_nil, thenD, blockD])); refine hK _ _ _ ?_; clear hK K)
      refine wpD_part rfl (fun h => by simp at h) (fun _ => ?_)
      refine wpD_skip (hK1 _ _ _ ?_)
      rw [hln] at how
      (refine wpD_seqk fun K hK => ?_; refine wpD_region tyOK ?_; ((try simp only [wpAft_ret, wpAft_pan, putS, updS, setS]); (repeat (rw [wpS_cons]; simp)); (try simp only [wpS_nil, thenD, blockD])))
      refine CallX.pure globPure (how) ?_ (by simp [D.fgts, D.fgt]) (by simp [D.pures, D.pure, Cp.free, D.pures_map]) (by simp [Out.pure, D.pure, D.pures, Cp.free, D.pures_map])
      ((try simp only [wpAft_ret, wpAft_pan, putS, updS, setS]); (repeat (rw [wpS_cons]; simp)); (try simp only [wpS_nil, thenD, blockD]))
      (refine hK _ _ _ ?_; clear hK K)
      (refine wpD_ret ?_; (try simp only [thenD, blockD]); refine EndQ.ret rfl (.inl ?_); simp [tmOf, Out.fgt, D.fgt, D.fgts])
      rw [hln]
  · rw [if_neg (fun h => h1 h.1)] at hln
    (refine wpD_seqk fun K hK => ?_; refine wpD_region tyOK ?_; ((try simp only [wpAft_ret, wpAft_pan, putS, updS, setS]); (repeat (rw [wpS_cons]; simp [h1])); (try simp only [wpS_nil, thenD, blockD])); refine hK _ _ _ ?_; clear hK K)
    refine wpD_part rfl (fun h => by simp at h) (fun _ => ?_)
    refine wpD_skip (hK1 _ _ _ ?_)
    rw [hln] at how
    (refine wpD_seqk fun K hK => ?_; refine wpD_region tyOK ?_; ((try simp only [wpAft_ret, wpAft_pan, putS, updS, setS]); (repeat (rw [wpS_cons]; simp)); (try simp only [wpS_nil, thenD, blockD])))
    refine CallX.pure globPure (how) ?_ (by simp [D.fgts, D.fgt]) (by simp [D.pures, D.pure, Cp.free, D.pures_map]) (by simp [Out.pure, D.pure, D.pures, Cp.free, D.pures_map])
    ((try simp only [wpAft_ret, wpAft_pan, putS, updS, setS]); (repeat (rw [wpS_cons]; simp)); (try simp only [wpS_nil, thenD, blockD]))
    (refine hK _ _ _ ?_; clear hK K)
    (refine wpD_ret ?_; (try simp only [thenD, blockD]); refine EndQ.ret rfl (.inl ?_); simp [tmOf, Out.fgt, D.fgt, D.fgts])
    rw [hln]
def T.lift (t : T) (n fr d : Int) : T := T.walk (liftTurn n fr) t d
theorem lift_spec (t : T) (n fr : Int) (hd : t.deep ≤ DM) (ht : okT t) : Spec Tryd.prog glob 29 [encT t, .int .i64 n, .int .i64 fr] [] (fun o _ => o.fgt = .ret (encT (t.lift n fr 0))) := by
  have hw := walkT_spec (liftTurn n fr) 81 (liftCap n fr) rfl (by simp [liftCap, D.pures, D.pure]) (fun d t _ => lift1_spec n fr d t) t 0 ⟨by omega, by omega⟩ ht
  unfold walkF liftCap at hw
  rw [show T.walk (liftTurn n fr) t 0 = t.lift n fr 0 from rfl] at hw
  generalize t.lift n fr 0 = r at hw ⊢
  refine Spec.movd globPure (wpD_spec tyOK Tryd.func29 rfl (enters _ _ Tryd.func29 rfl (by decide)) rfl rfl ?_)
  (refine wpD_seqk fun K hK => ?_; refine wpD_region tyOK ?_; ((try simp only [wpAft_ret, wpAft_pan, putS, updS, setS]); (repeat (rw [wpS_cons]; simp)); (try simp only [wpS_nil, thenD, blockD])); refine hK _ _ _ ?_; clear hK K)
  (refine wpD_stay (T := tyOf) 1 (ty := 3) (ds := [.int .i64 n]) rfl rfl (by first | exact ⟨rfl, .inr ⟨_, rfl, rfl⟩⟩ | exact ⟨rfl, .inl rfl⟩) ?_; simp [D.frzs, D.frz, HO.frz, dfFrz, refOf, TK.isAgg, FK.isB, FK.isM, FK.isO, D.isLen])
  (refine wpD_stay (T := tyOf) 2 (ty := 3) (ds := [.int .i64 fr]) rfl rfl (by first | exact ⟨rfl, .inr ⟨_, rfl, rfl⟩⟩ | exact ⟨rfl, .inl rfl⟩) ?_; simp [D.frzs, D.frz, HO.frz, dfFrz, refOf, TK.isAgg, FK.isB, FK.isM, FK.isO, D.isLen])
  rw [encT_eq t] at hw
  (refine wpD_seqk fun K hK => ?_; refine wpD_region tyOK ?_; ((try simp only [wpAft_ret, wpAft_pan, putS, updS, setS]); (repeat (rw [wpS_cons]; simp)); (try simp only [wpS_nil, thenD, blockD])))
  refine CallX.pure globPure (hw) ?_ (by simp [D.fgts, D.fgt]) (by simp [D.pures, D.pure, Cp.free, D.pures_map]) (by simp [Out.pure, D.pure, D.pures, Cp.free, D.pures_map])
  ((try simp only [wpAft_ret, wpAft_pan, putS, updS, setS]); (repeat (rw [wpS_cons]; simp)); (try simp only [wpS_nil, thenD, blockD]))
  (refine hK _ _ _ ?_; clear hK K)
  (refine wpD_ret ?_; (try simp only [thenD, blockD]); refine EndQ.ret rfl (.inl ?_); simp [tmOf, Out.fgt, D.fgt, D.fgts])
  exact (encT_eq r).symm
end Go.Proofs.YtebmlojhdnldgaaDoor

namespace Go.Proofs.YtebmlojhdnldgaaDoor
set_option linter.unusedSimpArgs false
set_option linter.unusedVariables false
set_option maxHeartbeats 10000000
set_option maxRecDepth 20000
open Go.RowKit
attribute [local simp] wpAft_ret wpAft_pan wantD evOp opD tmOf putS updS setS hOf isFree isTok fillD TK.isAgg TK.known partD thenD blockD putAll D.ofV inB nilTest isNilS binX binD binE isCst bndD capB IntKind.min IntKind.max IntKind.signed IntKind.bits dstOf late
def putTurn (bys : List T) : Turn := fun d t =>
  if t.k = 1 ∧ d ≤ t.n then
    if h : (t.n - d).toNat < bys.length then .inl ((bys[bys.length - 1 - (t.n - d).toNat]'(by omega)).lift d 0 0) else .inr (IntKind.i64.wrap (t.n - bys.length), t.ls)
  else .inr (t.n, t.ls)
def T.put (t : T) (bys : List T) (d : Int) : T := T.walk (putTurn bys) t d
theorem put_hit {bys : List T} {d : Int} {t : T} (h1 : t.k = 1 ∧ d ≤ t.n) {q : Nat} (hq : q < bys.length) (hn : q + (t.n - d).toNat + 1 = bys.length) : turnOut (putTurn bys) d t = .tuple [encT (bys[q].lift d 0 0), .bool true] := by
  have : putTurn bys d t = .inl (bys[q].lift d 0 0) := by
    unfold putTurn
    rw [if_pos h1, dif_pos (by omega)]
    congr 2
    congr 1
    omega
  unfold turnOut
  rw [this]
theorem put_over {bys : List T} {d : Int} {t : T} (h1 : t.k = 1 ∧ d ≤ t.n) (hn : bys.length ≤ (t.n - d).toNat) : turnOut (putTurn bys) d t = .tuple [encT (.mk t.k (IntKind.i64.wrap (t.n - bys.length)) t.a t.ls t.ks), .bool false] := by
  have : putTurn bys d t = .inr (IntKind.i64.wrap (t.n - bys.length), t.ls) := by
    unfold putTurn
    rw [if_pos h1, dif_neg (by omega)]
  unfold turnOut
  rw [this]
theorem put_low {bys : List T} {d : Int} {t : T} (h1 : ¬ (t.k = 1 ∧ d ≤ t.n)) : turnOut (putTurn bys) d t = .tuple [encT (.mk t.k t.n t.a t.ls t.ks), .bool false] := by
  have : putTurn bys d t = .inr (t.n, t.ls) := by
    unfold putTurn
    rw [if_neg h1]
  unfold turnOut
  rw [this]
theorem put1T_spec (bys : List T) (hb : bys.length ≤ LMax) (hbo : ∀ b, b ∈ bys → okT b ∧ b.deep ≤ DM) (d : Int) (t : T) (hf : Fits d t) (ht : okT t) : Spec Tryd.prog glob 89 ([walkF d 89 [.ref (Ts bys)], encT t] ++ [.ref (Ts bys)]) [] (fun o _ => o.fgt = .ret (turnOut (putTurn bys) d t)) := by
  obtain ⟨kk, nn, aa, ls, ks⟩ := t
  have hm := means_spec d nn
  have hn := ht.n
  simp only [T.n_mk] at hn
  obtain ⟨hd0, hd1⟩ := hf
  unfold DM at hd1
  unfold LMax at hb
  have how := fun num (h : I64 num) => own_spec (.mk kk num aa ls ks) (ht.num h)
  have hA := @put_hit bys d (.mk kk nn aa ls ks)
  have hB := @put_over bys d (.mk kk nn aa ls ks)
  have hC := @put_low bys d (.mk kk nn aa ls ks)
  simp only [T.k_mk, T.n_mk, T.a_mk, T.ls_mk, T.ks_mk] at hA hB hC
  generalize turnOut (putTurn bys) d (.mk kk nn aa ls ks) = O at hA hB hC ⊢
  have hE : ∀ num, encT (.mk kk num aa ls ks) = .agg [.int .i64 kk, .int .i64 num, .int .i64 aa, .slice (ls.map encL) .any, .slice (ks.map encT) .any] := fun num => encT_eq _
  simp only [hE] at how hB hC ⊢
  unfold walkF Ts
  unfold I64 at hn
  refine Spec.movd globPure (wpD_spec tyOK Tryd.func89 rfl (enters _ _ Tryd.func89 rfl (by decide)) rfl rfl ?_)
  simp only [List.cons_append, List.nil_append]
  (refine wpD_seqk fun K hK => ?_; refine wpD_region tyOK ?_; ((try simp only [wpAft_ret, wpAft_pan, putS, updS, setS]); (repeat (rw [wpS_cons]; simp)); (try simp only [wpS_nil, thenD, blockD])); refine hK _ _ _ ?_; clear hK K)
  (refine wpD_seqk fun K hK => ?_; refine wpD_region tyOK ?_; ((try simp only [wpAft_ret, wpAft_pan, putS, updS, setS]); (repeat (rw [wpS_cons]; simp)); (try simp only [wpS_nil, thenD, blockD])))
  refine CallX.pure globPure (hm) ?_ (by simp [D.fgts, D.fgt]) (by simp [D.pures, D.pure, Cp.free, D.pures_map]) (by simp [Out.pure, D.pure, D.pures, Cp.free, D.pures_map])
  ((try simp only [wpAft_ret, wpAft_pan, putS, updS, setS]); (repeat (rw [wpS_cons]; simp)); (try simp only [wpS_nil, thenD, blockD]))
  (refine hK _ _ _ ?_; clear hK K)
  refine wpD_seqk fun K1 hK1 => ?_
  refine wpD_block ?_
  by_cases h1 : kk = 1
  · by_cases h2 : d ≤ nn
    · have hw : IntKind.i64.wrap (nn - d) = nn - d := i64w (by omega) (by omega)
      obtain ⟨j, hj⟩ : ∃ j : Nat, nn - d = j := ⟨(nn - d).toNat, by omega⟩
      subst h1
      have hwj : IntKind.i64.wrap (j : Int) = (j : Int) := i64w (by omega) (by omega)
      (refine wpD_seqk fun K hK => ?_; refine wpD_region tyOK ?_; ((try simp only [wpAft_ret, wpAft_pan, putS, updS, setS]); (repeat (rw [wpS_cons]; simp [h2])); (try simp only [wpS_nil, thenD, blockD])); refine hK _ _ _ ?_; clear hK K)
      refine wpD_part rfl (fun h => by simp at h) (fun _ => ?_)
      by_cases h3 : j < bys.length
      · have h3' : (j : Int) < bys.length := by omega
        obtain ⟨q, hq⟩ : ∃ q : Nat, q = bys.length - 1 - j := ⟨_, rfl⟩
        have hql : q < bys.length := by omega
        have hw2 : IntKind.i64.wrap ((bys.length : Int) - 1) = (bys.length : Int) - 1 := i64w (by omega) (by omega)
        have hw3 : IntKind.i64.wrap ((bys.length : Int) - 1 - (j : Int)) = (q : Int) := by rw [i64w (by omega) (by omega)]; omega
        obtain ⟨b, hbq⟩ : ∃ b, bys[q] = b := ⟨_, rfl⟩
        have hbb := hbo b (by rw [← hbq]; exact List.getElem_mem hql)
        have hlf := lift_spec b d 0 hbb.2 hbb.1
        rw [encT_eq b] at hlf
        have hEb := encT_eq b
        have hO := hA ⟨rfl, h2⟩ hql (by omega)
        rw [hbq] at hO
        rw [hO]
        generalize b.lift d 0 0 = r at hlf ⊢
        (refine wpD_seqk fun K hK => ?_; refine wpD_region tyOK ?_; ((try simp only [wpAft_ret, wpAft_pan, putS, updS, setS]); (repeat (rw [wpS_cons]; simp [hw, hwj, hj, h3, h3'])); (try simp only [wpS_nil, thenD, blockD])); refine hK _ _ _ ?_; clear hK K)
        refine wpD_part rfl (fun _ => ?_) (fun h => by simp at h)
        (refine wpD_seqk fun K hK => ?_; refine wpD_drawk tyOK (by kernel_rfl) (by kernel_rfl) fun KT hKT => ?_; ((try simp only [wpAftT_ret, wpAftT_pan, putS, updS, setS]); (repeat (rw [wpT_cons]; simp [hw, hwj, hj, hw2, hw3, hql, hbq, hEb])); (try simp only [wpT_nil])))
        refine CallY.pure globPure (hlf) ?_ (by simp [D.fgts, D.fgt]) (by simp [D.pures, D.pure, Cp.free, D.pures_map]) (by simp [Out.pure, D.pure, D.pures, Cp.free, D.pures_map])
        ((try simp only [wpAftT_ret, wpAftT_pan, putS, updS, setS]); (repeat (rw [wpT_cons]; simp)); (try simp only [wpT_nil]))
        (refine hKT _ _ _ _ (by kernel_rfl) ?_; clear hKT KT; (try simp only [thenD, blockD]))
        (refine hK _ _ _ ?_; clear hK K)
        (refine wpD_ret ?_; (try simp only [thenD, blockD]); refine EndQ.ret rfl (.inl ?_); simp [tmOf, Out.fgt, D.fgt, D.fgts])
        exact (encT_eq r).symm
      · have h3' : ¬ (j : Int) < bys.length := by omega
        (refine wpD_seqk fun K hK => ?_; refine wpD_region tyOK ?_; ((try simp only [wpAft_ret, wpAft_pan, putS, updS, setS]); (repeat (rw [wpS_cons]; simp [hw, hwj, hj, h3, h3'])); (try simp only [wpS_nil, thenD, blockD])); refine hK _ _ _ ?_; clear hK K)
        refine wpD_part rfl (fun h => by simp at h) (fun _ => ?_)
        (refine wpD_region tyOK ?_; ((try simp only [wpAft_ret, wpAft_pan, putS, updS, setS]); (repeat (rw [wpS_cons]; simp)); (try simp only [wpS_nil, thenD, blockD])))
        refine hK1 _ _ _ ?_
        have hw4 := how (IntKind.i64.wrap (nn - bys.length)) (i64_wrap _)
        (refine wpD_seqk fun K hK => ?_; refine wpD_region tyOK ?_; ((try simp only [wpAft_ret, wpAft_pan, putS, updS, setS]); (repeat (rw [wpS_cons]; simp)); (try simp only [wpS_nil, thenD, blockD])))
        refine CallX.pure globPure (hw4) ?_ (by simp [D.fgts, D.fgt]) (by simp [D.pures, D.pure, Cp.free, D.pures_map]) (by simp [Out.pure, D.pure, D.pures, Cp.free, D.pures_map])
        ((try simp only [wpAft_ret, wpAft_pan, putS, updS, setS]); (repeat (rw [wpS_cons]; simp)); (try simp only [wpS_nil, thenD, blockD]))
        (refine hK _ _ _ ?_; clear hK K)
        (refine wpD_ret ?_; (try simp only [thenD, blockD]); refine EndQ.ret rfl (.inl ?_); simp [tmOf, Out.fgt, D.fgt, D.fgts])
        exact (hB ⟨rfl, h2⟩ (by omega)).symm
    · skip
      subst h1
      (refine wpD_seqk fun K hK => ?_; refine wpD_region tyOK ?_; ((try simp only [wpAft_ret, wpAft_pan, putS, updS, setS]); (repeat (rw [wpS_cons]; simp [h2])); (try simp only [wpS_nil, thenD, blockD])); refine hK _ _ _ ?_; clear hK K)
      refine wpD_part rfl (fun _ => ?_) (fun h => by simp at h)
      refine wpD_skip (hK1 _ _ _ ?_)
      have hw4 := how nn hn
      (refine wpD_seqk fun K hK => ?_; refine wpD_region tyOK ?_; ((try simp only [wpAft_ret, wpAft_pan, putS, updS, setS]); (repeat (rw [wpS_cons]; simp)); (try simp only [wpS_nil, thenD, blockD])))
      refine CallX.pure globPure (hw4) ?_ (by simp [D.fgts, D.fgt]) (by simp [D.pures, D.pure, Cp.free, D.pures_map]) (by simp [Out.pure, D.pure, D.pures, Cp.free, D.pures_map])
      ((try simp only [wpAft_ret, wpAft_pan, putS, updS, setS]); (repeat (rw [wpS_cons]; simp)); (try simp only [wpS_nil, thenD, blockD]))
      (refine hK _ _ _ ?_; clear hK K)
      (refine wpD_ret ?_; (try simp only [thenD, blockD]); refine EndQ.ret rfl (.inl ?_); simp [tmOf, Out.fgt, D.fgt, D.fgts])
      exact (hC (fun h => h2 h.2)).symm
  · skip
    (refine wpD_seqk fun K hK => ?_; refine wpD_region tyOK ?_; ((try simp only [wpAft_ret, wpAft_pan, putS, updS, setS]); (repeat (rw [wpS_cons]; simp [h1])); (try simp only [wpS_nil, thenD, blockD])); refine hK _ _ _ ?_; clear hK K)
    refine wpD_part rfl (fun _ => ?_) (fun h => by simp at h)
    refine wpD_skip (hK1 _ _ _ ?_)
    have hw4 := how nn hn
    (refine wpD_seqk fun K hK => ?_; refine wpD_region tyOK ?_; ((try simp only [wpAft_ret, wpAft_pan, putS, updS, setS]); (repeat (rw [wpS_cons]; simp)); (try simp only [wpS_nil, thenD, blockD])))
    refine CallX.pure globPure (hw4) ?_ (by simp [D.fgts, D.fgt]) (by simp [D.pures, D.pure, Cp.free, D.pures_map]) (by simp [Out.pure, D.pure, D.pures, Cp.free, D.pures_map])
    ((try simp only [wpAft_ret, wpAft_pan, putS, updS, setS]); (repeat (rw [wpS_cons]; simp)); (try simp only [wpS_nil, thenD, blockD]))
    (refine hK _ _ _ ?_; clear hK K)
    (refine wpD_ret ?_; (try simp only [thenD, blockD]); refine EndQ.ret rfl (.inl ?_); simp [tmOf, Out.fgt, D.fgt, D.fgts])
    exact (hC (fun h => h1 h.1)).symm
theorem putT_spec (t : T) (bys : List T) (hb : bys.length ≤ LMax) (hbo : ∀ b, b ∈ bys → okT b ∧ b.deep ≤ DM) (hd : t.deep ≤ DM) (ht : okT t) : Spec Tryd.prog glob 34 [encT t, Ts bys] [] (fun o _ => o.fgt = .ret (encT (t.put bys 0))) := by
  have hw := walkT_spec (putTurn bys) 89 [.ref (Ts bys)] rfl (by simp [D.pures, D.pure, Ts_pure]) (put1T_spec bys hb hbo) t 0 ⟨by omega, by omega⟩ ht
  unfold walkF at hw
  rw [show T.walk (putTurn bys) t 0 = t.put bys 0 from rfl] at hw
  generalize t.put bys 0 = r at hw ⊢
  rw [encT_eq t] at hw
  unfold Ts at hw ⊢
  refine Spec.movd globPure (wpD_spec tyOK Tryd.func34 rfl (enters _ _ Tryd.func34 rfl (by decide)) rfl rfl ?_)
  (refine wpD_seqk fun K hK => ?_; refine wpD_region tyOK ?_; ((try simp only [wpAft_ret, wpAft_pan, putS, updS, setS]); (repeat (rw [wpS_cons]; simp)); (try simp only [wpS_nil, thenD, blockD])); refine hK _ _ _ ?_; clear hK K)
  (refine wpD_stay (T := tyOf) 1 (ty := 25) (ds := [.slice (bys.map encT) .any]) rfl rfl (by first | exact ⟨rfl, .inr ⟨_, rfl, rfl⟩⟩ | exact ⟨rfl, .inl rfl⟩) ?_; simp [D.frzs, D.frz, HO.frz, dfFrz, refOf, TK.isAgg, FK.isB, FK.isM, FK.isO, D.isLen])
  (refine wpD_seqk fun K hK => ?_; refine wpD_region tyOK ?_; ((try simp only [wpAft_ret, wpAft_pan, putS, updS, setS]); (repeat (rw [wpS_cons]; simp)); (try simp only [wpS_nil, thenD, blockD])))
  refine CallX.pure globPure (hw) ?_ (by simp [D.fgts, D.fgt]) (by simp [D.pures, D.pure, Cp.free, D.pures_map]) (by simp [Out.pure, D.pure, D.pures, Cp.free, D.pures_map])
  ((try simp only [wpAft_ret, wpAft_pan, putS, updS, setS]); (repeat (rw [wpS_cons]; simp)); (try simp only [wpS_nil, thenD, blockD]))
  (refine hK _ _ _ ?_; clear hK K)
  (refine wpD_ret ?_; (try simp only [thenD, blockD]); refine EndQ.ret rfl (.inl ?_); simp [tmOf, Out.fgt, D.fgt, D.fgts])
  exact (encT_eq r).symm
end Go.Proofs.YtebmlojhdnldgaaDoor

namespace Go.Proofs.YtebmlojhdnldgaaDoor
set_option linter.unusedSimpArgs false
set_option linter.unusedVariables false
set_option maxHeartbeats 10000000
set_option maxRecDepth 20000
open Go.RowKit
attribute [local simp] wpAft_ret wpAft_pan wantD evOp opD tmOf putS updS setS hOf isFree isTok fillD TK.isAgg TK.known partD thenD blockD putAll D.ofV inB nilTest isNilS binX binD binE isCst bndD capB IntKind.min IntKind.max IntKind.signed IntKind.bits dstOf late
mutual
/-- how many nodes, counted as the machine counts -/
def T.sz : T → Int
  | .mk _ _ _ _ ks => T.szs ks 1
def T.szs : List T → Int → Int
  | [], n => n
  | t :: r, n => T.szs r (IntKind.i64.wrap (n + T.sz t))
end
theorem T.szs_snoc : ∀ (ks : List T) (n : Int) (j : Nat) (h : j < ks.length), T.szs (ks.take (j + 1)) n = IntKind.i64.wrap (T.szs (ks.take j) n + T.sz ks[j])
  | [], n, j, h => by simp at h
  | t :: r, n, 0, h => by simp [T.szs]
  | t :: r, n, j + 1, h => by
    have h' : j < r.length := by simpa using h
    simp only [List.take_succ_cons, T.szs, List.getElem_cons_succ]
    rw [T.szs_snoc r _ j h']
def szT (ks : List T) (j : Nat) : Int := T.szs (ks.take j) 1
theorem szT_succ {ks : List T} {j : Nat} (h : j < ks.length) : szT ks (j + 1) = IntKind.i64.wrap (szT ks j + T.sz ks[j]) := T.szs_snoc ks 1 j h
theorem szT_end {ks : List T} {j : Nat} (h : ks.length ≤ j) : szT ks j = T.szs ks 1 := by unfold szT; rw [List.take_of_length_le h]
theorem size_spec (t : T) : okT t → Spec Tryd.prog glob 31 [encT t] [] (fun o _ => o.fgt = .ret (.int .i64 t.sz)) := by
  induction t using T.ind with
  | h kk nn aa ls ks ih =>
    intro ht
    have hkl : ks.length ≤ LMax := ht.kl
    have hks : ∀ x, x ∈ ks → okT x := ht.ks
    rw [show (T.mk kk nn aa ls ks).sz = T.szs ks 1 by rw [T.sz]]
    rw [encT_eq]
    simp only [T.k_mk, T.n_mk, T.a_mk, T.ls_mk, T.ks_mk]
    refine Spec.movd globPure (wpD_spec tyOK Tryd.func31 rfl (enters _ _ Tryd.func31 rfl (by decide)) rfl rfl ?_)
    (refine wpD_seqk fun K hK => ?_; refine wpD_region tyOK ?_; ((try simp only [wpAft_ret, wpAft_pan, putS, updS, setS]); (repeat (rw [wpS_cons]; simp)); (try simp only [wpS_nil, thenD, blockD])); refine hK _ _ _ ?_; clear hK K)
    (refine wpD_seqk fun K hK => ?_; refine wpD_region tyOK ?_; ((try simp only [wpAft_ret, wpAft_pan, putS, updS, setS]); (repeat (rw [wpS_cons]; simp)); (try simp only [wpS_nil, thenD, blockD])); refine hK _ _ _ ?_; clear hK K)
    refine wpD_seqk fun K1 hK1 => ?_
    (refine wpD_seqk fun K hK => ?_; refine wpD_region tyOK ?_; ((try simp only [wpAft_ret, wpAft_pan, putS, updS, setS]); (repeat (rw [wpS_cons]; simp)); (try simp only [wpS_nil, thenD, blockD])); refine hK _ _ _ ?_; clear hK K)
    refine wpD_rangeJ tyOK globPure (ti := 3) (tk := 9) (tn := 8) (td := 10) (ts := 17) [5, 9, 10, 11, 12, 13, 14, 15, 16, 17] [3] (ks.length) (fun k ys hl => ys = [.int .i64 (szT ks k)] ∧ hl = [.cells 27 [.int .i64 kk, .int .i64 nn, .int .i64 aa, .slice (ls.map encL) .any, .slice (ks.map encT) .any]]) rfl rfl rfl rfl rfl rfl rfl rfl rfl rfl rfl rfl (by simp) (by decide) rfl (by first | assumption | omega | (unfold LMax; omega)) rfl (by kernel_rfl) (by decide) ?_ ?_ ?_
    · exact ⟨rfl, rfl⟩
    · rintro i ys hl A hi ⟨rfl, rfl⟩ hA hA2
      simp only [putAll, List.set, List.map_cons, List.map_nil, List.cons_append, List.nil_append]
      have hi' : (i : Int) < ks.length := by omega
      have hsn := szT_succ hi
      have hrec := ih ks[i] (List.getElem_mem hi) (hks _ (List.getElem_mem hi))
      obtain ⟨y, hy⟩ : ∃ y, ks[i] = y := ⟨_, rfl⟩
      have hEy := encT_eq y
      rw [hy] at hrec hsn
      rw [hEy] at hrec
      generalize szT ks i = s at hsn ⊢
      (refine wpD_seqk fun K hK => ?_; refine wpD_region tyOK ?_; ((try simp only [wpAft_ret, wpAft_pan, putS, updS, setS]); (repeat (rw [wpS_cons]; simp [hi, hi', hy, hEy])); (try simp only [wpS_nil, thenD, blockD])); refine hK _ _ _ ?_; clear hK K)
      (refine wpD_region tyOK ?_; ((try simp only [wpAft_ret, wpAft_pan, putS, updS, setS]); (repeat (rw [wpS_cons]; simp)); (try simp only [wpS_nil, thenD, blockD])))
      refine CallX.pure globPure (hrec) ?_ (by simp [D.fgts, D.fgt]) (by simp [D.pures, D.pure, Cp.free, D.pures_map]) (by simp [Out.pure, D.pure, D.pures, Cp.free, D.pures_map])
      ((try simp only [wpAft_ret, wpAft_pan, putS, updS, setS]); (repeat (rw [wpS_cons]; simp)); (try simp only [wpS_nil, thenD, blockD]))
      (refine hA2 ([0]) _ _ _ (LeT.refl _) (by decide) (by simp) (by simp [movT, movH, movD, D.mov, HO.mov, okM, renM, getW, D.ren, D.rens, D.okN, D.okNs, Cp.ren, Cp.okN, HO.ren, HO.okN, okA, renA, renO, hOf, handed, D.fgt, D.fgts, List.range_succ, List.idxOf_cons, putAll]) ?_ rfl; simp [movT, movH, movD, D.mov, HO.mov, okM, renM, getW, D.ren, D.rens, D.okN, D.okNs, Cp.ren, Cp.okN, HO.ren, HO.okN, okA, renA, renO, hOf, handed, D.fgt, D.fgts, List.range_succ, List.idxOf_cons])
      rw [hsn]
    · rintro ys hl tl' ⟨rfl, rfl⟩ htl
      refine hK1 _ _ _ (wpD_weakL htl ?_)
      simp only [putAll, List.set, List.map_cons, List.map_nil, List.cons_append, List.nil_append]
      rw [szT_end (Nat.le_refl _)]
      (refine wpD_seqk fun K hK => ?_; refine wpD_region tyOK ?_; ((try simp only [wpAft_ret, wpAft_pan, putS, updS, setS]); (repeat (rw [wpS_cons]; simp)); (try simp only [wpS_nil, thenD, blockD])); refine hK _ _ _ ?_; clear hK K)
      (refine wpD_ret ?_; (try simp only [thenD, blockD]); refine EndQ.ret rfl (.inl ?_); simp [tmOf, Out.fgt, D.fgt, D.fgts])
end Go.Proofs.YtebmlojhdnldgaaDoor

namespace Go.Proofs.YtebmlojhdnldgaaDoor
set_option linter.unusedSimpArgs false
set_option linter.unusedVariables false
set_option maxHeartbeats 10000000
set_option maxRecDepth 20000
open Go.RowKit
attribute [local simp] wpAft_ret wpAft_pan wantD evOp opD tmOf putS updS setS hOf isFree isTok fillD TK.isAgg TK.known partD thenD blockD putAll D.ofV inB nilTest isNilS binX binD binE isCst bndD capB IntKind.min IntKind.max IntKind.signed IntKind.bits dstOf late
def hitB (fr to k n d : Int) : Bool := decide (k = 1) && decide (d ≤ n) && decide (fr ≤ IntKind.i64.wrap (n - d)) && decide (IntKind.i64.wrap (n - d) < to)
mutual
def T.freeB (fr to : Int) : T → Int → Bool
  | .mk k n _ _ ks, d => hitB fr to k n d || T.freesB fr to k ks 0 d
def T.freesB (fr to k : Int) : List T → Nat → Int → Bool
  | [], _, _ => false
  | t :: r, i, d => T.freeB fr to t (belowD d k i) || T.freesB fr to k r (i + 1) d
end
end Go.Proofs.YtebmlojhdnldgaaDoor

namespace Go.Proofs.YtebmlojhdnldgaaDoor
set_option linter.unusedSimpArgs false
set_option linter.unusedVariables false
set_option maxHeartbeats 10000000
set_option maxRecDepth 20000
open Go.RowKit
attribute [local simp] wpAft_ret wpAft_pan wantD evOp opD tmOf putS updS setS hOf isFree isTok fillD TK.isAgg TK.known partD thenD blockD putAll D.ofV inB nilTest isNilS binX binD binE isCst bndD capB IntKind.min IntKind.max IntKind.signed IntKind.bits dstOf late
abbrev MP := List (Int × Int)
def encE (p : Int × Int) : D × D := (.int .i64 p.1, .int .i64 p.2)
def encM (m : MP) : List (D × D) := m.map encE
def findM (m : MP) (v : Int) : Option Int := (m.find? fun p => decide (v = p.1)).map (·.2)
def updM (v x : Int) : MP → MP
  | [] => []
  | p :: r => if v = p.1 then (p.1, x) :: r else p :: updM v x r
/-- a part put into a row -/
def putM (m : MP) (p : Int × Int) : MP := match findM m p.1 with
  | some k => updM p.1 (max k p.2) m
  | none => m ++ [(p.1, max 0 p.2)]
def badP (p : Int × Int) : Bool := decide (p.1 < 0) || decide (p.2 < 0) || decide (1048576 < p.1) || decide (1048576 < p.2)
/-- what a row at work is: each variable once, all within bounds -/
structure MOK (m : MP) : Prop where
  nd : (m.map (·.1)).Nodup
  v : ∀ p, p ∈ m → 0 ≤ p.1 ∧ p.1 ≤ 1048576
  n : ∀ p, p ∈ m → 0 ≤ p.2 ∧ p.2 ≤ 1048576
theorem nodup_bound : ∀ (k : Nat) (l : List Int), l.Nodup → (∀ x, x ∈ l → 0 ≤ x ∧ x < k) → l.length ≤ k
  | 0, l, _, h => by
    cases l with
    | nil => simp
    | cons x r => have := h x (List.mem_cons_self ..); omega
  | k + 1, l, hn, h => by
    by_cases hk : (k : Int) ∈ l
    · have h1 := nodup_bound k (l.erase (k : Int)) (hn.erase _) (fun x hx => by
        rw [hn.mem_erase_iff] at hx
        have := h x hx.2
        have := hx.1
        omega)
      rw [List.length_erase_of_mem hk] at h1
      have := List.length_pos_of_mem hk
      omega
    · have h1 := nodup_bound k l hn (fun x hx => by
        have := h x hx
        have : x ≠ (k : Int) := fun e => hk (e ▸ hx)
        omega)
      omega
theorem MOK.len {m : MP} (h : MOK m) : m.length ≤ 1048577 := by
  have := nodup_bound 1048577 (m.map (·.1)) h.nd (fun x hx => by
    obtain ⟨p, hp, rfl⟩ := List.mem_map.1 hx
    have := h.v p hp
    omega)
  simpa using this
theorem findM_none {v : Int} : ∀ {m : MP}, findM m v = none → ¬ v ∈ m.map (·.1)
  | [], _ => by simp
  | p :: r, h => by
    unfold findM at h
    rw [List.find?_cons] at h
    by_cases hv : v = p.1
    · simp [hv] at h
    · have h' : findM r v = none := by unfold findM; simpa [hv] using h
      rw [List.map_cons, List.mem_cons]
      exact fun h => h.elim hv (findM_none h')
theorem findM_some {v x : Int} : ∀ {m : MP}, findM m v = some x → (v, x) ∈ m
  | [], h => by cases h
  | p :: r, h => by
    unfold findM at h
    rw [List.find?_cons] at h
    by_cases hv : v = p.1
    · simp [hv] at h
      subst hv; subst h; exact List.mem_cons_self ..
    · have h' : findM r v = some x := by unfold findM; simpa [hv] using h
      exact List.mem_cons_of_mem _ (findM_some h')
theorem updM_keys (v x : Int) : ∀ m : MP, (updM v x m).map (·.1) = m.map (·.1)
  | [] => rfl
  | p :: r => by
    rw [updM]
    split
    · rfl
    · rw [List.map_cons, updM_keys v x r]; rfl
theorem updM_mem {v x : Int} {p : Int × Int} : ∀ {m : MP}, p ∈ updM v x m → p ∈ m ∨ p = (v, x)
  | [], h => .inl h
  | q :: r, h => by
    rw [updM] at h
    split at h
    · rename_i hv
      rcases List.mem_cons.1 h with h | h
      · right; rw [h, hv]
      · left; exact List.mem_cons_of_mem _ h
    · rcases List.mem_cons.1 h with h | h
      · left; rw [h]; exact List.mem_cons_self ..
      · rcases updM_mem h with h | h
        · left; exact List.mem_cons_of_mem _ h
        · right; exact h
theorem putM_ok {m : MP} {p : Int × Int} (h : MOK m) (hp : badP p = false) : MOK (putM m p) := by
  simp only [badP, Bool.or_eq_false_iff, decide_eq_false_iff_not] at hp
  obtain ⟨⟨⟨h1, h2⟩, h3⟩, h4⟩ := hp
  unfold putM
  cases hf : findM m p.1 with
  | some k =>
    have hk := h.n _ (findM_some hf)
    dsimp only at hk ⊢
    refine ⟨by rw [updM_keys]; exact h.nd, fun q hq => ?_, fun q hq => ?_⟩
    · rcases updM_mem hq with hq | rfl
      · exact h.v q hq
      · dsimp only; omega
    · rcases updM_mem hq with hq | rfl
      · exact h.n q hq
      · dsimp only; omega
  | none =>
    refine ⟨?_, fun q hq => ?_, fun q hq => ?_⟩
    · rw [List.map_append]
      refine List.nodup_append.2 ⟨h.nd, by simp, fun a ha b hb => ?_⟩
      simp only [List.map_cons, List.map_nil, List.mem_singleton] at hb
      subst hb
      exact fun e => findM_none hf (e ▸ ha)
    · rcases List.mem_append.1 hq with hq | hq
      · exact h.v q hq
      · rw [List.mem_singleton.1 hq]; dsimp only; omega
    · rcases List.mem_append.1 hq with hq | hq
      · exact h.n q hq
      · rw [List.mem_singleton.1 hq]; dsimp only; omega
theorem MOK.nil : MOK [] := ⟨by simp, (fun p h => by cases h), (fun p h => by cases h)⟩
theorem foldM_ok : ∀ {l : List (Int × Int)} {m : MP}, MOK m → (∀ p, p ∈ l → badP p = false) → MOK (l.foldl putM m)
  | [], m, h, _ => h
  | p :: r, m, h, hb => foldM_ok (l := r) (m := putM m p) (putM_ok h (hb p (List.mem_cons_self ..))) (fun q hq => hb q (List.mem_cons_of_mem _ hq))
def anyBad (l : List (Int × Int)) : Bool := l.any badP
theorem encM_all (m : MP) : ((encM m).all fun p => isIntK .i64 p.1) = true := by simp [encM, encE, isIntK]
theorem encM_find (v : Int) : ∀ m : MP, findD (.int .i64 v) (encM m) = (findM m v).map (.int .i64)
  | [] => rfl
  | p :: r => by
    unfold encM findM
    rw [List.map_cons, findD, List.find?_cons]
    by_cases h : v = p.1
    · simp [keyEq, encE, h]
    · have := encM_find v r
      unfold encM findM at this
      simp [keyEq, encE, h, this]
theorem encM_upd (v x : Int) : ∀ m : MP, updE (.int .i64 v) (.int .i64 x) (encM m) = encM (updM v x m)
  | [] => rfl
  | p :: r => by
    unfold encM
    rw [List.map_cons, updE, updM]
    by_cases h : v = p.1
    · simp [keyEq, encE, h]
    · have := encM_upd v x r
      unfold encM at this
      simp [keyEq, encE, h, this]
theorem encM_push (m : MP) (v x : Int) : encM m ++ [((.int .i64 v : D), (.int .i64 x : D))] = encM (m ++ [(v, x)]) := by simp [encM, encE]
theorem encM_length (m : MP) : (encM m).length = m.length := by simp [encM]
@[simp high] theorem encM_okN1 (p : Nat → Bool) (m : MP) : D.okNs p ((encM m).map (·.1)) = true := by
  induction m with
  | nil => rfl
  | cons x r ih => simp only [encM, List.map_cons, D.okNs, encE, D.okN] at ih ⊢; simpa using ih
@[simp high] theorem encM_okN2 (p : Nat → Bool) (m : MP) : D.okNs p ((encM m).map (·.2)) = true := by
  induction m with
  | nil => rfl
  | cons x r ih => simp only [encM, List.map_cons, D.okNs, encE, D.okN] at ih ⊢; simpa using ih
@[simp high] theorem encM_ren (σ : Nat → Nat) (m : MP) : (encM m).map (fun e => (D.ren σ e.1, D.ren σ e.2)) = encM m := by
  induction m with
  | nil => rfl
  | cons x r ih => simp only [encM, List.map_cons, encE, D.ren] at ih ⊢; rw [ih]
def noneD : D := .iface 228 (.agg [])
theorem rowPut_spec (l : List (Int × Int)) (m : MP) (hl : l.length ≤ LMax) (hm : MOK m) : Spec Tryd.prog glob 142 [.agg [.map 0], Ps l] [.mp (encM m)]
    (fun o hc => if anyBad l then o = .pan noneD ∧ ∃ m', hc = [.mp (encM m')] else o.fgt = .ret (.tuple []) ∧ hc = [.mp (encM (l.foldl putM m))]) := by
  refine Spec.movd globPure (wpD_spec tyOK Tryd.func142 rfl (enters _ _ Tryd.func142 rfl (by decide)) rfl rfl ?_)
  unfold Ps
  (refine wpD_seqk fun K hK => ?_; refine wpD_region tyOK ?_; ((try simp only [wpAft_ret, wpAft_pan, putS, updS, setS]); (repeat (rw [wpS_cons]; simp)); (try simp only [wpS_nil, thenD, blockD])); refine hK _ _ _ ?_; clear hK K)
  (refine wpD_seqk fun K hK => ?_; refine wpD_region tyOK ?_; ((try simp only [wpAft_ret, wpAft_pan, putS, updS, setS]); (repeat (rw [wpS_cons]; simp)); (try simp only [wpS_nil, thenD, blockD])); refine hK _ _ _ ?_; clear hK K)
  refine wpD_range tyOK globPure (ti := 3) (tk := 8) (tn := 7) (td := 9) (ts := 44) [5, 8, 9, 10, 11, 12, 13, 14, 15, 16, 17, 18, 19, 20, 21, 22, 23, 24, 25, 26, 27, 28, 29, 30, 31, 32, 33, 34, 35, 36, 37, 38, 39, 40, 41, 42, 43, 44] (l.length) (fun k ys hl => ∃ (m' : MP) (x5 x8 x9 x10 x11 x12 x13 x14 x15 x16 x17 x18 x19 x20 x21 x22 x23 x24 x25 x26 x27 x28 x29 x30 x31 x32 x33 x34 x35 x36 x37 x38 x39 x40 x41 x42 x43 x44 : D), ys = [x5, x8, x9, x10, x11, x12, x13, x14, x15, x16, x17, x18, x19, x20, x21, x22, x23, x24, x25, x26, x27, x28, x29, x30, x31, x32, x33, x34, x35, x36, x37, x38, x39, x40, x41, x42, x43, x44] ∧ anyBad l = anyBad (l.drop k) ∧ (l.drop k).foldl putM m' = l.foldl putM m ∧ MOK m' ∧ hl = [.mp (encM m'), .cells 201 [.map 0]]) rfl rfl rfl rfl rfl rfl rfl rfl rfl rfl rfl rfl (by simp) (by decide) rfl (by first | assumption | omega | (unfold LMax; omega)) rfl (by kernel_rfl) (by decide) ?_ ?_ ?_
  · exact ⟨m, _, _, _, _, _, _, _, _, _, _, _, _, _, _, _, _, _, _, _, _, _, _, _, _, _, _, _, _, _, _, _, _, _, _, _, _, _, _, rfl, rfl, rfl, hm, rfl⟩
  · rintro k ys hl A hk ⟨m', x5, x8, x9, x10, x11, x12, x13, x14, x15, x16, x17, x18, x19, x20, x21, x22, x23, x24, x25, x26, x27, x28, x29, x30, x31, x32, x33, x34, x35, x36, x37, x38, x39, x40, x41, x42, x43, x44, rfl, hb, hf, hml, rfl⟩ hA hA2
    simp only [putAll, List.set]
    (refine wpD_seqk fun K hK => ?_; refine wpD_region tyOK ?_; ((try simp only [wpAft_ret, wpAft_pan, putS, updS, setS]); (repeat (rw [wpS_cons]; simp [hk, encP])); (try simp only [wpS_nil, thenD, blockD])); refine hK _ _ _ ?_; clear hK K)
    refine wpD_seqk fun K1 hK1 => ?_
    have hd : l.drop k = l[k] :: l.drop (k + 1) := List.drop_eq_getElem_cons hk
    cases hbad : badP l[k] with
    | true =>
      have hall : anyBad l = true := by rw [hb, hd, anyBad, List.any_cons, hbad]; rfl
      rw [hall]
      simp only [if_true]
      have fin : True := trivial
      by_cases h1 : l[k].1 < 0
      · (refine wpD_seqk fun K hK => ?_; refine wpD_region tyOK ?_; ((try simp only [wpAft_ret, wpAft_pan, putS, updS, setS]); (repeat (rw [wpS_cons]; simp [h1])); (try simp only [wpS_nil, thenD, blockD])); refine hK _ _ _ ?_; clear hK K)
        refine wpD_part rfl (fun _ => ?_) (fun h => by simp at h)
        (refine wpD_region tyOK ?_; ((try simp only [wpAft_ret, wpAft_pan, putS, updS, setS]); (repeat (rw [wpS_cons]; simp)); (try simp only [wpS_nil, thenD, blockD])))
        ((try simp only [thenD, blockD]); refine EndQ.pan (.inr ⟨[], by decide, by simp, ?_⟩); simp [Out.mov, movT, movH, movD, D.mov, HO.mov, okM, renM, getW, D.ren, D.rens, D.okN, D.okNs, Cp.ren, Cp.okN, HO.ren, HO.okN, okA, renA, renO, hOf, handed, D.fgt, D.fgts, List.range_succ, List.idxOf_cons, tmOf, Out.fgt, D.fgt, D.fgts])
        exact ⟨rfl, m', rfl⟩
      · by_cases h2 : l[k].2 < 0
        · (refine wpD_seqk fun K hK => ?_; refine wpD_region tyOK ?_; ((try simp only [wpAft_ret, wpAft_pan, putS, updS, setS]); (repeat (rw [wpS_cons]; simp [h1, h2])); (try simp only [wpS_nil, thenD, blockD])); refine hK _ _ _ ?_; clear hK K)
          refine wpD_part rfl (fun _ => ?_) (fun h => by simp at h)
          (refine wpD_region tyOK ?_; ((try simp only [wpAft_ret, wpAft_pan, putS, updS, setS]); (repeat (rw [wpS_cons]; simp)); (try simp only [wpS_nil, thenD, blockD])))
          ((try simp only [thenD, blockD]); refine EndQ.pan (.inr ⟨[], by decide, by simp, ?_⟩); simp [Out.mov, movT, movH, movD, D.mov, HO.mov, okM, renM, getW, D.ren, D.rens, D.okN, D.okNs, Cp.ren, Cp.okN, HO.ren, HO.okN, okA, renA, renO, hOf, handed, D.fgt, D.fgts, List.range_succ, List.idxOf_cons, tmOf, Out.fgt, D.fgt, D.fgts])
          exact ⟨rfl, m', rfl⟩
        · by_cases h3 : 1048576 < l[k].1
          · (refine wpD_seqk fun K hK => ?_; refine wpD_region tyOK ?_; ((try simp only [wpAft_ret, wpAft_pan, putS, updS, setS]); (repeat (rw [wpS_cons]; simp [h1, h2, h3])); (try simp only [wpS_nil, thenD, blockD])); refine hK _ _ _ ?_; clear hK K)
            refine wpD_part rfl (fun _ => ?_) (fun h => by simp at h)
            (refine wpD_region tyOK ?_; ((try simp only [wpAft_ret, wpAft_pan, putS, updS, setS]); (repeat (rw [wpS_cons]; simp)); (try simp only [wpS_nil, thenD, blockD])))
            ((try simp only [thenD, blockD]); refine EndQ.pan (.inr ⟨[], by decide, by simp, ?_⟩); simp [Out.mov, movT, movH, movD, D.mov, HO.mov, okM, renM, getW, D.ren, D.rens, D.okN, D.okNs, Cp.ren, Cp.okN, HO.ren, HO.okN, okA, renA, renO, hOf, handed, D.fgt, D.fgts, List.range_succ, List.idxOf_cons, tmOf, Out.fgt, D.fgt, D.fgts])
            exact ⟨rfl, m', rfl⟩
          · have h4 : 1048576 < l[k].2 := by simpa [badP, h1, h2, h3] using hbad
            (refine wpD_seqk fun K hK => ?_; refine wpD_region tyOK ?_; ((try simp only [wpAft_ret, wpAft_pan, putS, updS, setS]); (repeat (rw [wpS_cons]; simp [h1, h2, h3, h4])); (try simp only [wpS_nil, thenD, blockD])); refine hK _ _ _ ?_; clear hK K)
            refine wpD_part rfl (fun _ => ?_) (fun h => by simp at h)
            (refine wpD_region tyOK ?_; ((try simp only [wpAft_ret, wpAft_pan, putS, updS, setS]); (repeat (rw [wpS_cons]; simp)); (try simp only [wpS_nil, thenD, blockD])))
            ((try simp only [thenD, blockD]); refine EndQ.pan (.inr ⟨[], by decide, by simp, ?_⟩); simp [Out.mov, movT, movH, movD, D.mov, HO.mov, okM, renM, getW, D.ren, D.rens, D.okN, D.okNs, Cp.ren, Cp.okN, HO.ren, HO.okN, okA, renA, renO, hOf, handed, D.fgt, D.fgts, List.range_succ, List.idxOf_cons, tmOf, Out.fgt, D.fgt, D.fgts])
            exact ⟨rfl, m', rfl⟩
    | false =>
      have hbad' := hbad
      simp only [badP, Bool.or_eq_false_iff, decide_eq_false_iff_not] at hbad'
      obtain ⟨⟨⟨h1, h2⟩, h3⟩, h4⟩ := hbad'
      (refine wpD_seqk fun K hK => ?_; refine wpD_region tyOK ?_; ((try simp only [wpAft_ret, wpAft_pan, putS, updS, setS]); (repeat (rw [wpS_cons]; simp [h1, h2, h3, h4])); (try simp only [wpS_nil, thenD, blockD])); refine hK _ _ _ ?_; clear hK K)
      refine wpD_part rfl (fun h => by simp at h) (fun _ => ?_)
      refine wpD_skip (hK1 _ _ _ ?_)
      clear hK1 K1
      have e1 := encM_all m'
      have e2 := encM_find l[k].1 m'
      have hlt : m'.length < LMax := by have := hml.len; unfold LMax; omega
      cases hf0 : findM m' l[k].1 with
      | none =>
        (refine wpD_region tyOK ?_; ((try simp only [wpAft_ret, wpAft_pan, putS, updS, setS]); (repeat (rw [wpS_cons]; simp [e1, e2, hf0, encM_length, hlt])); (try simp only [wpS_nil, thenD, blockD])))
        rw [encM_push]
        (refine hA2 ([1]) _ _ (by decide) (by simp) (by simp [movT, movH, movD, D.mov, HO.mov, okM, renM, getW, D.ren, D.rens, D.okN, D.okNs, Cp.ren, Cp.okN, HO.ren, HO.okN, okA, renA, renO, hOf, handed, D.fgt, D.fgts, List.range_succ, List.idxOf_cons, putAll]) ?_ rfl; simp [movT, movH, movD, D.mov, HO.mov, okM, renM, getW, D.ren, D.rens, D.okN, D.okNs, Cp.ren, Cp.okN, HO.ren, HO.okN, okA, renA, renO, hOf, handed, D.fgt, D.fgts, List.range_succ, List.idxOf_cons])
        have hp : putM m' l[k] = m' ++ [(l[k].1, max 0 l[k].2)] := by unfold putM; rw [hf0]
        refine ⟨by rw [hb, hd, anyBad, List.any_cons, hbad]; rfl, _, ?_, ?_, by rw [← hp]⟩
        · rw [← hf, hd, List.foldl_cons]
        · exact putM_ok hml hbad
      | some x =>
        (refine wpD_region tyOK ?_; ((try simp only [wpAft_ret, wpAft_pan, putS, updS, setS]); (repeat (rw [wpS_cons]; simp [e1, e2, hf0, encM_length, hlt])); (try simp only [wpS_nil, thenD, blockD])))
        rw [encM_upd]
        (refine hA2 ([1]) _ _ (by decide) (by simp) (by simp [movT, movH, movD, D.mov, HO.mov, okM, renM, getW, D.ren, D.rens, D.okN, D.okNs, Cp.ren, Cp.okN, HO.ren, HO.okN, okA, renA, renO, hOf, handed, D.fgt, D.fgts, List.range_succ, List.idxOf_cons, putAll]) ?_ rfl; simp [movT, movH, movD, D.mov, HO.mov, okM, renM, getW, D.ren, D.rens, D.okN, D.okNs, Cp.ren, Cp.okN, HO.ren, HO.okN, okA, renA, renO, hOf, handed, D.fgt, D.fgts, List.range_succ, List.idxOf_cons])
        have hp : putM m' l[k] = updM l[k].1 (max x l[k].2) m' := by unfold putM; rw [hf0]
        refine ⟨by rw [hb, hd, anyBad, List.any_cons, hbad]; rfl, _, ?_, ?_, by rw [← hp]⟩
        · rw [← hf, hd, List.foldl_cons]
        · exact putM_ok hml hbad
  · rintro ys hl ⟨m', x5, x8, x9, x10, x11, x12, x13, x14, x15, x16, x17, x18, x19, x20, x21, x22, x23, x24, x25, x26, x27, x28, x29, x30, x31, x32, x33, x34, x35, x36, x37, x38, x39, x40, x41, x42, x43, x44, rfl, hb, hf, hml, rfl⟩
    simp only [putAll, List.set]
    have hall : anyBad l = false := by rw [hb, List.drop_length]; rfl
    rw [List.drop_length, List.foldl_nil] at hf
    rw [hall, hf]
    ((try simp only [thenD, blockD]); refine EndQ.nrm rfl (.inr ⟨[], by decide, by simp, ?_⟩); simp [Out.mov, movT, movH, movD, D.mov, HO.mov, okM, renM, getW, D.ren, D.rens, D.okN, D.okNs, Cp.ren, Cp.okN, HO.ren, HO.okN, okA, renA, renO, hOf, handed, D.fgt, D.fgts, List.range_succ, List.idxOf_cons, tmOf, Out.fgt, D.fgt, D.fgts])
end Go.Proofs.YtebmlojhdnldgaaDoor

namespace Go.Proofs.YtebmlojhdnldgaaDoor
set_option linter.unusedSimpArgs false
set_option linter.unusedVariables false
open Go.RowKit Go.Maps Go.MapKept
open Go.ChangeMaps (setBlock)
section
variable {P : Program} (w : World) {ops : Array Oper} {rest : List Oper} {o : Oper} {a : Act} {Q : Exit → Act → World → Prop}
theorem wpList_range_m (hg : o.guard = none) (m : Operand) (t : TypeId) (hop : o.op = Op.range t m) (k e : TypeId) (ht : P.underlying t = some (.map k e)) {b clock : Nat} {es : Array MapEntry} (hm : a.eval m = .map (some b)) (hb : w.heap[b]? = some (.map es clock))
    (hK : wpList P ops Q rest (a.put o.dst (.pointer (some ⟨w.heap.size, 0, none⟩))) (w.alloc (.mapIter (some b) clock #[] clock))) :
    wpList P ops Q (o :: rest) a w := by
  refine wpList_plain hg fun K' hK' => ?_
  unfold Oper.wp
  have hrun : (Instr.range t (.map (some b))).run P w = .ok (.pointer (some ⟨w.heap.size, 0, none⟩)) (w.alloc (.mapIter (some b) clock #[] clock)) := by
    simp [Instr.range, run_underlying ht, getObj, Sem.run, hb, newObj]
  simp [execOp, hop, hm, hrun, Result.andThen]
  exact hK' _ _ hK
theorem wpList_next_m (hg : o.guard = none) (it : Operand) (hop : o.op = Op.next it false) {b r clock : Nat} {es : Array MapEntry} {seen : Array Nat} (hit : a.eval it = .pointer (some ⟨r, 0, none⟩)) (hb : w.heap[b]? = some (.map es clock)) (hr : w.heap[r]? = some (.mapIter (some b) clock seen clock)) (hst : Stamped es clock)
    (hDone : (leftOf es seen).size = 0 → wpList P ops Q rest (a.put o.dst (.tuple #[.bool false])) w)
    (hMore : ∀ (e : MapEntry) (w1 : World), e ∈ (leftOf es seen).toList → (w1 = w ∨ w1 = w.drew) → wpList P ops Q rest (a.put o.dst (.tuple #[.bool true, e.key, e.val])) (setBlock w1 r (.mapIter (some b) clock (seen.push e.born) clock))) :
    wpList P ops Q (o :: rest) a w := by
  refine wpList_plain hg fun K' hK' => ?_
  unfold Oper.wp
  rcases run_next_at (P := P) w o.type r b clock clock seen es clock hr hb hst.1 (Nat.le_refl _) with ⟨h0, hrun⟩ | ⟨e, he, w1, hw1, hrun⟩
  · simp [execOp, hop, hit, hrun, Result.andThen]
    exact hK' _ _ (hDone h0)
  · simp [execOp, hop, hit, hrun, Result.andThen]
    exact hK' _ _ (hMore e w1 he hw1)
end
def hitV (n : Int) (e : MapEntry) : Bool := match e.key, e.val with
  | .int _ x, .int _ c => decide (0 < x) && decide (n ≤ c)
  | _, _ => false
theorem setBlock_far {w : World} {r k : Nat} {o : Obj} (h : k ≠ r) : (setBlock w r o).heap[k]? = w.heap[k]? := by simp [setBlock, Array.getElem?_setIfInBounds_ne (Ne.symm h)]
theorem setBlock_at {w : World} {r : Nat} {o : Obj} (h : r < w.heap.size) : (setBlock w r o).heap[r]? = some o := by simp [setBlock, h]
theorem left_push {es : Array MapEntry} {seen : Array Nat} {e : MapEntry} (hn : (es.toList.map (·.born)).Nodup) (he : e ∈ (leftOf es seen).toList) : (leftOf es (seen.push e.born)).size < (leftOf es seen).size := by
  unfold leftOf at he ⊢
  show (Array.filter _ es).toList.length < (Array.filter _ es).toList.length
  rw [Array.toList_filter, Array.toList_filter]
  rw [Array.toList_filter] at he
  have h1 : (es.toList.filter fun x => !(seen.push e.born).contains x.born) = (es.toList.filter fun x => !seen.contains x.born).filter fun x => !(x.born == e.born) := by
    rw [List.filter_filter]
    refine List.filter_congr fun x _ => ?_
    rw [show (x.born == e.born) = decide (x.born = e.born) from rfl]
    simp [Array.contains_push, Bool.and_comm]
  rw [h1]
  refine List.length_filter_lt_length_iff_exists.2 ⟨e, he, by simp⟩
set_option maxRecDepth 100000 in
theorem hidden_calls (b clock : Nat) (ents : Array MapEntry) (n : Int) (w : World) (hb : w.heap[b]? = some (.map ents clock)) (hst : Stamped ents clock) (hsh : ∀ e ∈ ents.toList, ∃ x c, e.key = .int .i64 x ∧ e.val = .int .i64 c) :
    Calls Tryd.prog 202 #[.agg #[.map (some b)], .int .i64 n] w fun e w' => e = .returned (.bool (ents.toList.any (hitV n))) ∧ Below w.heap.size w w' := by
  have hbl : b < w.heap.size := (Array.getElem?_eq_some_iff.1 hb).1
  go_enter Tryd.func202, Tryd.ntmps202
  go_wp2_with (first
    | (at_range; refine wpList_range_m _ rfl _ 199 rfl 3 3 Tryd.underlying199 rfl ((Below.heap_alloc _ _ b hbl).trans hb) ?_)
    | go_in)
  go_frame
  simp only [World.size_alloc]
  go_loopw [5] (fun _ wr => ∃ seen, wr.heap[b]? = some (.map ents clock) ∧ wr.heap[w.heap.size + 1]? = some (.mapIter (some b) clock seen clock) ∧ (∀ e ∈ ents.toList, seen.contains e.born = true → hitV n e = false) ∧ Below w.heap.size w wr)
    (fun _ wr => wr.rangeLeft b (w.heap.size + 1))
  case atStart =>
    refine ⟨#[], ?_, ?_, fun e _ h => by simp at h, ((Below.refl _ w).alloc (Nat.le_refl _) _).alloc (by simp) _⟩
    · exact (Below.heap_alloc _ _ b (by simp; omega)).trans ((Below.heap_alloc _ _ b hbl).trans hb)
    · have := heap_new (w.alloc (.cells #[.map (some b)] 203)) (.mapIter (some b) clock #[] clock)
      simpa using this
  case round =>
    obtain ⟨seen, hbr, hrr, hseen, hbel⟩ := hrel
    have hleft : wr.rangeLeft b (w.heap.size + 1) = (leftOf ents seen).size := by simp [World.rangeLeft, hbr, hrr]
    go_wp2_with (first
      | (at_next; refine wpList_next_m _ rfl _ rfl rfl hbr hrr hst ?_ ?_)
      | go_in)
    · intro h0
      have hall : (ents.toList.any (hitV n)) = false := by
        rw [List.any_eq_false]
        intro e he
        have : seen.contains e.born = true := by
          cases hc : seen.contains e.born with
          | true => rfl
          | false =>
            exfalso
            have hm : e ∈ (leftOf ents seen).toList := by unfold leftOf; rw [Array.toList_filter]; exact List.mem_filter.2 ⟨he, by rw [hc]; rfl⟩
            have hz : (leftOf ents seen).toList = [] := by rw [h0]
            rw [hz] at hm; cases hm
        rw [hseen e he this]; simp
      go_wp2
      go_ret
      exact ⟨by rw [hall]; rfl, hbel⟩
    · intro e w1 he0 hw1
      have he : e ∈ (leftOf ents seen).toList := by simpa using he0
      have hem : e ∈ ents.toList := by unfold leftOf at he; rw [Array.toList_filter] at he; exact (List.mem_filter.1 he).1
      obtain ⟨x, c, hx, hc⟩ := hsh e hem
      have hh : w1.heap = wr.heap := by rcases hw1 with rfl | rfl <;> rfl
      have hrl : w.heap.size + 1 < w1.heap.size := by rw [hh]; exact (Array.getElem?_eq_some_iff.1 hrr).1
      have hne : b ≠ w.heap.size + 1 := by omega
      have hb2 : (setBlock w1 (w.heap.size + 1) (.mapIter (some b) clock (seen.push e.born) clock)).heap[b]? = some (.map ents clock) := by rw [setBlock_far hne, hh]; exact hbr
      have hr2 : (setBlock w1 (w.heap.size + 1) (.mapIter (some b) clock (seen.push e.born) clock)).heap[w.heap.size + 1]? = some (.mapIter (some b) clock (seen.push e.born) clock) := setBlock_at hrl
      have hlt := left_push hst.2.1 he
      have hbel2 : Below w.heap.size w (setBlock w1 (w.heap.size + 1) (.mapIter (some b) clock (seen.push e.born) clock)) := by
        refine hbel.trans ⟨?_, ?_, ?_, ?_, fun k hk => ?_⟩
        · rcases hw1 with rfl | rfl <;> rfl
        · rcases hw1 with rfl | rfl <;> rfl
        · rcases hw1 with rfl | rfl <;> rfl
        · simp [setBlock, hh]
        · rw [setBlock_far (by omega), hh]
      have hen := run_entry_at (P := Tryd.prog) _ _ _ _ seen ents clock e hr2 hb2 hem hst.2.1
      have hseen2 : (∀ e' ∈ ents.toList, (seen.push e.born).contains e'.born = true → hitV n e' = false) ↔ hitV n e = false := by
        constructor
        · intro h; exact h e hem (by simp)
        · intro h e' he' hc'
          simp [Array.contains_push] at hc'
          rcases hc' with hc' | hc'
          · exact hseen e' he' (by simpa using hc')
          · have : e' = e := by
              obtain ⟨i, hi⟩ := List.getElem?_of_mem he'
              obtain ⟨j, hj⟩ := List.getElem?_of_mem hem
              have hi' : (ents.toList.map (·.born))[i]? = some e'.born := by rw [List.getElem?_map, hi]; rfl
              have hj' : (ents.toList.map (·.born))[j]? = some e.born := by rw [List.getElem?_map, hj]; rfl
              have hil := (List.getElem?_eq_some_iff.1 hi').1
              have hij : i = j := by
                exact (List.getElem?_inj hil hst.2.1).1 (by rw [hi', hj', hc'])
              subst hij
              rw [hi] at hj; exact Option.some.inj hj
            rw [this]; exact h
      have hhit : hitV n e = (decide (0 < x) && decide (n ≤ c)) := by simp [hitV, hx, hc]
      generalize setBlock w1 (w.heap.size + 1) (.mapIter (some b) clock (seen.push e.born) clock) = W2 at *
      rw [hx, hc] at hen ⊢
      clear hw1 hh hrl hx hc
      go_wp2
      · have hall : (ents.toList.any (hitV n)) = true := List.any_eq_true.2 ⟨e, hem, by rw [hhit]; simp [*]⟩
        go_ret
        exact ⟨by rw [hall]; rfl, hbel2⟩
      · refine ⟨⟨_, hb2, hr2, hseen2.2 (by rw [hhit]; simp; omega), hbel2⟩, ?_⟩
        rw [hleft]
        simpa [World.rangeLeft, hb2, hr2] using hlt
      · refine ⟨⟨_, hb2, hr2, hseen2.2 (by rw [hhit]; simp; omega), hbel2⟩, ?_⟩
        rw [hleft]
        simpa [World.rangeLeft, hb2, hr2] using hlt
theorem Rel.below {G : Nat → Option D} {ρ : Rho} {w w' : World} {H : Nat → HO} (hR : Rel G ρ w H) (hb : Below w.heap.size w w') : Rel G ρ w' H ∧ Ex ρ w H ρ w' H :=
  Ex.quiet hR ⟨hb.os, hb.tape, hb.output, hb.size, fun b h hc => ⟨hc, hb.block b h⟩, fun b k h hc => ⟨.inl ⟨k, hc, Nat.le_refl _⟩, fun vs ty fz hh => ⟨vs, (hb.block b h).trans hh, rfl, fun _ _ => rfl⟩⟩, fun _ _ h => h⟩ (fun b h => hb.block b h)
theorem Rp_map {ρ : Rho} {w : World} {i : Nat} {v : Value} : Rp ρ w (.map i) v = ∃ b f, ρ.nm i = some (b, f) ∧ v = .map (some b) := by rw [Rp]
theorem Rp_agg {ρ : Rho} {w : World} {ds : List D} {v : Value} : Rp ρ w (.agg ds) v = ∃ us : List Value, v = .agg us.toArray ∧ RpL ρ w ds us := by rw [Rp]
theorem Rp_int {ρ : Rho} {w : World} {k : IntKind} {n : Int} {v : Value} : Rp ρ w (.int k n) v = (v = .int k n ∧ k.min ≤ n ∧ n ≤ k.max) := by rw [Rp]
theorem ints_of {ρ : Rho} {w : World} {f : Int × Int → Int} : ∀ {m : List (Int × Int)} {vs : List Value}, RpL ρ w (m.map fun p => (.int .i64 (f p) : D)) vs → vs = m.map fun p => .int .i64 (f p)
  | [], vs, h => by rw [List.map_nil, RpL_nil] at h; exact h
  | p :: r, vs, h => by
    rw [List.map_cons, RpL_cons] at h
    obtain ⟨v, us, rfl, h1, h2⟩ := h
    rw [Rp] at h1
    rw [ints_of h2, h1.1]; rfl
/-- what a map of numbers is in memory -/
theorem obj_map {G : Nat → Option D} {ρ : Rho} {w : World} {H : Nat → HO} {i b f : Nat} {m : MP} (hR : Rel G ρ w H) (hi : H i = .mp (encM m)) (hn : ρ.nm i = some (b, f)) :
    ∃ ents clock, w.heap[b]? = some (.map ents clock) ∧ ents.toList.map (·.key) = m.map (fun p => .int .i64 p.1) ∧ ents.toList.map (·.val) = m.map (fun p => .int .i64 p.2) ∧ Stamped ents clock ∧ m.length ≤ LMax := by
  have h := hR.obj i b f hn
  rw [hi] at h
  obtain ⟨-, ents, clock, h1, h2, h3, h4, h5⟩ := h
  refine ⟨ents, clock, h1, ints_of (ρ := ρ) (w := w) (f := (·.1)) ?_, ints_of (ρ := ρ) (w := w) (f := (·.2)) ?_, h4, by simpa [encM] using h5⟩
  · simpa [encM, encE, List.map_map, Function.comp_def] using h2
  · simpa [encM, encE, List.map_map, Function.comp_def] using h3
def hiddenM (m : MP) (n : Int) : Bool := m.any fun p => decide (0 < p.1) && decide (n ≤ p.2)
theorem hit_any {n : Int} : ∀ {m : MP} {l : List MapEntry}, l.map (·.key) = m.map (fun p => .int .i64 p.1) → l.map (·.val) = m.map (fun p => .int .i64 p.2) → l.any (hitV n) = hiddenM m n
  | [], l, h, _ => by
    have : l = [] := List.map_eq_nil_iff.1 h
    subst this; rfl
  | p :: m, [], h, _ => by simp at h
  | p :: m, e :: l, h1, h2 => by
    simp only [List.map_cons, List.cons.injEq] at h1 h2
    have ih := hit_any (n := n) h1.2 h2.2
    unfold hiddenM at ih ⊢
    rw [List.any_cons, List.any_cons, ih]
    congr 1
    simp [hitV, h1.1, h2.1]
theorem hidden_spec (m : MP) (n : Int) : Spec Tryd.prog glob 202 [.agg [.map 0], .int .i64 n] [.mp (encM m)] (fun o hc => o.fgt = .ret (.bool (hiddenM m n)) ∧ hc = [.mp (encM m)]) := by
  intro ρ w vs hR hvs
  refine ⟨enters _ _ Tryd.func202 rfl (by decide) _ _, ?_⟩
  rw [RpL_cons] at hvs
  obtain ⟨v1, us, rfl, h1, h2⟩ := hvs
  rw [RpL_cons] at h2
  obtain ⟨v2, us2, rfl, h2, h3⟩ := h2
  rw [RpL_nil] at h3
  subst h3
  rw [Rp_agg] at h1
  rw [Rp_int] at h2
  obtain ⟨l1, rfl, hl1⟩ := h1
  rw [RpL_cons] at hl1
  obtain ⟨v3, us3, rfl, h4, h5⟩ := hl1
  rw [RpL_nil] at h5
  subst h5
  rw [Rp_map] at h4
  obtain ⟨b, f, hnm, rfl⟩ := h4
  obtain ⟨ents, clock, k1, k2, k3, k4, -⟩ := obj_map hR (i := 0) rfl hnm
  have hsh : ∀ e ∈ ents.toList, ∃ x c, e.key = .int .i64 x ∧ e.val = .int .i64 c := fun e he => by
    have a1 : e.key ∈ ents.toList.map (·.key) := List.mem_map.2 ⟨e, he, rfl⟩
    have a2 : e.val ∈ ents.toList.map (·.val) := List.mem_map.2 ⟨e, he, rfl⟩
    rw [k2] at a1
    rw [k3] at a2
    obtain ⟨p, -, hp⟩ := List.mem_map.1 a1
    obtain ⟨q, -, hq⟩ := List.mem_map.1 a2
    exact ⟨_, _, hp.symm, hq.symm⟩
  rw [h2.1]
  refine (hidden_calls b clock ents n w k1 k4 hsh).mono ?_
  rintro e w' ⟨rfl, hbel⟩
  obtain ⟨r1, r2⟩ := hR.below hbel
  refine ⟨ρ, .ret (.bool (hiddenM m n)), [.mp (encM m)], ⟨rfl, rfl⟩, ⟨_, rfl, ?_⟩, r1, r2⟩
  rw [Rp, hit_any k2 k3]
end Go.Proofs.YtebmlojhdnldgaaDoor

namespace Go.Proofs.YtebmlojhdnldgaaDoor
set_option linter.unusedSimpArgs false
set_option linter.unusedVariables false
open Go.RowKit Go.Maps Go.Sort Go.Shelf
def keysL_ren : Go.Shelf.Ren := ⟨fun | 7 => 201 | 10 => 210 | n => n, fun | 23 => 199 | 26 => 3 | 3 => 3 | 28 => 242 | 0 => 0 | 27 => 241 | 33 => 210 | 4 => 4 | n => n, fun | n => n⟩
theorem keysL : Go.Proofs.SlLaysZI.n7 Tryd.prog keysL_ren := {
  mixed := by kernel_rfl,
  f7 := ⟨Tryd.f201.name, by decide, Tryd.func201.trans (congrArg some (by kernel_rfl))⟩,
  f10 := ⟨Tryd.f210.name, by decide, Tryd.func210.trans (congrArg some (by kernel_rfl))⟩,
  t0 := Tryd.underlying0,
  a0 := Tryd.isAgg0,
  z0 := Tryd.sizeOf0,
  v0 := Tryd.zeroValue0,
  t4 := Tryd.underlying4,
  a4 := Tryd.isAgg4,
  z4 := Tryd.sizeOf4,
  v4 := Tryd.zeroValue4,
  t23 := Tryd.underlying199,
  a23 := Tryd.isAgg199,
  z23 := Tryd.sizeOf199,
  v23 := Tryd.zeroValue199,
  t26 := Tryd.underlying3,
  a26 := Tryd.isAgg3,
  z26 := Tryd.sizeOf3,
  v26 := Tryd.zeroValue3,
  t27 := Tryd.underlying241,
  a27 := Tryd.isAgg241,
  z27 := Tryd.sizeOf241,
  v27 := Tryd.zeroValue241,
  t28 := Tryd.underlying242,
  a28 := Tryd.isAgg242,
  z28 := Tryd.sizeOf242,
  v28 := Tryd.zeroValue242,
  t33 := Tryd.underlying210,
  a33 := Tryd.isAgg210,
  z33 := Tryd.sizeOf210,
  v33 := Tryd.zeroValue210 }
def sortedL_ren : Go.Shelf.Ren := ⟨fun | 6 => 200 | 8 => 208 | 9 => 209 | 11 => 212 | 13 => 214 | 12 => 213 | 23 => 224 | 24 => 225 | 14 => 215 | 15 => 216 | 16 => 217 | 17 => 218 | 18 => 219 | 19 => 220 | 20 => 221 | 21 => 222 | 22 => 223 | 25 => 226 | 26 => 227 | 27 => 228 | 28 => 229 | 29 => 230 | 30 => 159 | 31 => 231 | n => n, fun | 26 => 3 | 28 => 242 | 24 => 66 | 0 => 0 | 3 => 3 | 37 => 220 | 48 => 264 | 50 => 266 | 4 => 4 | 40 => 257 | 39 => 256 | 45 => 128 | 5 => 5 | 9 => 9 | 51 => 267 | 55 => 135 | 57 => 272 | 58 => 273 | 33 => 210 | n => n, fun | n => n⟩
theorem sortedL : Go.Proofs.SlLaysZI.n6 Tryd.prog sortedL_ren := {
  mixed := by kernel_rfl,
  f6 := ⟨Tryd.f200.name, by decide, Tryd.func200.trans (congrArg some (by kernel_rfl))⟩,
  f8 := ⟨Tryd.f208.name, by decide, Tryd.func208.trans (congrArg some (by kernel_rfl))⟩,
  f11 := ⟨Tryd.f212.name, by decide, Tryd.func212.trans (congrArg some (by kernel_rfl))⟩,
  t0 := Tryd.underlying0,
  a0 := Tryd.isAgg0,
  z0 := Tryd.sizeOf0,
  v0 := Tryd.zeroValue0,
  t24 := Tryd.underlying66,
  a24 := Tryd.isAgg66,
  z24 := Tryd.sizeOf66,
  v24 := Tryd.zeroValue66,
  t26 := Tryd.underlying3,
  a26 := Tryd.isAgg3,
  z26 := Tryd.sizeOf3,
  v26 := Tryd.zeroValue3,
  t28 := Tryd.underlying242,
  a28 := Tryd.isAgg242,
  z28 := Tryd.sizeOf242,
  v28 := Tryd.zeroValue242,
  i26 := by kernel_rfl }
def sortL_ren : Go.Shelf.Ren := ⟨fun | 5 => 209 | 8 => 214 | 7 => 213 | 19 => 224 | 20 => 225 | 10 => 215 | 11 => 216 | 12 => 217 | 13 => 218 | 14 => 219 | 15 => 220 | 16 => 221 | 17 => 222 | 18 => 223 | 30 => 226 | 31 => 227 | 32 => 228 | 33 => 229 | 34 => 230 | 35 => 159 | 40 => 231 | n => n, fun | 23 => 66 | 25 => 3 | 3 => 3 | 32 => 220 | 22 => 66 | 0 => 0 | 44 => 264 | 46 => 266 | 4 => 4 | 36 => 257 | 35 => 256 | 41 => 128 | 5 => 5 | 9 => 9 | 53 => 267 | 57 => 135 | 63 => 272 | 64 => 273 | n => n, fun | n => n⟩
theorem sortL : Go.Proofs.SlLaysM.n5 Tryd.prog sortL_ren := {
  mixed := by kernel_rfl,
  f5 := ⟨Tryd.f209.name, by decide, Tryd.func209.trans (congrArg some (by kernel_rfl))⟩,
  f7 := ⟨Tryd.f213.name, by decide, Tryd.func213.trans (congrArg some (by kernel_rfl))⟩,
  f8 := Tryd.func214.trans (congrArg some (by kernel_rfl)),
  f10 := ⟨Tryd.f215.name, by decide, Tryd.func215.trans (congrArg some (by kernel_rfl))⟩,
  f11 := ⟨Tryd.f216.name, by decide, Tryd.func216.trans (congrArg some (by kernel_rfl))⟩,
  f12 := ⟨Tryd.f217.name, by decide, Tryd.func217.trans (congrArg some (by kernel_rfl))⟩,
  f13 := ⟨Tryd.f218.name, by decide, Tryd.func218.trans (congrArg some (by kernel_rfl))⟩,
  f14 := ⟨Tryd.f219.name, by decide, Tryd.func219.trans (congrArg some (by kernel_rfl))⟩,
  f15 := ⟨Tryd.f220.name, by decide, Tryd.func220.trans (congrArg some (by kernel_rfl))⟩,
  f16 := ⟨Tryd.f221.name, by decide, Tryd.func221.trans (congrArg some (by kernel_rfl))⟩,
  f17 := ⟨Tryd.f222.name, by decide, Tryd.func222.trans (congrArg some (by kernel_rfl))⟩,
  f18 := ⟨Tryd.f223.name, by decide, Tryd.func223.trans (congrArg some (by kernel_rfl))⟩,
  f19 := Tryd.func224.trans (congrArg some (by kernel_rfl)),
  f20 := Tryd.func225.trans (congrArg some (by kernel_rfl)),
  f30 := ⟨Tryd.f226.name, by decide, Tryd.func226.trans (congrArg some (by kernel_rfl))⟩,
  f31 := Tryd.func227.trans (congrArg some (by kernel_rfl)),
  f32 := Tryd.func228.trans (congrArg some (by kernel_rfl)),
  f33 := ⟨Tryd.f229.name, by decide, Tryd.func229.trans (congrArg some (by kernel_rfl))⟩,
  f34 := ⟨Tryd.f230.name, by decide, Tryd.func230.trans (congrArg some (by kernel_rfl))⟩,
  f35 := ⟨Tryd.f159.name, by decide, Tryd.func159.trans (congrArg some (by kernel_rfl))⟩,
  f40 := ⟨Tryd.f231.name, by decide, Tryd.func231.trans (congrArg some (by kernel_rfl))⟩,
  t0 := Tryd.underlying0,
  a0 := Tryd.isAgg0,
  z0 := Tryd.sizeOf0,
  v0 := Tryd.zeroValue0,
  t3 := Tryd.underlying3,
  a3 := Tryd.isAgg3,
  z3 := Tryd.sizeOf3,
  v3 := Tryd.zeroValue3,
  t4 := Tryd.underlying4,
  a4 := Tryd.isAgg4,
  z4 := Tryd.sizeOf4,
  v4 := Tryd.zeroValue4,
  t5 := Tryd.underlying5,
  a5 := Tryd.isAgg5,
  z5 := Tryd.sizeOf5,
  v5 := Tryd.zeroValue5,
  t9 := Tryd.underlying9,
  a9 := Tryd.isAgg9,
  z9 := Tryd.sizeOf9,
  v9 := Tryd.zeroValue9,
  t22 := Tryd.underlying66,
  a22 := Tryd.isAgg66,
  z22 := Tryd.sizeOf66,
  v22 := Tryd.zeroValue66,
  t23 := Tryd.underlying66,
  a23 := Tryd.isAgg66,
  z23 := Tryd.sizeOf66,
  v23 := Tryd.zeroValue66,
  t25 := Tryd.underlying3,
  a25 := Tryd.isAgg3,
  z25 := Tryd.sizeOf3,
  v25 := Tryd.zeroValue3,
  t32 := Tryd.underlying220,
  a32 := Tryd.isAgg220,
  z32 := Tryd.sizeOf220,
  v32 := Tryd.zeroValue220,
  t35 := Tryd.underlying256,
  a35 := Tryd.isAgg256,
  z35 := Tryd.sizeOf256,
  v35 := Tryd.zeroValue256,
  t36 := Tryd.underlying257,
  a36 := Tryd.isAgg257,
  z36 := Tryd.sizeOf257,
  v36 := Tryd.zeroValue257,
  t41 := Tryd.underlying128,
  a41 := Tryd.isAgg128,
  z41 := Tryd.sizeOf128,
  v41 := Tryd.zeroValue128,
  t44 := Tryd.underlying264,
  a44 := Tryd.isAgg264,
  z44 := Tryd.sizeOf264,
  v44 := Tryd.zeroValue264,
  t46 := Tryd.underlying266,
  a46 := Tryd.isAgg266,
  z46 := Tryd.sizeOf266,
  v46 := Tryd.zeroValue266,
  t53 := Tryd.underlying267,
  a53 := Tryd.isAgg267,
  z53 := Tryd.sizeOf267,
  v53 := Tryd.zeroValue267,
  t57 := Tryd.underlying135,
  a57 := Tryd.isAgg135,
  z57 := Tryd.sizeOf135,
  v57 := Tryd.zeroValue135,
  t63 := Tryd.underlying272,
  a63 := Tryd.isAgg272,
  z63 := Tryd.sizeOf272,
  v63 := Tryd.zeroValue272,
  t64 := Tryd.underlying273,
  a64 := Tryd.isAgg273,
  z64 := Tryd.sizeOf273,
  v64 := Tryd.zeroValue273 }
end Go.Proofs.YtebmlojhdnldgaaDoor

namespace Go.Proofs.YtebmlojhdnldgaaDoor
set_option linter.unusedSimpArgs false
set_option linter.unusedVariables false
open Go.RowKit Go.Maps Go.MapKept Go.Sort Go.Shelf Go.WideAt Go.WideElems Go.WideShapes
theorem sortsIn (k : Nat) : AnyZI.SortsIn Tryd.prog sortedL_ren Fence.wide k :=
  ⟨fun blk off cap ss W hH hblk hsz => callsIn_wide.2 (AnyM.slices_Sort_int sortL blk off cap ss W hH hblk hsz),
   fun p cap W => callsIn_wide.2 (AnyM.slices_Sort_int_none sortL p cap W)⟩
def anyR (v : Value) : Option (DataW Unit × List MemPlace) := some (.nil, [])
theorem intKeys_perm {es : Array MapEntry} {m : MP} (hk : es.toList.map (·.key) = m.map (fun p => .int .i64 p.1)) (hb : ∀ p ∈ m, (Lit.int .i64 p.1).wf = true) :
    (intKeys (.map ((es.toList.map (rg Tryd.prog 3 anyR)).foldr DataW.insert []))).Perm (m.map (·.1)) := by
  have h1 : ∀ l : List MapEntry, ∀ m : MP, (∀ p ∈ m, (Lit.int .i64 p.1).wf = true) → l.map (·.key) = m.map (fun p => .int .i64 p.1) → (l.map (rg Tryd.prog 3 anyR)).map (fun q => Go.intOf q.1) = m.map (·.1) := by
    intro l
    induction l with
    | nil =>
      intro m _ h
      have : m = [] := List.map_eq_nil_iff.1 h.symm
      subst this; rfl
    | cons e r ih =>
      intro m hw h
      cases m with
      | nil => simp at h
      | cons p m =>
        simp only [List.map_cons, List.cons.injEq] at h ⊢
        refine ⟨?_, ih m (fun q hq => hw q (List.mem_cons_of_mem _ hq)) h.2⟩
        have hkey : keyOf Tryd.prog 3 e.key = some (.int .i64 p.1) := by rw [h.1]; exact keyOf_int_mk Tryd.underlying3 (hw p (List.mem_cons_self ..))
        have : rg Tryd.prog 3 anyR e = (.int .i64 p.1, .nil) := by simp [rg, WideElems.rd, hkey, anyR]
        rw [this]; rfl
  have h2 := h1 es.toList m hb hk
  show (List.map (fun p : Lit × DataW Unit => Go.intOf p.1) _).Perm _
  rw [← h2]
  exact (sorted_perm _).map _
theorem sorted_calls (b bx clock : Nat) (ents : Array MapEntry) (m : MP) (w : World) (hb : w.heap[b]? = some (.map ents clock)) (hst : Stamped ents clock) (hk : ents.toList.map (·.key) = m.map (fun p => .int .i64 p.1)) (hw : ∀ p ∈ m, (Lit.int .i64 p.1).wf = true) (hm : m.length ≤ 16777216)
    (hbx : w.cell? ⟨bx, 0, none⟩ = some (.map (some b))) :
    Calls Tryd.prog 200 #[.func (.func 210) #[] #[.pointer (some ⟨bx, 0, none⟩)]] w fun e w' => ∃ (v : Value) (ss : List Int), e = .returned v ∧ ss.Perm (m.map (·.1)) ∧
      w'.ownsRow w.heap.size 3 1 v ss.length ((ss.mergeSort (fun x y => decide (x ≤ y))).map encZ) ∧ Below w.heap.size w w' := by
  have hsz : ents.size = m.length := by have := congrArg List.length hk; simpa using this
  have hmax : ents.size ≤ maxLen := by simp only [maxLen]; omega
  have hF : Fit Tryd.prog 3 anyR ents clock := ⟨hmax, hst, fun x hx => by
    have a1 : x.key ∈ ents.toList.map (·.key) := List.mem_map.2 ⟨x, hx, rfl⟩
    rw [hk] at a1
    obtain ⟨p, hp, e⟩ := List.mem_map.1 a1
    have hkey : keyOf Tryd.prog 3 x.key = some (.int .i64 p.1) := by rw [← e]; exact keyOf_int_mk Tryd.underlying3 (hw p hp)
    exact ⟨_, by simp [WideElems.rd, hkey, anyR]; rfl⟩⟩
  have hown : w.ownsMap Tryd.prog 3 anyR b ents.size (.map ((ents.toList.map (rg Tryd.prog 3 anyR)).foldr DataW.insert [])) := ⟨ents, clock, hb, hF, Nat.le_refl _, rfl⟩
  have hseq : SeqGives Fence.wide 2 Tryd.prog 210 #[.pointer (some ⟨bx, 0, none⟩)] encZ (fun ss => ss.Perm (intKeys (.map ((ents.toList.map (rg Tryd.prog 3 anyR)).foldr DataW.insert [])))) (Maps.size (.map ((ents.toList.map (rg Tryd.prog 3 anyR)).foldr DataW.insert []))) w :=
    AnyZI.keys_gives (ρ := keysL_ren) { keysL with } Fence.wide _ trivial rfl (by omega) bx b ents.size _ w (World.block_lt_of_cell? w _ hbx) hbx hown
  have hDs : Maps.size (.map ((ents.toList.map (rg Tryd.prog 3 anyR)).foldr DataW.insert [])) = m.length := by
    rw [Maps.size_eq, (sorted_perm _).length_eq, List.length_map, Array.length_toList]; exact hsz
  have cS := AnyZI.sorted_in sortedL Fence.wide 5 trivial trivial trivial trivial rfl (by omega) (sortsIn _) (enters_of Tryd.func209 (by kernel_rfl) rfl) 210 #[.pointer (some ⟨bx, 0, none⟩)] trivial (enters_of Tryd.func210 (by kernel_rfl) rfl) _ _ (by rw [hDs]; omega) (by rw [hDs]; omega) _ hseq
  refine ((callsIn_wide (n := 5)).1 cS).mono ?_
  rintro e w' ⟨v, ss, rfl, hS, hrow, hnil, hbel⟩
  exact ⟨v, ss, rfl, hS.trans (intKeys_perm hk hw), hrow, hbel⟩
def sortK (m : MP) : List Int := (m.map (·.1)).mergeSort fun x y => decide (x ≤ y)
theorem perm_sortI {l l' : List Int} (h : l.Perm l') : (l.mergeSort fun x y => decide (x ≤ y)) = l'.mergeSort fun x y => decide (x ≤ y) := by
  have tr : ∀ a b c : Int, decide (a ≤ b) = true → decide (b ≤ c) = true → decide (a ≤ c) = true := fun a b c h1 h2 => by simp only [decide_eq_true_eq] at *; omega
  have to : ∀ a b : Int, (decide (a ≤ b) || decide (b ≤ a)) = true := fun a b => by simp only [Bool.or_eq_true, decide_eq_true_eq]; omega
  refine List.Perm.eq_of_pairwise (le := fun x y => decide (x ≤ y) = true) ?_ (List.pairwise_mergeSort tr to l) (List.pairwise_mergeSort tr to l') (((List.mergeSort_perm l _).trans h).trans (List.mergeSort_perm l' _).symm)
  intro a b _ _ h1 h2
  simp only [decide_eq_true_eq] at h1 h2
  omega
/-- a new row, as a slice -/
theorem Rp_row {ρ : Rho} {w w' : World} {e : TypeId} {v : Value} {l : List Int} (hfr : ∀ b, w.heap.size ≤ b → ρ.c b = none) (h : w'.ownsRow w.heap.size e 1 v l.length (l.map encZ)) (hb : ∀ x, x ∈ l → IntKind.i64.min ≤ x ∧ x ≤ IntKind.i64.max) (hl : l.length ≤ LMax) : Rp ρ w' (Ints l) v := by
  unfold Ints
  rw [Rp]
  rw [List.length_map]
  rcases h.2 with ⟨rfl, hz⟩ | ⟨g, cap, cur, rfl, hbase, hg, r1, r2, r3, r4⟩
  · have : l = [] := List.eq_nil_of_length_eq_zero hz
    subst this
    exact ⟨none, 0, 1, rfl, Nat.le_refl _, Nat.zero_le _, Nat.zero_le _, (fun _ h => by cases h), trivial, fun h => absurd rfl h⟩
  · refine ⟨_, cap, 1, rfl, r1, r2, hl, fun d hd => ?_, trivial, fun _ => ⟨g, 0, rfl, RpE.of (sz := 1) (fun d hd => ?_) fun i d hi => ?_⟩⟩
    · obtain ⟨x, -, rfl⟩ := List.mem_map.1 hd; rfl
    · obtain ⟨x, -, rfl⟩ := List.mem_map.1 hd; rfl
    · rw [List.getElem?_map] at hi
      cases hx : l[i]? with
      | none => rw [hx] at hi; cases hi
      | some x =>
        rw [hx] at hi; cases hi
        have hm := hb x (List.mem_of_getElem? hx)
        refine ⟨.int .i64 x, ⟨(fun k hk => by rw [hfr g hbase] at hk; cases hk), ?_, rfl⟩, by rw [Rp]; exact ⟨rfl, hm⟩⟩
        have h1 : (l.map encZ)[i]? = some (.int .i64 x) := by rw [List.getElem?_map, hx]; rfl
        rw [← r4, Nat.mul_one] at h1
        have hi' : i < l.length := (List.getElem?_eq_some_iff.1 hx).1
        rw [List.getElem?_take_of_lt hi', Array.getElem?_toList] at h1
        simp [World.cell?, hg, h1]
theorem sorted_spec (m : MP) (hm : MOK m) : Spec Tryd.prog glob 200 [.fn (.func 210) [] [.box 1 0]] [.mp (encM m), .cells 199 [.map 0]]
    (fun o hc => o.fgt = .ret (Ints (sortK m)) ∧ hc = [.mp (encM m), .cells 199 [.map 0]]) := by
  intro ρ w vs hR hvs
  refine ⟨enters _ _ Tryd.func200 rfl (by decide) _ _, ?_⟩
  rw [RpL_cons] at hvs
  obtain ⟨v1, us, rfl, h1, h2⟩ := hvs
  rw [RpL_nil] at h2
  subst h2
  rw [Rp] at h1
  obtain ⟨us, vs, rfl, h2, h3⟩ := h1
  rw [RpL_nil] at h2
  subst h2
  rw [RpL_cons] at h3
  obtain ⟨v2, us2, rfl, h4, h5⟩ := h3
  rw [RpL_nil] at h5
  subst h5
  obtain ⟨bx, f, cs, rfl, hnm, -, hh, hr⟩ := obj_cells hR (i := 1) (ty := 199) (ds := [.map 0]) rfl h4
  rw [RpL_cons] at hr
  obtain ⟨v3, us3, rfl, h6, h7⟩ := hr
  rw [RpL_nil] at h7
  subst h7
  rw [Rp_map] at h6
  obtain ⟨b, f0, hnm0, rfl⟩ := h6
  obtain ⟨ents, clock, k1, k2, k3, k4, -⟩ := obj_map hR (i := 0) rfl hnm0
  have hw : ∀ p ∈ m, (Lit.int .i64 p.1).wf = true := fun p hp => by
    have := hm.v p hp
    simp [Lit.wf, IntKind.min, IntKind.max, IntKind.signed, IntKind.bits]
    omega
  have hlen := hm.len
  refine (sorted_calls b bx clock ents m w k1 k4 k2 hw (by omega) (by simp [World.cell?, hh])).mono ?_
  rintro e w' ⟨v, ss, rfl, hperm, hrow, hbel⟩
  obtain ⟨r1, r2⟩ := hR.below hbel
  have hs : (ss.mergeSort fun x y => decide (x ≤ y)) = sortK m := by
    exact perm_sortI hperm
  rw [hs] at hrow
  have hmem : ∀ x, x ∈ sortK m → 0 ≤ x ∧ x ≤ 1048576 := fun x hx => by
    have hx' : x ∈ m.map (·.1) := (List.mergeSort_perm _ _).mem_iff.1 hx
    obtain ⟨p, hp, rfl⟩ := List.mem_map.1 hx'
    exact hm.v p hp
  have hsl : (sortK m).length = ss.length := by rw [← hs, List.length_mergeSort]
  have hsl2 : ss.length = m.length := by rw [hperm.length_eq, List.length_map]
  refine ⟨ρ, .ret (Ints (sortK m)), _, ⟨?_, rfl⟩, ⟨v, rfl, Rp_row hR.fresh (by rw [hsl]; exact hrow) (fun x hx => ?_) (by unfold LMax; omega)⟩, r1, r2⟩
  · simp [Out.fgt, Ints, D.fgt]
  · have := hmem x hx
    have h1 : IntKind.i64.min = -9223372036854775808 := by decide
    have h2 : IntKind.i64.max = 9223372036854775807 := by decide
    omega
end Go.Proofs.YtebmlojhdnldgaaDoor

namespace Go.Proofs.YtebmlojhdnldgaaDoor
set_option linter.unusedSimpArgs false
set_option linter.unusedVariables false
set_option maxHeartbeats 10000000
set_option maxRecDepth 20000
open Go.RowKit
attribute [local simp] wpAft_ret wpAft_pan wantD evOp opD tmOf putS updS setS hOf isFree isTok fillD TK.isAgg TK.known partD thenD blockD putAll D.ofV inB nilTest isNilS binX binD binE isCst bndD capB IntKind.min IntKind.max IntKind.signed IntKind.bits dstOf late
theorem keys_spec (es : List (D × D)) : Spec Tryd.prog glob 201 [.map 0] [.mp es] (fun o hc => o = .ret (.fn (.func 210) [] [.box 1 0]) ∧ hc = [.mp es, .cells 199 [.map 0]]) := by
  refine Spec.movd globPure (wpD_spec tyOK Tryd.func201 rfl (enters _ _ Tryd.func201 rfl (by decide)) rfl rfl ?_)
  (refine wpD_seqk fun K hK => ?_; refine wpD_region tyOK ?_; ((try simp only [wpAft_ret, wpAft_pan, putS, updS, setS]); (repeat (rw [wpS_cons]; simp)); (try simp only [wpS_nil, thenD, blockD])); refine hK _ _ _ ?_; clear hK K)
  (refine wpD_seqk fun K hK => ?_; refine wpD_region tyOK ?_; ((try simp only [wpAft_ret, wpAft_pan, putS, updS, setS]); (repeat (rw [wpS_cons]; simp)); (try simp only [wpS_nil, thenD, blockD])); refine hK _ _ _ ?_; clear hK K)
  (refine wpD_ret ?_; (try simp only [thenD, blockD]); refine EndQ.ret rfl (.inl ?_); simp [tmOf, Out.fgt, D.fgt, D.fgts])
/-- is a variable's part in the normal form? -/
def keepM (m : MP) (v : Int) : Option (Int × Int) :=
  if 0 < v ∨ (0 < (findM m v).getD 0 ∧ hiddenM m ((findM m v).getD 0) = false) then some (v, (findM m v).getD 0) else none
def levM (m : MP) : LV := (sortK m).filterMap (keepM m)
theorem sortK_len (m : MP) : (sortK m).length = m.length := by unfold sortK; rw [List.length_mergeSort, List.length_map]
theorem levM_len (m : MP) : (levM m).length ≤ m.length := by
  have := List.length_filterMap_le (keepM m) (sortK m)
  rw [sortK_len] at this
  exact this
theorem level_spec (m : MP) (hm : MOK m) : Spec Tryd.prog glob 183 [.agg [.map 0]] [.mp (encM m)] (fun o hc => o = .ret (.agg [.own 1 (levM m).length]) ∧ hc = [.mp (encM m), .row 2 ((levM m).map encP)]) := by
  have hml := hm.len
  have hsl := sortK_len m
  refine Spec.movd globPure (wpD_spec tyOK Tryd.func183 rfl (enters _ _ Tryd.func183 rfl (by decide)) rfl rfl ?_)
  (refine wpD_seqk fun K hK => ?_; refine wpD_region tyOK ?_; ((try simp only [wpAft_ret, wpAft_pan, putS, updS, setS]); (repeat (rw [wpS_cons]; simp)); (try simp only [wpS_nil, thenD, blockD])); refine hK _ _ _ ?_; clear hK K)
  refine wpD_ownO 2 0 2 (ty := 30) (ds := [.slice [] .full]) rfl ?_
  simp [D.ownd]
  refine wpD_seqk fun K1 hK1 => ?_
  (refine wpD_seqk fun K hK => ?_; refine wpD_region tyOK ?_; ((try simp only [wpAft_ret, wpAft_pan, putS, updS, setS]); (repeat (rw [wpS_cons]; simp)); (try simp only [wpS_nil, thenD, blockD])))
  refine CallX.objs globPure [0] true (keys_spec (encM m)) ?_ (by rintro o hc ⟨_, rfl⟩; simp) (by decide) (by simp) (by simp [D.ren, D.rens, D.okN, D.okNs, Cp.ren, Cp.okN, HO.ren, HO.okN, okA, renA, renO, hOf, handed, D.fgt, D.fgts, List.range_succ, List.idxOf_cons]) (by simp [D.ren, D.rens, D.okN, D.okNs, Cp.ren, Cp.okN, HO.ren, HO.okN, okA, renA, renO, hOf, handed, D.fgt, D.fgts, List.range_succ, List.idxOf_cons]) (by simp [D.ren, D.rens, D.okN, D.okNs, Cp.ren, Cp.okN, HO.ren, HO.okN, okA, renA, renO, hOf, handed, D.fgt, D.fgts, List.range_succ, List.idxOf_cons]) (by simp [D.ren, D.rens, D.okN, D.okNs, Cp.ren, Cp.okN, HO.ren, HO.okN, okA, renA, renO, hOf, handed, D.fgt, D.fgts, List.range_succ, List.idxOf_cons])
  (rintro o hc ⟨rfl, rfl⟩; refine ⟨false, ?_⟩; simp [D.ren, D.rens, D.okN, D.okNs, Cp.ren, Cp.okN, HO.ren, HO.okN, okA, renA, renO, hOf, handed, D.fgt, D.fgts, List.range_succ, List.idxOf_cons, Out.ren, told, Out.fgt, upO, updS, setS])
  ((try simp only [wpAft_ret, wpAft_pan, putS, updS, setS]); (repeat (rw [wpS_cons]; simp)); (try simp only [wpS_nil, thenD, blockD]))
  refine CallX.objs globPure [0, 4] true (sorted_spec m hm) ?_ (by rintro o hc ⟨_, rfl⟩; simp) (by decide) (by simp) (by simp [D.ren, D.rens, D.okN, D.okNs, Cp.ren, Cp.okN, HO.ren, HO.okN, okA, renA, renO, hOf, handed, D.fgt, D.fgts, List.range_succ, List.idxOf_cons]) (by simp [D.ren, D.rens, D.okN, D.okNs, Cp.ren, Cp.okN, HO.ren, HO.okN, okA, renA, renO, hOf, handed, D.fgt, D.fgts, List.range_succ, List.idxOf_cons]) (by simp [D.ren, D.rens, D.okN, D.okNs, Cp.ren, Cp.okN, HO.ren, HO.okN, okA, renA, renO, hOf, handed, D.fgt, D.fgts, List.range_succ, List.idxOf_cons]) (by simp [D.ren, D.rens, D.okN, D.okNs, Cp.ren, Cp.okN, HO.ren, HO.okN, okA, renA, renO, hOf, handed, D.fgt, D.fgts, List.range_succ, List.idxOf_cons])
  (rintro o hc ⟨ho, rfl⟩; refine ⟨true, ?_⟩; rw [show told true o = _ from ho]; clear ho; simp [D.ren, D.rens, D.okN, D.okNs, Cp.ren, Cp.okN, HO.ren, HO.okN, okA, renA, renO, hOf, handed, D.fgt, D.fgts, List.range_succ, List.idxOf_cons, Out.ren, told, Out.fgt, upO, updS, setS, Ints])
  ((try simp only [wpAft_ret, wpAft_pan, putS, updS, setS]); (repeat (rw [wpS_cons]; simp)); (try simp only [wpS_nil, thenD, blockD]))
  (refine hK _ _ _ ?_; clear hK K)
  refine wpD_range tyOK globPure (ti := 3) (tk := 12) (tn := 11) (td := 13) (ts := 41) [4, 5, 12, 13, 14, 15, 16, 17, 18, 19, 20, 21, 22, 23, 24, 25, 26, 27, 28, 29, 30, 31, 32, 33, 34, 35, 36, 37, 38, 39, 40, 41] ((sortK m).length) (fun k ys hl => ∃  (x4 x5 x12 x13 x14 x15 x16 x17 x18 x19 x20 x21 x22 x23 x24 x25 x26 x27 x28 x29 x30 x31 x32 x33 x34 x35 x36 x37 x38 x39 x40 x41 : D), ys = [x4, x5, x12, x13, x14, x15, x16, x17, x18, x19, x20, x21, x22, x23, x24, x25, x26, x27, x28, x29, x30, x31, x32, x33, x34, x35, x36, x37, x38, x39, x40, x41] ∧ hl = [.mp (encM m), .cells 203 [.map 0], .cells 30 [.own 3 (((sortK m).take k).filterMap (keepM m)).length], .row 2 ((((sortK m).take k).filterMap (keepM m)).map encP), .cells 199 [.map 0]]) rfl rfl rfl rfl rfl rfl rfl rfl rfl rfl rfl rfl (by simp) (by decide) rfl (by first | assumption | omega | (unfold LMax; omega)) rfl (by kernel_rfl) (by decide) ?_ ?_ ?_
  · exact ⟨_, _, _, _, _, _, _, _, _, _, _, _, _, _, _, _, _, _, _, _, _, _, _, _, _, _, _, _, _, _, _, _, rfl, rfl⟩
  · rintro k ys hl A hk ⟨x4, x5, x12, x13, x14, x15, x16, x17, x18, x19, x20, x21, x22, x23, x24, x25, x26, x27, x28, x29, x30, x31, x32, x33, x34, x35, x36, x37, x38, x39, x40, x41, rfl, rfl⟩ hA hA2
    simp only [putAll, List.set]
    have htk : (sortK m).take (k + 1) = (sortK m).take k ++ [(sortK m)[k]] := List.take_succ_eq_append_getElem hk
    generalize hes : ((sortK m).take k).filterMap (keepM m) = es
    have hel : es.length + 1 ≤ LMax := by
      have h1 := List.length_filterMap_le (keepM m) ((sortK m).take k)
      rw [hes, List.length_take] at h1
      unfold LMax; omega
    have hnx : ((sortK m).take (k + 1)).filterMap (keepM m) = es ++ (keepM m (sortK m)[k]).toList := by
      rw [htk, List.filterMap_append, hes]
      cases hq : keepM m (sortK m)[k] <;> simp [hq]
    obtain ⟨v, hv⟩ : ∃ v, v = (sortK m)[k] := ⟨_, rfl⟩
    have hvm : v ∈ m.map (·.1) := by
      rw [hv]; exact (List.mergeSort_perm _ _).mem_iff.1 (List.getElem_mem hk)
    obtain ⟨n, hn⟩ : ∃ n, findM m v = some n := by
      cases hq : findM m v with
      | some n => exact ⟨n, rfl⟩
      | none => exact absurd hvm (findM_none hq)
    have e1 := encM_all m
    have e2 := encM_find v m
    (refine wpD_seqk fun K hK => ?_; refine wpD_region tyOK ?_; ((try simp only [wpAft_ret, wpAft_pan, putS, updS, setS]); (repeat (rw [wpS_cons]; simp [hk, ← hv])); (try simp only [wpS_nil, thenD, blockD])); refine hK _ _ _ ?_; clear hK K)
    (refine wpD_seqk fun K hK => ?_; refine wpD_region tyOK ?_; ((try simp only [wpAft_ret, wpAft_pan, putS, updS, setS]); (repeat (rw [wpS_cons]; simp [e1, e2, hn])); (try simp only [wpS_nil, thenD, blockD])); refine hK _ _ _ ?_; clear hK K)
    rw [← hv] at hnx
    have hpush : List.map encP es ++ [D.agg [.int .i64 v, .int .i64 n]] = (es ++ [(v, n)]).map encP := by simp [encP]
    by_cases h1 : 0 < v
    · have hkp : keepM m v = some (v, n) := by simp [keepM, h1, hn]
      rw [hkp] at hnx
      (refine wpD_seqk fun K hK => ?_; refine wpD_region tyOK ?_; ((try simp only [wpAft_ret, wpAft_pan, putS, updS, setS]); (repeat (rw [wpS_cons]; simp [h1])); (try simp only [wpS_nil, thenD, blockD])); refine hK _ _ _ ?_; clear hK K)
      refine wpD_part rfl (fun _ => ?_) (fun h => by simp at h)
      (refine wpD_region tyOK ?_; ((try simp only [wpAft_ret, wpAft_pan, putS, updS, setS]); (repeat (rw [wpS_cons]; simp [hel])); (try simp only [wpS_nil, thenD, blockD])))
      rw [hpush]
      (refine hA2 ([1, 2, 5, 4]) _ _ (by decide) (by simp) (by simp [movT, movH, movD, D.mov, HO.mov, okM, renM, getW, D.ren, D.rens, D.okN, D.okNs, Cp.ren, Cp.okN, HO.ren, HO.okN, okA, renA, renO, hOf, handed, D.fgt, D.fgts, List.range_succ, List.idxOf_cons, putAll]) ?_ rfl; simp [movT, movH, movD, D.mov, HO.mov, okM, renM, getW, D.ren, D.rens, D.okN, D.okNs, Cp.ren, Cp.okN, HO.ren, HO.okN, okA, renA, renO, hOf, handed, D.fgt, D.fgts, List.range_succ, List.idxOf_cons])
      rw [hnx]
      simp
    · by_cases h2 : 0 < n
      · cases h3 : hiddenM m n with
        | true =>
          have hkp : keepM m v = none := by simp [keepM, h1, hn, h3]
          rw [hkp] at hnx
          (refine wpD_seqk fun K hK => ?_; refine wpD_region tyOK ?_; ((try simp only [wpAft_ret, wpAft_pan, putS, updS, setS]); (repeat (rw [wpS_cons]; simp [h1, h2])); (try simp only [wpS_nil, thenD, blockD])))
          refine CallX.objs globPure [0] true (hidden_spec m n) ?_ (by rintro o hc ⟨_, rfl⟩; simp) (by decide) (by simp) (by simp [D.ren, D.rens, D.okN, D.okNs, Cp.ren, Cp.okN, HO.ren, HO.okN, okA, renA, renO, hOf, handed, D.fgt, D.fgts, List.range_succ, List.idxOf_cons]) (by simp [D.ren, D.rens, D.okN, D.okNs, Cp.ren, Cp.okN, HO.ren, HO.okN, okA, renA, renO, hOf, handed, D.fgt, D.fgts, List.range_succ, List.idxOf_cons]) (by simp [D.ren, D.rens, D.okN, D.okNs, Cp.ren, Cp.okN, HO.ren, HO.okN, okA, renA, renO, hOf, handed, D.fgt, D.fgts, List.range_succ, List.idxOf_cons]) (by simp [D.ren, D.rens, D.okN, D.okNs, Cp.ren, Cp.okN, HO.ren, HO.okN, okA, renA, renO, hOf, handed, D.fgt, D.fgts, List.range_succ, List.idxOf_cons])
          (rintro o hc ⟨ho, rfl⟩; refine ⟨true, ?_⟩; rw [show told true o = _ from ho]; clear ho; simp [D.ren, D.rens, D.okN, D.okNs, Cp.ren, Cp.okN, HO.ren, HO.okN, okA, renA, renO, hOf, handed, D.fgt, D.fgts, List.range_succ, List.idxOf_cons, Out.ren, told, Out.fgt, upO, updS, setS])
          ((try simp only [wpAft_ret, wpAft_pan, putS, updS, setS]); (repeat (rw [wpS_cons]; simp [h3])); (try simp only [wpS_nil, thenD, blockD]))
          (refine hK _ _ _ ?_; clear hK K)
          refine wpD_part rfl (fun h => by simp at h) (fun _ => ?_)
          refine wpD_skip ?_
          (refine hA _ _ (by kernel_rfl) ?_ rfl; simp only [getW, List.map_cons, List.map_nil])
          exact ⟨_, _, _, _, _, _, _, _, _, _, _, _, _, _, _, _, _, _, _, _, _, _, _, _, _, _, _, _, _, _, _, _, rfl, by rw [hnx]; simp⟩
        | false =>
          have hkp : keepM m v = some (v, n) := by simp [keepM, h1, hn, h2, h3]
          rw [hkp] at hnx
          (refine wpD_seqk fun K hK => ?_; refine wpD_region tyOK ?_; ((try simp only [wpAft_ret, wpAft_pan, putS, updS, setS]); (repeat (rw [wpS_cons]; simp [h1, h2])); (try simp only [wpS_nil, thenD, blockD])))
          refine CallX.objs globPure [0] true (hidden_spec m n) ?_ (by rintro o hc ⟨_, rfl⟩; simp) (by decide) (by simp) (by simp [D.ren, D.rens, D.okN, D.okNs, Cp.ren, Cp.okN, HO.ren, HO.okN, okA, renA, renO, hOf, handed, D.fgt, D.fgts, List.range_succ, List.idxOf_cons]) (by simp [D.ren, D.rens, D.okN, D.okNs, Cp.ren, Cp.okN, HO.ren, HO.okN, okA, renA, renO, hOf, handed, D.fgt, D.fgts, List.range_succ, List.idxOf_cons]) (by simp [D.ren, D.rens, D.okN, D.okNs, Cp.ren, Cp.okN, HO.ren, HO.okN, okA, renA, renO, hOf, handed, D.fgt, D.fgts, List.range_succ, List.idxOf_cons]) (by simp [D.ren, D.rens, D.okN, D.okNs, Cp.ren, Cp.okN, HO.ren, HO.okN, okA, renA, renO, hOf, handed, D.fgt, D.fgts, List.range_succ, List.idxOf_cons])
          (rintro o hc ⟨ho, rfl⟩; refine ⟨true, ?_⟩; rw [show told true o = _ from ho]; clear ho; simp [D.ren, D.rens, D.okN, D.okNs, Cp.ren, Cp.okN, HO.ren, HO.okN, okA, renA, renO, hOf, handed, D.fgt, D.fgts, List.range_succ, List.idxOf_cons, Out.ren, told, Out.fgt, upO, updS, setS])
          ((try simp only [wpAft_ret, wpAft_pan, putS, updS, setS]); (repeat (rw [wpS_cons]; simp [h3])); (try simp only [wpS_nil, thenD, blockD]))
          (refine hK _ _ _ ?_; clear hK K)
          refine wpD_part rfl (fun _ => ?_) (fun h => by simp at h)
          (refine wpD_region tyOK ?_; ((try simp only [wpAft_ret, wpAft_pan, putS, updS, setS]); (repeat (rw [wpS_cons]; simp [hel])); (try simp only [wpS_nil, thenD, blockD])))
          rw [hpush]
          (refine hA2 ([1, 2, 5, 4]) _ _ (by decide) (by simp) (by simp [movT, movH, movD, D.mov, HO.mov, okM, renM, getW, D.ren, D.rens, D.okN, D.okNs, Cp.ren, Cp.okN, HO.ren, HO.okN, okA, renA, renO, hOf, handed, D.fgt, D.fgts, List.range_succ, List.idxOf_cons, putAll]) ?_ rfl; simp [movT, movH, movD, D.mov, HO.mov, okM, renM, getW, D.ren, D.rens, D.okN, D.okNs, Cp.ren, Cp.okN, HO.ren, HO.okN, okA, renA, renO, hOf, handed, D.fgt, D.fgts, List.range_succ, List.idxOf_cons])
          rw [hnx]
          simp
      · have hkp : keepM m v = none := by simp [keepM, h1, hn, h2]
        rw [hkp] at hnx
        (refine wpD_seqk fun K hK => ?_; refine wpD_region tyOK ?_; ((try simp only [wpAft_ret, wpAft_pan, putS, updS, setS]); (repeat (rw [wpS_cons]; simp [h1, h2])); (try simp only [wpS_nil, thenD, blockD])); refine hK _ _ _ ?_; clear hK K)
        refine wpD_part rfl (fun h => by simp at h) (fun _ => ?_)
        refine wpD_skip ?_
        (refine hA _ _ (by kernel_rfl) ?_ rfl; simp only [getW, List.map_cons, List.map_nil])
        exact ⟨_, _, _, _, _, _, _, _, _, _, _, _, _, _, _, _, _, _, _, _, _, _, _, _, _, _, _, _, _, _, _, _, rfl, by rw [hnx]; simp⟩
  · rintro ys hl ⟨x4, x5, x12, x13, x14, x15, x16, x17, x18, x19, x20, x21, x22, x23, x24, x25, x26, x27, x28, x29, x30, x31, x32, x33, x34, x35, x36, x37, x38, x39, x40, x41, rfl, rfl⟩
    simp only [putAll, List.set]
    refine hK1 _ _ _ ?_
    clear hK1 K1
    have htk : ((sortK m).take (sortK m).length).filterMap (keepM m) = levM m := by rw [List.take_length]; rfl
    rw [htk]
    (refine wpD_seqk fun K hK => ?_; refine wpD_region tyOK ?_; ((try simp only [wpAft_ret, wpAft_pan, putS, updS, setS]); (repeat (rw [wpS_cons]; simp)); (try simp only [wpS_nil, thenD, blockD])); refine hK _ _ _ ?_; clear hK K)
    (refine wpD_ret ?_; (try simp only [thenD, blockD]); refine EndQ.ret rfl (.inr ⟨[3], by decide, by simp, ?_⟩); simp [Out.mov, movT, movH, movD, D.mov, HO.mov, okM, renM, getW, D.ren, D.rens, D.okN, D.okNs, Cp.ren, Cp.okN, HO.ren, HO.okN, okA, renA, renO, hOf, handed, D.fgt, D.fgts, List.range_succ, List.idxOf_cons, tmOf, Out.fgt, D.fgt, D.fgts])
end Go.Proofs.YtebmlojhdnldgaaDoor

namespace Go.Proofs.YtebmlojhdnldgaaDoor
set_option linter.unusedSimpArgs false
set_option linter.unusedVariables false
set_option maxHeartbeats 10000000
set_option maxRecDepth 20000
open Go.RowKit
attribute [local simp] wpAft_ret wpAft_pan wantD evOp opD tmOf putS updS setS hOf isFree isTok fillD TK.isAgg TK.known partD thenD blockD putAll D.ofV inB nilTest isNilS binX binD binE isCst bndD capB IntKind.min IntKind.max IntKind.signed IntKind.bits dstOf late
theorem catch_idle (d : D) (x : HO) : SpecD Tryd.prog glob 182 [.box 0 0] [.cells 30 [d], x] none (fun hc => hc = [.cells 30 [d], x]) := by
  refine wpD_specd tyOK Tryd.func182 rfl rfl (fun a w => rfl) rfl (enters _ _ Tryd.func182 rfl (by decide)) rfl rfl ?_
  ((try simp only [wpAft_ret, wpAft_pan, putS, updS, setS]); (repeat (rw [wpS_cons]; simp)); (try simp only [wpS_nil, thenD, blockD]))
  (refine wpD_seqk fun K hK => ?_; refine wpD_region tyOK ?_; ((try simp only [wpAft_ret, wpAft_pan, putS, updS, setS]); (repeat (rw [wpS_cons]; simp)); (try simp only [wpS_nil, thenD, blockD])); refine hK _ _ _ ?_; clear hK K)
  refine wpD_part rfl (fun h => by simp at h) (fun _ => ?_)
  refine wpD_skip ?_
  refine EndQ.nrm rfl ?_
  simp [updS]
theorem catch_none (d : D) : SpecD Tryd.prog glob 182 [.box 0 0] [.cells 30 [d]] (some noneD) (fun hc => hc = [.cells 30 [.slice [] .full], .cells 228 []]) := by
  refine wpD_specd tyOK Tryd.func182 rfl rfl (fun a w => rfl) rfl (enters _ _ Tryd.func182 rfl (by decide)) rfl rfl ?_
  unfold noneD
  ((try simp only [wpAft_ret, wpAft_pan, putS, updS, setS]); (repeat (rw [wpS_cons]; simp)); (try simp only [wpS_nil, thenD, blockD]))
  (refine wpD_seqk fun K hK => ?_; refine wpD_region tyOK ?_; ((try simp only [wpAft_ret, wpAft_pan, putS, updS, setS]); (repeat (rw [wpS_cons]; simp)); (try simp only [wpS_nil, thenD, blockD])); refine hK _ _ _ ?_; clear hK K)
  refine wpD_part rfl (fun _ => ?_) (fun h => by simp at h)
  refine wpD_seqk fun K1 hK1 => ?_
  (refine wpD_seqk fun K hK => ?_; refine wpD_region tyOK ?_; ((try simp only [wpAft_ret, wpAft_pan, putS, updS, setS]); (repeat (rw [wpS_cons]; simp)); (try simp only [wpS_nil, thenD, blockD])); refine hK _ _ _ ?_; clear hK K)
  refine wpD_seqk fun K2 hK2 => ?_
  (refine wpD_region tyOK ?_; ((try simp only [wpAft_ret, wpAft_pan, putS, updS, setS]); (repeat (rw [wpS_cons]; simp)); (try simp only [wpS_nil, thenD, blockD])))
  refine hK2 _ _ _ ?_
  refine wpD_part rfl (fun h => by simp at h) (fun _ => ?_)
  refine wpD_skip (hK1 _ _ _ ?_)
  (refine wpD_region tyOK ?_; ((try simp only [wpAft_ret, wpAft_pan, putS, updS, setS]); (repeat (rw [wpS_cons]; simp)); (try simp only [wpS_nil, thenD, blockD])))
  refine EndQ.nrm rfl ?_
  simp
/-- what a made level is, in memory of the call's own -/
def OwnL (l : LV) (o : Out) (hc : List HO) : Prop := (l = [] ∧ o = .ret (.agg [.slice [] .full]) ∧ hc = []) ∨ (o = .ret (.agg [.own 0 l.length]) ∧ hc = [.row 2 (l.map encP)])
/-- what puts, at an empty row -/
def PutsM (R : Option MP) (o : Out) (hc : List HO) : Prop := match R with
  | none => o = .pan noneD ∧ ∃ m', hc = [.mp (encM m')]
  | some m => o.fgt = .ret (.tuple []) ∧ hc = [.mp (encM m)]
def levR : Option MP → LV
  | none => []
  | some m => levM m
theorem made_spec (g : FuncId) (cap : List D) (R : Option MP) (hcf : D.fgts cap = cap) (hcp : D.pures cap = true) (hR : ∀ m, R = some m → MOK m) (hg : Spec Tryd.prog glob g (.agg [.map 0] :: cap) [.mp []] (PutsM R)) :
    Spec Tryd.prog glob 140 [.fn (.func g) [] cap] [] (OwnL (levR R)) := by
  have hren : ∀ σ, D.rens σ cap = cap := fun σ => D.rens_pure σ cap hcp
  have hok : ∀ p, D.okNs p cap = true := fun p => D.okNs_pure p cap hcp
  refine Spec.movd globPure (wpD_specD tyOK Tryd.func140 rfl (enters _ _ Tryd.func140 rfl (by decide)) rfl rfl ?_)
  (refine wpD_seqk fun K hK => ?_; refine wpD_region tyOK ?_; ((try simp only [wpAft_ret, wpAft_pan, putS, updS, setS]); (repeat (rw [wpS_cons]; simp)); (try simp only [wpS_nil, thenD, blockD])); refine hK _ _ _ ?_; clear hK K)
  (refine wpD_seqk fun K hK => ?_; refine wpD_region tyOK ?_; ((try simp only [wpAft_ret, wpAft_pan, putS, updS, setS]); (repeat (rw [wpS_cons]; simp)); (try simp only [wpS_nil, thenD, blockD])); refine hK _ _ _ ?_; clear hK K)
  (refine wpD_seqk fun K hK => ?_; refine wpD_region tyOK ?_; ((try simp only [wpAft_ret, wpAft_pan, putS, updS, setS]); (repeat (rw [wpS_cons]; simp)); (try simp only [wpS_nil, thenD, blockD])); refine hK _ _ _ ?_; clear hK K)
  (refine wpD_seqk fun K hK => ?_; refine wpD_region tyOK ?_; ((try simp only [wpAft_ret, wpAft_pan, putS, updS, setS]); (repeat (rw [wpS_cons]; simp)); (try simp only [wpS_nil, thenD, blockD])))
  refine CallX.objs globPure [1] true hg ?_ ?_ (by decide) (by simp) (by simp [D.ren, D.rens, D.okN, D.okNs, Cp.ren, Cp.okN, HO.ren, HO.okN, okA, renA, renO, hOf, handed, D.fgt, D.fgts, List.range_succ, List.idxOf_cons, encM]) (by simp [D.ren, D.rens, D.okN, D.okNs, Cp.ren, Cp.okN, HO.ren, HO.okN, okA, renA, renO, hOf, handed, D.fgt, D.fgts, List.range_succ, List.idxOf_cons]) (by simp [D.ren, D.rens, D.okN, D.okNs, Cp.ren, Cp.okN, HO.ren, HO.okN, okA, renA, renO, hOf, handed, D.fgt, D.fgts, List.range_succ, List.idxOf_cons, hcf, hren]) (by simp [D.ren, D.rens, D.okN, D.okNs, Cp.ren, Cp.okN, HO.ren, HO.okN, okA, renA, renO, hOf, handed, D.fgt, D.fgts, List.range_succ, List.idxOf_cons, hcf, hok])
  · cases R with
    | none =>
      rintro o hc ⟨rfl, m', rfl⟩
      refine ⟨false, ?_⟩
      unfold noneD
      simp [D.ren, D.rens, D.okN, D.okNs, Cp.ren, Cp.okN, HO.ren, HO.okN, okA, renA, renO, hOf, handed, D.fgt, D.fgts, List.range_succ, List.idxOf_cons, Out.ren, told, Out.fgt, upO, updS, setS]
      ((try simp only [wpAft_ret, wpAft_pan, putS, updS, setS]); (repeat (rw [wpS_cons]; simp)); (try simp only [wpS_nil, thenD, blockD]))
      (try simp only [thenD, blockD])
      refine DefX.objs globPure [0] (catch_none (.slice [] .full)) ?_ ?_ (fun d h => by cases h; rfl) (by decide) (by simp) (by simp [D.ren, D.rens, D.okN, D.okNs, Cp.ren, Cp.okN, HO.ren, HO.okN, okA, renA, renO, hOf, handed, D.fgt, D.fgts, List.range_succ, List.idxOf_cons]) (by simp [D.ren, D.rens, D.okN, D.okNs, Cp.ren, Cp.okN, HO.ren, HO.okN, okA, renA, renO, hOf, handed, D.fgt, D.fgts, List.range_succ, List.idxOf_cons]) (by simp [D.ren, D.rens, D.okN, D.okNs, Cp.ren, Cp.okN, HO.ren, HO.okN, okA, renA, renO, hOf, handed, D.fgt, D.fgts, List.range_succ, List.idxOf_cons]) (by simp [D.ren, D.rens, D.okN, D.okNs, Cp.ren, Cp.okN, HO.ren, HO.okN, okA, renA, renO, hOf, handed, D.fgt, D.fgts, List.range_succ, List.idxOf_cons])
      · rintro hc rfl
        simp [D.ren, D.rens, D.okN, D.okNs, Cp.ren, Cp.okN, HO.ren, HO.okN, okA, renA, renO, hOf, handed, D.fgt, D.fgts, List.range_succ, List.idxOf_cons, upO, updS, setS]
        refine endD.intro rfl (.inr ⟨[], by decide, by simp, ?_⟩)
        simp [Out.mov, movT, movH, movD, D.mov, HO.mov, okM, renM, getW, D.ren, D.rens, D.okN, D.okNs, Cp.ren, Cp.okN, HO.ren, HO.okN, okA, renA, renO, hOf, handed, D.fgt, D.fgts, List.range_succ, List.idxOf_cons]
        exact .inl ⟨rfl, rfl, rfl⟩
      · rintro hc rfl
        simp
    | some m =>
      rintro o hc ⟨ho, rfl⟩
      refine ⟨true, ?_⟩
      rw [show told true o = _ from ho]
      clear ho
      simp [D.ren, D.rens, D.okN, D.okNs, Cp.ren, Cp.okN, HO.ren, HO.okN, okA, renA, renO, hOf, handed, D.fgt, D.fgts, List.range_succ, List.idxOf_cons, Out.ren, told, Out.fgt, upO, updS, setS]
      ((try simp only [wpAft_ret, wpAft_pan, putS, updS, setS]); (repeat (rw [wpS_cons]; simp)); (try simp only [wpS_nil, thenD, blockD]))
      (refine hK _ _ _ ?_; clear hK K)
      (refine wpD_seqk fun K hK => ?_; refine wpD_region tyOK ?_; ((try simp only [wpAft_ret, wpAft_pan, putS, updS, setS]); (repeat (rw [wpS_cons]; simp)); (try simp only [wpS_nil, thenD, blockD])))
      refine CallX.objs globPure [1] true (level_spec m (hR m rfl)) ?_ (by rintro o hc ⟨_, rfl⟩; simp) (by decide) (by simp) (by simp [D.ren, D.rens, D.okN, D.okNs, Cp.ren, Cp.okN, HO.ren, HO.okN, okA, renA, renO, hOf, handed, D.fgt, D.fgts, List.range_succ, List.idxOf_cons]) (by simp [D.ren, D.rens, D.okN, D.okNs, Cp.ren, Cp.okN, HO.ren, HO.okN, okA, renA, renO, hOf, handed, D.fgt, D.fgts, List.range_succ, List.idxOf_cons]) (by simp [D.ren, D.rens, D.okN, D.okNs, Cp.ren, Cp.okN, HO.ren, HO.okN, okA, renA, renO, hOf, handed, D.fgt, D.fgts, List.range_succ, List.idxOf_cons]) (by simp [D.ren, D.rens, D.okN, D.okNs, Cp.ren, Cp.okN, HO.ren, HO.okN, okA, renA, renO, hOf, handed, D.fgt, D.fgts, List.range_succ, List.idxOf_cons])
      (rintro o hc ⟨rfl, rfl⟩; refine ⟨false, ?_⟩; simp [D.ren, D.rens, D.okN, D.okNs, Cp.ren, Cp.okN, HO.ren, HO.okN, okA, renA, renO, hOf, handed, D.fgt, D.fgts, List.range_succ, List.idxOf_cons, Out.ren, told, Out.fgt, upO, updS, setS])
      ((try simp only [wpAft_ret, wpAft_pan, putS, updS, setS]); (repeat (rw [wpS_cons]; simp)); (try simp only [wpS_nil, thenD, blockD]))
      (refine hK _ _ _ ?_; clear hK K)
      refine wpD_ret ?_
      refine DefX.objs globPure [0, 3] (catch_idle (.own 1 (levM m).length) (.row 2 ((levM m).map encP))) ?_ ?_ (fun d h => by cases h) (by decide) (by simp) (by simp [D.ren, D.rens, D.okN, D.okNs, Cp.ren, Cp.okN, HO.ren, HO.okN, okA, renA, renO, hOf, handed, D.fgt, D.fgts, List.range_succ, List.idxOf_cons]) (by simp [D.ren, D.rens, D.okN, D.okNs, Cp.ren, Cp.okN, HO.ren, HO.okN, okA, renA, renO, hOf, handed, D.fgt, D.fgts, List.range_succ, List.idxOf_cons]) (by simp [D.ren, D.rens, D.okN, D.okNs, Cp.ren, Cp.okN, HO.ren, HO.okN, okA, renA, renO, hOf, handed, D.fgt, D.fgts, List.range_succ, List.idxOf_cons]) (by simp [D.ren, D.rens, D.okN, D.okNs, Cp.ren, Cp.okN, HO.ren, HO.okN, okA, renA, renO, hOf, handed, D.fgt, D.fgts, List.range_succ, List.idxOf_cons])
      · rintro hc rfl
        simp [D.ren, D.rens, D.okN, D.okNs, Cp.ren, Cp.okN, HO.ren, HO.okN, okA, renA, renO, hOf, handed, D.fgt, D.fgts, List.range_succ, List.idxOf_cons, upO, updS, setS]
        refine endD.intro rfl (.inr ⟨[3], by decide, by simp, ?_⟩)
        simp [Out.mov, movT, movH, movD, D.mov, HO.mov, okM, renM, getW, D.ren, D.rens, D.okN, D.okNs, Cp.ren, Cp.okN, HO.ren, HO.okN, okA, renA, renO, hOf, handed, D.fgt, D.fgts, List.range_succ, List.idxOf_cons]
        exact .inr ⟨rfl, rfl⟩
      · rintro hc rfl
        simp
  · cases R with
    | none => rintro o hc ⟨rfl, m', rfl⟩; simp
    | some m => rintro o hc ⟨ho, rfl⟩; simp
def normOf (l : LV) : LV := if anyBad l then [] else levM (l.foldl putM [])
def putsOf (l : LV) (m : MP) : Option MP := if anyBad l then none else some (l.foldl putM m)
theorem of1_spec (ls : List LV) (hl : ls.length ≤ LMax) (hls : ∀ l, l ∈ ls → l.length ≤ LMax) : Spec Tryd.prog glob 199 [.agg [.map 0], .ref (Lvs ls)] [.mp []] (PutsM (putsOf ls.flatten [])) := by
  refine Spec.movd globPure (wpD_spec tyOK Tryd.func199 rfl (enters _ _ Tryd.func199 rfl (by decide)) rfl rfl ?_)
  unfold Lvs
  (refine wpD_seqk fun K hK => ?_; refine wpD_region tyOK ?_; ((try simp only [wpAft_ret, wpAft_pan, putS, updS, setS]); (repeat (rw [wpS_cons]; simp)); (try simp only [wpS_nil, thenD, blockD])); refine hK _ _ _ ?_; clear hK K)
  (refine wpD_seqk fun K hK => ?_; refine wpD_region tyOK ?_; ((try simp only [wpAft_ret, wpAft_pan, putS, updS, setS]); (repeat (rw [wpS_cons]; simp)); (try simp only [wpS_nil, thenD, blockD])); refine hK _ _ _ ?_; clear hK K)
  refine wpD_range tyOK globPure (ti := 3) (tk := 7) (tn := 6) (td := 8) (ts := 16) [4, 7, 8, 9, 10, 11, 12, 13, 14, 15, 16] (ls.length) (fun k ys hl => ∃ (m' : MP) (x4 x7 x8 x9 x10 x11 x12 x13 x14 x15 x16 : D), ys = [x4, x7, x8, x9, x10, x11, x12, x13, x14, x15, x16] ∧ anyBad ls.flatten = anyBad (ls.drop k).flatten ∧ (ls.drop k).flatten.foldl putM m' = ls.flatten.foldl putM [] ∧ MOK m' ∧ hl = [.mp (encM m'), .cells 203 [.map 0]]) rfl rfl rfl rfl rfl rfl rfl rfl rfl rfl rfl rfl (by simp) (by decide) rfl (by first | assumption | omega | (unfold LMax; omega)) rfl (by kernel_rfl) (by decide) ?_ ?_ ?_
  · exact ⟨[], _, _, _, _, _, _, _, _, _, _, _, rfl, rfl, rfl, MOK.nil, rfl⟩
  · rintro k ys hl A hk ⟨m', x4, x7, x8, x9, x10, x11, x12, x13, x14, x15, x16, rfl, hb, hf, hml, rfl⟩ hA hA2
    simp only [putAll, List.set]
    have hd : ls.drop k = ls[k] :: ls.drop (k + 1) := List.drop_eq_getElem_cons hk
    rw [hd, List.flatten_cons] at hb hf
    (refine wpD_seqk fun K hK => ?_; refine wpD_region tyOK ?_; ((try simp only [wpAft_ret, wpAft_pan, putS, updS, setS]); (repeat (rw [wpS_cons]; simp [hk, encL])); (try simp only [wpS_nil, thenD, blockD])); refine hK _ _ _ ?_; clear hK K)
    have hsp := rowPut_spec ls[k] m' (hls _ (List.getElem_mem hk)) hml
    (refine wpD_region tyOK ?_; ((try simp only [wpAft_ret, wpAft_pan, putS, updS, setS]); (repeat (rw [wpS_cons]; simp)); (try simp only [wpS_nil, thenD, blockD])))
    refine CallX.objs globPure [0] true hsp ?_ ?_ (by decide) (by simp) (by simp [D.ren, D.rens, D.okN, D.okNs, Cp.ren, Cp.okN, HO.ren, HO.okN, okA, renA, renO, hOf, handed, D.fgt, D.fgts, List.range_succ, List.idxOf_cons]) (by simp [D.ren, D.rens, D.okN, D.okNs, Cp.ren, Cp.okN, HO.ren, HO.okN, okA, renA, renO, hOf, handed, D.fgt, D.fgts, List.range_succ, List.idxOf_cons]) (by simp [D.ren, D.rens, D.okN, D.okNs, Cp.ren, Cp.okN, HO.ren, HO.okN, okA, renA, renO, hOf, handed, D.fgt, D.fgts, List.range_succ, List.idxOf_cons, Ps]) (by simp [D.ren, D.rens, D.okN, D.okNs, Cp.ren, Cp.okN, HO.ren, HO.okN, okA, renA, renO, hOf, handed, D.fgt, D.fgts, List.range_succ, List.idxOf_cons])
    · cases hbad : anyBad ls[k] with
      | true =>
        simp only [if_true]
        rintro o hc ⟨rfl, m2, rfl⟩
        refine ⟨false, ?_⟩
        unfold noneD
        simp [D.ren, D.rens, D.okN, D.okNs, Cp.ren, Cp.okN, HO.ren, HO.okN, okA, renA, renO, hOf, handed, D.fgt, D.fgts, List.range_succ, List.idxOf_cons, Out.ren, told, Out.fgt, upO, updS, setS]
        ((try simp only [wpAft_ret, wpAft_pan, putS, updS, setS]); (repeat (rw [wpS_cons]; simp)); (try simp only [wpS_nil, thenD, blockD]))
        ((try simp only [thenD, blockD]); refine EndQ.pan (.inr ⟨[], by decide, by simp, ?_⟩); simp [Out.mov, movT, movH, movD, D.mov, HO.mov, okM, renM, getW, D.ren, D.rens, D.okN, D.okNs, Cp.ren, Cp.okN, HO.ren, HO.okN, okA, renA, renO, hOf, handed, D.fgt, D.fgts, List.range_succ, List.idxOf_cons, tmOf, Out.fgt, D.fgt, D.fgts])
        have hall : anyBad ls.flatten = true := by rw [hb]; unfold anyBad at hbad ⊢; rw [List.any_append, hbad]; rfl
        simp [PutsM, putsOf, hall, noneD]
        exact ⟨m2, rfl⟩
      | false =>
        simp only [if_false, Bool.false_eq_true]
        rintro o hc ⟨ho, rfl⟩
        refine ⟨true, ?_⟩
        rw [show told true o = _ from ho]
        clear ho
        simp [D.ren, D.rens, D.okN, D.okNs, Cp.ren, Cp.okN, HO.ren, HO.okN, okA, renA, renO, hOf, handed, D.fgt, D.fgts, List.range_succ, List.idxOf_cons, Out.ren, told, Out.fgt, upO, updS, setS]
        ((try simp only [wpAft_ret, wpAft_pan, putS, updS, setS]); (repeat (rw [wpS_cons]; simp)); (try simp only [wpS_nil, thenD, blockD]))
        (refine hA2 ([1]) _ _ (by decide) (by simp) (by simp [movT, movH, movD, D.mov, HO.mov, okM, renM, getW, D.ren, D.rens, D.okN, D.okNs, Cp.ren, Cp.okN, HO.ren, HO.okN, okA, renA, renO, hOf, handed, D.fgt, D.fgts, List.range_succ, List.idxOf_cons, putAll]) ?_ rfl; simp [movT, movH, movD, D.mov, HO.mov, okM, renM, getW, D.ren, D.rens, D.okN, D.okNs, Cp.ren, Cp.okN, HO.ren, HO.okN, okA, renA, renO, hOf, handed, D.fgt, D.fgts, List.range_succ, List.idxOf_cons])
        refine ⟨by rw [hb]; unfold anyBad at hbad ⊢; rw [List.any_append, hbad]; rfl, _, ?_, ?_, rfl⟩
        · rw [← hf, List.foldl_append]
        · exact foldM_ok hml (fun p hp => by
            have : ¬ badP p = true := fun h => by
              have := List.any_eq_true.2 ⟨p, hp, h⟩
              unfold anyBad at hbad
              rw [hbad] at this; cases this
            simpa using this)
    · intro o hc h
      split at h
      · obtain ⟨-, m2, rfl⟩ := h; simp
      · obtain ⟨-, rfl⟩ := h; simp
  · rintro ys hl ⟨m', x4, x7, x8, x9, x10, x11, x12, x13, x14, x15, x16, rfl, hb, hf, hml, rfl⟩
    simp only [putAll, List.set]
    rw [List.drop_length] at hb hf
    ((try simp only [thenD, blockD]); refine EndQ.nrm rfl (.inr ⟨[], by decide, by simp, ?_⟩); simp [Out.mov, movT, movH, movD, D.mov, HO.mov, okM, renM, getW, D.ren, D.rens, D.okN, D.okNs, Cp.ren, Cp.okN, HO.ren, HO.okN, okA, renA, renO, hOf, handed, D.fgt, D.fgts, List.range_succ, List.idxOf_cons, tmOf, Out.fgt, D.fgt, D.fgts])
    have hall : anyBad ls.flatten = false := hb
    simp [PutsM, putsOf, hall, Out.fgt, D.fgt, D.fgts]
    rw [← hf]; rfl
theorem anyBad_of {l : LV} (h : anyBad l = false) : ∀ p, p ∈ l → badP p = false := fun p hp => by
  have : ¬ badP p = true := fun h' => by
    have := List.any_eq_true.2 ⟨p, hp, h'⟩
    unfold anyBad at h
    rw [h] at this; cases this
  simpa using this
theorem levR_puts (l : LV) : levR (putsOf l []) = normOf l := by unfold putsOf normOf; split <;> rfl
theorem puts_ok {l : LV} {m m' : MP} (h : MOK m) (hm : putsOf l m = some m') : MOK m' := by
  unfold putsOf at hm
  split at hm
  · cases hm
  · rename_i hb; cases hm; exact foldM_ok h (anyBad_of (by simpa using hb))
theorem of_spec (ls : List LV) (hl : ls.length ≤ LMax) (hls : ∀ l, l ∈ ls → l.length ≤ LMax) : Spec Tryd.prog glob 181 [Lvs ls] [] (OwnL (normOf ls.flatten)) := by
  refine Spec.movd globPure (wpD_spec tyOK Tryd.func181 rfl (enters _ _ Tryd.func181 rfl (by decide)) rfl rfl ?_)
  unfold Lvs
  (refine wpD_seqk fun K hK => ?_; refine wpD_region tyOK ?_; ((try simp only [wpAft_ret, wpAft_pan, putS, updS, setS]); (repeat (rw [wpS_cons]; simp)); (try simp only [wpS_nil, thenD, blockD])); refine hK _ _ _ ?_; clear hK K)
  (refine wpD_stay (T := tyOf) 0 (ty := 24) (ds := [.slice (ls.map encL) .any]) rfl rfl (by first | exact ⟨rfl, .inr ⟨_, rfl, rfl⟩⟩ | exact ⟨rfl, .inl rfl⟩) ?_; simp [D.frzs, D.frz, HO.frz, dfFrz, refOf, TK.isAgg, FK.isB, FK.isM, FK.isO, D.isLen])
  have hsp := made_spec 199 [.ref (Lvs ls)] _ rfl (by simp [D.pures, D.pure, Lvs_pure]) (fun m hm => puts_ok MOK.nil hm) (of1_spec ls hl hls)
  rw [levR_puts] at hsp
  unfold Lvs at hsp
  (refine wpD_seqk fun K hK => ?_; refine wpD_region tyOK ?_; ((try simp only [wpAft_ret, wpAft_pan, putS, updS, setS]); (repeat (rw [wpS_cons]; simp)); (try simp only [wpS_nil, thenD, blockD])))
  refine CallX.objs globPure [] true hsp ?_ ?_ (by decide) (by simp) (by simp [D.ren, D.rens, D.okN, D.okNs, Cp.ren, Cp.okN, HO.ren, HO.okN, okA, renA, renO, hOf, handed, D.fgt, D.fgts, List.range_succ, List.idxOf_cons]) (by simp [D.ren, D.rens, D.okN, D.okNs, Cp.ren, Cp.okN, HO.ren, HO.okN, okA, renA, renO, hOf, handed, D.fgt, D.fgts, List.range_succ, List.idxOf_cons]) (by simp [D.ren, D.rens, D.okN, D.okNs, Cp.ren, Cp.okN, HO.ren, HO.okN, okA, renA, renO, hOf, handed, D.fgt, D.fgts, List.range_succ, List.idxOf_cons]) (by simp [D.ren, D.rens, D.okN, D.okNs, Cp.ren, Cp.okN, HO.ren, HO.okN, okA, renA, renO, hOf, handed, D.fgt, D.fgts, List.range_succ, List.idxOf_cons])
  · rintro o hc (⟨hn, rfl, rfl⟩ | ⟨rfl, rfl⟩)
    · refine ⟨false, ?_⟩
      simp [D.ren, D.rens, D.okN, D.okNs, Cp.ren, Cp.okN, HO.ren, HO.okN, okA, renA, renO, hOf, handed, D.fgt, D.fgts, List.range_succ, List.idxOf_cons, Out.ren, told, Out.fgt, upO, updS, setS]
      ((try simp only [wpAft_ret, wpAft_pan, putS, updS, setS]); (repeat (rw [wpS_cons]; simp)); (try simp only [wpS_nil, thenD, blockD]))
      (refine hK _ _ _ ?_; clear hK K)
      (refine wpD_ret ?_; (try simp only [thenD, blockD]); refine EndQ.ret rfl (.inr ⟨[], by decide, by simp, ?_⟩); simp [Out.mov, movT, movH, movD, D.mov, HO.mov, okM, renM, getW, D.ren, D.rens, D.okN, D.okNs, Cp.ren, Cp.okN, HO.ren, HO.okN, okA, renA, renO, hOf, handed, D.fgt, D.fgts, List.range_succ, List.idxOf_cons, tmOf, Out.fgt, D.fgt, D.fgts])
      exact .inl ⟨hn, rfl, rfl⟩
    · refine ⟨false, ?_⟩
      simp [D.ren, D.rens, D.okN, D.okNs, Cp.ren, Cp.okN, HO.ren, HO.okN, okA, renA, renO, hOf, handed, D.fgt, D.fgts, List.range_succ, List.idxOf_cons, Out.ren, told, Out.fgt, upO, updS, setS]
      ((try simp only [wpAft_ret, wpAft_pan, putS, updS, setS]); (repeat (rw [wpS_cons]; simp)); (try simp only [wpS_nil, thenD, blockD]))
      (refine hK _ _ _ ?_; clear hK K)
      (refine wpD_ret ?_; (try simp only [thenD, blockD]); refine EndQ.ret rfl (.inr ⟨[2], by decide, by simp, ?_⟩); simp [Out.mov, movT, movH, movD, D.mov, HO.mov, okM, renM, getW, D.ren, D.rens, D.okN, D.okNs, Cp.ren, Cp.okN, HO.ren, HO.okN, okA, renA, renO, hOf, handed, D.fgt, D.fgts, List.range_succ, List.idxOf_cons, tmOf, Out.fgt, D.fgt, D.fgts])
      exact .inr ⟨rfl, rfl⟩
  · rintro o hc (⟨hn, rfl, rfl⟩ | ⟨rfl, rfl⟩) <;> simp
theorem normO_spec (l : LV) (hl : l.length ≤ LMax) : Spec Tryd.prog glob 139 [encL l] [] (OwnL (normOf l)) := by
  have hsp := of_spec [l] (by simp [LMax]) (fun x hx => by rw [List.mem_singleton.1 hx]; exact hl)
  rw [show [l].flatten = l by simp] at hsp
  unfold Lvs at hsp
  refine Spec.movd globPure (wpD_spec tyOK Tryd.func139 rfl (enters _ _ Tryd.func139 rfl (by decide)) rfl rfl ?_)
  (refine wpD_seqk fun K hK => ?_; refine wpD_region tyOK ?_; ((try simp only [wpAft_ret, wpAft_pan, putS, updS, setS]); (repeat (rw [wpS_cons]; simp [encL])); (try simp only [wpS_nil, thenD, blockD])); refine hK _ _ _ ?_; clear hK K)
  (refine wpD_seqk fun K hK => ?_; refine wpD_region tyOK ?_; ((try simp only [wpAft_ret, wpAft_pan, putS, updS, setS]); (repeat (rw [wpS_cons]; simp [encL])); (try simp only [wpS_nil, thenD, blockD])))
  refine CallX.objs globPure [] true hsp ?_ ?_ (by decide) (by simp) (by simp [D.ren, D.rens, D.okN, D.okNs, Cp.ren, Cp.okN, HO.ren, HO.okN, okA, renA, renO, hOf, handed, D.fgt, D.fgts, List.range_succ, List.idxOf_cons]) (by simp [D.ren, D.rens, D.okN, D.okNs, Cp.ren, Cp.okN, HO.ren, HO.okN, okA, renA, renO, hOf, handed, D.fgt, D.fgts, List.range_succ, List.idxOf_cons]) (by simp [D.ren, D.rens, D.okN, D.okNs, Cp.ren, Cp.okN, HO.ren, HO.okN, okA, renA, renO, hOf, handed, D.fgt, D.fgts, List.range_succ, List.idxOf_cons, encL]) (by simp [D.ren, D.rens, D.okN, D.okNs, Cp.ren, Cp.okN, HO.ren, HO.okN, okA, renA, renO, hOf, handed, D.fgt, D.fgts, List.range_succ, List.idxOf_cons, encL])
  · rintro o hc (⟨hn, rfl, rfl⟩ | ⟨rfl, rfl⟩)
    · refine ⟨false, ?_⟩
      simp [D.ren, D.rens, D.okN, D.okNs, Cp.ren, Cp.okN, HO.ren, HO.okN, okA, renA, renO, hOf, handed, D.fgt, D.fgts, List.range_succ, List.idxOf_cons, Out.ren, told, Out.fgt, upO, updS, setS]
      ((try simp only [wpAft_ret, wpAft_pan, putS, updS, setS]); (repeat (rw [wpS_cons]; simp)); (try simp only [wpS_nil, thenD, blockD]))
      (refine hK _ _ _ ?_; clear hK K)
      (refine wpD_ret ?_; (try simp only [thenD, blockD]); refine EndQ.ret rfl (.inr ⟨[], by decide, by simp, ?_⟩); simp [Out.mov, movT, movH, movD, D.mov, HO.mov, okM, renM, getW, D.ren, D.rens, D.okN, D.okNs, Cp.ren, Cp.okN, HO.ren, HO.okN, okA, renA, renO, hOf, handed, D.fgt, D.fgts, List.range_succ, List.idxOf_cons, tmOf, Out.fgt, D.fgt, D.fgts])
      exact .inl ⟨hn, rfl, rfl⟩
    · refine ⟨false, ?_⟩
      simp [D.ren, D.rens, D.okN, D.okNs, Cp.ren, Cp.okN, HO.ren, HO.okN, okA, renA, renO, hOf, handed, D.fgt, D.fgts, List.range_succ, List.idxOf_cons, Out.ren, told, Out.fgt, upO, updS, setS]
      ((try simp only [wpAft_ret, wpAft_pan, putS, updS, setS]); (repeat (rw [wpS_cons]; simp)); (try simp only [wpS_nil, thenD, blockD]))
      (refine hK _ _ _ ?_; clear hK K)
      (refine wpD_ret ?_; (try simp only [thenD, blockD]); refine EndQ.ret rfl (.inr ⟨[2], by decide, by simp, ?_⟩); simp [Out.mov, movT, movH, movD, D.mov, HO.mov, okM, renM, getW, D.ren, D.rens, D.okN, D.okNs, Cp.ren, Cp.okN, HO.ren, HO.okN, okA, renA, renO, hOf, handed, D.fgt, D.fgts, List.range_succ, List.idxOf_cons, tmOf, Out.fgt, D.fgt, D.fgts])
      exact .inr ⟨rfl, rfl⟩
  · rintro o hc (⟨hn, rfl, rfl⟩ | ⟨rfl, rfl⟩) <;> simp
theorem readL {f : FuncId} {args : List D} {l : LV} (h : Spec Tryd.prog glob f args [] (OwnL l)) : Spec Tryd.prog glob f args [] (fun o _ => o.fgt = .ret (encL l)) := by
  refine Spec.frzO h fun o hc hp => ?_
  rcases hp with ⟨rfl, rfl, rfl⟩ | ⟨rfl, rfl⟩
  · left; rfl
  · right
    refine ⟨0, 2, l.map encP, _, rfl, rfl, ?_⟩
    simp [D.frz, D.frzs, FK.isO, D.isLen, Out.fgt, D.fgt, D.fgts, encL]
theorem norm_spec (l : LV) (hl : l.length ≤ LMax) : Spec Tryd.prog glob 139 [encL l] [] (fun o _ => o.fgt = .ret (encL (normOf l))) := readL (normO_spec l hl)
end Go.Proofs.YtebmlojhdnldgaaDoor

namespace Go.Proofs.YtebmlojhdnldgaaDoor
set_option linter.unusedSimpArgs false
set_option linter.unusedVariables false
set_option maxHeartbeats 10000000
set_option maxRecDepth 20000
open Go.RowKit
attribute [local simp] wpAft_ret wpAft_pan wantD evOp opD tmOf putS updS setS hOf isFree isTok fillD TK.isAgg TK.known partD thenD blockD putAll D.ofV inB nilTest isNilS binX binD binE isCst bndD capB IntKind.min IntKind.max IntKind.signed IntKind.bits dstOf late
theorem normOf_len (l : LV) : (normOf l).length ≤ 1048577 := by
  unfold normOf
  split
  · simp
  · rename_i h
    have hm : MOK (l.foldl putM []) := foldM_ok MOK.nil (anyBad_of (by simpa using h))
    exact Nat.le_trans (levM_len _) hm.len
theorem normOf_lmax (l : LV) : (normOf l).length ≤ LMax := by
  have := normOf_len l
  unfold LMax; omega
/-- a part that is no less than another one -/
def underP (p q : Int × Int) : Bool := (decide (p.1 = 0) || decide (p.1 = q.1)) && decide (p.2 ≤ q.2)
def leqN (a b : LV) : Bool := !(a.any fun p => !(b.any (underP p)))
end Go.Proofs.YtebmlojhdnldgaaDoor

namespace Go.Proofs.YtebmlojhdnldgaaDoor
set_option linter.unusedSimpArgs false
set_option linter.unusedVariables false
open Go.RowKit
theorem MOK.uniq {m : MP} (h : MOK m) {v a b : Int} (ha : (v, a) ∈ m) (hb : (v, b) ∈ m) : a = b := by
  have hn := h.nd
  clear h
  induction m with
  | nil => cases ha
  | cons p r ih =>
    rw [List.map_cons, List.nodup_cons] at hn
    rcases List.mem_cons.1 ha with ha' | ha' <;> rcases List.mem_cons.1 hb with hb' | hb'
    · rw [← ha'] at hb'; exact (Prod.mk.inj hb').2.symm
    · subst ha'; exact absurd (List.mem_map.2 ⟨_, hb', rfl⟩) hn.1
    · subst hb'; exact absurd (List.mem_map.2 ⟨_, ha', rfl⟩) hn.1
    · exact ih ha' hb' hn.2
theorem badP_nn {p : Int × Int} (h : badP p = false) : 0 ≤ p.1 ∧ 0 ≤ p.2 ∧ p.1 ≤ 1048576 ∧ p.2 ≤ 1048576 := by
  simp only [badP, Bool.or_eq_false_iff, decide_eq_false_iff_not] at h
  omega
theorem mem_find {m : MP} (hm : MOK m) {v n : Int} (h : (v, n) ∈ m) : findM m v = some n := by
  cases hf : findM m v with
  | none => exact absurd (List.mem_map.2 ⟨_, h, rfl⟩) (findM_none hf)
  | some k => rw [hm.uniq h (findM_some hf)]
theorem hid_iff {m : MP} {n : Int} : hiddenM m n = false ↔ ∀ q, q ∈ m → 0 < q.1 → q.2 < n := by
  unfold hiddenM
  rw [List.any_eq_false]
  constructor
  · intro h q hq hv
    have := h q hq
    simp only [Bool.and_eq_true, decide_eq_true_eq, not_and] at this
    have := this hv
    omega
  · intro h q hq
    simp only [Bool.and_eq_true, decide_eq_true_eq, not_and]
    intro hv
    have := h q hq hv
    omega
theorem levM_mem {m : MP} (hm : MOK m) {p : Int × Int} : p ∈ levM m ↔ p ∈ m ∧ (0 < p.1 ∨ (0 < p.2 ∧ ∀ q, q ∈ m → 0 < q.1 → q.2 < p.2)) := by
  obtain ⟨v, n⟩ := p
  unfold levM
  rw [List.mem_filterMap]
  constructor
  · rintro ⟨x, hx, hk⟩
    have hx' : x ∈ m.map (·.1) := (List.mergeSort_perm _ _).mem_iff.1 hx
    obtain ⟨⟨x', k⟩, hk', rfl⟩ := List.mem_map.1 hx'
    have hf := mem_find hm hk'
    unfold keepM at hk
    dsimp only at hk
    rw [hf] at hk
    simp only [Option.getD_some] at hk
    split at hk
    · rename_i hc
      cases hk
      exact ⟨hk', hc.imp id (fun h => ⟨h.1, hid_iff.1 h.2⟩)⟩
    · cases hk
  · rintro ⟨h1, h2⟩
    refine ⟨v, (List.mergeSort_perm _ _).mem_iff.2 (List.mem_map.2 ⟨_, h1, rfl⟩), ?_⟩
    unfold keepM
    rw [mem_find hm h1]
    simp only [Option.getD_some]
    rw [if_pos (h2.imp id (fun h => ⟨h.1, hid_iff.2 h.2⟩))]
/-- what a normal form is -/
structure NF (l : LV) : Prop where
  up : l.Pairwise (fun p q => p.1 < q.1)
  ok : ∀ p, p ∈ l → badP p = false
  z : ∀ p, p ∈ l → p.1 = 0 → 0 < p.2 ∧ ∀ q, q ∈ l → 0 < q.1 → q.2 < p.2
theorem nodup_sorted : ∀ {l : List Int}, l.Pairwise (fun x y => x ≤ y) → l.Nodup → l.Pairwise (fun x y => x < y)
  | [], _, _ => List.Pairwise.nil
  | x :: r, h, hn => by
    rw [List.pairwise_cons] at h ⊢
    rw [List.nodup_cons] at hn
    refine ⟨fun y hy => ?_, nodup_sorted h.2 hn.2⟩
    have := h.1 y hy
    have : x ≠ y := fun e => hn.1 (e ▸ hy)
    omega
theorem sortK_up {m : MP} (hm : MOK m) : (sortK m).Pairwise (fun x y => x < y) := by
  refine nodup_sorted ?_ ?_
  · have := List.pairwise_mergeSort (le := fun x y : Int => decide (x ≤ y)) (fun a b c h1 h2 => by simp only [decide_eq_true_eq] at *; omega) (fun a b => by simp only [Bool.or_eq_true, decide_eq_true_eq]; omega) (m.map (·.1))
    exact this.imp (fun h => by simpa using h)
  · exact ((List.mergeSort_perm _ _).nodup_iff).2 hm.nd
theorem keepM_fst {m : MP} {v : Int} {p : Int × Int} (h : keepM m v = some p) : p.1 = v := by
  unfold keepM at h
  split at h
  · cases h; rfl
  · cases h
theorem levM_up {m : MP} (hm : MOK m) : (levM m).Pairwise (fun p q => p.1 < q.1) := by
  unfold levM
  have := sortK_up hm
  generalize sortK m = s at this
  induction s with
  | nil => exact List.Pairwise.nil
  | cons x r ih =>
    rw [List.pairwise_cons] at this
    rw [List.filterMap_cons]
    cases hk : keepM m x with
    | none => exact ih this.2
    | some p =>
      refine List.pairwise_cons.2 ⟨fun q hq => ?_, ih this.2⟩
      obtain ⟨y, hy, hq⟩ := List.mem_filterMap.1 hq
      rw [keepM_fst hk, keepM_fst hq]
      exact this.1 y hy
theorem NF.nil : NF [] := ⟨List.Pairwise.nil, (fun _ h => nomatch h), (fun _ h => nomatch h)⟩
theorem levM_nf {m : MP} (hm : MOK m) : NF (levM m) where
  up := levM_up hm
  ok := fun p hp => by
    have h := ((levM_mem hm).1 hp).1
    have h1 := hm.v p h
    have h2 := hm.n p h
    simp only [badP, Bool.or_eq_false_iff, decide_eq_false_iff_not]
    omega
  z := fun p hp h0 => by
    have h := ((levM_mem hm).1 hp).2
    rcases h with h | ⟨h1, h2⟩
    · omega
    · exact ⟨h1, fun q hq hv => h2 q ((levM_mem hm).1 hq).1 hv⟩
theorem NF.uniq {l : LV} (h : NF l) {p q : Int × Int} (hp : p ∈ l) (hq : q ∈ l) (e : p.1 = q.1) : p = q := by
  have hu := h.up
  clear h
  induction l with
  | nil => cases hp
  | cons x r ih =>
    rw [List.pairwise_cons] at hu
    rcases List.mem_cons.1 hp with hp' | hp' <;> rcases List.mem_cons.1 hq with hq' | hq'
    · rw [hp', hq']
    · subst hp'; have := hu.1 q hq'; omega
    · subst hq'; have := hu.1 p hp'; omega
    · exact ih hp' hq' hu.2
theorem up_ext : ∀ {a b : LV}, a.Pairwise (fun p q => p.1 < q.1) → b.Pairwise (fun p q => p.1 < q.1) → (∀ p, p ∈ a ↔ p ∈ b) → a = b
  | [], [], _, _, _ => rfl
  | [], y :: s, _, _, h => by have := (h y).2 (List.mem_cons_self ..); cases this
  | x :: r, [], _, _, h => by have := (h x).1 (List.mem_cons_self ..); cases this
  | x :: r, y :: s, ha, hb, h => by
    rw [List.pairwise_cons] at ha hb
    have hxy : x = y := by
      rcases List.mem_cons.1 ((h x).1 (List.mem_cons_self ..)) with e | hx
      · exact e
      · rcases List.mem_cons.1 ((h y).2 (List.mem_cons_self ..)) with e | hy
        · exact e.symm
        · have h1 := hb.1 x hx
          have h2 := ha.1 y hy
          omega
    subst hxy
    rw [up_ext ha.2 hb.2 fun p => ?_]
    constructor
    · intro hp
      rcases List.mem_cons.1 ((h p).1 (List.mem_cons_of_mem _ hp)) with rfl | hp'
      · have := ha.1 p hp; omega
      · exact hp'
    · intro hp
      rcases List.mem_cons.1 ((h p).2 (List.mem_cons_of_mem _ hp)) with rfl | hp'
      · have := hb.1 p hp; omega
      · exact hp'
/-- a part is below a level -/
def domP (l : LV) (p : Int × Int) : Prop := (p.1 = 0 ∧ p.2 = 0) ∨ ∃ q, q ∈ l ∧ (p.1 = 0 ∨ p.1 = q.1) ∧ p.2 ≤ q.2
/-- all parts are -/
def leR (a b : LV) : Prop := ∀ p, p ∈ a → domP b p
def okV (l : LV) : Prop := ∀ p, p ∈ l → badP p = false
theorem domP.self {l : LV} {p : Int × Int} (h : p ∈ l) : domP l p := .inr ⟨p, h, .inr rfl, Int.le_refl _⟩
theorem domP.step {l : LV} {p q : Int × Int} (hp : 0 ≤ p.2) (h1 : p.1 = 0 ∨ p.1 = q.1) (h2 : p.2 ≤ q.2) (h : domP l q) : domP l p := by
  rcases h with ⟨e1, e2⟩ | ⟨r, hr, e1, e2⟩
  · left; omega
  · right; exact ⟨r, hr, by omega, by omega⟩
theorem domP.trans {a b : LV} {p : Int × Int} (hp : 0 ≤ p.2) (h : domP a p) (hab : leR a b) : domP b p := by
  rcases h with h | ⟨q, hq, h1, h2⟩
  · exact .inl h
  · exact (hab q hq).step hp h1 h2
theorem leR.refl (a : LV) : leR a a := fun _ h => .self h
theorem leR.trans {a b c : LV} (ha : okV a) (h1 : leR a b) (h2 : leR b c) : leR a c := fun p hp => (h1 p hp).trans (badP_nn (ha p hp)).2.1 h2
theorem normOf_nf (l : LV) : NF (normOf l) := by
  unfold normOf
  split
  · exact NF.nil
  · rename_i h
    exact levM_nf (foldM_ok MOK.nil (anyBad_of (by simpa using h)))
theorem NF.okV {l : LV} (h : NF l) : okV l := h.ok
theorem leqN_iff {a b : LV} : leqN a b = true ↔ ∀ p, p ∈ a → ∃ q, q ∈ b ∧ (p.1 = 0 ∨ p.1 = q.1) ∧ p.2 ≤ q.2 := by
  unfold leqN
  simp [underP]
theorem leqN_leR {a b : LV} (ha : NF a) : leqN a b = true ↔ leR a b := by
  rw [leqN_iff]
  constructor
  · exact fun h p hp => .inr (h p hp)
  · intro h p hp
    rcases h p hp with ⟨h1, h2⟩ | h
    · have := (ha.z p hp h1).1; omega
    · exact h
theorem NF.sub {a b : LV} (ha : NF a) (hb : NF b) (h1 : leR a b) (h2 : leR b a) : ∀ p, p ∈ a → p ∈ b := by
  have ha' := leqN_iff.1 ((leqN_leR ha).2 h1)
  have hb' := leqN_iff.1 ((leqN_leR hb).2 h2)
  have hpos : ∀ {a b : LV}, NF a → NF b → (∀ p, p ∈ a → ∃ q, q ∈ b ∧ (p.1 = 0 ∨ p.1 = q.1) ∧ p.2 ≤ q.2) → (∀ p, p ∈ b → ∃ q, q ∈ a ∧ (p.1 = 0 ∨ p.1 = q.1) ∧ p.2 ≤ q.2) → ∀ p, p ∈ a → 0 < p.1 → p ∈ b := by
    intro a b ha hb ha' hb' p hp hp0
    obtain ⟨q, hq, h1, h2⟩ := ha' p hp
    obtain ⟨r, hr, h3, h4⟩ := hb' q hq
    have : r = p := ha.uniq hr hp (by omega)
    subst this
    have : q = r := Prod.ext (by omega) (by omega)
    rw [← this]; exact hq
  intro p hp
  by_cases hp0 : 0 < p.1
  · exact hpos ha hb ha' hb' p hp hp0
  · have hpz : p.1 = 0 := by have := (badP_nn (ha.ok p hp)).1; omega
    obtain ⟨q, hq, h1, h2⟩ := ha' p hp
    have hz := ha.z p hp hpz
    by_cases hq0 : 0 < q.1
    · have := hz.2 q (hpos hb ha hb' ha' q hq hq0) hq0
      omega
    · have hqz : q.1 = 0 := by have := (badP_nn (hb.ok q hq)).1; omega
      obtain ⟨r, hr, h3, h4⟩ := hb' q hq
      by_cases hr0 : 0 < r.1
      · have := hz.2 r hr hr0; omega
      · have hrz : r.1 = 0 := by have := (badP_nn (ha.ok r hr)).1; omega
        have : r = p := ha.uniq hr hp (by omega)
        subst this
        have : q = r := Prod.ext (by omega) (by omega)
        rw [← this]; exact hq
theorem NF.ext {a b : LV} (ha : NF a) (hb : NF b) (h1 : leR a b) (h2 : leR b a) : a = b :=
  up_ext ha.up hb.up fun p => ⟨ha.sub hb h1 h2 p, hb.sub ha h2 h1 p⟩
end Go.Proofs.YtebmlojhdnldgaaDoor

namespace Go.Proofs.YtebmlojhdnldgaaDoor
set_option linter.unusedSimpArgs false
set_option linter.unusedVariables false
open Go.RowKit
theorem norm_okV (a : LV) : okV (normOf a) := (normOf_nf a).ok
/-! levels for variables -/
def orZero (x : LV) : LV := if x = [] then [(0, 0)] else x
def levOf (bys : List LV) (v : Int) : LV := if 0 < v ∧ v ≤ bys.length then normOf (bys.getD (v - 1).toNat []) else []
def xsP (bys : List LV) (p : Int × Int) : LV := orZero (levOf bys p.1)
theorem orZero_mem {x : LV} {q : Int × Int} (h : q ∈ orZero x) : q = (0, 0) ∨ q ∈ x := by
  unfold orZero at h
  split at h
  · left; simpa using h
  · exact .inr h
def addP (n : Int) (q : Int × Int) : Int × Int := (q.1, q.2 + n)
def rowP (bys : List LV) (p : Int × Int) : LV := (xsP bys p).map (addP p.2)
def putL (l : LV) (bys : List LV) : LV := ((normOf l).map (rowP bys)).flatten
theorem levOf_mem {bys : List LV} {v : Int} {q : Int × Int} (h : q ∈ levOf bys v) : ∃ l, l ∈ bys ∧ q ∈ normOf l := by
  unfold levOf at h
  split at h
  · rename_i hv
    refine ⟨_, ?_, h⟩
    rw [List.getD_eq_getElem?_getD, List.getElem?_eq_getElem (by omega)]
    exact List.getElem_mem _
  · cases h
theorem xsP_ok (bys : List LV) (p : Int × Int) : okV (xsP bys p) := fun q hq => by
  rcases orZero_mem hq with rfl | hq
  · rfl
  · obtain ⟨l, -, h⟩ := levOf_mem hq
    exact norm_okV _ q h
end Go.Proofs.YtebmlojhdnldgaaDoor

namespace Go.Proofs.YtebmlojhdnldgaaDoor
set_option linter.unusedSimpArgs false
set_option linter.unusedVariables false
set_option maxHeartbeats 10000000
set_option maxRecDepth 20000
open Go.RowKit
attribute [local simp] wpAft_ret wpAft_pan wantD evOp opD tmOf putS updS setS hOf isFree isTok fillD TK.isAgg TK.known partD thenD blockD putAll D.ofV inB nilTest isNilS binX binD binE isCst bndD capB IntKind.min IntKind.max IntKind.signed IntKind.bits dstOf late
theorem sameParts_spec (a b : LV) (ha : a.length ≤ LMax) (hb : b.length ≤ LMax) : Spec Tryd.prog glob 127 [.slice (a.map encP) .any, .slice (b.map encP) .any] [] (fun o _ => o.fgt = .ret (.bool (decide (a = b)))) := by
  unfold LMax at ha hb
  refine Spec.movd globPure (wpD_spec tyOK Tryd.func127 rfl (enters _ _ Tryd.func127 rfl (by decide)) rfl rfl ?_)
  (refine wpD_seqk fun K hK => ?_; refine wpD_region tyOK ?_; ((try simp only [wpAft_ret, wpAft_pan, putS, updS, setS]); (repeat (rw [wpS_cons]; simp)); (try simp only [wpS_nil, thenD, blockD])); refine hK _ _ _ ?_; clear hK K)
  refine wpD_seqk fun K1 hK1 => ?_
  (refine wpD_seqk fun K hK => ?_; refine wpD_region tyOK ?_; ((try simp only [wpAft_ret, wpAft_pan, putS, updS, setS]); (repeat (rw [wpS_cons]; simp)); (try simp only [wpS_nil, thenD, blockD])); refine hK _ _ _ ?_; clear hK K)
  refine wpD_part rfl (fun h => ?_) (fun h => ?_)
  · (refine wpD_seqk fun K hK => ?_; refine wpD_region tyOK ?_; ((try simp only [wpAft_ret, wpAft_pan, putS, updS, setS]); (repeat (rw [wpS_cons]; simp)); (try simp only [wpS_nil, thenD, blockD])); refine hK _ _ _ ?_; clear hK K)
    (refine wpD_ret ?_; (try simp only [thenD, blockD]); refine EndQ.ret rfl (.inl ?_); simp [tmOf, Out.fgt, D.fgt, D.fgts])
    have h : ¬ (a.length : Int) = b.length := by simpa using h
    intro e
    exact h (by rw [e])
  · replace h : a.length = b.length := by
      have h : (a.length : Int) = b.length := by simpa using h
      omega
    refine wpD_skip (hK1 _ _ _ ?_)
    clear hK1 K1
    refine wpD_seqk fun K1 hK1 => ?_
    (refine wpD_seqk fun K hK => ?_; refine wpD_region tyOK ?_; ((try simp only [wpAft_ret, wpAft_pan, putS, updS, setS]); (repeat (rw [wpS_cons]; simp)); (try simp only [wpS_nil, thenD, blockD])); refine hK _ _ _ ?_; clear hK K)
    refine wpD_block ?_
    refine wpD_loopW [4, 5, 11, 12, 13, 14, 15, 16, 17, 18, 19, 20, 21, 22, 23, 24, 25] (fun n ys hl => ∃ (k : Nat) (x4 x11 x12 x13 x14 x15 x16 x17 x18 x19 x20 x21 x22 x23 x24 x25 : D), ys = [x4, .int .i64 k, x11, x12, x13, x14, x15, x16, x17, x18, x19, x20, x21, x22, x23, x24, x25] ∧ n + k = a.length ∧ a.take k = b.take k ∧ hl = []) (a.length) (by kernel_rfl) ?_ ?_
    · exact ⟨0, _, _, _, _, _, _, _, _, _, _, _, _, _, _, _, _, rfl, rfl, by simp, rfl⟩
    · rintro n ys hl A hA ⟨k, x4, x11, x12, x13, x14, x15, x16, x17, x18, x19, x20, x21, x22, x23, x24, x25, rfl, hk, he, rfl⟩
      simp only [putAll, List.set]
      refine wpD_seqk fun K2 hK2 => ?_
      (refine wpD_seqk fun K hK => ?_; refine wpD_region tyOK ?_; ((try simp only [wpAft_ret, wpAft_pan, putS, updS, setS]); (repeat (rw [wpS_cons]; simp)); (try simp only [wpS_nil, thenD, blockD])); refine hK _ _ _ ?_; clear hK K)
      refine wpD_part rfl (fun hka => ?_) (fun hka => ?_)
      · replace hka : k < a.length := by simpa using hka
        have hkb : k < b.length := by omega
        refine wpD_skip (hK2 _ _ _ ?_)
        clear hK2 K2
        refine wpD_seqk fun K3 hK3 => ?_
        refine wpD_block ?_
        (refine wpD_seqk fun K hK => ?_; refine wpD_drawk tyOK (by kernel_rfl) (by kernel_rfl) fun KT hKT => ?_; ((try simp only [wpAftT_ret, wpAftT_pan, putS, updS, setS]); (repeat (rw [wpT_cons]; simp [hka, hkb, encP])); (try simp only [wpT_nil])))
        (refine hKT _ _ _ _ (by kernel_rfl) ?_; clear hKT KT; (try simp only [thenD, blockD]))
        (refine hK _ _ _ ?_; clear hK K)
        refine wpD_part rfl (fun hb => ?_) (fun hb => ?_)
        · (refine wpD_seqk fun K hK => ?_; refine wpD_region tyOK ?_; ((try simp only [wpAft_ret, wpAft_pan, putS, updS, setS]); (repeat (rw [wpS_cons]; simp)); (try simp only [wpS_nil, thenD, blockD])); refine hK _ _ _ ?_; clear hK K)
          (refine wpD_ret ?_; (try simp only [thenD, blockD]); refine EndQ.ret rfl (.inl ?_); simp [tmOf, Out.fgt, D.fgt, D.fgts])
          intro e
          subst e
          simp at hb
        · refine wpD_skip (hK3 _ _ _ ?_)
          clear hK3 K3
          have hw1 : IntKind.i64.wrap ((k : Int) + 1) = (k : Int) + 1 := i64w (by omega) (by omega)
          (refine wpD_region tyOK ?_; ((try simp only [wpAft_ret, wpAft_pan, putS, updS, setS]); (repeat (rw [wpS_cons]; simp [hw1])); (try simp only [wpS_nil, thenD, blockD])))
          refine hA (n - 1) _ _ (by omega) (by kernel_rfl) ?_
          refine ⟨k + 1, _, _, _, _, _, _, _, _, _, _, _, _, _, _, _, _, rfl, by omega, ?_, rfl⟩
          rw [List.take_succ_eq_append_getElem hka, List.take_succ_eq_append_getElem hkb, he]
          have hb : a[k] = b[k] := by
            have hb' : a[k].1 = b[k].1 ∧ a[k].2 = b[k].2 := by simpa using hb
            exact Prod.ext hb'.1 hb'.2
          rw [hb]
      · replace hka : ¬ k < a.length := by simpa using hka
        refine wpD_exit ?_
        refine hK1 _ _ _ ?_
        (refine wpD_seqk fun K hK => ?_; refine wpD_region tyOK ?_; ((try simp only [wpAft_ret, wpAft_pan, putS, updS, setS]); (repeat (rw [wpS_cons]; simp)); (try simp only [wpS_nil, thenD, blockD])); refine hK _ _ _ ?_; clear hK K)
        (refine wpD_ret ?_; (try simp only [thenD, blockD]); refine EndQ.ret rfl (.inl ?_); simp [tmOf, Out.fgt, D.fgt, D.fgts])
        rw [List.take_of_length_le (by omega), List.take_of_length_le (by omega)] at he
        exact he
theorem sameLevel_spec (a b : LV) (ha : a.length ≤ LMax) (hb : b.length ≤ LMax) : Spec Tryd.prog glob 64 [encL a, encL b] [] (fun o _ => o.fgt = .ret (.bool (decide (a = b)))) := by
  refine Spec.movd globPure (wpD_spec tyOK Tryd.func64 rfl (enters _ _ Tryd.func64 rfl (by decide)) rfl rfl ?_)
  unfold encL
  (refine wpD_seqk fun K hK => ?_; refine wpD_region tyOK ?_; ((try simp only [wpAft_ret, wpAft_pan, putS, updS, setS]); (repeat (rw [wpS_cons]; simp)); (try simp only [wpS_nil, thenD, blockD])); refine hK _ _ _ ?_; clear hK K)
  (refine wpD_seqk fun K hK => ?_; refine wpD_region tyOK ?_; ((try simp only [wpAft_ret, wpAft_pan, putS, updS, setS]); (repeat (rw [wpS_cons]; simp)); (try simp only [wpS_nil, thenD, blockD])))
  refine CallX.pure globPure (sameParts_spec a b ha hb) ?_ (by simp [D.fgts, D.fgt]) (by simp [D.pures, D.pure, Cp.free, D.pures_map]) (by simp [Out.pure, D.pure, D.pures, Cp.free, D.pures_map])
  ((try simp only [wpAft_ret, wpAft_pan, putS, updS, setS]); (repeat (rw [wpS_cons]; simp)); (try simp only [wpS_nil, thenD, blockD]))
  (refine hK _ _ _ ?_; clear hK K)
  (refine wpD_ret ?_; (try simp only [thenD, blockD]); refine EndQ.ret rfl (.inl ?_); simp [tmOf, Out.fgt, D.fgt, D.fgts])
end Go.Proofs.YtebmlojhdnldgaaDoor

