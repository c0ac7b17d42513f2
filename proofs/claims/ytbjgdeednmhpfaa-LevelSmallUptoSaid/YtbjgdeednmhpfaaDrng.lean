/-
  Loops over a slice's elements (range), as one rule.
-/
import Derived.Test.YtbjgdeednmhpfaaDdef
set_option linter.unusedSimpArgs false
set_option linter.unusedVariables false
namespace Go.Proofs.Ytbjgdeednmhpfaa
open Go.RowKit

section
variable {G : Nat → Option D} {tl : List D} {hl : List HO} {P : Program} {Q : DQ} {M : Nat}

/-- an end, some objects under other names -/
def movX (m : Nat) (κ : List Nat) : DX → DX
  | .pan d => .pan (d.mov m κ)
  | x => x
def orMov (m : Nat) (Q : DQ) : DQ := fun x tl hl df => Q x tl hl df ∨ ∃ κ : List Nat, κ.Nodup ∧ (κ.all fun i => decide (m ≤ i)) = true ∧ okD m κ df = true ∧ Q (movX m κ x) (movT m κ tl) (movH m κ hl) (movD m κ df)

theorem wpD_orMov {c : Code} {df : Df} (hG : ∀ g d, G g = some d → d.pure = true) (h : wpD P G M c (orMov M Q) tl hl df) : wpD P G M c Q tl hl df := fun ρ0 w0 H0 ρ w a hbs hst => by
  refine wp_mono (h ρ0 w0 H0 ρ w a hbs hst) ?_
  rintro e a w ⟨x, tl2, hl2, df2, ρ2, h1 | ⟨κ, hnd, hge, hdf, h1⟩, h2, h3, h4⟩
  · exact ⟨x, tl2, hl2, df2, ρ2, h1, h2, h3, h4⟩
  · refine ⟨_, _, _, _, ρ2.mov M κ, h1, ?_, by unfold movT; rw [List.length_map]; exact h3, h4.mov hG hbs hnd (fun i hi => by simpa using List.all_eq_true.1 hge i hi) hdf⟩
    cases x with
    | pan d =>
      obtain ⟨u, rfl, hu⟩ := h2
      refine ⟨u, rfl, ?_⟩
      show Rp _ _ (d.mov M κ) u
      unfold D.mov
      split
      · rename_i hok
        exact Rp_ren mov_nm rfl _ _ hok hu
      · rw [Rp]; trivial
    | _ => exact h2

def Out.mov (m : Nat) (κ : List Nat) : Out → Out
  | .ret d => .ret (d.mov m κ)
  | .pan d => .pan (d.mov m κ)
/-- what is told, some objects under other names -/
def PostM (m : Nat) (Post : Out → List HO → Prop) (o : Out) (hl : List HO) : Prop := Post o hl ∨ ∃ κ : List Nat, κ.Nodup ∧ (κ.all fun i => decide (m ≤ i)) = true ∧ Post (o.mov m κ) (movH m κ hl)

theorem Spec.movd (hG : ∀ g d, G g = some d → d.pure = true) {f : FuncId} {args : List D} {hc : List HO} {Post : Out → List HO → Prop} (h : Spec P G f args hc (PostM hc.length Post)) : Spec P G f args hc Post := by
  intro ρ w vs hR hvs
  obtain ⟨h1, h2⟩ := h ρ w vs hR hvs
  refine ⟨h1, h2.mono ?_⟩
  rintro e w' ⟨ρ', out, hc', hp | ⟨κ, hnd, hge, hp⟩, ho, g1, g2⟩
  · exact ⟨ρ', out, hc', hp, ho, g1, g2⟩
  · have hbs : ∀ i, hc.length ≤ i → ρ.nm i = none := fun i hi => hR.free i (by unfold hOf; rw [List.getD_eq_getElem?_getD, List.getElem?_eq_none hi]; rfl)
    have hst : InSt G ρ w (hOf hc) 0 ρ' w' { tmps := #[], defers := [] } (tmOf []) (hOf hc') [] := ⟨g1, g2, fun k => by show Rp ρ' w' .junk _; rw [Rp]; trivial, rfl, rfl⟩
    have hst2 := hst.mov (κ := κ) hG hbs hnd (fun i hi => by simpa using List.all_eq_true.1 hge i hi) rfl
    refine ⟨ρ'.mov hc.length κ, out.mov hc.length κ, movH hc.length κ hc', hp, ?_, hst2.rel, hst2.ex⟩
    have hm : ∀ d u, Rp ρ' w' d u → Rp (ρ'.mov hc.length κ) w' (d.mov hc.length κ) u := fun d u hu => by
      unfold D.mov
      split
      · rename_i hok; exact Rp_ren mov_nm rfl _ _ hok hu
      · rw [Rp]; trivial
    cases out with
    | ret d => obtain ⟨u, e1, e2⟩ := ho; exact ⟨u, e1, hm d u e2⟩
    | pan d => obtain ⟨u, e1, e2⟩ := ho; exact ⟨u, e1, hm d u e2⟩

/-- a loop: at a round's end some objects may be kept under other names -/
theorem wpD_loopG {c : Code} (hG : ∀ g d, G g = some d → d.pure = true) (I : Nat → List D → List HO → Prop) (n0 : Nat) (hI : I n0 tl hl)
    (hr : ∀ n tl' hl' (A : List D → List HO → Df → Prop), tl'.length = tl.length → (∀ k tl2 hl2, k < n → I k tl2 hl2 → A tl2 hl2 []) →
      (∀ (κ : List Nat) k tl2 hl2, κ.Nodup → (κ.all fun i => decide (M ≤ i)) = true → k < n → I k (movT M κ tl2) (movH M κ hl2) → A tl2 hl2 []) → I n tl' hl' → wpD P G M c (thenD A Q) tl' hl' []) : wpD P G M (.loop c) Q tl hl [] := fun ρ0 w0 H0 ρ w a hbs hst => by
  intro b k cs
  have key : ∀ n tl' hl' ρ w a, tl'.length = tl.length → I n tl' hl' → InSt G ρ0 w0 H0 tl.length ρ w a (tmOf tl') (hOf hl') [] →
      ∃ e a' w', LiftQ G ρ0 w0 H0 tl.length Q e a' w' ∧ Arrives P (lone (b.at a (.code c :: .inLoop c :: k)) cs w) b k cs e a' w' := by
    intro n
    induction n using Nat.strongRecOn with
    | _ n ih =>
      intro tl' hl' ρ w a hl1 hI hst
      obtain ⟨e, a₁, w₁, hq, harr⟩ := hr n tl' hl' (fun tl2 hl2 df2 => df2 = [] ∧ ((∃ k, k < n ∧ I k tl2 hl2) ∨ ∃ (κ : List Nat) (k : Nat), κ.Nodup ∧ (κ.all fun i => decide (M ≤ i)) = true ∧ k < n ∧ I k (movT M κ tl2) (movH M κ hl2))) hl1
        (fun k tl2 hl2 h1 h3 => ⟨rfl, .inl ⟨k, h1, h3⟩⟩) (fun κ k tl2 hl2 h1 h2 h3 h5 => ⟨rfl, .inr ⟨κ, k, h1, h2, h3, h5⟩⟩) hI ρ0 w0 H0 ρ w a hbs (hl1 ▸ hst) b (.inLoop c :: k) cs
      rw [hl1] at hq
      obtain ⟨x, tl2, hl2, df2, ρ2, h1, h2, h3, h4⟩ := hq
      cases x with
      | nrm =>
        cases h2
        obtain ⟨rfl, ⟨k', hk', hI2⟩ | ⟨κ, k', hnd, hge, hk', hI2⟩⟩ := h1
        · obtain ⟨e₂, a₂, w₂, hq₂, harr₂⟩ := ih k' hk' _ _ ρ2 w₁ a₁ h3 hI2 h4
          exact ⟨e₂, a₂, w₂, hq₂, .of_steps (Steps.trans harr (.one step_inLoop)) harr₂⟩
        · have h5 := h4.mov hG hbs hnd (fun i hi => by simpa using List.all_eq_true.1 hge i hi) rfl
          obtain ⟨e₂, a₂, w₂, hq₂, harr₂⟩ := ih k' hk' _ _ (ρ2.mov M κ) w₁ a₁ (by unfold movT; rw [List.length_map]; exact h3) hI2 h5
          exact ⟨e₂, a₂, w₂, hq₂, .of_steps (Steps.trans harr (.one step_inLoop)) harr₂⟩
      | ret => cases h2; exact ⟨_, a₁, w₁, ⟨.ret, tl2, hl2, df2, ρ2, h1, rfl, h3, h4⟩, .pass (x := .inLoop c) rfl (fun _ _ => .inl (by simp)) harr⟩
      | ext i => cases h2; exact ⟨_, a₁, w₁, ⟨.ext i, tl2, hl2, df2, ρ2, h1, rfl, h3, h4⟩, .pass (x := .inLoop c) rfl (fun _ _ => .inl (by simp)) harr⟩
      | pan d =>
        obtain ⟨u, rfl, hu⟩ := h2
        exact ⟨_, a₁, w₁, ⟨.pan d, tl2, hl2, df2, ρ2, h1, ⟨u, rfl, hu⟩, h3, h4⟩, .pass (x := .inLoop c) rfl (fun _ _ => .inl (by simp)) harr⟩
  obtain ⟨e, a', w', hq, harr⟩ := key n0 _ _ ρ w a rfl hI hst
  exact ⟨e, a', w', hq, .of_steps (.one step_loop) harr⟩

variable {T : TypeId → Ty}
theorem putAll_getD {n : Nat} : ∀ (W : List Nat) (tl ys : List D), ¬ n ∈ W → (putAll tl W ys).getD n .junk = tl.getD n .junk
  | [], tl, ys, _ => by cases ys <;> rfl
  | i :: r, tl, [], _ => rfl
  | i :: r, tl, y :: ys, h => by
    rw [putAll, putAll_getD r _ _ (fun hm => h (List.mem_cons_of_mem _ hm)), List.getD_eq_getElem?_getD, List.getElem?_set_ne (fun e => h (by rw [← e]; exact List.mem_cons_self ..)), ← List.getD_eq_getElem?_getD]

/-- A loop over a slice's places: I k: so many rounds are done. -/
theorem wpD_range (hT : ∀ t, TyOK P t (T t)) (hG : ∀ g d, G g = some d → d.pure = true) {b0 b1 r1 r2 : Nat} {ops1 ops2 : Array Oper} {o1 o2 o3 : Oper} {body : Code} {ti tk tn td ts : Nat} (W : List Nat) (n : Nat) (I : Nat → List D → List HO → Prop)
    (h1 : ops1.toList = [o1]) (e1 : o1.op = .binOp .lss ti (.tmp tk) (.tmp tn) ti) (g1 : o1.guard = none) (d1 : o1.dst = some td) (h2 : ops2.toList = [o2, o3]) (e2 : o2.op = .binOp .add ti (.tmp tk) (.const (.int .i64 1)) ti) (g2 : o2.guard = none) (d2 : o2.dst = some ts)
    (e3 : o3.op = .move (.tmp ts)) (g3 : o3.guard = none) (d3 : o3.dst = some tk) (hti : (T ti).k = .int .i64) (hlen : tk < tl.length ∧ td < tl.length ∧ ts < tl.length) (hne : td ≠ tk ∧ td ≠ tn ∧ ts ≠ tk ∧ ts ≠ tn ∧ tk ≠ tn) (hn : tl.getD tn .junk = .int .i64 n) (hnl : n ≤ LMax) (hk0 : tl.getD tk .junk = .int .i64 0)
    (hw : tl = (putAll tl W (getW W tl)).set tk (.int .i64 0)) (htn : ¬ tn ∈ W)
    (hI : I 0 (getW W tl) hl)
    (hr : ∀ k ys hl' (A : List D → List HO → Df → Prop), k < n → I k ys hl' →
      (∀ tl2 hl2, (tl2.set ts (.int .i64 (k + 1))).set tk (.int .i64 (k + 1)) = (putAll tl W (getW W ((tl2.set ts (.int .i64 (k + 1))).set tk (.int .i64 (k + 1))))).set tk (.int .i64 (k + 1)) → I (k + 1) (getW W ((tl2.set ts (.int .i64 (k + 1))).set tk (.int .i64 (k + 1)))) hl2 → tl2.getD tk .junk = .int .i64 k → A tl2 hl2 []) →
      (∀ (κ : List Nat) tl2 hl2, κ.Nodup → (κ.all fun i => decide (M ≤ i)) = true → movT M κ ((tl2.set ts (.int .i64 (k + 1))).set tk (.int .i64 (k + 1))) = (putAll tl W (getW W (movT M κ ((tl2.set ts (.int .i64 (k + 1))).set tk (.int .i64 (k + 1)))))).set tk (.int .i64 (k + 1)) →
        I (k + 1) (getW W (movT M κ ((tl2.set ts (.int .i64 (k + 1))).set tk (.int .i64 (k + 1))))) (movH M κ hl2) → tl2.getD tk .junk = .int .i64 k → A tl2 hl2 []) →
      wpD P G M body (blockD b1 (thenD A (blockD b0 Q))) (((putAll tl W ys).set tk (.int .i64 k)).set td (.bool true)) hl' [])
    (he : ∀ ys hl', I n ys hl' → Q .nrm (((putAll tl W ys).set tk (.int .i64 n)).set td (.bool false)) hl' []) :
    wpD P G M (.block b0 (.loop (.seq (.region r1 ops1 false) (.seq (.cond (.tmp td) .skip (.exit b0)) (.seq (.block b1 body) (.region r2 ops2 false)))))) Q tl hl [] := by
  have hnl' := hnl
  unfold LMax at hnl'
  refine wpD_block ?_
  refine wpD_loopG hG (fun m tl' hl' => ∃ k ys, m + k = n ∧ tl' = (putAll tl W ys).set tk (.int .i64 k) ∧ I k ys hl') n ⟨0, _, rfl, hw, hI⟩ ?_
  rintro m tl' hl' A hlen' hA hA' ⟨k, ys, hm, rfl, hIk⟩
  have hpl : (putAll tl W ys).length = tl.length := putAll_length _ _ _
  have hgn : ((putAll tl W ys).set tk (.int .i64 k)).getD tn .junk = .int .i64 n := by
    rw [List.getD_eq_getElem?_getD, List.getElem?_set_ne hne.2.2.2.2, ← List.getD_eq_getElem?_getD, putAll_getD _ _ _ htn, hn]
  have hgk : ((putAll tl W ys).set tk (.int .i64 k)).getD tk .junk = .int .i64 k := by
    rw [List.getD_eq_getElem?_getD, List.getElem?_set_self (by rw [hpl]; exact hlen.1)]; rfl
  refine wpD_seq (wpD_region hT ?_)
  rw [h1, wpS_cons, wpS_nil]
  have hev : evOp T (opD G (tmOf ((putAll tl W ys).set tk (.int .i64 k)))) (hOf hl') hl'.length o1 = some (.val (.bool (decide ((k : Int) < n))) [] []) := by
    unfold evOp
    rw [e1]
    simp only [opD, tmOf, hgn, hgk, pairX_int, binX, binD, isCst, hti]
    rfl
  have hwt : wantD ops1 (tmOf ((putAll tl W ys).set tk (.int .i64 k))) o1 = some true := by unfold wantD; rw [g1]
  rw [hwt, hev]
  simp only [if_true, d1, putS, updS, thenD]
  have hset : ((((putAll tl W ys).set tk (.int .i64 k)).set td (.bool (decide ((k : Int) < n))))).getD td .junk = .bool (decide ((k : Int) < n)) := by
    rw [List.getD_eq_getElem?_getD, List.getElem?_set_self (by rw [List.length_set, hpl]; exact hlen.2.1)]; rfl
  refine wpD_seq (wpD_part (b := decide ((k : Int) < n)) hset (fun hk => ?_) (fun hk => ?_))
  · have hkn : k < n := by simpa using hk
    refine wpD_skip ?_
    refine wpD_seq (wpD_block ?_)
    rw [hk]
    -- behind the body
    have hinc : ∀ tl2 hl2, tl2.getD tk .junk = .int .i64 k → A ((tl2.set ts (.int .i64 (k + 1))).set tk (.int .i64 (k + 1))) hl2 [] → tl2.length = tl.length → wpD P G M (.region r2 ops2 false) (thenD A (blockD b0 Q)) tl2 hl2 [] := fun tl2 hl2 hq hAA hl2l => by
      refine wpD_region hT ?_
      have hev2 : evOp T (opD G (tmOf tl2)) (hOf hl2) hl2.length o2 = some (.val (.int .i64 (k + 1)) [] []) := by
        unfold evOp
        rw [e2]
        have hw1 : IntKind.i64.wrap ((k : Int) + 1) = (k : Int) + 1 := i64w (by omega) (by omega)
        have hc1 : D.ofV (.int .i64 1) = .int .i64 1 := by kernel_rfl
        simp only [opD, tmOf, hq, pairX_int, binX, binD, isCst, hti, hc1, if_true, hw1]
        rfl
      rw [h2, wpS_cons]
      have hwt2 : wantD ops2 (tmOf tl2) o2 = some true := by unfold wantD; rw [g2]
      rw [hwt2, hev2]
      simp only [if_true, d2, putS, updS]
      rw [wpS_cons]
      have hwt3 : wantD ops2 (tmOf (tl2.set ts (.int .i64 (k + 1)))) o3 = some true := by unfold wantD; rw [g3]
      have hev3 : evOp T (opD G (tmOf (tl2.set ts (.int .i64 (k + 1))))) (hOf hl2) hl2.length o3 = some (.val (.int .i64 (k + 1)) [] []) := by
        unfold evOp
        rw [e3]
        simp only [opD, tmOf]
        rw [List.getD_eq_getElem?_getD, List.getElem?_set_self (by rw [hl2l]; exact hlen.2.2)]; rfl
      rw [hwt3, hev3]
      simp only [if_true, d3, putS, updS, wpS_nil, thenD]
      exact hAA
    have hcast : ((k + 1 : Nat) : Int) = (k : Int) + 1 := by omega
    refine wpD_mono (hr k ys hl' (fun tl hl df => wpD P G M (.region r2 ops2 false) (thenD A (blockD b0 Q)) tl hl df) hkn hIk (fun tl2 hl2 heq hI1 hq => ?_) (fun κ tl2 hl2 hnd hge heq hI1 hq => ?_)) (fun x tl hl df hx => ?_)
    · have hl2l : tl2.length = tl.length := by
        have := congrArg List.length heq
        simpa [putAll_length] using this
      refine hinc tl2 hl2 hq (hA (m - 1) _ _ (by omega) ⟨k + 1, _, by omega, ?_, hI1⟩) hl2l
      rw [hcast]; exact heq
    · have hl2l : tl2.length = tl.length := by
        have := congrArg List.length heq
        simpa [putAll_length, movT] using this
      refine hinc tl2 hl2 hq (hA' κ (m - 1) _ _ hnd hge (by omega) ⟨k + 1, _, by omega, ?_, hI1⟩) hl2l
      rw [hcast]; exact heq
    · cases x with
      | nrm => exact hx
      | ret => exact hx
      | pan d => exact hx
      | ext i =>
        show (if i = b1 then _ else _)
        have hx' : (if i = b1 then wpD P G M (.region r2 ops2 false) (thenD A (blockD b0 Q)) tl hl df else blockD b0 Q (.ext i) tl hl df) := hx
        split
        · rename_i hi; rw [if_pos hi] at hx'; exact hx'
        · rename_i hi; rw [if_neg hi] at hx'; exact hx'
  · have hkn : k = n := by have : ¬ ((k : Int) < n) := by simpa using hk
                           omega
    subst hkn
    refine wpD_exit ?_
    rw [hk]
    show (if b0 = b0 then _ else _)
    rw [if_pos rfl]
    exact he ys hl' hIk
end
end Go.Proofs.Ytbjgdeednmhpfaa
