/-
  Statements, on data: wpS, in the text's order; wpT, in whatever order.
-/
import Derived.Test.YtbjgdeednmhpfaaDev
set_option linter.unusedSimpArgs false
set_option linter.unusedVariables false
namespace Go.Proofs.Ytbjgdeednmhpfaa
open Go.RowKit

inductive Out where
  | ret (d : D)
  | pan (d : D)

def OutM (ρ : Rho) (w : World) : Out → Ending → Prop
  | .ret d, e => ∃ u, e = .returned u ∧ Rp ρ w d u
  | .pan d, e => ∃ u, e = .panicked (thrown u) ∧ Rp ρ w d u

/-- a call does so -/
def CallOK (P : Program) (G : Nat → Option D) (f : FuncId) (args : List D) (h : Nat → HO) (out : Out) (rd : List Nat) (up : List (Nat × HO)) : Prop :=
  ∀ (ρ : Rho) (w : World) (H : Nat → HO) (vs : List Value), Rel G ρ w H → (∀ r, r ∈ rd → H r = h r) → RpL ρ w args vs → (callFunc f vs.toArray).run P w = .ok (.enter f vs.toArray) w ∧
    Calls P f vs.toArray w fun e w' => ∃ ρ', Rel G ρ' w' (updL H up) ∧ Ex ρ w H ρ' w' (updL H up) ∧ OutM ρ' w' out e

section
variable {P : Program} {G : Nat → Option D} {ρ : Rho} {w : World} {H h : Nat → HO} {T : TypeId → Ty} {v : Operand → Value} {e : Operand → D} {o : Oper} {nx : Nat}

theorem evOp_call {f : FuncId} {args : List D} (hev : evOp T e h nx o = some (.call f args)) (hop : ∀ x, x ∈ o.op.operands.toList → Rp ρ w (e x) (v x)) :
    ∃ vs : List Value, RpL ρ w args vs ∧ ∀ w, (execOp v o).run P w = (callFunc f vs.toArray).run P w := by
  unfold evOp at hev
  cases ho : o.op <;> rw [ho] at hev hop <;> try dsimp only at hev
  case call c =>
    split at hev
    · repeat' (first | (cases hev; done) | split at hev)
    · repeat' (first | (cases hev; done) | split at hev)
    · repeat' (first | (cases hev; done) | split at hev)
    · repeat' (first | (cases hev; done) | split at hev)
    · rename_i fo hcal
      split at hev
      · rename_i g a b hf
        cases hev
        have hfo := hop fo (by simp [Op.operands, Call.operands, hcal])
        rw [hf, Rp] at hfo
        obtain ⟨us, vs, hv, h1, h2⟩ := hfo
        have hargs : RpL ρ w (c.args.toList.map e) (c.args.toList.map v) := RpL_map fun x hx => hop x (by simp [Op.operands, Call.operands]; right; simpa using hx)
        refine ⟨us ++ c.args.toList.map v ++ vs, (h1.append hargs).append h2, fun w => ?_⟩
        simp only [execOp, ho, resolve, hcal, hv, Deferred.ofValue, Sem.run_bind, Sem.run_pure, Result.andThen_ok, invoke]
        congr 2
        apply Array.ext'
        simp
      · cases hev
    · cases hev
  case makeMap t r => cases r <;> dsimp only at hev <;> (repeat' (first | (cases hev; done) | split at hev))
  all_goals (repeat' (first | (cases hev; done) | (simp only [Option.bind_eq_some_iff] at hev; obtain ⟨_, _, hev⟩ := hev) | split at hev))

theorem evOp_pan {d : D} (hev : evOp T e h nx o = some (.pan d)) (hop : ∀ x, x ∈ o.op.operands.toList → Rp ρ w (e x) (v x)) : ∃ u, Rp ρ w d u ∧ (execOp v o).run P w = .halt (.panic u) w := by
  unfold evOp at hev
  cases ho : o.op <;> rw [ho] at hev hop <;> try dsimp only at hev
  case panic x =>
    split at hev
    · rename_i t d' hx
      cases hev
      have := hop x (by simp [Op.operands])
      rw [hx] at this
      refine ⟨v x, this, ?_⟩
      rw [Rp] at this
      obtain ⟨u, hv, -⟩ := this
      simp [execOp, ho, hv, Instr.panic, goPanic]
    · cases hev
  case makeMap t r => cases r <;> dsimp only at hev <;> (repeat' (first | (cases hev; done) | split at hev))
  all_goals (repeat' (first | (cases hev; done) | (simp only [Option.bind_eq_some_iff] at hev; obtain ⟨_, _, hev⟩ := hev) | split at hev))

theorem evOp_dfr {f : FuncId} {cap : List D} (hev : evOp T e h nx o = some (.dfr f cap)) (hop : ∀ x, x ∈ o.op.operands.toList → Rp ρ w (e x) (v x)) :
    ∃ vs : List Value, RpL ρ w cap vs ∧ (execOp v o).run P w = .ok (.defer { target := .fn (.func f) vs.toArray, args := #[] }) w := by
  unfold evOp at hev
  cases ho : o.op <;> rw [ho] at hev hop <;> try dsimp only at hev
  case defer c =>
    split at hev
    · rename_i fo hcal
      split at hev
      · rename_i g b hf
        split at hev
        · rename_i hemp
          cases hev
          have hfo := hop fo (by simp [Op.operands, Call.operands, hcal])
          rw [hf, Rp] at hfo
          obtain ⟨us, vs, hv, h1, h2⟩ := hfo
          rw [RpL_nil] at h1
          subst h1
          refine ⟨vs, h2, ?_⟩
          have hnil : c.args = #[] := by
            apply Array.ext'
            simpa using hemp
          simp [execOp, ho, resolve, hcal, hv, Deferred.ofValue, hnil]
        · cases hev
      · cases hev
    · cases hev
  case makeMap t r => cases r <;> dsimp only at hev <;> (repeat' (first | (cases hev; done) | split at hev))
  all_goals (repeat' (first | (cases hev; done) | (simp only [Option.bind_eq_some_iff] at hev; obtain ⟨_, _, hev⟩ := hev) | split at hev))
end

/-- is it to come up? -/
def wantD (ops : Array Oper) (tm : Nat → D) (o : Oper) : Option Bool :=
  match o.guard with
  | none => some true
  | some (j, want) => match dstOf ops j with
    | none => none
    | some t => match tm t with
      | .bool b => some (b == want)
      | .tuple [] => some false
      | _ => none

theorem wantD_spec {ops : Array Oper} {tm : Nat → D} {o : Oper} {b : Bool} (h : wantD ops tm o = some b) {ρ : Rho} {w : World} {a : Act} (hu : ∀ t, t ∈ Oper.looksAt ops o → Rp ρ w (tm t) (a.tmps.getD t undef)) : Region.wanted o (yielded ops a.tmps) = b := by
  unfold wantD at h
  unfold Region.wanted
  cases hg : o.guard with
  | none => rw [hg] at h; cases h; rfl
  | some gw =>
    obtain ⟨j, want⟩ := gw
    rw [hg] at h
    dsimp only at h ⊢
    cases hd : dstOf ops j with
    | none => rw [hd] at h; cases h
    | some t =>
      rw [hd] at h
      dsimp only at h
      have hdd : (ops[j]?).bind (·.dst) = some t := hd
      have ht := hu t (by unfold Oper.looksAt; rw [hg]; simp [hdd])
      unfold yielded
      rw [hdd]
      simp only [Option.bind_some]
      split at h
      · rename_i b' hb
        cases h
        rw [hb, Rp] at ht
        have : a.tmps[t]? = some (.bool b') := by
          rw [Array.getD_eq_getD_getElem?] at ht
          cases hq : a.tmps[t]? with
          | none => rw [hq] at ht; simp [undef] at ht
          | some x => rw [hq] at ht; simpa using ht
        rw [this]
        cases b' <;> cases want <;> rfl
      · rename_i hb
        cases h
        rw [hb, Rp] at ht
        obtain ⟨us, ht, hus⟩ := ht
        rw [RpL_nil] at hus
        subst hus
        rw [Array.getD_eq_getD_getElem?] at ht
        cases hq : a.tmps[t]? with
        | none => simp
        | some x => rw [hq] at ht; simp at ht; subst ht; simp
      · cases h

/-- temporaries, objects, as lists -/
def tmOf (tl : List D) : Nat → D := fun t => tl.getD t .junk
def hOf (hl : List HO) : Nat → HO := fun i => hl.getD i .free
def putS (tl : List D) : Option Tmp → D → List D
  | none, _ => tl
  | some t, d => tl.set t d
def setS (hl : List HO) (n : Nat) (x : HO) : List HO := if n < hl.length then hl.set n x else hl ++ List.replicate (n - hl.length) .free ++ [x]
def updS (hl : List HO) : List (Nat × HO) → List HO
  | [] => hl
  | (n, x) :: r => updS (setS hl n x) r

theorem hOf_set (hl : List HO) (n : Nat) (x : HO) : hOf (setS hl n x) = setH (hOf hl) n x := by
  funext i
  unfold hOf setS setH
  split
  · rename_i h
    by_cases hi : i = n
    · subst hi; simp [List.getD, h]
    · simp [List.getD, hi, List.getElem?_set_ne (Ne.symm hi)]
  · rename_i h
    by_cases hi : i = n
    · subst hi
      have : i - hl.length + (hl.length - i) = i - hl.length := by omega
      simp only [List.getD, if_true]
      rw [List.getElem?_append_right (by simp; omega)]
      have e : i - (hl ++ List.replicate (i - hl.length) HO.free).length = 0 := by simp; omega
      rw [e]; rfl
    · simp only [hi, if_false, List.getD]
      by_cases h1 : i < hl.length
      · rw [List.append_assoc, List.getElem?_append_left h1]
      · rw [List.getElem?_eq_none (Nat.le_of_not_lt h1)]
        by_cases h2 : i < n
        · rw [List.getElem?_append_left (by simp; omega), List.getElem?_append_right (by omega), List.getElem?_replicate]
          have : i - hl.length < n - hl.length := by omega
          simp [this]
        · rw [List.getElem?_eq_none (by simp; omega)]
theorem hOf_upd : ∀ (up : List (Nat × HO)) (hl : List HO), hOf (updS hl up) = updL (hOf hl) up
  | [], _ => rfl
  | (n, x) :: r, hl => by rw [updS, updL, hOf_upd r, hOf_set]

theorem putS_length (tl : List D) (dst : Option Tmp) (d : D) : (putS tl dst d).length = tl.length := by cases dst <;> simp [putS]

/-- one operation's part -/
def wpOne (P : Program) (ops : Array Oper) (Q : Exit → Act → World → Prop) (o : Oper) (K : Act → World → Prop) (a : Act) (w : World) : Prop :=
  if Region.wanted o (yielded ops a.tmps) then o.wp P a w K Q ∨ (o.asks P a w ∧ LetsOut Q) else K (a.put o.dst undef) w

theorem wpOp_one {P : Program} {ops : Array Oper} {Q : Exit → Act → World → Prop} {i : Nat} {o : Oper} (ho : ops[i]? = some o) {K : Act → World → Prop} {a : Act} {w : World} (h : wpOne P ops Q o K a w) : wpOp P ops Q i K a w := by
  unfold wpOp
  rw [ho]
  exact h

section
variable {P : Program} {G : Nat → Option D} {Q : Exit → Act → World → Prop} {ops : Array Oper} {T : TypeId → Ty} {o : Oper} {tm : Nat → D} {h : Nat → HO} {nx : Nat}

theorem opD_rp {ρ : Rho} {w : World} {H : Nat → HO} {a : Act} (hR : Rel G ρ w H) (hu : ∀ t, t ∈ Oper.looksAt ops o → Rp ρ w (tm t) (a.tmps.getD t undef)) (x : Operand) (hx : x ∈ o.op.operands.toList) : Rp ρ w (opD G tm x) (a.eval x) := by
  cases x with
  | tmp t =>
    refine hu t ?_
    unfold Oper.looksAt
    exact List.mem_append_left _ (List.mem_filterMap.2 ⟨.tmp t, hx, rfl⟩)
  | const v => exact Rp_ofV ρ w v
  | global g =>
    show Rp ρ w (match G g with | some d => .ref d | none => .junk) _
    cases hg : G g with
    | none => rw [Rp]; trivial
    | some d => exact Rp_ref.2 ⟨g, 0, rfl, hR.glob g d hg⟩
  | func f => show Rp ρ w (.fn (.func f) [] []) _; rw [Rp]; exact ⟨[], [], rfl, RpL_nil.2 rfl, RpL_nil.2 rfl⟩

theorem one_val (hT : ∀ t, TyOK P t (T t)) (hw : wantD ops tm o = some true) {d : D} {rd : List Nat} {up : List (Nat × HO)} (hev : evOp T (opD G tm) h nx o = some (.val d rd up)) {ρ : Rho} {w : World} {a : Act} {H : Nat → HO} (hR : Rel G ρ w H) (hH : ∀ r, r ∈ rd → H r = h r)
    (hu : ∀ t, t ∈ Oper.looksAt ops o → Rp ρ w (tm t) (a.tmps.getD t undef)) {K : Act → World → Prop} (hK : ∀ u ρ' w', Rp ρ' w' d u → Rel G ρ' w' (updL H up) → Ex ρ w H ρ' w' (updL H up) → K (a.put o.dst u) w') : wpOne P ops Q o K a w := by
  unfold wpOne
  rw [wantD_spec hw hu, if_pos rfl]
  obtain ⟨n, u, ρ', w', h1, h2, h3, h4, h5⟩ := evOp_val hT hev hR hH (fun x hx => opD_rp hR hu x hx)
  left
  unfold Oper.wp
  rw [h1]
  rcases h2 with rfl | ⟨rfl, rfl⟩
  · exact hK u ρ' w' h3 h4 h5
  · exact hK undef ρ' w' h3 h4 h5

theorem one_off (hw : wantD ops tm o = some false) {ρ : Rho} {w : World} {a : Act} {H : Nat → HO} (hR : Rel G ρ w H) (hu : ∀ t, t ∈ Oper.looksAt ops o → Rp ρ w (tm t) (a.tmps.getD t undef)) {K : Act → World → Prop}
    (hK : ∀ u ρ' w', Rp ρ' w' (.tuple []) u → Rel G ρ' w' (updL H []) → Ex ρ w H ρ' w' (updL H []) → K (a.put o.dst u) w') : wpOne P ops Q o K a w := by
  unfold wpOne
  rw [wantD_spec hw hu, if_neg (by simp)]
  exact hK undef ρ w (by rw [Rp]; exact ⟨[], rfl, RpL_nil.2 rfl⟩) hR (Ex.refl _ _ _)

theorem one_call (hw : wantD ops tm o = some true) {f : FuncId} {args : List D} {d : D} {rd : List Nat} {up : List (Nat × HO)} (hev : evOp T (opD G tm) h nx o = some (.call f args)) (hc : CallOK P G f args h (.ret d) rd up) {ρ : Rho} {w : World} {a : Act} {H : Nat → HO} (hR : Rel G ρ w H)
    (hH : ∀ r, r ∈ rd → H r = h r) (hu : ∀ t, t ∈ Oper.looksAt ops o → Rp ρ w (tm t) (a.tmps.getD t undef)) {K : Act → World → Prop} (hK : ∀ u ρ' w', Rp ρ' w' d u → Rel G ρ' w' (updL H up) → Ex ρ w H ρ' w' (updL H up) → K (a.put o.dst u) w') : wpOne P ops Q o K a w := by
  unfold wpOne
  rw [wantD_spec hw hu, if_pos rfl]
  obtain ⟨vs, h1, h2⟩ := evOp_call (P := P) (ρ := ρ) (w := w) (v := a.eval) hev (fun x hx => opD_rp hR hu x hx)
  obtain ⟨h3, h4⟩ := hc ρ w H vs hR hH h1
  left
  unfold Oper.wp
  rw [h2 w, h3, Oper.upon_enter]
  refine h4.mono ?_
  rintro e w' ⟨ρ', g1, g2, u, rfl, g3⟩
  exact hK u ρ' w' g3 g1 g2

theorem one_call_pan (hw : wantD ops tm o = some true) {f : FuncId} {args : List D} {d : D} {rd : List Nat} {up : List (Nat × HO)} (hev : evOp T (opD G tm) h nx o = some (.call f args)) (hc : CallOK P G f args h (.pan d) rd up) {ρ : Rho} {w : World} {a : Act} {H : Nat → HO} (hR : Rel G ρ w H)
    (hH : ∀ r, r ∈ rd → H r = h r) (hu : ∀ t, t ∈ Oper.looksAt ops o → Rp ρ w (tm t) (a.tmps.getD t undef)) {K : Act → World → Prop} (hK : ∀ u ρ' w', Rp ρ' w' d u → Rel G ρ' w' (updL H up) → Ex ρ w H ρ' w' (updL H up) → Q (.panic (thrown u)) a w') : wpOne P ops Q o K a w := by
  unfold wpOne
  rw [wantD_spec hw hu, if_pos rfl]
  obtain ⟨vs, h1, h2⟩ := evOp_call (P := P) (ρ := ρ) (w := w) (v := a.eval) hev (fun x hx => opD_rp hR hu x hx)
  obtain ⟨h3, h4⟩ := hc ρ w H vs hR hH h1
  left
  unfold Oper.wp
  rw [h2 w, h3, Oper.upon_enter]
  refine h4.mono ?_
  rintro e w' ⟨ρ', g1, g2, u, rfl, g3⟩
  exact hK u ρ' w' g3 g1 g2

theorem one_pan (hw : wantD ops tm o = some true) {d : D} (hev : evOp T (opD G tm) h nx o = some (.pan d)) {ρ : Rho} {w : World} {a : Act} {H : Nat → HO} (hR : Rel G ρ w H)
    (hu : ∀ t, t ∈ Oper.looksAt ops o → Rp ρ w (tm t) (a.tmps.getD t undef)) {K : Act → World → Prop} (hK : ∀ u ρ' w', Rp ρ' w' d u → Rel G ρ' w' (updL H []) → Ex ρ w H ρ' w' (updL H []) → Q (.panic (thrown u)) a w') : wpOne P ops Q o K a w := by
  unfold wpOne
  rw [wantD_spec hw hu, if_pos rfl]
  obtain ⟨u, h1, h2⟩ := evOp_pan (P := P) (ρ := ρ) (w := w) (v := a.eval) hev (fun x hx => opD_rp hR hu x hx)
  left
  unfold Oper.wp
  rw [h2, Oper.upon_panic]
  exact hK u ρ w h1 hR (Ex.refl _ _ _)
end
end Go.Proofs.Ytbjgdeednmhpfaa
