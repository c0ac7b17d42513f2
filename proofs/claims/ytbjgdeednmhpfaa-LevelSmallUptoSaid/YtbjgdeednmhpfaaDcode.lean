/-
  Code, on data: wpD. What a function does: Spec.
-/
import Derived.Test.YtbjgdeednmhpfaaDwp
set_option linter.unusedSimpArgs false
set_option linter.unusedVariables false
namespace Go.Proofs.Ytbjgdeednmhpfaa
open Go.RowKit

/-- how a piece of code ends -/
inductive DX where
  | nrm | ret
  | ext (id : Nat)
  | pan (d : D)

def DXM (ρ : Rho) (w : World) : DX → Exit → Prop
  | .nrm, e => e = .normal
  | .ret, e => e = .ret
  | .ext i, e => e = .exit i
  | .pan d, e => ∃ u, e = .panic (thrown u) ∧ Rp ρ w d u

abbrev Df := List (FuncId × List D)
abbrev DQ := DX → List D → List HO → Df → Prop

section
variable (P : Program) (G : Nat → Option D) (T : TypeId → Ty) (ops : Array Oper)

/-- a call does one of such things -/
def CallR (f : FuncId) (args : List D) (H : Nat → HO) (Φ : Out → List (Nat × HO) → Prop) : Prop :=
  ∀ (ρ : Rho) (w : World) (vs : List Value), Rel G ρ w H → RpL ρ w args vs → (callFunc f vs.toArray).run P w = .ok (.enter f vs.toArray) w ∧
    Calls P f vs.toArray w fun e w' => ∃ ρ' out up, Φ out up ∧ Rel G ρ' w' (updL H up) ∧ Ex ρ w H ρ' w' (updL H up) ∧ OutM ρ' w' out e

/-- calls, as a goal -/
def CallX (f : FuncId) (args : List D) (hl : List HO) (K : Out → List HO → Prop) : Prop := ∃ Φ : Out → List (Nat × HO) → Prop, CallR P G f args (hOf hl) Φ ∧ ∀ out up, Φ out up → K out (updS hl up)

/-- a statement in the text's order -/
def wpS : List Oper → List D → List HO → Df → (List D → List HO → Df → Prop) → (D → List D → List HO → Df → Prop) → Prop
  | [], tl, hl, df, K, _ => K tl hl df
  | o :: r, tl, hl, df, K, QP => match wantD ops (tmOf tl) o with
    | none => False
    | some g => if g then match evOp T (opD G (tmOf tl)) (hOf hl) hl.length o with
        | some (.val d _ up) => wpS r (putS tl o.dst d) (updS hl up) df K QP
        | some (.call f args) => CallX P G f args hl fun out hl' => match out with
          | .ret d => wpS r (putS tl o.dst d) hl' df K QP
          | .pan d => QP d tl hl' df
        | some (.pan d) => QP d tl hl df
        | some (.dfr f cap) => wpS r (putS tl o.dst (.tuple [])) hl ((f, cap) :: df) K QP
        | none => False
      else wpS r (putS tl o.dst (.tuple [])) hl df K QP

/-- behind a call -/
def wpAft (r : List Oper) (tl : List D) (dst : Option Tmp) (df : Df) (K : List D → List HO → Df → Prop) (QP : D → List D → List HO → Df → Prop) (out : Out) (hl : List HO) : Prop :=
  match out with
  | .ret d => wpS P G T ops r (putS tl dst d) hl df K QP
  | .pan d => QP d tl hl df
theorem wpAft_ret (r : List Oper) (tl : List D) (dst : Option Tmp) (df : Df) (K : List D → List HO → Df → Prop) (QP : D → List D → List HO → Df → Prop) (d : D) (hl : List HO) : wpAft P G T ops r tl dst df K QP (.ret d) hl = wpS P G T ops r (putS tl dst d) hl df K QP := rfl
theorem wpAft_pan (r : List Oper) (tl : List D) (dst : Option Tmp) (df : Df) (K : List D → List HO → Df → Prop) (QP : D → List D → List HO → Df → Prop) (d : D) (hl : List HO) : wpAft P G T ops r tl dst df K QP (.pan d) hl = QP d tl hl df := rfl

theorem wpS_nil (tl : List D) (hl : List HO) (df : Df) (K : List D → List HO → Df → Prop) (QP : D → List D → List HO → Df → Prop) : wpS P G T ops [] tl hl df K QP = K tl hl df := rfl
theorem wpS_cons (o : Oper) (r : List Oper) (tl : List D) (hl : List HO) (df : Df) (K : List D → List HO → Df → Prop) (QP : D → List D → List HO → Df → Prop) : wpS P G T ops (o :: r) tl hl df K QP = match wantD ops (tmOf tl) o with
    | none => False
    | some g => if g then match evOp T (opD G (tmOf tl)) (hOf hl) hl.length o with
        | some (.val d _ up) => wpS P G T ops r (putS tl o.dst d) (updS hl up) df K QP
        | some (.call f args) => CallX P G f args hl (wpAft P G T ops r tl o.dst df K QP)
        | some (.pan d) => QP d tl hl df
        | some (.dfr f cap) => wpS P G T ops r (putS tl o.dst (.tuple [])) hl ((f, cap) :: df) K QP
        | none => False
      else wpS P G T ops r (putS tl o.dst (.tuple [])) hl df K QP := rfl
end

/-- what comes behind a call that ended so -/
def aftE (Q : Exit → Act → World → Prop) (dst : Option Tmp) (K : Act → World → Prop) (a : Act) (w : World) : Ending → Prop
  | .returned u => K (a.put dst u) w
  | .panicked ch => Q (.panic ch) a w
  | _ => False

theorem one_callR {P : Program} {G : Nat → Option D} {Q : Exit → Act → World → Prop} {ops : Array Oper} {T : TypeId → Ty} {o : Oper} {tm : Nat → D} {h : Nat → HO} {nx : Nat} (hw : wantD ops tm o = some true) {f : FuncId} {args : List D} {Φ : Out → List (Nat × HO) → Prop}
    (hev : evOp T (opD G tm) h nx o = some (.call f args)) (hc : CallR P G f args h Φ) {ρ : Rho} {w : World} {a : Act} (hR : Rel G ρ w h) (hu : ∀ t, t ∈ Oper.looksAt ops o → Rp ρ w (tm t) (a.tmps.getD t undef)) {K : Act → World → Prop}
    (hK : ∀ out e up ρ' w', Φ out up → Rel G ρ' w' (updL h up) → Ex ρ w h ρ' w' (updL h up) → OutM ρ' w' out e → aftE Q o.dst K a w' e) : wpOne P ops Q o K a w := by
  unfold wpOne
  rw [wantD_spec hw hu, if_pos rfl]
  obtain ⟨vs, h1, h2⟩ := evOp_call (P := P) (ρ := ρ) (w := w) (v := a.eval) hev (fun x hx => opD_rp hR hu x hx)
  obtain ⟨h3, h4⟩ := hc ρ w vs hR h1
  left
  unfold Oper.wp
  rw [h2 w, h3, Oper.upon_enter]
  refine h4.mono ?_
  rintro e w' ⟨ρ', out, up, hphi, g1, g2, g3⟩
  have := hK out e up ρ' w' hphi g1 g2 g3
  cases out with
  | ret d => obtain ⟨u, rfl, -⟩ := g3; exact this
  | pan d => obtain ⟨u, rfl, -⟩ := g3; exact this

def LiftQ (G : Nat → Option D) (ρ0 : Rho) (w0 : World) (H0 : Nat → HO) (nt : Nat) (Q : DQ) : Exit → Act → World → Prop := fun e a w =>
  ∃ x tl hl df ρ, Q x tl hl df ∧ DXM ρ w x e ∧ tl.length = nt ∧ InSt G ρ0 w0 H0 nt ρ w a (tmOf tl) (hOf hl) df

/-- code, on data -/
def wpD (P : Program) (G : Nat → Option D) (M : Nat) (c : Code) (Q : DQ) (tl : List D) (hl : List HO) (df : Df) : Prop :=
  ∀ (ρ0 : Rho) (w0 : World) (H0 : Nat → HO) (ρ : Rho) (w : World) (a : Act), (∀ i, M ≤ i → ρ0.nm i = none) → InSt G ρ0 w0 H0 tl.length ρ w a (tmOf tl) (hOf hl) df → c.wp P (LiftQ G ρ0 w0 H0 tl.length Q) a w

section
variable {P : Program} {G : Nat → Option D} {T : TypeId → Ty} {ops : Array Oper} {M : Nat}

theorem tmOf_put {tl : List D} {dst : Option Tmp} {d : D} {ρ ρ' : Rho} {w w' : World} {a : Act} {u : Value} (hs : a.tmps.size = tl.length) (g : Grow ρ w ρ' w') (h : ∀ k, Rp ρ w (tmOf tl k) (a.tmps.getD k undef)) (hu : Rp ρ' w' d u) :
    ∀ k, Rp ρ' w' (tmOf (putS tl dst d) k) ((a.put dst u).tmps.getD k undef) := fun k => by
  cases dst with
  | none => exact Rp.grow g _ _ (h k)
  | some t =>
    by_cases hk : t = k
    · subst hk
      by_cases hlt : t < tl.length
      · rw [Act.put_same (by rw [hs]; exact hlt)]
        have : tmOf (putS tl (some t) d) t = d := by simp [tmOf, putS, hlt]
        rw [this]; exact hu
      · have : tmOf (putS tl (some t) d) t = .junk := by
          have hn : (tl.set t d)[t]? = none := List.getElem?_eq_none (by rw [List.length_set]; exact Nat.le_of_not_lt hlt)
          show (tl.set t d).getD t .junk = .junk
          rw [List.getD_eq_getElem?_getD, hn]; rfl
        rw [this, Rp]; trivial
    · rw [Act.put_ne (fun e => hk (Option.some.inj e))]
      have : tmOf (putS tl (some t) d) k = tmOf tl k := by
        unfold tmOf putS
        rw [List.getD_eq_getElem?_getD, List.getD_eq_getElem?_getD, List.getElem?_set_ne hk]
      rw [this]; exact Rp.grow g _ _ (h k)

theorem InSt.put {ρ0 ρ ρ' : Rho} {w0 w w' : World} {H0 : Nat → HO} {tl : List D} {hl : List HO} {df : Df} {a : Act} {d : D} {u : Value} {up : List (Nat × HO)} (h : InSt G ρ0 w0 H0 tl.length ρ w a (tmOf tl) (hOf hl) df) (dst : Option Tmp)
    (hu : Rp ρ' w' d u) (hR : Rel G ρ' w' (updL (hOf hl) up)) (hE : Ex ρ w (hOf hl) ρ' w' (updL (hOf hl) up)) : InSt G ρ0 w0 H0 (putS tl dst d).length ρ' w' (a.put dst u) (tmOf (putS tl dst d)) (hOf (updS hl up)) df := by
  rw [hOf_upd]
  refine ⟨hR, h.ex.trans hE, tmOf_put h.size hE.grow h.tmp hu, by rw [Act.put_size, putS_length]; exact h.size, ?_⟩
  have := h.df.grow hE.grow
  cases dst <;> simpa [Act.put] using this

theorem wpS_sound (hT : ∀ t, TyOK P t (T t)) {ρ0 : Rho} {w0 : World} {H0 : Nat → HO} {Q : Exit → Act → World → Prop} : ∀ (l : List Oper) (tl : List D) (hl : List HO) (df : Df) (K : List D → List HO → Df → Prop) (QP : D → List D → List HO → Df → Prop), wpS P G T ops l tl hl df K QP →
    (∀ tl' hl' df' ρ w a, K tl' hl' df' → tl'.length = tl.length → InSt G ρ0 w0 H0 tl.length ρ w a (tmOf tl') (hOf hl') df' → Q .normal a w) →
    (∀ d u tl' hl' df' ρ w a, QP d tl' hl' df' → tl'.length = tl.length → InSt G ρ0 w0 H0 tl.length ρ w a (tmOf tl') (hOf hl') df' → Rp ρ w d u → Q (.panic (thrown u)) a w) →
    ∀ ρ w a, InSt G ρ0 w0 H0 tl.length ρ w a (tmOf tl) (hOf hl) df → wpList P ops Q l a w
  | [], tl, hl, df, K, QP, h, hK, hP, ρ, w, a, hst => hK tl hl df ρ w a h rfl hst
  | o :: r, tl, hl, df, K, QP, h, hK, hP, ρ, w, a, hst => by
    show wpOne P ops Q o (wpList P ops Q r) a w
    have hu : ∀ t, t ∈ Oper.looksAt ops o → Rp ρ w (tmOf tl t) (a.tmps.getD t undef) := fun t _ => hst.tmp t
    rw [wpS] at h
    cases hw : wantD ops (tmOf tl) o with
    | none => rw [hw] at h; exact h.elim
    | some g =>
      rw [hw] at h
      dsimp only at h
      cases g with
      | false =>
        simp only [Bool.false_eq_true, if_false] at h
        refine one_off hw hst.rel hu fun u ρ' w' h1 h2 h3 => ?_
        refine wpS_sound hT r _ _ _ K QP h (fun tl' hl' df' ρ w a k1 k2 k3 => ?_) (fun d u tl' hl' df' ρ w a k1 k2 k3 k4 => ?_) ρ' w' _ (hst.put o.dst h1 h2 h3)
        · rw [putS_length] at k2 k3; exact hK _ _ _ _ _ _ k1 k2 k3
        · rw [putS_length] at k2 k3; exact hP _ _ _ _ _ _ _ _ k1 k2 k3 k4
      | true =>
        simp only [if_true] at h
        cases hev : evOp T (opD G (tmOf tl)) (hOf hl) hl.length o with
        | none => rw [hev] at h; exact h.elim
        | some x =>
          rw [hev] at h
          cases x with
          | val d rd up =>
            dsimp only at h
            refine one_val hT hw hev hst.rel (fun _ _ => rfl) hu fun u ρ' w' h1 h2 h3 => ?_
            refine wpS_sound hT r _ _ _ K QP h (fun tl' hl' df' ρ w a k1 k2 k3 => ?_) (fun d u tl' hl' df' ρ w a k1 k2 k3 k4 => ?_) ρ' w' _ (hst.put o.dst h1 h2 h3)
            · rw [putS_length] at k2 k3; exact hK _ _ _ _ _ _ k1 k2 k3
            · rw [putS_length] at k2 k3; exact hP _ _ _ _ _ _ _ _ k1 k2 k3 k4
          | call f args =>
            dsimp only at h
            obtain ⟨Φ, hc, h0⟩ := h
            refine one_callR hw hev hc hst.rel hu fun out e up ρ' w' hphi h2 h3 hout => ?_
            have h := h0 out up hphi
            cases out with
            | ret d =>
              obtain ⟨u, rfl, h1⟩ := hout
              dsimp only at h ⊢
              refine wpS_sound hT r _ _ _ K QP h (fun tl' hl' df' ρ w a k1 k2 k3 => ?_) (fun d u tl' hl' df' ρ w a k1 k2 k3 k4 => ?_) ρ' w' _ (hst.put o.dst h1 h2 h3)
              · rw [putS_length] at k2 k3; exact hK _ _ _ _ _ _ k1 k2 k3
              · rw [putS_length] at k2 k3; exact hP _ _ _ _ _ _ _ _ k1 k2 k3 k4
            | pan d =>
              obtain ⟨u, rfl, h1⟩ := hout
              dsimp only at h ⊢
              refine hP d u tl (updS hl up) df ρ' w' a h rfl ?_ h1
              rw [hOf_upd]
              exact ⟨h2, hst.ex.trans h3, fun k => Rp.grow h3.grow _ _ (hst.tmp k), hst.size, hst.df.grow h3.grow⟩
          | pan d =>
            dsimp only at h
            refine one_pan hw hev hst.rel hu fun u ρ' w' h1 h2 h3 => ?_
            exact hP d u tl hl df ρ' w' a h rfl ⟨h2, hst.ex.trans h3, fun k => Rp.grow h3.grow _ _ (hst.tmp k), hst.size, hst.df.grow h3.grow⟩ h1
          | dfr f cap =>
            dsimp only at h
            unfold wpOne
            rw [wantD_spec hw hu, if_pos rfl]
            obtain ⟨vs, h1, h2⟩ := evOp_dfr (P := P) (ρ := ρ) (w := w) (v := a.eval) hev (fun x hx => opD_rp hst.rel hu x hx)
            left
            unfold Oper.wp
            rw [h2, Oper.upon_defer]
            have hst2 : InSt G ρ0 w0 H0 (putS tl o.dst (.tuple [])).length ρ w ({ a with defers := { target := .fn (.func f) vs.toArray, args := #[] } :: a.defers }.put o.dst undef) (tmOf (putS tl o.dst (.tuple []))) (hOf hl) ((f, cap) :: df) := by
              refine ⟨hst.rel, hst.ex, ?_, by rw [Act.put_size, putS_length]; exact hst.size, ?_⟩
              · exact tmOf_put (a := { a with defers := { target := .fn (.func f) vs.toArray, args := #[] } :: a.defers }) hst.size (Grow.refl _ _) hst.tmp (by rw [Rp]; exact ⟨[], rfl, RpL_nil.2 rfl⟩)
              · have : DfM ρ w ({ target := .fn (.func f) vs.toArray, args := #[] } :: a.defers) ((f, cap) :: df) := ⟨vs, a.defers, rfl, h1, hst.df⟩
                cases o.dst <;> simpa [Act.put] using this
            refine wpS_sound hT r _ _ _ K QP h (fun tl' hl' df' ρ w a k1 k2 k3 => ?_) (fun d u tl' hl' df' ρ w a k1 k2 k3 k4 => ?_) ρ w _ hst2
            · rw [putS_length] at k2 k3; exact hK _ _ _ _ _ _ k1 k2 k3
            · rw [putS_length] at k2 k3; exact hP _ _ _ _ _ _ _ _ k1 k2 k3 k4

variable {Q : DQ} {tl : List D} {hl : List HO} {df : Df}

theorem wpD_region (hT : ∀ t, TyOK P t (T t)) {id : Nat} (h : wpS P G T ops ops.toList tl hl df (fun tl hl df => Q .nrm tl hl df) (fun d tl hl df => Q (.pan d) tl hl df)) : wpD P G M (.region id ops false) Q tl hl df :=
  fun ρ0 w0 H0 ρ w a hbs hst => wp_region_list (wpS_sound hT _ _ _ _ _ _ h (fun tl' hl' df' ρ w a k1 k2 k3 => ⟨.nrm, tl', hl', df', ρ, k1, rfl, k2, k3⟩) (fun d u tl' hl' df' ρ w a k1 k2 k3 k4 => ⟨.pan d, tl', hl', df', ρ, k1, ⟨u, rfl, k4⟩, k2, k3⟩) ρ w a hst)

theorem wpD_skip (h : Q .nrm tl hl df) : wpD P G M .skip Q tl hl df := fun ρ0 w0 H0 ρ w a hbs hst => wp_skip ⟨.nrm, tl, hl, df, ρ, h, rfl, rfl, hst⟩
theorem wpD_ret (h : Q .ret tl hl df) : wpD P G M .ret Q tl hl df := fun ρ0 w0 H0 ρ w a hbs hst => wp_ret ⟨.ret, tl, hl, df, ρ, h, rfl, rfl, hst⟩
theorem wpD_exit {id : Nat} (h : Q (.ext id) tl hl df) : wpD P G M (.exit id) Q tl hl df := fun ρ0 w0 H0 ρ w a hbs hst => wp_exit ⟨.ext id, tl, hl, df, ρ, h, rfl, rfl, hst⟩

def thenD (next : List D → List HO → Df → Prop) (Q : DQ) : DQ
  | .nrm, tl, hl, df => next tl hl df
  | x, tl, hl, df => Q x tl hl df

theorem wpD_mono {c : Code} {Q' : DQ} (h : wpD P G M c Q tl hl df) (hq : ∀ x tl hl df, Q x tl hl df → Q' x tl hl df) : wpD P G M c Q' tl hl df := fun ρ0 w0 H0 ρ w a hbs hst =>
  wp_mono (h ρ0 w0 H0 ρ w a hbs hst) fun e a w ⟨x, tl, hl, df, ρ, h1, h2⟩ => ⟨x, tl, hl, df, ρ, hq _ _ _ _ h1, h2⟩

theorem wpD_seq {x y : Code} (h : wpD P G M x (thenD (fun tl hl df => wpD P G M y Q tl hl df) Q) tl hl df) : wpD P G M (.seq x y) Q tl hl df := fun ρ0 w0 H0 ρ w a hbs hst =>
  wp_seq (wp_mono (h ρ0 w0 H0 ρ w a hbs hst) fun e a w ⟨x, tl', hl', df', ρ', h1, h2, h3, h4⟩ => by
    cases x with
    | nrm =>
      cases h2
      have := h1 ρ0 w0 H0 ρ' w a hbs (h3 ▸ h4)
      rw [h3] at this
      exact this
    | ret => cases h2; exact ⟨.ret, tl', hl', df', ρ', h1, rfl, h3, h4⟩
    | ext i => cases h2; exact ⟨.ext i, tl', hl', df', ρ', h1, rfl, h3, h4⟩
    | pan d =>
      obtain ⟨u, rfl, hu⟩ := h2
      exact ⟨.pan d, tl', hl', df', ρ', h1, ⟨u, rfl, hu⟩, h3, h4⟩)

theorem wpD_seqk {x y : Code} (h : ∀ K : List D → List HO → Df → Prop, (∀ tl hl df, wpD P G M y Q tl hl df → K tl hl df) → wpD P G M x (thenD K Q) tl hl df) : wpD P G M (.seq x y) Q tl hl df := wpD_seq (h _ fun _ _ _ h => h)

theorem wpD_cond {c : Operand} {x y : Code} {b : Bool} (hc : opD G (tmOf tl) c = .bool b) (h : if b then wpD P G M x Q tl hl df else wpD P G M y Q tl hl df) : wpD P G M (.cond c x y) Q tl hl df := fun ρ0 w0 H0 ρ w a hbs hst => by
  have hb : a.eval c = .bool b := by
    have : Rp ρ w (opD G (tmOf tl) c) (a.eval c) := by
      cases c with
      | tmp t => exact hst.tmp t
      | const v => exact Rp_ofV ρ w v
      | global g => simp only [opD] at hc; split at hc <;> cases hc
      | func f => cases hc
    rw [hc, Rp] at this
    exact this
  refine wp_cond hb ?_
  cases b
  · exact h ρ0 w0 H0 ρ w a hbs hst
  · exact h ρ0 w0 H0 ρ w a hbs hst

theorem wpD_part {c : Operand} {x y : Code} {b : Bool} (hc : opD G (tmOf tl) c = .bool b) (ht : b = true → wpD P G M x Q tl hl df) (hf : b = false → wpD P G M y Q tl hl df) : wpD P G M (.cond c x y) Q tl hl df := by
  refine wpD_cond hc ?_
  cases b
  · exact hf rfl
  · exact ht rfl

def blockD (id : Nat) (Q : DQ) : DQ
  | .ext i, tl, hl, df => if i = id then Q .nrm tl hl df else Q (.ext i) tl hl df
  | x, tl, hl, df => Q x tl hl df

theorem wpD_block {id : Nat} {c : Code} (h : wpD P G M c (blockD id Q) tl hl df) : wpD P G M (.block id c) Q tl hl df := fun ρ0 w0 H0 ρ w a hbs hst =>
  wp_block (wp_mono (h ρ0 w0 H0 ρ w a hbs hst) fun e a w ⟨x, tl', hl', df', ρ', h1, h2, h3, h4⟩ => by
    cases x with
    | nrm => cases h2; exact ⟨.nrm, tl', hl', df', ρ', h1, rfl, h3, h4⟩
    | ret => cases h2; exact ⟨.ret, tl', hl', df', ρ', h1, rfl, h3, h4⟩
    | ext i =>
      cases h2
      show (if i = id then _ else _)
      simp only [blockD] at h1
      by_cases hi : i = id
      · rw [if_pos hi] at h1 ⊢; exact ⟨.nrm, tl', hl', df', ρ', h1, rfl, h3, h4⟩
      · rw [if_neg hi] at h1 ⊢; exact ⟨.ext i, tl', hl', df', ρ', h1, rfl, h3, h4⟩
    | pan d =>
      obtain ⟨u, rfl, hu⟩ := h2
      exact ⟨.pan d, tl', hl', df', ρ', h1, ⟨u, rfl, hu⟩, h3, h4⟩)

/-- a loop: I n: so much is left to do -/
theorem wpD_loop {c : Code} (I : Nat → List D → List HO → Df → Prop) (n : Nat) (h0 : I n tl hl df) (hr : ∀ n tl' hl' df', tl'.length = tl.length → I n tl' hl' df' → wpD P G M c (thenD (fun tl hl df => ∃ m, m < n ∧ I m tl hl df) Q) tl' hl' df') :
    wpD P G M (.loop c) Q tl hl df := fun ρ0 w0 H0 ρ w a hbs hst => by
  intro b k cs
  have key : ∀ n tl' hl' df' ρ w a, tl'.length = tl.length → I n tl' hl' df' → InSt G ρ0 w0 H0 tl.length ρ w a (tmOf tl') (hOf hl') df' →
      ∃ e a' w', LiftQ G ρ0 w0 H0 tl.length Q e a' w' ∧ Arrives P (lone (b.at a (.code c :: .inLoop c :: k)) cs w) b k cs e a' w' := by
    intro n
    induction n using Nat.strongRecOn with
    | _ n ih =>
      intro tl' hl' df' ρ w a hl1 hI hst
      obtain ⟨e, a₁, w₁, hq, harr⟩ := hr n tl' hl' df' hl1 hI ρ0 w0 H0 ρ w a hbs (hl1 ▸ hst) b (.inLoop c :: k) cs
      rw [hl1] at hq
      obtain ⟨x, tl2, hl2, df2, ρ2, h1, h2, h3, h4⟩ := hq
      cases x with
      | nrm =>
        cases h2
        obtain ⟨m, hm, hI2⟩ := h1
        obtain ⟨e₂, a₂, w₂, hq₂, harr₂⟩ := ih m hm tl2 hl2 df2 ρ2 w₁ a₁ h3 hI2 h4
        exact ⟨e₂, a₂, w₂, hq₂, .of_steps (Steps.trans harr (.one step_inLoop)) harr₂⟩
      | ret => cases h2; exact ⟨_, a₁, w₁, ⟨.ret, tl2, hl2, df2, ρ2, h1, rfl, h3, h4⟩, .pass (x := .inLoop c) rfl (fun _ _ => .inl (by simp)) harr⟩
      | ext i => cases h2; exact ⟨_, a₁, w₁, ⟨.ext i, tl2, hl2, df2, ρ2, h1, rfl, h3, h4⟩, .pass (x := .inLoop c) rfl (fun _ _ => .inl (by simp)) harr⟩
      | pan d =>
        obtain ⟨u, rfl, hu⟩ := h2
        exact ⟨_, a₁, w₁, ⟨.pan d, tl2, hl2, df2, ρ2, h1, ⟨u, rfl, hu⟩, h3, h4⟩, .pass (x := .inLoop c) rfl (fun _ _ => .inl (by simp)) harr⟩
  obtain ⟨e, a', w', hq, harr⟩ := key n tl hl df ρ w a rfl h0 hst
  exact ⟨e, a', w', hq, .of_steps (.one step_loop) harr⟩

/-- temporaries, some of them others -/
def putAll : List D → List Nat → List D → List D
  | tl, i :: r, y :: ys => putAll (tl.set i y) r ys
  | tl, _, _ => tl
theorem putAll_length : ∀ (W : List Nat) (tl ys : List D), (putAll tl W ys).length = tl.length
  | [], tl, ys => by cases ys <;> rfl
  | i :: r, tl, [] => rfl
  | i :: r, tl, y :: ys => by rw [putAll, putAll_length r]; simp

def getW (W : List Nat) (tl : List D) : List D := W.map fun i => tl.getD i .junk

/-- a loop that writes such temporaries: I n: so much is left to do; A: a round's end -/
theorem wpD_loopW {c : Code} (W : List Nat) (I : Nat → List D → List HO → Prop) (n0 : Nat) (h0 : tl = putAll tl W (getW W tl)) (hI : I n0 (getW W tl) hl)
    (hr : ∀ n ys hl' (A : List D → List HO → Df → Prop), (∀ m tl2 hl2, m < n → tl2 = putAll tl W (getW W tl2) → I m (getW W tl2) hl2 → A tl2 hl2 df) → I n ys hl' → wpD P G M c (thenD A Q) (putAll tl W ys) hl' df) : wpD P G M (.loop c) Q tl hl df := by
  refine wpD_loop (fun n tl2 hl2 df2 => ∃ ys2, df2 = df ∧ tl2 = putAll tl W ys2 ∧ I n ys2 hl2) n0 ⟨_, rfl, h0, hI⟩ ?_
  rintro n tl' hl' df' - ⟨ys, rfl, rfl, hIn⟩
  exact hr n ys hl' _ (fun m tl2 hl2 h1 h2 h3 => ⟨m, h1, _, rfl, h2, h3⟩) hIn
end
end Go.Proofs.Ytbjgdeednmhpfaa
