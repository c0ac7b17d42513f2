/-
  Deferred closures that recover; functions that defer one.
-/
import Derived.Test.YtbjgdeednmhpfaaDobj
import Derived.Defers
import Derived.Recover
set_option linter.unusedSimpArgs false
set_option linter.unusedVariables false
namespace Go.Proofs.Ytbjgdeednmhpfaa
open Go.RowKit

section
variable {G : Nat → Option D} {ρ0 ρ : Rho} {w0 w : World} {H0 : Nat → HO} {nt : Nat} {a : Act} {tl : List D} {hl : List HO} {df : Df} {P : Program} {Q : DQ} {M : Nat}

/-- an empty slice, as one of the call's own -/
def D.ownd (i : Nat) : D → D
  | .slice [] .full => .own i 0
  | d => d
theorem Rp_ownd {i : Nat} {d : D} {v : Value} (h : Rp ρ w d v) : Rp ρ w (d.ownd i) v := by
  unfold D.ownd
  split
  · rw [Rp] at h
    obtain ⟨A, cap, sz, h1, h2, h3, h4, h5, h6, h7⟩ := h
    have h6' : cap = 0 := h6
    subst h6'
    rw [show Rp ρ w (.own i 0) v = _ from Rp.eq_def ..]
    exact .inl ⟨rfl, A, h1⟩
  · exact h
theorem RpL_ownd {i j : Nat} {ds : List D} {vs : List Value} (h : RpL ρ w ds vs) : RpL ρ w (ds.modify j (D.ownd i)) vs := by
  refine RpL.of (by rw [List.length_modify]; exact h.length) fun k d v hd hv => ?_
  rw [List.getElem?_modify] at hd
  cases hk : ds[k]? with
  | none => rw [hk] at hd; cases hd
  | some x =>
    rw [hk] at hd
    obtain ⟨u, e1, e2⟩ := h.get hk
    rw [hv] at e1; cases e1
    simp only [Option.map_eq_map, Option.map_some, Option.some.injEq] at hd
    subst hd
    split
    · exact Rp_ownd e2
    · exact e2

theorem InSt.nameX {x : HO} (hx : x.live = true) (h : InSt G ρ0 w0 H0 nt ρ w a (tmOf tl) (hOf hl) df) : InSt G ρ0 w0 H0 nt ρ w a (tmOf tl) (hOf (hl ++ [x])) df := by
  have e : hOf (hl ++ [x]) = setH (hOf hl) hl.length x := by
    rw [← hOf_set]
    simp [setS]
  have hf : hOf hl hl.length = .free := by unfold hOf; rw [List.getD_eq_getElem?_getD, List.getElem?_eq_none (Nat.le_refl _)]; rfl
  obtain ⟨g1, g2⟩ := Ex.nameX h.rel hf hx
  rw [e]
  exact ⟨g1, h.ex.trans g2, h.tmp, h.size, h.df⟩

theorem wpD_ownT {c : Code} (t sz : Nat) (h : wpD P G M c Q (tl.modify t (D.ownd hl.length)) (hl ++ [.row sz []]) df) : wpD P G M c Q tl hl df := fun ρ0 w0 H0 ρ w a hbs hst => by
  have h1 := hst.nameX (x := .row sz []) rfl
  have hlen : (tl.modify t (D.ownd hl.length)).length = tl.length := List.length_modify ..
  have := h ρ0 w0 H0 ρ w a hbs (by
    rw [hlen]
    refine ⟨h1.rel, h1.ex, fun k => ?_, h1.size, h1.df⟩
    have h2 := h1.tmp k
    unfold tmOf at h2 ⊢
    rw [List.getD_eq_getElem?_getD] at h2 ⊢
    rw [List.getElem?_modify]
    cases hk : tl[k]? with
    | none => show Rp ρ w .junk _; rw [Rp]; trivial
    | some x =>
      rw [hk] at h2
      show Rp ρ w (if t = k then D.ownd hl.length x else x) _
      split
      · exact Rp_ownd h2
      · exact h2)
  rw [hlen] at this
  exact this

/-- the same for what stands in a box -/
theorem wpD_ownO {c : Code} (i j sz : Nat) {ty : TypeId} {ds : List D} (hi : hOf hl i = .cells ty ds) (h : wpD P G M c Q tl (hl.set i (.cells ty (ds.modify j (D.ownd hl.length))) ++ [.row sz []]) df) : wpD P G M c Q tl hl df := fun ρ0 w0 H0 ρ w a hbs hst => by
  have hlt : i < hl.length := by
    rcases Nat.lt_or_ge i hl.length with h | h
    · exact h
    · unfold hOf at hi; rw [List.getD_eq_getElem?_getD, List.getElem?_eq_none h] at hi; cases hi
  have h1 := hst.nameX (x := .row sz []) rfl
  refine h ρ0 w0 H0 ρ w a hbs ?_
  have hH : ∀ k, hOf (hl.set i (.cells ty (ds.modify j (D.ownd hl.length))) ++ [.row sz []]) k = if k = i then .cells ty (ds.modify j (D.ownd hl.length)) else hOf (hl ++ [.row sz []]) k := fun k => by
    unfold hOf
    rw [List.getD_eq_getElem?_getD, List.getD_eq_getElem?_getD]
    by_cases hk : k = i
    · subst hk
      rw [if_pos rfl, List.getElem?_append_left (by rw [List.length_set]; exact hlt), List.getElem?_set_self hlt]; rfl
    · rw [if_neg hk, ← List.set_append_left _ _ hlt, List.getElem?_set_ne (fun e => hk e.symm)]
  have hi' : hOf (hl ++ [.row sz []]) i = .cells ty ds := by
    rw [← hi]; unfold hOf
    rw [List.getD_eq_getElem?_getD, List.getD_eq_getElem?_getD, List.getElem?_append_left hlt]
  have hlv : ∀ k, (hOf (hl.set i (.cells ty (ds.modify j (D.ownd hl.length))) ++ [.row sz []]) k).live = (hOf (hl ++ [.row sz []]) k).live := fun k => by
    rw [hH k]
    split
    · rename_i hk; subst hk; rw [hi']; rfl
    · rfl
  have hL : ∀ b, Live ρ (hOf (hl.set i (.cells ty (ds.modify j (D.ownd hl.length))) ++ [.row sz []])) b → Live ρ (hOf (hl ++ [.row sz []])) b := fun b ⟨k, f, q1, q2⟩ => ⟨k, f, q1, by rw [← hlv k]; exact q2⟩
  have hR := h1.rel
  refine ⟨⟨fun k hk => hR.free k ?_, hR.fresh, fun k b f hk => ?_, fun k l b f g e1 e2 e3 e4 => hR.inj k l b f g e1 e2 (by rw [← hlv k]; exact e3) (by rw [← hlv l]; exact e4), hR.glob⟩, ⟨h1.ex.grow, h1.ex.frame, fun b hb hlt => h1.ex.live b (hL b hb) hlt⟩, h1.tmp, h1.size, h1.df⟩
  · rw [hH k] at hk
    split at hk
    · cases hk
    · exact hk
  · rw [hH k]
    have h2 := hR.obj k b f hk
    split
    · rename_i hki
      subst hki
      rw [hi'] at h2
      obtain ⟨c0, vs, q1, q2⟩ := h2
      exact ⟨c0, vs, q1, RpL_ownd q2⟩
    · exact h2
end

/-- what is thrown while a deferred closure is called, if anything -/
def ModeM (ρ : Rho) (w : World) : Option D → FrameMode → Prop
  | none, u => u = .returning
  | some d, u => ∃ x, u = .panicking (thrown x) ∧ Rp ρ w d x

section
variable (P : Program) (G : Nat → Option D)
/-- a deferred closure returns, what was thrown is recovered -/
def SpecD (f : FuncId) (args : List D) (objs : List HO) (rc : Option D) (Post : List HO → Prop) : Prop :=
  ∀ (ρ : Rho) (w : World) (vs : List Value) (u : FrameMode), Rel G ρ w (hOf objs) → RpL ρ w args vs → ModeM ρ w rc u → (invoke (.fn (.func f) vs.toArray) #[]).run P w = .ok (.enter f vs.toArray) w ∧
    CallsD P f vs.toArray u w fun e u' w' => ∃ z, e = .returned z ∧ settle u' = .returning ∧ ∃ ρ' hc', Post hc' ∧ Rel G ρ' w' (hOf hc') ∧ Ex ρ w (hOf objs) ρ' w' (hOf hc')

def CallRD (f : FuncId) (args : List D) (H : Nat → HO) (rc : Option D) (Φ : List (Nat × HO) → Prop) : Prop :=
  ∀ (ρ : Rho) (w : World) (vs : List Value) (u : FrameMode), Rel G ρ w H → RpL ρ w args vs → ModeM ρ w rc u → (invoke (.fn (.func f) vs.toArray) #[]).run P w = .ok (.enter f vs.toArray) w ∧
    CallsD P f vs.toArray u w fun e u' w' => ∃ z, e = .returned z ∧ settle u' = .returning ∧ ∃ ρ' up, Φ up ∧ Rel G ρ' w' (updL H up) ∧ Ex ρ w H ρ' w' (updL H up)

def DefX (f : FuncId) (args : List D) (hl : List HO) (rc : Option D) (K : List HO → Prop) : Prop := ∃ Φ : List (Nat × HO) → Prop, CallRD P G f args (hOf hl) rc Φ ∧ ∀ up, Φ up → K (updS hl up)
end

section
variable {P : Program} {G : Nat → Option D}

theorem DefX.objs (hG : ∀ g d, G g = some d → d.pure = true) {f : FuncId} {args args' : List D} {objs : List HO} {rc : Option D} {Post : List HO → Prop} {hl : List HO} {K : List HO → Prop} (σl : List Nat) (h : SpecD P G f args objs rc Post)
    (hK : ∀ hc, Post hc → K (updS hl (upO σl hl.length hc))) (hk : ∀ hc, Post hc → σl.length ≤ hc.length) (hrc : ∀ d, rc = some d → d.pure = true) (hnd : σl.Nodup) (hlt : (σl.all fun i => decide (i < hl.length)) = true)
    (hobj : σl.map (fun i => (hOf hl i).ren (renA σl)) = objs) (hok : (σl.all fun i => (hOf hl i).okN (okA σl)) = true) (ha : D.rens (renA σl) args' = args) (hoka : D.okNs (okA σl) args' = true) : DefX P G f args' hl rc K := by
  have hlt' : ∀ i, i ∈ σl → i < hl.length := fun i hi => by simpa using List.all_eq_true.1 hlt i hi
  refine ⟨fun up => ∃ hc, Post hc ∧ up = upO σl hl.length hc, ?_, ?_⟩
  · intro ρ w vs u hR hvs hm
    have hR' := lent_rel hG hR hnd hobj hok
    have hvs' : RpL (ρ.lent σl) w args vs := by
      rw [← ha]
      exact RpL_ren (p := okA σl) lent_nm rfl _ _ hoka hvs
    have hm' : ModeM (ρ.lent σl) w rc u := by
      cases rc with
      | none => exact hm
      | some d =>
        obtain ⟨x, h1, h2⟩ := hm
        exact ⟨x, h1, Rp_nm (ρ := ρ) (ρ' := ρ.lent σl) rfl d x (hrc d rfl) h2⟩
    obtain ⟨h1, h2⟩ := h _ w vs u hR' hvs' hm'
    refine ⟨h1, h2.mono ?_⟩
    rintro e u' w' ⟨z, he, hs, ρ', hc, hp, g1, g2⟩
    obtain ⟨b1, b2, -⟩ := back (nx := hl.length) hG hR hnd hlt' hobj (fun i hi _ => by unfold hOf; rw [List.getD_eq_getElem?_getD, List.getElem?_eq_none hi]; rfl) (hk _ hp) g1 g2
    exact ⟨z, he, hs, _, _, ⟨hc, hp, rfl⟩, b1, b2⟩
  · rintro up ⟨hc, hp, rfl⟩
    exact hK hc hp

/-- a statement's operations, in a deferred closure -/
theorem opsS_of_list {ops : Array Oper} {Q : Exit → Act → List Frame → World → Prop} {cs : List Frame} (hno : ∀ a w, ¬ Q .outgrown a cs w) : ∀ (lo : List Oper) (k : Nat), (∀ j, j < lo.length → ops[k + j]? = lo[j]?) → ∀ (a : Act) (w : World), wpList P ops (fun e a w => Q e a cs w) lo a w → wpOpsS P ops Q (List.range' k lo.length) a cs w
  | [], k, _, a, w, h => h
  | o :: r, k, hj, a, w, h => by
    have h0 : ops[k]? = some o := by have := hj 0 (by simp); simpa using this
    have ih := opsS_of_list hno r (k + 1) (fun j hjl => by
      have := hj (j + 1) (by simpa using hjl)
      rw [show k + 1 + j = k + (j + 1) by omega, this]; rfl)
    rw [List.length_cons, List.range'_succ, wpOpsS]
    rw [h0]
    dsimp only
    rw [wpList] at h
    split
    · rename_i hw
      rw [if_pos hw] at h
      rcases h with h | ⟨-, ⟨a', w', hq⟩⟩
      · have h' := Oper.wp_mono (K' := fun a' w' => wpOpsS P ops Q (List.range' (k + 1) r.length) a' cs w') (fun a w h => ih a w h) h
        unfold Oper.wp at h'
        split
        · rename_i w' hr
          rw [hr] at h'
          exact h'.elim
        · exact h'
      · exact absurd hq (hno a' w')
    · rename_i hw
      rw [if_neg hw] at h
      exact ih _ _ h

theorem invoke_cap {f : FuncId} (hcf : ∀ (vs : Array Value) (w : World), (callFunc f vs).run P w = .ok (.enter f vs) w) (vs : Array Value) (w : World) : (invoke (.fn (.func f) vs) #[]).run P w = .ok (.enter f vs) w := by
  simp [invoke, hcf]

variable {T : TypeId → Ty}
theorem wpD_specd (hT : ∀ t, TyOK P t (T t)) {f : FuncId} {fn : Func} {id : Nat} {ops : Array Oper} {o0 : Oper} {r : List Oper} {rest : Code} {args : List D} {hc : List HO} {rc : Option D} {Post : List HO → Prop} (hf : P.funcs[f]? = some fn) (hb : fn.body = some (.seq (.region id ops false) rest))
    (hops : ops.toList = o0 :: r) (hrec : ∀ (a : Act) (w : World), (execOp a.eval o0).run P w = .ok .recover w) (hgd : o0.guard = none) (hcf : ∀ (vs : Array Value) (w : World), (callFunc f vs).run P w = .ok (.enter f vs) w) {n : Nat} {rs : List ResultVar} (hn : fn.ntmps = n) (hrs : fn.results.toList = rs)
    (h : wpS P G T ops r (putS (args ++ List.replicate (n - args.length) (D.tuple [])) o0.dst (rc.getD .nili)) hc [] (fun tl hl df => wpD P G hc.length rest (EndQ T rs (fun o hl => (∃ d, o = .ret d) ∧ Post hl)) tl hl df) (fun _ _ _ _ => False)) : SpecD P G f args hc rc Post := by
  intro ρ w vs u hR hvs hm
  refine ⟨invoke_cap hcf _ _, ?_⟩
  have hlen := hvs.length
  subst hrs
  refine callsD_of_wpS hf hb fun c₀ cs hu => ?_
  have htl : (vs.toArray ++ Array.replicate (fn.ntmps - vs.toArray.size) undef) = (vs ++ List.replicate (n - args.length) undef).toArray := by
    apply Array.ext'
    simp [hn, hlen]
  rw [htl]
  have hrp : RpL ρ w (args ++ List.replicate (n - args.length) (.tuple [])) (vs ++ List.replicate (n - args.length) undef) := by
    refine hvs.append ?_
    generalize n - args.length = m
    induction m with
    | zero => exact RpL_nil.2 rfl
    | succ m ih => rw [List.replicate_succ, List.replicate_succ]; exact RpL_cons'.2 ⟨by rw [Rp]; exact ⟨[], rfl, RpL_nil.2 rfl⟩, ih⟩
  have hst0 : InSt G ρ w (hOf hc) (args ++ List.replicate (n - args.length) (D.tuple [])).length ρ w { tmps := (vs ++ List.replicate (n - args.length) undef).toArray, defers := [] } (tmOf (args ++ List.replicate (n - args.length) (D.tuple []))) (hOf hc) [] := by
    refine ⟨hR, Ex.refl _ _ _, fun k => ?_, ?_, rfl⟩
    · unfold tmOf
      rw [Array.getD_eq_getD_getElem?, List.getElem?_toArray]
      cases hk : (args ++ List.replicate (n - args.length) (D.tuple []))[k]? with
      | none => rw [List.getD_eq_getElem?_getD, hk]; show Rp ρ w .junk _; rw [Rp]; trivial
      | some d =>
        obtain ⟨u, h1, h2⟩ := hrp.get hk
        rw [List.getD_eq_getElem?_getD, hk, h1]
        exact h2
    · simpa using hrp.length
  have hbs : ∀ i, hc.length ≤ i → ρ.nm i = none := fun i hi => hR.free i (by unfold hOf; rw [List.getD_eq_getElem?_getD, List.getElem?_eq_none hi]; rfl)
  have h0 : ops[0]? = some o0 := by rw [← Array.getElem?_toList, hops]; rfl
  have hsz : ops.size = r.length + 1 := by rw [← Array.length_toList, hops]; rfl
  apply wpS_seq
  apply wpS_region
  rw [hsz, List.range_eq_range', List.range'_succ, wpOpsS]
  rw [h0]
  dsimp only
  have hwant : Region.wanted o0 (yielded ops (vs ++ List.replicate (n - args.length) undef).toArray) = true := by unfold Region.wanted; rw [hgd]
  rw [if_pos hwant, hrec]
  dsimp only
  -- behind the recovery
  have key : ∀ (x : Value) (u' : FrameMode), Rp ρ w (rc.getD .nili) x → settle u' = .returning →
      wpOpsS P ops (Exit.thenS (rest.wpS P (bodyPostS P fn c₀ cs (fun e u' w' => ∃ z, e = .returned z ∧ settle u' = .returning ∧ ∃ ρ' hc', Post hc' ∧ Rel G ρ' w' (hOf hc') ∧ Ex ρ w (hOf hc) ρ' w' (hOf hc')))) (bodyPostS P fn c₀ cs (fun e u' w' => ∃ z, e = .returned z ∧ settle u' = .returning ∧ ∃ ρ' hc', Post hc' ∧ Rel G ρ' w' (hOf hc') ∧ Ex ρ w (hOf hc) ρ' w' (hOf hc'))))
        (List.range' (0 + 1) r.length) (({ tmps := (vs ++ List.replicate (n - args.length) undef).toArray, defers := [] } : Act).put o0.dst x) ({ c₀ with mode := u' } :: cs) w := fun x u' hx hs => by
    have hst1 : InSt G ρ w (hOf hc) (putS (args ++ List.replicate (n - args.length) (D.tuple [])) o0.dst (rc.getD .nili)).length ρ w (({ tmps := (vs ++ List.replicate (n - args.length) undef).toArray, defers := [] } : Act).put o0.dst x) (tmOf (putS (args ++ List.replicate (n - args.length) (D.tuple [])) o0.dst (rc.getD .nili))) (hOf (updS hc [])) [] :=
      hst0.put (up := []) o0.dst hx hst0.rel (Ex.refl _ _ _)
    refine opsS_of_list (lo := r) ?_ (0 + 1) (fun j hj => by
      rw [Nat.zero_add, ← Array.getElem?_toList, hops, Nat.add_comm]; rfl) _ _ ?_
    · rintro a w ⟨u', z, he, -⟩
      cases he
    · refine wpS_sound hT r _ _ _ _ _ h ?_ (fun d u tl' hl' df' ρ w a hF => hF.elim) ρ w _ hst1
      intro tl' hl' df' ρ1 w1 a1 k1 k2 k3
      refine wpS_of_wp ?_
      have k4 := k1 ρ w (hOf hc) ρ1 w1 a1 hbs (by rw [k2]; exact k3)
      refine wp_mono k4 ?_
      rintro e a2 w2 ⟨x2, tl2, hl2, df2, ρ2, ⟨hdf, hq⟩, hx2, htl2, hst2⟩
      subst hdf
      have hd : a2.defers = [] := hst2.df
      have fin : (match tellsD T hl2 tl2 fn.results.toList with | some d => (∃ d_1, Out.ret d = .ret d_1) ∧ Post hl2 | none => False) → ∃ v, (results fn a2.tmps).run P w2 = .ok v w2 ∧ Post hl2 := fun hq => by
        cases ht : tellsD T hl2 tl2 fn.results.toList with
        | none => rw [ht] at hq; exact hq.elim
        | some d =>
          rw [ht] at hq
          obtain ⟨v, q1, q2⟩ := tellsD_run (P := P) hT hst2 ht
          exact ⟨v, q1, hq.2⟩
      cases x2 with
      | nrm =>
        cases hx2
        obtain ⟨v, q1, q2⟩ := fin hq
        exact ⟨hd, u', rfl, v, q1, v, rfl, hs, ρ2, hl2, q2, hst2.rel, hst2.ex⟩
      | ret =>
        cases hx2
        obtain ⟨v, q1, q2⟩ := fin hq
        exact ⟨hd, u', rfl, v, q1, v, rfl, hs, ρ2, hl2, q2, hst2.rel, hst2.ex⟩
      | ext i => exact hq.elim
      | pan d => obtain ⟨⟨d', h'⟩, -⟩ := hq; cases h'
  cases rc with
  | none =>
    have hm' : u = .returning := hm
    subst hm'
    have hr : recoverD (c₀ :: cs) = none := by simp [recoverD, hu]
    rw [hr]
    dsimp only
    have := key .nilIface .returning (by show Rp ρ w .nili _; rw [Rp]) rfl
    have e : ({ c₀ with mode := .returning } : Frame) = c₀ := by cases c₀; cases hu; rfl
    rw [e] at this
    exact this
  | some d =>
    obtain ⟨x, rfl, hx⟩ := hm
    have hr : recoverD (c₀ :: cs) = some (x, { c₀ with mode := .panicking [{ v := x, recovered := true }] } :: cs) := by simp [recoverD, hu, thrown]
    rw [hr]
    dsimp only
    exact key x (.panicking [{ v := x, recovered := true }]) hx (by simp [settle])

/-- the end of a body that may have deferred one closure -/
def endD (T : TypeId → Ty) (rs : List ResultVar) (Post : Out → List HO → Prop) (tl : List D) (hl : List HO) : Prop := match tellsD T hl tl rs with
  | some d => Post (.ret d) hl
  | none => False
theorem endD.intro {T : TypeId → Ty} {rs : List ResultVar} {Post : Out → List HO → Prop} {tl : List D} {hl : List HO} {d : D} (h : tellsD T hl tl rs = some d) (hp : Post (.ret d) hl) : endD T rs Post tl hl := by unfold endD; rw [h]; exact hp
def EndQD (P : Program) (G : Nat → Option D) (T : TypeId → Ty) (rs : List ResultVar) (Post : Out → List HO → Prop) : DQ := fun x tl hl df => match df with
  | [] => match x with
    | .nrm | .ret => endD T rs Post tl hl
    | .pan d => Post (.pan d) hl
    | .ext _ => False
  | [(f, cap)] => match x with
    | .nrm | .ret => DefX P G f cap hl none (endD T rs Post tl)
    | .pan d => DefX P G f cap hl (some d) (endD T rs Post tl)
    | .ext _ => False
  | _ => False

theorem wpD_specD (hT : ∀ t, TyOK P t (T t)) {f : FuncId} {fn : Func} {c : Code} {args : List D} {hc : List HO} {Post : Out → List HO → Prop} (hf : P.funcs[f]? = some fn) (hb : fn.body = some c) (hcf : ∀ (vs : Array Value) (w : World), (callFunc f vs).run P w = .ok (.enter f vs) w) {n : Nat} {rs : List ResultVar} (hn : fn.ntmps = n) (hrs : fn.results.toList = rs)
    (h : wpD P G hc.length c (EndQD P G T rs Post) (args ++ List.replicate (n - args.length) (.tuple [])) hc []) : Spec P G f args hc Post := by
  intro ρ w vs hR hvs
  refine ⟨hcf _ _, ?_⟩
  have hlen := hvs.length
  refine calls_of_wp_defers hf hb ?_
  subst hrs
  have htl : (vs.toArray ++ Array.replicate (fn.ntmps - vs.toArray.size) undef) = (vs ++ List.replicate (n - args.length) undef).toArray := by
    apply Array.ext'
    simp [hn, hlen]
  rw [htl]
  have hrp : RpL ρ w (args ++ List.replicate (n - args.length) (.tuple [])) (vs ++ List.replicate (n - args.length) undef) := by
    refine hvs.append ?_
    generalize n - args.length = m
    induction m with
    | zero => exact RpL_nil.2 rfl
    | succ m ih => rw [List.replicate_succ, List.replicate_succ]; exact RpL_cons'.2 ⟨by rw [Rp]; exact ⟨[], rfl, RpL_nil.2 rfl⟩, ih⟩
  have hbs : ∀ i, hc.length ≤ i → ρ.nm i = none := fun i hi => hR.free i (by unfold hOf; rw [List.getD_eq_getElem?_getD, List.getElem?_eq_none hi]; rfl)
  refine wp_mono (h ρ w (hOf hc) ρ w { tmps := (vs ++ List.replicate (n - args.length) undef).toArray, defers := [] } hbs ⟨hR, Ex.refl _ _ _, fun k => ?_, ?_, rfl⟩) ?_
  · unfold tmOf
    rw [Array.getD_eq_getD_getElem?, List.getElem?_toArray]
    cases hk : (args ++ List.replicate (n - args.length) (D.tuple []))[k]? with
    | none => rw [List.getD_eq_getElem?_getD, hk]; show Rp ρ w .junk _; rw [Rp]; trivial
    | some d =>
      obtain ⟨u, h1, h2⟩ := hrp.get hk
      rw [List.getD_eq_getElem?_getD, hk, h1]
      exact h2
  · simpa using hrp.length
  · rintro e a w' ⟨x, tl, hl, df, ρ', hq, hx, htl, hst⟩
    -- what is told
    have fin : ∀ (hl2 : List HO) (ρ2 : Rho) (w2 : World), InSt G ρ w (hOf hc) (args ++ List.replicate (n - args.length) (D.tuple [])).length ρ2 w2 a (tmOf tl) (hOf hl2) df → endD T fn.results.toList Post tl hl2 → ∃ v, (results fn a.tmps).run P w2 = .ok v w2 ∧ ∃ ρ' out hc', Post out hc' ∧ OutM ρ' w2 out (.returned v) ∧ Rel G ρ' w2 (hOf hc') ∧ Ex ρ w (hOf hc) ρ' w2 (hOf hc') := fun hl2 ρ2 w2 hst2 hq => by
      unfold endD at hq
      cases ht : tellsD T hl2 tl fn.results.toList with
      | none => rw [ht] at hq; exact hq.elim
      | some d =>
        rw [ht] at hq
        obtain ⟨u, h1, h2⟩ := tellsD_run (P := P) hT hst2 ht
        exact ⟨u, h1, ρ2, .ret d, hl2, hq, ⟨u, rfl, h2⟩, hst2.rel, hst2.ex⟩
    have dfr : ∀ {f' : FuncId} {cap : List D} {rc : Option D} {m : FrameMode}, df = [(f', cap)] → ModeM ρ' w' rc m → m ≠ .run → DefX P G f' cap hl rc (endD T fn.results.toList Post tl) → Leaves P fn a.tmps (fun e w' => ∃ ρ' out hc', Post out hc' ∧ OutM ρ' w' out e ∧ Rel G ρ' w' (hOf hc') ∧ Ex ρ w (hOf hc) ρ' w' (hOf hc')) a.defers m w' := fun {f' cap rc m} hdf hm hrun hd => by
      subst hdf
      obtain ⟨us, ds', hds, hus, hnil⟩ := hst.df
      have hnil' : ds' = [] := hnil
      subst hnil'
      rw [hds]
      obtain ⟨Φ, hcall, hK⟩ := hd
      obtain ⟨q1, q2⟩ := hcall ρ' w' us m hst.rel hus hm
      refine leaves_cons hrun q1 (q2.mono ?_)
      rintro e2 u2 w2 ⟨z, rfl, hs, ρ2, up, hphi, g1, g2⟩
      dsimp only
      rw [hs]
      have hst2 : InSt G ρ w (hOf hc) (args ++ List.replicate (n - args.length) (D.tuple [])).length ρ2 w2 a (tmOf tl) (hOf (updS hl up)) [(f', cap)] := by
        rw [hOf_upd]
        exact ⟨g1, hst.ex.trans g2, fun k => Rp.grow g2.grow _ _ (hst.tmp k), hst.size, hst.df.grow g2.grow⟩
      obtain ⟨v, r1, r2⟩ := fin _ _ _ hst2 (hK up hphi)
      exact ⟨v, r1, r2⟩
    match df, hq with
    | [], hq =>
      have hd : a.defers = [] := hst.df
      cases x with
      | nrm =>
        cases hx
        obtain ⟨v, r1, r2⟩ := fin _ _ _ hst hq
        show Leaves P fn a.tmps _ a.defers .returning w'
        rw [hd]
        exact ⟨v, r1, r2⟩
      | ret =>
        cases hx
        obtain ⟨v, r1, r2⟩ := fin _ _ _ hst hq
        show Leaves P fn a.tmps _ a.defers .returning w'
        rw [hd]
        exact ⟨v, r1, r2⟩
      | ext i => exact hq.elim
      | pan d =>
        obtain ⟨u, rfl, hu⟩ := hx
        show Leaves P fn a.tmps _ a.defers (.panicking (thrown u)) w'
        rw [hd]
        exact ⟨ρ', .pan d, hl, hq, ⟨u, rfl, hu⟩, hst.rel, hst.ex⟩
    | [(f', cap)], hq =>
      cases x with
      | nrm => cases hx; exact dfr (rc := none) rfl rfl (by simp) hq
      | ret => cases hx; exact dfr (rc := none) rfl rfl (by simp) hq
      | ext i => exact hq.elim
      | pan d =>
        obtain ⟨u, rfl, hu⟩ := hx
        exact dfr (rc := some d) rfl ⟨u, rfl, hu⟩ (by simp) hq
    | _ :: _ :: _, hq => exact hq.elim
end
end Go.Proofs.Ytbjgdeednmhpfaa
