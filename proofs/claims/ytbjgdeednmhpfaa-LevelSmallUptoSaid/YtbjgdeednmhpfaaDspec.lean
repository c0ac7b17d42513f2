/-
  What a function does, on data: Spec; calls by it.
-/
import Derived.Test.YtbjgdeednmhpfaaDcode
set_option linter.unusedSimpArgs false
set_option linter.unusedVariables false
namespace Go.Proofs.Ytbjgdeednmhpfaa
open Go.RowKit

def Cp.free : Cp → Bool
  | .tok _ => false
  | _ => true

mutual
/-- does it name no object? -/
def D.pure : D → Bool
  | .box _ _ => false
  | .map _ => false
  | .own _ _ => false
  | .ebox _ _ _ _ => false
  | .fn _ a b => D.pures a && D.pures b
  | .iface _ d => D.pure d
  | .tuple ds => D.pures ds
  | .agg ds => D.pures ds
  | .slice els c => D.pures els && c.free
  | .ref d => D.pure d
  | .mapc ks vs => D.pures ks && D.pures vs
  | _ => true
def D.pures : List D → Bool
  | [] => true
  | d :: r => D.pure d && D.pures r
end

theorem cellAt_nm {ρ ρ' : Rho} {w : World} (h : ρ'.c = ρ.c) {b o : Nat} {v : Value} (hc : cellAt ρ w b o v) : cellAt ρ' w b o v := by
  obtain ⟨h1, h2, h3⟩ := hc
  exact ⟨fun k hk => h1 k (by rw [← h]; exact hk), h2, h3⟩

mutual
theorem Rp_nm {ρ ρ' : Rho} {w : World} (hc : ρ'.c = ρ.c) : ∀ (d : D) (v : Value), d.pure = true → Rp ρ w d v → Rp ρ' w d v
  | .junk, v, _, h => by rw [Rp]; trivial
  | .int k n, v, _, h => by rw [Rp] at h ⊢; exact h
  | .bool b, v, _, h => by rw [Rp] at h ⊢; exact h
  | .str s, v, _, h => by rw [Rp] at h ⊢; exact h
  | .nilp, v, _, h => by rw [Rp] at h ⊢; exact h
  | .nilf, v, _, h => by rw [Rp] at h ⊢; exact h
  | .nili, v, _, h => by rw [Rp] at h ⊢; exact h
  | .nilm, v, _, h => by rw [Rp] at h ⊢; exact h
  | .fn f a b, v, p, h => by
    rw [D.pure, Bool.and_eq_true] at p
    rw [Rp] at h ⊢
    obtain ⟨us, vs, h1, h2, h3⟩ := h
    exact ⟨us, vs, h1, RpL_nm hc a us p.1 h2, RpL_nm hc b vs p.2 h3⟩
  | .iface t d, v, p, h => by
    rw [D.pure] at p
    rw [Rp] at h ⊢
    obtain ⟨u, h1, h2⟩ := h
    exact ⟨u, h1, Rp_nm hc d u p h2⟩
  | .tuple ds, v, p, h => by
    rw [D.pure] at p
    rw [Rp] at h ⊢
    obtain ⟨u, h1, h2⟩ := h
    exact ⟨u, h1, RpL_nm hc ds u p h2⟩
  | .agg ds, v, p, h => by
    rw [D.pure] at p
    rw [Rp] at h ⊢
    obtain ⟨u, h1, h2⟩ := h
    exact ⟨u, h1, RpL_nm hc ds u p h2⟩
  | .slice els c, v, p, h => by
    rw [D.pure, Bool.and_eq_true] at p
    rw [Rp] at h ⊢
    obtain ⟨A, cap, sz, h1, h2, h3, h4, h5, h6, h7⟩ := h
    refine ⟨A, cap, sz, h1, h2, h3, h4, h5, ?_, fun hne => let ⟨b, o, h8, h9⟩ := h7 hne; ⟨b, o, h8, RpE_nm hc els b o p.1 h9⟩⟩
    cases c with
    | any => trivial
    | full => exact h6
    | tok i => simp [Cp.free] at p
  | .box i off, v, p, h => by simp [D.pure] at p
  | .map i, v, p, h => by simp [D.pure] at p
  | .own i n, v, p, h => by simp [D.pure] at p
  | .ebox _ _ _ _, v, p, h => by simp [D.pure] at p
  | .mapc ks vs, v, p, h => by
    rw [D.pure, Bool.and_eq_true] at p
    rw [Rp] at h ⊢
    obtain ⟨b, ents, clock, h1, h2, h3, h4, h5⟩ := h
    exact ⟨b, ents, clock, h1, by rw [hc]; exact h2, h3, RpL_nm hc ks _ p.1 h4, RpL_nm hc vs _ p.2 h5⟩
  | .ref d, v, p, h => by
    rw [D.pure] at p
    obtain ⟨b, o, h1, h2⟩ := Rp_ref.1 h
    refine Rp_ref.2 ⟨b, o, h1, ?_⟩
    cases d
    case agg cs =>
      rw [D.pure] at p
      exact RpC_nm hc cs b o p h2
    all_goals
      obtain ⟨u, h3, h4⟩ := h2
      exact ⟨u, cellAt_nm hc h3, Rp_nm hc _ u p h4⟩
theorem RpL_nm {ρ ρ' : Rho} {w : World} (hc : ρ'.c = ρ.c) : ∀ (ds : List D) (vs : List Value), D.pures ds = true → RpL ρ w ds vs → RpL ρ' w ds vs
  | [], vs, _, h => by rw [RpL_nil] at h ⊢; exact h
  | d :: r, vs, p, h => by
    rw [D.pures, Bool.and_eq_true] at p
    rw [RpL_cons] at h
    obtain ⟨v, us, rfl, h2, h3⟩ := h
    exact RpL_cons'.2 ⟨Rp_nm hc d v p.1 h2, RpL_nm hc r us p.2 h3⟩
theorem RpC_nm {ρ ρ' : Rho} {w : World} (hc : ρ'.c = ρ.c) : ∀ (ds : List D) (b o : Nat), D.pures ds = true → RpC ρ w ds b o → RpC ρ' w ds b o
  | [], b, o, _, h => RpC_nil
  | d :: r, b, o, p, h => by
    rw [D.pures, Bool.and_eq_true] at p
    rw [RpC_cons] at h
    obtain ⟨⟨v, h1, h2⟩, h3⟩ := h
    exact RpC_cons.2 ⟨⟨v, cellAt_nm hc h1, Rp_nm hc d v p.1 h2⟩, RpC_nm hc r b (o + 1) p.2 h3⟩
theorem RpE_nm {ρ ρ' : Rho} {w : World} (hc : ρ'.c = ρ.c) : ∀ (ds : List D) (b o : Nat), D.pures ds = true → RpE ρ w ds b o → RpE ρ' w ds b o
  | [], b, o, _, h => RpE_nil
  | d :: r, b, o, p, h => by
    rw [D.pures, Bool.and_eq_true] at p
    rw [RpE_cons] at h
    refine RpE_cons.2 ⟨?_, RpE_nm hc r b _ p.2 h.2⟩
    have h2 := h.1
    cases d
    case agg cs =>
      have p1 := p.1
      rw [D.pure] at p1
      exact RpC_nm hc cs b o p1 h2
    all_goals
      obtain ⟨u, h3, h4⟩ := h2
      exact ⟨u, cellAt_nm hc h3, Rp_nm hc _ u p.1 h4⟩
end

theorem RpAt_nm {ρ ρ' : Rho} {w : World} (hc : ρ'.c = ρ.c) {d : D} {b o : Nat} (p : d.pure = true) (h : RpAt ρ w d b o) : RpAt ρ' w d b o := by
  have : Rp ρ' w (.ref d) (.pointer (some ⟨b, o, none⟩)) := Rp_nm hc (.ref d) _ (by rw [D.pure]; exact p) (Rp_ref.2 ⟨b, o, rfl, h⟩)
  obtain ⟨b', o', h1, h2⟩ := Rp_ref.1 this
  cases h1
  exact h2

mutual
/-- no right to grow: what is told is read alone -/
def D.fgt : D → D
  | .agg ds => .agg (D.fgts ds)
  | .tuple ds => .tuple (D.fgts ds)
  | .slice els _ => .slice els .any
  | .iface t d => .iface t (D.fgt d)
  | d => d
def D.fgts : List D → List D
  | [] => []
  | d :: r => D.fgt d :: D.fgts r
end

mutual
theorem Rp_fgt {ρ : Rho} {w : World} : ∀ (d : D) (v : Value), Rp ρ w d v → Rp ρ w d.fgt v
  | .agg ds, v, h => by
    rw [D.fgt]
    rw [Rp] at h ⊢
    obtain ⟨u, h1, h2⟩ := h
    exact ⟨u, h1, RpL_fgt ds u h2⟩
  | .tuple ds, v, h => by
    rw [D.fgt]
    rw [Rp] at h ⊢
    obtain ⟨u, h1, h2⟩ := h
    exact ⟨u, h1, RpL_fgt ds u h2⟩
  | .iface t d, v, h => by
    rw [D.fgt]
    rw [Rp] at h ⊢
    obtain ⟨u, h1, h2⟩ := h
    exact ⟨u, h1, Rp_fgt d u h2⟩
  | .slice els c, v, h => by
    rw [D.fgt]
    rw [Rp] at h ⊢
    obtain ⟨A, cap, sz, h1, h2, h3, h4, h5, h6, h7⟩ := h
    exact ⟨A, cap, sz, h1, h2, h3, h4, h5, trivial, h7⟩
  | .junk, v, h => h
  | .int _ _, v, h => h
  | .bool _, v, h => h
  | .str _, v, h => h
  | .nilp, v, h => h
  | .nilf, v, h => h
  | .nili, v, h => h
  | .nilm, v, h => h
  | .fn _ _ _, v, h => h
  | .box _ _, v, h => h
  | .map _, v, h => h
  | .own _ _, v, h => h
  | .ebox _ _ _ _, v, h => h
  | .mapc _ _, v, h => h
  | .ref _, v, h => h
theorem RpL_fgt {ρ : Rho} {w : World} : ∀ (ds : List D) (vs : List Value), RpL ρ w ds vs → RpL ρ w (D.fgts ds) vs
  | [], vs, h => by rw [D.fgts]; exact h
  | d :: r, vs, h => by
    rw [D.fgts]
    rw [RpL_cons] at h
    obtain ⟨v, us, rfl, h2, h3⟩ := h
    exact RpL_cons'.2 ⟨Rp_fgt d v h2, RpL_fgt r us h3⟩
end

/-- what is told, read alone -/
def Out.fgt : Out → Out
  | .ret d => .ret d.fgt
  | .pan d => .pan d.fgt
def Out.pure : Out → Bool
  | .ret d => d.pure
  | .pan d => d.pure

theorem OutM.fgt {ρ : Rho} {w : World} {out : Out} {e : Ending} (h : OutM ρ w out e) : OutM ρ w out.fgt e := by
  cases out with
  | ret d => obtain ⟨u, h1, h2⟩ := h; exact ⟨u, h1, Rp_fgt _ _ h2⟩
  | pan d => obtain ⟨u, h1, h2⟩ := h; exact ⟨u, h1, Rp_fgt _ _ h2⟩
theorem OutM.nm {ρ ρ' : Rho} {w : World} (hc : ρ'.c = ρ.c) {out : Out} {e : Ending} (p : out.pure = true) (h : OutM ρ w out e) : OutM ρ' w out e := by
  cases out with
  | ret d => obtain ⟨u, h1, h2⟩ := h; exact ⟨u, h1, Rp_nm hc _ _ p h2⟩
  | pan d => obtain ⟨u, h1, h2⟩ := h; exact ⟨u, h1, Rp_nm hc _ _ p h2⟩

/-- What a function does: called with such arguments, such objects, it tells what Post says, and leaves such objects. -/
def Spec (P : Program) (G : Nat → Option D) (f : FuncId) (args : List D) (hc : List HO) (Post : Out → List HO → Prop) : Prop :=
  ∀ (ρ : Rho) (w : World) (vs : List Value), Rel G ρ w (hOf hc) → RpL ρ w args vs → (callFunc f vs.toArray).run P w = .ok (.enter f vs.toArray) w ∧
    Calls P f vs.toArray w fun e w' => ∃ ρ' out hc', Post out hc' ∧ OutM ρ' w' out e ∧ Rel G ρ' w' (hOf hc') ∧ Ex ρ w (hOf hc) ρ' w' (hOf hc')

section
variable {P : Program} {G : Nat → Option D}

/-- a function that touches no object of its caller's -/
theorem CallOK.pure (hG : ∀ g d, G g = some d → d.pure = true) {f : FuncId} {args args' : List D} {out : Out} (h : Spec P G f args [] (fun o _ => o.fgt = out)) (ha : D.fgts args' = args) (hp : D.pures args = true) (ho : out.pure = true) (hh : Nat → HO) : CallOK P G f args' hh out [] [] := by
  intro ρ w H vs hR _ hvs
  let ρc : Rho := ⟨ρ.c, fun _ => none⟩
  have hRc : Rel G ρc w (hOf []) := ⟨fun _ _ => rfl, hR.fresh, fun i b f h => (by cases h), fun i j b f g h => (by cases h), fun g d hd => RpAt_nm (ρ := ρ) (ρ' := ρc) rfl (hG g d hd) (hR.glob g d hd)⟩
  have hvs' : RpL ρ w args vs := by rw [← ha]; exact RpL_fgt _ _ hvs
  obtain ⟨h1, h2⟩ := h ρc w vs hRc (RpL_nm (ρ := ρ) (ρ' := ρc) rfl args vs hp hvs')
  refine ⟨h1, h2.mono ?_⟩
  rintro e w' ⟨ρ', o, hc', hpost, hout, hR', hE⟩
  have hnl : ∀ b, ¬ Live ρc (hOf []) b := fun b ⟨i, f, h, _⟩ => by cases h
  have g : Grow ρ w ⟨ρ'.c, ρ.nm⟩ w' := ⟨hE.grow.os, hE.grow.tape, hE.grow.output, hE.grow.size, hE.grow.whole, hE.grow.part, fun _ _ h => h⟩
  have hfr : ∀ b, b < w.heap.size → w'.heap[b]? = w.heap[b]? ∧ ρ'.c b = ρ.c b := fun b hb => hE.frame b hb (hnl b)
  refine ⟨⟨ρ'.c, ρ.nm⟩, ⟨hR.free, hR'.fresh, fun i b f h => ?_, hR.inj, fun gg d hd => RpAt_nm (ρ := ρ') (ρ' := ⟨ρ'.c, ρ.nm⟩) rfl (hG gg d hd) (hR'.glob gg d hd)⟩, ⟨g, fun b hb _ => hfr b hb, fun b hl hb => hl⟩, ?_⟩
  · have h3 := hR.obj i b f h
    show ObjAt _ w' b f (H i)
    cases hlv : (H i).live with
    | false =>
      revert hlv h3; generalize H i = ho; intro h3 hlv
      cases ho <;> first | exact trivial | cases hlv
    | true => exact h3.keep g (hfr b (h3.lt hlv)).1 (hfr b (h3.lt hlv)).2
  · have := hout.fgt
    rw [hpost] at this
    exact this.nm (ρ := ρ') (ρ' := ⟨ρ'.c, ρ.nm⟩) rfl ho

/-- what the results are -/
def resOf (T : TypeId → Ty) (hl : List HO) (tl : List D) : ResultVar → Option D
  | .tmp t => match tmOf tl t with
    | .junk => none
    | d => some d
  | .cell a t => match tmOf tl a with
    | .box i off => match hOf hl i with
      | .cells _ ds => if (T t).k.known then partD (T t) ds off else none
      | _ => none
    | _ => none

def allOf (T : TypeId → Ty) (hl : List HO) (tl : List D) : List ResultVar → Option (List D)
  | [] => some []
  | r :: rs => match resOf T hl tl r, allOf T hl tl rs with
    | some d, some ds => some (d :: ds)
    | _, _ => none

def tellsD (T : TypeId → Ty) (hl : List HO) (tl : List D) (rs : List ResultVar) : Option D :=
  match allOf T hl tl rs with
  | some [d] => some d
  | some ds => some (.tuple ds)
  | none => none

variable {T : TypeId → Ty}
theorem resOf_run (hT : ∀ t, TyOK P t (T t)) {ρ0 ρ : Rho} {w0 w : World} {H0 : Nat → HO} {nt : Nat} {tl : List D} {hl : List HO} {df : Df} {a : Act} (hst : InSt G ρ0 w0 H0 nt ρ w a (tmOf tl) (hOf hl) df) {r : ResultVar} {d : D} (h : resOf T hl tl r = some d) :
    ∃ u, (match r with | .tmp t => (pure (a.tmps.getD t undef) : Sem Value) | .cell x t => do loadVar t (← asAddr (a.tmps.getD x undef))).run P w = .ok u w ∧ Rp ρ w d u := by
  cases r with
  | tmp t =>
    have h1 := hst.tmp t
    refine ⟨_, rfl, ?_⟩
    simp only [resOf] at h
    split at h
    · cases h
    · cases h; exact h1
  | cell x t =>
    have h1 := hst.tmp x
    simp only [resOf] at h
    split at h
    · rename_i i off hb
      split at h
      · rename_i ty ds hi
        split at h
        · rename_i hk
          rw [hb] at h1
          obtain ⟨b, f, vs, hv, -, -, hh, hr⟩ := obj_cells hst.rel hi h1
          obtain ⟨us, h2, h3, h4⟩ := partD_load h hr (size_one (hT t) hk)
          have := run_loadVar (P := P) (hT t) hk (b := b) (o := off) h2 (size_one (hT t) hk) (w := w) (fun j u hu => by
            have := h3 j u hu
            simp [World.cell?, hh, this])
          refine ⟨_, ?_, h4⟩
          dsimp only
          rw [Sem.run_bind, hv]
          simp [asAddr, this]
        · cases h
      · cases h
    · cases h

theorem allOf_run (hT : ∀ t, TyOK P t (T t)) {ρ0 ρ : Rho} {w0 w : World} {H0 : Nat → HO} {nt : Nat} {tl : List D} {hl : List HO} {df : Df} {a : Act} (hst : InSt G ρ0 w0 H0 nt ρ w a (tmOf tl) (hOf hl) df) : ∀ {rs : List ResultVar} {ds : List D}, allOf T hl tl rs = some ds →
    ∃ us : List Value, (rs.mapM fun (r : ResultVar) => (match r with | .tmp t => (pure (a.tmps.getD t undef) : Sem Value) | .cell x t => do loadVar t (← asAddr (a.tmps.getD x undef)))).run P w = .ok us w ∧ RpL ρ w ds us
  | [], ds, h => by simp only [allOf] at h; cases h; exact ⟨[], rfl, RpL_nil.2 rfl⟩
  | r :: rs, ds, h => by
    simp only [allOf] at h
    cases h1 : resOf T hl tl r with
    | none => rw [h1] at h; cases h
    | some d =>
      cases h2 : allOf T hl tl rs with
      | none => rw [h1, h2] at h; cases h
      | some ds' =>
        rw [h1, h2] at h
        cases h
        obtain ⟨u, g1, g2⟩ := resOf_run (P := P) hT hst h1
        obtain ⟨us, g3, g4⟩ := allOf_run hT hst h2
        refine ⟨u :: us, ?_, RpL_cons'.2 ⟨g2, g4⟩⟩
        rw [List.mapM_cons, Sem.run_bind, g1]
        simp only [Result.andThen_ok, Sem.run_bind, g3, Sem.run_pure]

theorem tellsD_run (hT : ∀ t, TyOK P t (T t)) {ρ0 ρ : Rho} {w0 w : World} {H0 : Nat → HO} {nt : Nat} {tl : List D} {hl : List HO} {df : Df} {a : Act} (hst : InSt G ρ0 w0 H0 nt ρ w a (tmOf tl) (hOf hl) df) {fn : Func} {d : D} (h : tellsD T hl tl fn.results.toList = some d) :
    ∃ u, (results fn a.tmps).run P w = .ok u w ∧ Rp ρ w d u := by
  unfold tellsD at h
  cases hds : allOf T hl tl fn.results.toList with
  | none => rw [hds] at h; cases h
  | some ds =>
    rw [hds] at h
    obtain ⟨us, h1, h2⟩ := allOf_run (P := P) hT hst hds
    have hrun : (results fn a.tmps).run P w = .ok (if h : us.toArray.size = 1 then us.toArray[0] else .tuple us.toArray) w := by
      unfold results
      rw [Sem.run_bind, ← Array.toArray_toList (xs := fn.results), List.mapM_toArray, Sem.run_map]
      have h1' := h1
      erw [h1']
      rfl
    have hlen := h2.length
    by_cases h3 : ds.length = 1
    · obtain ⟨d1, rfl⟩ := List.length_eq_one_iff.1 h3
      obtain ⟨u1, rfl⟩ := List.length_eq_one_iff.1 (hlen.trans h3)
      cases h
      exact ⟨u1, by rw [hrun]; rfl, (RpL_cons'.1 h2).1⟩
    · have hd : d = .tuple ds := by
        match ds, h, h3 with
        | [], h, _ => cases h; rfl
        | [x], _, h3 => exact absurd rfl h3
        | x :: y :: r, h, _ => cases h; rfl
      subst hd
      refine ⟨.tuple us.toArray, ?_, by rw [Rp]; exact ⟨us, rfl, h2⟩⟩
      rw [hrun, dif_neg (by simpa [hlen] using h3)]

/-- the end of a body -/
def EndQ (T : TypeId → Ty) (rs : List ResultVar) (Post : Out → List HO → Prop) : DQ := fun x tl hl df => df = [] ∧ match x with
  | .nrm | .ret => match tellsD T hl tl rs with
    | some d => Post (.ret d) hl
    | none => False
  | .pan d => Post (.pan d) hl
  | .ext _ => False

theorem EndQ.ret {rs : List ResultVar} {Post : Out → List HO → Prop} {tl : List D} {hl : List HO} {d : D} (h : tellsD T hl tl rs = some d) (hp : Post (.ret d) hl) : EndQ T rs Post .ret tl hl [] := ⟨rfl, by rw [h]; exact hp⟩
theorem EndQ.nrm {rs : List ResultVar} {Post : Out → List HO → Prop} {tl : List D} {hl : List HO} {d : D} (h : tellsD T hl tl rs = some d) (hp : Post (.ret d) hl) : EndQ T rs Post .nrm tl hl [] := ⟨rfl, by rw [h]; exact hp⟩
theorem EndQ.pan {rs : List ResultVar} {Post : Out → List HO → Prop} {tl : List D} {hl : List HO} {d : D} (hp : Post (.pan d) hl) : EndQ T rs Post (.pan d) tl hl [] := ⟨rfl, hp⟩

theorem CallOK.toR {f : FuncId} {args : List D} {H : Nat → HO} {out : Out} {rd : List Nat} {up : List (Nat × HO)} (h : CallOK P G f args H out rd up) : CallR P G f args H (fun o u => o = out ∧ u = up) := fun ρ w vs hR hvs =>
  let ⟨h1, h2⟩ := h ρ w H vs hR (fun _ _ => rfl) hvs
  ⟨h1, h2.mono fun e w' ⟨ρ', g1, g2, g3⟩ => ⟨ρ', out, up, ⟨rfl, rfl⟩, g1, g2, g3⟩⟩

theorem CallX.pure (hG : ∀ g d, G g = some d → d.pure = true) {f : FuncId} {args args' : List D} {out : Out} (h : Spec P G f args [] (fun o _ => o.fgt = out)) {hl : List HO} {K : Out → List HO → Prop} (hK : K out hl) (ha : D.fgts args' = args) (hp : D.pures args = true) (ho : out.pure = true) : CallX P G f args' hl K :=
  ⟨fun o up => o = out ∧ up = [], (CallOK.pure hG h ha hp ho _).toR, fun o up ⟨h1, h2⟩ => by subst h1; subst h2; exact hK⟩

theorem wpD_spec (hT : ∀ t, TyOK P t (T t)) {f : FuncId} {fn : Func} {c : Code} {args : List D} {hc : List HO} {Post : Out → List HO → Prop} (hf : P.funcs[f]? = some fn) (hb : fn.body = some c) (hcf : ∀ (vs : Array Value) (w : World), (callFunc f vs).run P w = .ok (.enter f vs) w) {n : Nat} {rs : List ResultVar} (hn : fn.ntmps = n) (hrs : fn.results.toList = rs)
    (h : wpD P G hc.length c (EndQ T rs Post) (args ++ List.replicate (n - args.length) (.tuple [])) hc []) : Spec P G f args hc Post := by
  intro ρ w vs hR hvs
  refine ⟨hcf _ _, ?_⟩
  have hlen := hvs.length
  refine calls_of_wp hf hb ?_
  subst hrs
  have htl : (vs.toArray ++ Array.replicate (fn.ntmps - vs.toArray.size) undef) = (vs ++ List.replicate (n - args.length) undef).toArray := by
    apply Array.ext'
    simp [hn, hlen]
  rw [htl]
  have hrp : RpL ρ w (args ++ List.replicate (n - args.length) (.tuple [])) (vs ++ List.replicate (n - args.length) undef) := by
    refine hvs.append ?_
    generalize n - args.length = m
    induction m with
    | zero => exact RpL_nil.2 rfl
    | succ m ih => rw [List.replicate_succ, List.replicate_succ]; exact RpL_cons'.2 ⟨by rw [Rp]; exact ⟨[], rfl, RpL_nil.2 rfl⟩, ih⟩
  refine wp_mono (h ρ w (hOf hc) ρ w { tmps := (vs ++ List.replicate (n - args.length) undef).toArray, defers := [] } (fun i hi => hR.free i (by unfold hOf; rw [List.getD_eq_getElem?_getD, List.getElem?_eq_none hi]; rfl)) ⟨hR, Ex.refl _ _ _, fun k => ?_, ?_, rfl⟩) ?_
  · unfold tmOf
    rw [Array.getD_eq_getD_getElem?, List.getElem?_toArray]
    cases hk : (args ++ List.replicate (n - args.length) (D.tuple []))[k]? with
    | none => rw [List.getD_eq_getElem?_getD, hk]; show Rp ρ w .junk _; rw [Rp]; trivial
    | some d =>
      obtain ⟨u, h1, h2⟩ := hrp.get hk
      rw [List.getD_eq_getElem?_getD, hk, h1]
      exact h2
  · simpa using hrp.length
  · rintro e a w' ⟨x, tl, hl, df, ρ', ⟨hdf, hq⟩, hx, htl, hst⟩
    subst hdf
    have hd : a.defers = [] := hst.df
    cases x with
    | nrm =>
      cases hx
      cases ht : tellsD T hl tl fn.results.toList with
      | none => rw [ht] at hq; exact hq.elim
      | some d =>
        rw [ht] at hq
        obtain ⟨u, h1, h2⟩ := tellsD_run (P := P) hT hst ht
        exact ⟨hd, u, h1, ρ', .ret d, hl, hq, ⟨u, rfl, h2⟩, hst.rel, hst.ex⟩
    | ret =>
      cases hx
      cases ht : tellsD T hl tl fn.results.toList with
      | none => rw [ht] at hq; exact hq.elim
      | some d =>
        rw [ht] at hq
        obtain ⟨u, h1, h2⟩ := tellsD_run (P := P) hT hst ht
        exact ⟨hd, u, h1, ρ', .ret d, hl, hq, ⟨u, rfl, h2⟩, hst.rel, hst.ex⟩
    | ext i => exact hq.elim
    | pan d =>
      obtain ⟨u, rfl, hu⟩ := hx
      exact ⟨hd, ρ', .pan d, hl, hq, ⟨u, rfl, hu⟩, hst.rel, hst.ex⟩
end
theorem i64w {n : Int} (h1 : -9223372036854775808 ≤ n) (h2 : n ≤ 9223372036854775807) : IntKind.i64.wrap n = n := by
  exact IntWalk.i64_in n ⟨h1, h2⟩
theorem D.pures_map {α : Type} (f : α → D) : ∀ l : List α, D.pures (l.map f) = l.all fun x => (f x).pure
  | [] => by rw [List.map_nil, D.pures]; rfl
  | x :: r => by rw [List.map_cons, D.pures, D.pures_map f r]; rfl
end Go.Proofs.Ytbjgdeednmhpfaa
