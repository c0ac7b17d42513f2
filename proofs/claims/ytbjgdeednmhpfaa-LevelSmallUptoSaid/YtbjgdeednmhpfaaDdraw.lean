/-
  A statement whose order is open, as a goal on data: wpT.
-/
import Derived.Test.YtbjgdeednmhpfaaDspec
set_option linter.unusedSimpArgs false
set_option linter.unusedVariables false
namespace Go.Proofs.Ytbjgdeednmhpfaa
open Go.RowKit

theorem ready_none {ops : Array Oper} {listed : Array Bool} (hback : ∀ i j, waitsFor ops i j = true → j < i) (hs : listed.size = ops.size) (h : Region.ready .any ops listed = []) : ∀ k, k < ops.size → listed.getD k false = true := by
  intro k
  induction k using Nat.strongRecOn with
  | _ k ih =>
    intro hk
    cases hl : listed.getD k true with
    | true =>
      have : k < listed.size := by omega
      simp [this] at hl ⊢
      exact hl
    | false =>
      exfalso
      have hm : k ∈ Region.ready .any ops listed := mem_ready.2 ⟨hl, ops[k], Array.getElem?_eq_getElem hk, fun e he hbd => by
        have h1 : waitsFor ops k e.on = true := by
          unfold waitsFor
          rw [Array.getElem?_eq_getElem hk]
          simp only [Option.map_some, Option.getD_some, List.any_eq_true, Bool.and_eq_true, beq_iff_eq]
          exact ⟨e, by simpa using he, hbd, rfl⟩
        have h2 := hback k e.on h1
        exact ih e.on h2 (by omega)⟩
      rw [h] at hm
      cases hm

def backB (ops : Array Oper) : Bool := (List.range ops.size).all fun i => ((ops[i]?).map (·.after.toList.all fun e => !Region.binds .any e || decide (e.on < i))).getD true
theorem backB_spec {ops : Array Oper} (h : backB ops = true) : ∀ i j, waitsFor ops i j = true → j < i := fun i j hw => by
  unfold waitsFor at hw
  cases ho : ops[i]? with
  | none => rw [ho] at hw; cases hw
  | some o =>
    have hi : i < ops.size := (Array.getElem?_eq_some_iff.1 ho).1
    have h1 := (List.all_eq_true.1 h) i (List.mem_range.2 hi)
    rw [ho] at hw h1
    simp only [Option.map_some, Option.getD_some, List.any_eq_true, List.all_eq_true, Bool.and_eq_true, Bool.or_eq_true, Bool.not_eq_true', decide_eq_true_eq, beq_iff_eq] at hw h1
    obtain ⟨e, he, hb, rfl⟩ := hw
    exact (h1 e he).resolve_left (by rw [hb]; simp)

section
variable {P : Program} {G : Nat → Option D} {Q : Exit → Act → World → Prop} {ops : Array Oper} {ρ0 : Rho} {w0 : World} {H0 : Nat → HO} {nt : Nat} {t0 : Nat → D} {h0 : Nat → HO} {df : Df} {tr : Nat → Ev}

theorem wpAny_mid (hback : ∀ i j, waitsFor ops i j = true → j < i) (hord : orderedBy ops nt (fpOf tr) = true) (hgood : Good P G Q ops t0 h0 tr)
    (hpan : ∀ i, i < ops.size → (tr i).k = .pan → ∀ ρ w a u, Rp ρ w (tr i).d u → InSt G ρ0 w0 H0 nt ρ w a (killT ops t0) (killH ops.size tr h0) df → Q (.panic (thrown u)) a w)
    (hend : (∀ i, i < ops.size → (tr i).k = .ok) → ∀ ρ w a, InSt G ρ0 w0 H0 nt ρ w a (tmU ops tr t0 allE ops.size) (hU tr h0 allE ops.size) df → Q .normal a w) :
    ∀ (fuel : Nat) (listed : Array Bool) (a : Act) (w : World), listed.size = ops.size → ((List.range ops.size).countP fun k => !(listed.getD k false)) ≤ fuel → Mid P G ops ρ0 w0 H0 nt t0 h0 df tr (fun k => listed.getD k false) a w → wpAny P .any ops Q fuel listed a w := by
  have hQ : ∀ {listed : Array Bool} {a : Act} {w : World}, (∀ k, k < ops.size → listed.getD k false = true) → Mid P G ops ρ0 w0 H0 nt t0 h0 df tr (fun k => listed.getD k false) a w → Q .normal a w := by
    intro listed a w hall hM
    obtain ⟨ρ, hst⟩ := hM.st
    refine hend (fun i hi => hM.ok i (hall i hi) hi) ρ w a ?_
    have e1 : tmU ops tr t0 (fun k => listed.getD k false) ops.size = tmU ops tr t0 allE ops.size := by
      funext t; unfold tmU; exact U_congr _ fun j hj _ => hall j hj
    have e2 : hU tr h0 (fun k => listed.getD k false) ops.size = hU tr h0 allE ops.size := by
      funext t; unfold hU; exact U_congr _ fun j hj _ => hall j hj
    rw [e1, e2] at hst
    exact hst
  intro fuel
  induction fuel with
  | zero =>
    intro listed a w hs hc hM
    have hall : ∀ k, k < ops.size → listed.getD k false = true := fun k hk => by
      have := List.countP_eq_zero.1 (Nat.le_zero.1 hc) k (List.mem_range.2 hk)
      simpa using this
    refine ⟨?_, hQ hall hM⟩
    cases hr : Region.ready .any ops listed with
    | nil => rfl
    | cons j r =>
      exfalso
      have hj : j ∈ Region.ready .any ops listed := by rw [hr]; exact List.mem_cons_self ..
      obtain ⟨h0, o, ho, -⟩ := mem_ready.1 hj
      have hlt : j < ops.size := (Array.getElem?_eq_some_iff.1 ho).1
      have := hall j hlt
      have hl : j < listed.size := by omega
      simp [hl] at h0 this
      rw [h0] at this
      cases this
  | succ fuel ih =>
    intro listed a w hs hc hM
    refine ⟨fun hr => hQ (ready_none hback hs hr) hM, fun i hi => ?_⟩
    obtain ⟨hl0, o, ho, hafter⟩ := mem_ready.1 hi
    have hlt : i < ops.size := (Array.getElem?_eq_some_iff.1 ho).1
    have hl : i < listed.size := by omega
    have hun : listed.getD i false = false := by simp [hl] at hl0 ⊢; exact hl0
    have hs' : (listed.setIfInBounds i true).size = ops.size := by simpa using hs
    have hset : (listed.setIfInBounds i true).getD i false = true := by simp [hl]
    have hne : ∀ j, j ≠ i → (listed.setIfInBounds i true).getD j false = listed.getD j false := fun j hj => getD_set_ne false (Ne.symm hj)
    have hc' : ((List.range ops.size).countP fun k => !((listed.setIfInBounds i true).getD k false)) ≤ fuel := by
      have hmono : ∀ (l : List Nat), (l.countP fun k => !((listed.setIfInBounds i true).getD k false)) ≤ (l.countP fun k => !(listed.getD k false)) := fun l =>
        List.countP_mono_left (fun k _ hk => by
          by_cases hki : k = i
          · subst hki; simp [hl] at hk
          · rwa [hne k hki] at hk)
      have hsplit : ∀ (l : List Nat), i ∈ l → (l.countP fun k => !((listed.setIfInBounds i true).getD k false)) < (l.countP fun k => !(listed.getD k false)) := by
        intro l
        induction l with
        | nil => intro h; cases h
        | cons x r ihr =>
          intro h
          rw [List.countP_cons, List.countP_cons]
          by_cases hx : x = i
          · subst hx
            have h1 := hmono r
            have h2 : (!((listed.setIfInBounds x true).getD x false)) = false := by rw [hset]; rfl
            have h3 : (!(listed.getD x false)) = true := by rw [hun]; rfl
            simp only [h2, h3, Bool.false_eq_true, if_false, if_true]
            omega
          · have hm : i ∈ r := by
              cases h with
              | head => exact absurd rfl hx
              | tail _ h => exact h
            have h1 := ihr hm
            rw [hne x hx]
            omega
      have := hsplit _ (List.mem_range.2 hlt)
      omega
    refine mid_step hord hgood hpan hM hlt hun (fun j hj => ?_) hset hne (fun a' w' hM' => ih _ a' w' hs' hc' hM')
    unfold waitsFor at hj
    rw [ho] at hj
    simp only [Option.map_some, Option.getD_some, List.any_eq_true, Bool.and_eq_true, beq_iff_eq] at hj
    obtain ⟨e, he, hb, rfl⟩ := hj
    exact hafter e (by simpa using he) hb

theorem region_mid (hm : P.follows .mixedOrders = true) (hback : backB ops = true) (hord : orderedBy ops nt (fpOf tr) = true) (hgood : Good P G Q ops t0 h0 tr)
    (hpan : ∀ i, i < ops.size → (tr i).k = .pan → ∀ ρ w a u, Rp ρ w (tr i).d u → InSt G ρ0 w0 H0 nt ρ w a (killT ops t0) (killH ops.size tr h0) df → Q (.panic (thrown u)) a w)
    (hend : (∀ i, i < ops.size → (tr i).k = .ok) → ∀ ρ w a, InSt G ρ0 w0 H0 nt ρ w a (tmU ops tr t0 allE ops.size) (hU tr h0 allE ops.size) df → Q .normal a w)
    {id : Nat} {ρ : Rho} {w : World} {a : Act} (hst : InSt G ρ0 w0 H0 nt ρ w a t0 h0 df) : (Code.region id ops true).wp P Q a w := by
  refine wp_region_any hm ?_
  have hno : ∀ k, (Array.replicate ops.size false).getD k false = false := fun k => by
    rw [Array.getD_eq_getD_getElem?, Array.getElem?_replicate]
    split <;> simp
  refine wpAny_mid (backB_spec hback) hord hgood hpan hend ops.size (Array.replicate ops.size false) a _ (by simp) ?_ ⟨⟨ρ, ?_⟩, fun i j h => ?_, fun i h => ?_⟩
  · refine Nat.le_trans List.countP_le_length ?_
    simp
  · have e1 : tmU ops tr t0 (fun k => (Array.replicate ops.size false).getD k false) ops.size = t0 := by
      funext t
      unfold tmU
      rw [U_congr (E' := fun _ => false) _ (fun j _ _ => hno j)]
      generalize ops.size = n
      induction n with
      | zero => rfl
      | succ n ih => simp only [U, Bool.false_eq_true, if_false]; exact ih
    have e2 : hU tr h0 (fun k => (Array.replicate ops.size false).getD k false) ops.size = h0 := by
      funext t
      unfold hU
      rw [U_congr (E' := fun _ => false) _ (fun j _ _ => hno j)]
      generalize ops.size = n
      induction n with
      | zero => rfl
      | succ n ih => simp only [U, Bool.false_eq_true, if_false]; exact ih
    rw [e1, e2]
    obtain ⟨hR, hE⟩ := Ex.drew hst.rel
    exact ⟨hR, hst.ex.trans hE, fun k => Rp.grow hE.grow _ _ (hst.tmp k), hst.size, hst.df.grow hE.grow⟩
  · rw [hno] at h; cases h
  · rw [hno] at h; cases h
end

section
variable (P : Program) (G : Nat → Option D) (T : TypeId → Ty) (ops : Array Oper)

/-- what is looked at, what is changed, of each -/
abbrev Foot := List (List Nat × List Nat)

/-- a call, with what it looks at and changes -/
def CallY (f : FuncId) (args : List D) (hl : List HO) (K : Out → List Nat → List (Nat × HO) → Prop) : Prop := ∃ out rd up, CallOK P G f args (hOf hl) out rd up ∧ K out rd up

theorem CallY.pure {P : Program} {G : Nat → Option D} (hG : ∀ g d, G g = some d → d.pure = true) {f : FuncId} {args args' : List D} {out : Out} (h : Spec P G f args [] (fun o _ => o.fgt = out)) {hl : List HO} {K : Out → List Nat → List (Nat × HO) → Prop} (hK : K out [] []) (ha : D.fgts args' = args) (hp : D.pures args = true) (ho : out.pure = true) : CallY P G f args' hl K :=
  ⟨out, [], [], CallOK.pure hG h ha hp ho _, hK⟩

def late (pk : List (Nat × D)) (i : Nat) : Bool := pk.any fun p => reach ops i p.1

/-- a statement in whatever order: walked in the text's; fp: what each looked at and changed; pk: who throws what -/
def wpT : List Oper → Nat → List D → List HO → Foot → List (Nat × D) → (List D → List HO → Foot → List (Nat × D) → Prop) → Prop
  | [], _, tl, hl, fp, pk, K => K tl hl fp pk
  | o :: r, i, tl, hl, fp, pk, K => if late ops pk i then wpT r (i + 1) (putS tl o.dst .junk) hl (fp ++ [([], [])]) pk K else match wantD ops (tmOf tl) o with
    | none => False
    | some g => if g then match evOp T (opD G (tmOf tl)) (hOf hl) hl.length o with
        | some (.val d rd up) => wpT r (i + 1) (putS tl o.dst d) (updS hl up) (fp ++ [(rd, up.map (·.1))]) pk K
        | some (.call f args) => CallY P G f args hl fun out rd up => match out with
          | .ret d => wpT r (i + 1) (putS tl o.dst d) (updS hl up) (fp ++ [(rd, up.map (·.1))]) pk K
          | .pan d => wpT r (i + 1) (putS tl o.dst d) (updS hl up) (fp ++ [(rd, up.map (·.1))]) ((i, d) :: pk) K
        | some (.pan d) => wpT r (i + 1) (putS tl o.dst d) hl (fp ++ [([], [])]) ((i, d) :: pk) K
        | _ => False
      else wpT r (i + 1) (putS tl o.dst (.tuple [])) hl (fp ++ [([], [])]) pk K

/-- behind a call -/
def wpAftT (r : List Oper) (i : Nat) (tl : List D) (hl : List HO) (dst : Option Tmp) (fp : Foot) (pk : List (Nat × D)) (K : List D → List HO → Foot → List (Nat × D) → Prop) (out : Out) (rd : List Nat) (up : List (Nat × HO)) : Prop :=
  match out with
  | .ret d => wpT P G T ops r (i + 1) (putS tl dst d) (updS hl up) (fp ++ [(rd, up.map (·.1))]) pk K
  | .pan d => wpT P G T ops r (i + 1) (putS tl dst d) (updS hl up) (fp ++ [(rd, up.map (·.1))]) ((i, d) :: pk) K
theorem wpAftT_ret (r : List Oper) (i : Nat) (tl : List D) (hl : List HO) (dst : Option Tmp) (fp : Foot) (pk : List (Nat × D)) (K : List D → List HO → Foot → List (Nat × D) → Prop) (d : D) (rd : List Nat) (up : List (Nat × HO)) :
    wpAftT P G T ops r i tl hl dst fp pk K (.ret d) rd up = wpT P G T ops r (i + 1) (putS tl dst d) (updS hl up) (fp ++ [(rd, up.map (·.1))]) pk K := rfl
theorem wpAftT_pan (r : List Oper) (i : Nat) (tl : List D) (hl : List HO) (dst : Option Tmp) (fp : Foot) (pk : List (Nat × D)) (K : List D → List HO → Foot → List (Nat × D) → Prop) (d : D) (rd : List Nat) (up : List (Nat × HO)) :
    wpAftT P G T ops r i tl hl dst fp pk K (.pan d) rd up = wpT P G T ops r (i + 1) (putS tl dst d) (updS hl up) (fp ++ [(rd, up.map (·.1))]) ((i, d) :: pk) K := rfl

theorem wpT_nil (i : Nat) (tl : List D) (hl : List HO) (fp : Foot) (pk : List (Nat × D)) (K : List D → List HO → Foot → List (Nat × D) → Prop) : wpT P G T ops [] i tl hl fp pk K = K tl hl fp pk := rfl
theorem wpT_cons (o : Oper) (r : List Oper) (i : Nat) (tl : List D) (hl : List HO) (fp : Foot) (pk : List (Nat × D)) (K : List D → List HO → Foot → List (Nat × D) → Prop) : wpT P G T ops (o :: r) i tl hl fp pk K =
    if late ops pk i then wpT P G T ops r (i + 1) (putS tl o.dst .junk) hl (fp ++ [([], [])]) pk K else match wantD ops (tmOf tl) o with
    | none => False
    | some g => if g then match evOp T (opD G (tmOf tl)) (hOf hl) hl.length o with
        | some (.val d rd up) => wpT P G T ops r (i + 1) (putS tl o.dst d) (updS hl up) (fp ++ [(rd, up.map (·.1))]) pk K
        | some (.call f args) => CallY P G f args hl (wpAftT P G T ops r i tl hl o.dst fp pk K)
        | some (.pan d) => wpT P G T ops r (i + 1) (putS tl o.dst d) hl (fp ++ [([], [])]) ((i, d) :: pk) K
        | some (.dfr _ _) => False
        | none => False
      else wpT P G T ops r (i + 1) (putS tl o.dst (.tuple [])) hl (fp ++ [([], [])]) pk K := by
  rw [wpT]
  cases late ops pk i with
  | true => rfl
  | false =>
    cases wantD ops (tmOf tl) o with
    | none => rfl
    | some g =>
      cases g with
      | false => rfl
      | true =>
        simp only [if_true, Bool.false_eq_true, if_false]
        cases evOp T (opD G (tmOf tl)) (hOf hl) hl.length o with
        | none => rfl
        | some x => cases x <;> rfl
theorem wpT_late {o : Oper} {r : List Oper} {i : Nat} {tl : List D} {hl : List HO} {fp : Foot} {pk : List (Nat × D)} {K : List D → List HO → Foot → List (Nat × D) → Prop} (h : late ops pk i = true)
    (hk : wpT P G T ops r (i + 1) (putS tl o.dst .junk) hl (fp ++ [([], [])]) pk K) : wpT P G T ops (o :: r) i tl hl fp pk K := by
  rw [wpT_cons, if_pos h]; exact hk
end

/-- footprints, by number -/
def fpAt (fp : Foot) (i : Nat) : List Nat × List Nat := fp.getD i ([], [])

/-- temporaries that a statement writes, as a list -/
def killTl (ops : Array Oper) (tl : List D) : List D := tl.mapIdx fun t d => if (List.range ops.size).any (fun i => dstOf ops i == some t) then .junk else d
def killHl (fp : Foot) (hl : List HO) : List HO := hl.mapIdx fun r x => if fp.any (fun p => p.2.contains r) then .dead else x

section
variable {P : Program} {G : Nat → Option D} {T : TypeId → Ty} {ops : Array Oper} {Q : Exit → Act → World → Prop}

/-- the operations' parts, from number i on -/
def GoodL (P : Program) (G : Nat → Option D) (Q : Exit → Act → World → Prop) (ops : Array Oper) : List Oper → Nat → List D → List HO → List Ev → List (Nat × D) → Prop
  | [], _, _, _, evs, _ => evs = []
  | o :: r, i, tl, hl, evs, pk => ∃ ev L, evs = ev :: L ∧ (match ev.k with
      | .ok => StepL P G Q ops i o.dst (Oper.looksAt ops o) (tmOf tl) (hOf hl) ev
      | .pan => StepP P G Q ops i (Oper.looksAt ops o) (tmOf tl) (hOf hl) ev
      | .nev => late ops pk i = true) ∧ GoodL P G Q ops r (i + 1) (putS tl o.dst ev.d) (updS hl ev.up) L (match ev.k with | .pan => (i, ev.d) :: pk | _ => pk)

/-- where they end -/
def endL : List Oper → List Ev → List D → List HO → List D × List HO
  | o :: r, ev :: L, tl, hl => endL r L (putS tl o.dst ev.d) (updS hl ev.up)
  | _, _, tl, hl => (tl, hl)
def pksOf : List Ev → Nat → List (Nat × D) → List (Nat × D)
  | [], _, pk => pk
  | ev :: L, i, pk => pksOf L (i + 1) (match ev.k with | .pan => (i, ev.d) :: pk | _ => pk)
def fpL (evs : List Ev) : Foot := evs.map fun ev => (ev.rd, ev.up.map (·.1))

theorem wpT_good (hT : ∀ t, TyOK P t (T t)) : ∀ (l : List Oper) (i : Nat) (tl : List D) (hl : List HO) (fp : Foot) (pk : List (Nat × D)) (K : List D → List HO → Foot → List (Nat × D) → Prop), (∀ j o, l[j]? = some o → ops[i + j]? = some o) → wpT P G T ops l i tl hl fp pk K →
    ∃ evs, GoodL P G Q ops l i tl hl evs pk ∧ K (endL l evs tl hl).1 (endL l evs tl hl).2 (fp ++ fpL evs) (pksOf evs i pk)
  | [], i, tl, hl, fp, pk, K, _, h => ⟨[], rfl, by simpa [endL, fpL, pksOf, wpT] using h⟩
  | o :: r, i, tl, hl, fp, pk, K, ho, h => by
    have hoi : ops[i]? = some o := ho 0 o rfl
    have hor : ∀ j o, r[j]? = some o → ops[i + 1 + j]? = some o := fun j x hj => by
      have := ho (j + 1) x (by simpa using hj)
      rwa [show i + 1 + j = i + (j + 1) by omega]
    -- one more
    have key : ∀ (ev : Ev) (pk' : List (Nat × D)), pk' = (match ev.k with | .pan => (i, ev.d) :: pk | _ => pk) → (match ev.k with
        | .ok => StepL P G Q ops i o.dst (Oper.looksAt ops o) (tmOf tl) (hOf hl) ev
        | .pan => StepP P G Q ops i (Oper.looksAt ops o) (tmOf tl) (hOf hl) ev
        | .nev => late ops pk i = true) → wpT P G T ops r (i + 1) (putS tl o.dst ev.d) (updS hl ev.up) (fp ++ [(ev.rd, ev.up.map (·.1))]) pk' K →
        ∃ evs, GoodL P G Q ops (o :: r) i tl hl evs pk ∧ K (endL (o :: r) evs tl hl).1 (endL (o :: r) evs tl hl).2 (fp ++ fpL evs) (pksOf evs i pk) := by
      intro ev pk' hpk hstep hrest
      subst hpk
      obtain ⟨evs, h1, h2⟩ := wpT_good hT r (i + 1) _ _ _ _ K hor hrest
      refine ⟨ev :: evs, ⟨ev, evs, rfl, hstep, h1⟩, ?_⟩
      have : fp ++ fpL (ev :: evs) = fp ++ [(ev.rd, ev.up.map (·.1))] ++ fpL evs := by simp [fpL]
      rw [this]
      exact h2
    rw [wpT] at h
    cases hlate : late ops pk i with
    | true =>
      rw [hlate] at h
      simp only [if_true] at h
      exact key ⟨.nev, .junk, [], []⟩ pk rfl hlate h
    | false =>
      rw [hlate] at h
      simp only [Bool.false_eq_true, if_false] at h
      cases hw : wantD ops (tmOf tl) o with
      | none => rw [hw] at h; exact h.elim
      | some g =>
        rw [hw] at h
        dsimp only at h
        cases g with
        | false =>
          simp only [Bool.false_eq_true, if_false] at h
          exact key ⟨.ok, .tuple [], [], []⟩ pk rfl (fun ρ w a H hR hH hu K hK => wpOp_one hoi (one_off hw hR hu hK)) h
        | true =>
          simp only [if_true] at h
          cases hev : evOp T (opD G (tmOf tl)) (hOf hl) hl.length o with
          | none => rw [hev] at h; exact h.elim
          | some x =>
            rw [hev] at h
            cases x with
            | val d rd up =>
              dsimp only at h
              exact key ⟨.ok, d, rd, up⟩ pk rfl (fun ρ w a H hR hH hu K hK => wpOp_one hoi (one_val hT hw hev hR hH hu hK)) h
            | call f args =>
              dsimp only at h
              obtain ⟨out, rd, up, hc, h⟩ := h
              cases out with
              | ret d =>
                dsimp only at h
                exact key ⟨.ok, d, rd, up⟩ pk rfl (fun ρ w a H hR hH hu K hK => wpOp_one hoi (one_call hw hev hc hR hH hu hK)) h
              | pan d =>
                dsimp only at h
                exact key ⟨.pan, d, rd, up⟩ ((i, d) :: pk) rfl (fun ρ w a H hR hH hu K hK => wpOp_one hoi (one_call_pan hw hev hc hR hH hu hK)) h
            | pan d =>
              dsimp only at h
              exact key ⟨.pan, d, [], []⟩ ((i, d) :: pk) rfl (fun ρ w a H hR hH hu K hK => wpOp_one hoi (one_pan hw hev hR hu hK)) h
            | dfr f cap => exact h.elim

theorem tmOf_putS {tl : List D} {dst : Option Tmp} {d : D} (hd : ∀ t, dst = some t → t < tl.length) : tmOf (putS tl dst d) = fun t => (if dst = some t then some d else none).getD (tmOf tl t) := by
  funext t
  cases dst with
  | none => simp [putS]
  | some k =>
    by_cases hk : k = t
    · subst hk
      have := hd k rfl
      simp [tmOf, putS, List.getD, this]
    · have : ¬ (some k = some t) := fun e => hk (Option.some.inj e)
      simp only [this, if_false, Option.getD_none]
      unfold tmOf putS
      rw [List.getD_eq_getElem?_getD, List.getD_eq_getElem?_getD, List.getElem?_set_ne hk]

theorem good_of_L {nt : Nat} {trk : Nat → Ev} : ∀ (l : List Oper) (i : Nat) (tl : List D) (hl : List HO) (evs : List Ev) (pk : List (Nat × D)), (∀ j o, l[j]? = some o → ops[i + j]? = some o) → i + l.length = ops.size → tl.length = nt → (∀ j t, dstOf ops j = some t → t < nt) →
    (∀ j ev, evs[j]? = some ev → trk (i + j) = ev) → GoodL P G Q ops l i tl hl evs pk → ∀ {t0 : Nat → D} {h0 : Nat → HO}, tmU ops trk t0 allE i = tmOf tl → hU trk h0 allE i = hOf hl → (∀ p, p ∈ pk → p.1 < i ∧ (trk p.1).k = .pan ∧ (trk p.1).d = p.2) →
    (∀ j, i ≤ j → j < ops.size → match (trk j).k with
      | .ok => StepL P G Q ops j (dstOf ops j) (usedOf ops j) (tmU ops trk t0 allE j) (hU trk h0 allE j) (trk j)
      | .pan => StepP P G Q ops j (usedOf ops j) (tmU ops trk t0 allE j) (hU trk h0 allE j) (trk j)
      | .nev => ∃ k, k < ops.size ∧ reach ops j k = true ∧ (trk k).k = .pan) ∧ tmU ops trk t0 allE ops.size = tmOf (endL l evs tl hl).1 ∧ hU trk h0 allE ops.size = hOf (endL l evs tl hl).2 ∧ (endL l evs tl hl).1.length = nt ∧
      (∀ p, p ∈ pk → p ∈ pksOf evs i pk) ∧ (∀ j, i ≤ j → j < ops.size → (trk j).k = .pan → (j, (trk j).d) ∈ pksOf evs i pk) ∧ evs.length = l.length
  | [], i, tl, hl, evs, pk, ho, hn, htl, hdt, htr, hg, t0, h0, e1, e2, hpk => by
    have : evs = [] := hg
    subst this
    have hi : i = ops.size := by simpa using hn
    subst hi
    exact ⟨fun j h1 h2 => by omega, e1, e2, htl, fun p hp => hp, fun j h1 h2 => by omega, rfl⟩
  | o :: r, i, tl, hl, evs, pk, ho, hn, htl, hdt, htr, hg, t0, h0, e1, e2, hpk => by
    obtain ⟨ev, L, rfl, hstep, hg⟩ := hg
    have hoi : ops[i]? = some o := ho 0 o rfl
    have htri : trk i = ev := htr 0 ev rfl
    have hdst : dstOf ops i = o.dst := by unfold dstOf; rw [hoi]; rfl
    have hused : usedOf ops i = Oper.looksAt ops o := by unfold usedOf; rw [hoi]; rfl
    have hi : i < ops.size := (Array.getElem?_eq_some_iff.1 hoi).1
    have e1' : tmU ops trk t0 allE (i + 1) = tmOf (putS tl o.dst ev.d) := by
      rw [tmOf_putS (fun t ht => by rw [htl]; exact hdt i t (by rw [hdst]; exact ht))]
      funext t
      have := congrFun e1 t
      unfold tmU at this ⊢
      simp only [U, hdst, htri]
      rw [if_pos (show allE i = true from rfl)]
      rw [this]
    have e2' : hU trk h0 allE (i + 1) = hOf (updS hl ev.up) := by
      rw [hOf_upd]
      funext t
      have := congrFun e2 t
      unfold hU at this ⊢
      simp only [U, htri]
      rw [if_pos (show allE i = true from rfl)]
      rw [this, updL_lk]
    have hpk' : ∀ p, p ∈ (match ev.k with | .pan => (i, ev.d) :: pk | _ => pk) → p.1 < i + 1 ∧ (trk p.1).k = .pan ∧ (trk p.1).d = p.2 := by
      intro p hp
      cases hk : ev.k with
      | ok => rw [hk] at hp; obtain ⟨a, b, c⟩ := hpk p hp; exact ⟨by omega, b, c⟩
      | nev => rw [hk] at hp; obtain ⟨a, b, c⟩ := hpk p hp; exact ⟨by omega, b, c⟩
      | pan =>
        rw [hk] at hp
        cases hp with
        | head => exact ⟨by simp, by rw [htri]; exact hk, by rw [htri]⟩
        | tail _ hp => obtain ⟨a, b, c⟩ := hpk p hp; exact ⟨by omega, b, c⟩
    obtain ⟨g1, g2, g3, g4, g5, g6, g7⟩ := good_of_L r (i + 1) (putS tl o.dst ev.d) (updS hl ev.up) L _ (fun j x hj => by
      have := ho (j + 1) x (by simpa using hj)
      rwa [show i + 1 + j = i + (j + 1) by omega]) (by simp at hn; omega) (by rw [putS_length]; exact htl) hdt (fun j x hj => by
      have := htr (j + 1) x (by simpa using hj)
      rwa [show i + 1 + j = i + (j + 1) by omega]) hg e1' e2' hpk'
    have hsub : ∀ p, p ∈ pk → p ∈ (match ev.k with | .pan => (i, ev.d) :: pk | _ => pk) := fun p hp => by
      cases ev.k with
      | ok => exact hp
      | nev => exact hp
      | pan => exact List.mem_cons_of_mem _ hp
    refine ⟨fun j h1 h2 => ?_, g2, g3, g4, fun p hp => g5 p (hsub p hp), fun j h1 h2 h3 => ?_, by simp [g7]⟩
    · by_cases hj : j = i
      · subst hj
        rw [htri, hdst, hused, e1, e2]
        cases hk : ev.k with
        | ok => rw [hk] at hstep; exact hstep
        | pan => rw [hk] at hstep; exact hstep
        | nev =>
          rw [hk] at hstep
          obtain ⟨p, hp, hr⟩ := List.any_eq_true.1 (show (pk.any fun p => reach ops j p.1) = true from hstep)
          obtain ⟨a, b, c⟩ := hpk p hp
          exact ⟨p.1, by omega, hr, b⟩
      · exact g1 j (by omega) h2
    · by_cases hj : j = i
      · subst hj
        refine g5 _ ?_
        rw [htri] at h3 ⊢
        rw [h3]
        exact List.mem_cons_self ..
      · exact g6 j (by omega) h2 h3
end

section
variable {P : Program} {G : Nat → Option D} {T : TypeId → Ty} {ops : Array Oper} {Q : DQ} {tl : List D} {hl : List HO} {df : Df} {M : Nat}

theorem fpAt_fpL {evs : List Ev} {tr : Nat → Ev} (h : ∀ j ev, evs[j]? = some ev → tr j = ev) {n : Nat} (hn : evs.length = n) {nt : Nat} (hs : ops.size = n) (ho : orderedBy ops nt (fpAt (fpL evs)) = true) : orderedBy ops nt (fpOf tr) = true := by
  have he : ∀ i, i < n → fpOf tr i = fpAt (fpL evs) i := fun i hi => by
    have hi2 : i < evs.length := by omega
    have := h i _ (List.getElem?_eq_getElem hi2)
    unfold fpOf fpAt fpL
    rw [this, List.getD_eq_getElem?_getD, List.getElem?_map, List.getElem?_eq_getElem hi2]
    rfl
  refine List.all_eq_true.2 fun i hi => ?_
  have hi' : i < n := by rw [← hs]; exact List.mem_range.1 hi
  have h1 := (List.all_eq_true.1 ho) i hi
  rw [he i hi']
  simp only [Bool.and_eq_true, List.all_eq_true, List.mem_range] at h1 ⊢
  refine ⟨h1.1, fun j hj => ?_⟩
  have := h1.2 j hj
  unfold clash at this ⊢
  rw [he i hi', he j (by omega)]
  exact this

theorem killT_list {ops : Array Oper} {tl : List D} : killT ops (tmOf tl) = tmOf (killTl ops tl) := by
  funext t
  unfold killT tmOf killTl
  rw [List.getD_eq_getElem?_getD, List.getD_eq_getElem?_getD, List.getElem?_mapIdx]
  cases tl[t]? with
  | none => simp
  | some d => simp

theorem killH_list {n : Nat} {tr : Nat → Ev} {evs : List Ev} (htr : ∀ j ev, evs[j]? = some ev → tr j = ev) (hn : evs.length = n) {hl : List HO} {m : Nat} (hm : hl.length ≤ m) (hall : ((fpL evs).all fun p => p.2.all fun r => decide (r < m)) = true) :
    killH n tr (hOf hl) = hOf (killHl (fpL evs) (hl ++ List.replicate (m - hl.length) .free)) := by
  have hany : ∀ r, (List.range n).any (fun i => ((tr i).up.map (·.1)).contains r) = (fpL evs).any (fun p => p.2.contains r) := fun r => by
    rw [Bool.eq_iff_iff, List.any_eq_true, List.any_eq_true]
    constructor
    · rintro ⟨i, hi, hc⟩
      have hi' : i < evs.length := by rw [hn]; exact List.mem_range.1 hi
      rw [htr i _ (List.getElem?_eq_getElem hi')] at hc
      exact ⟨_, List.mem_map.2 ⟨evs[i], List.getElem_mem hi', rfl⟩, hc⟩
    · rintro ⟨p, hp, hc⟩
      obtain ⟨ev, hev, rfl⟩ := List.mem_map.1 hp
      obtain ⟨i, hi⟩ := List.getElem?_of_mem hev
      have hi' : i < evs.length := (List.getElem?_eq_some_iff.1 hi).1
      exact ⟨i, List.mem_range.2 (by omega), by rw [htr i _ hi]; exact hc⟩
  funext r
  unfold killH hOf killHl
  rw [hany r, List.getD_eq_getElem?_getD, List.getD_eq_getElem?_getD, List.getElem?_mapIdx]
  by_cases hr : r < m
  · have hlen : r < (hl ++ List.replicate (m - hl.length) HO.free).length := by simp; omega
    rw [List.getElem?_eq_getElem hlen]
    simp only [Option.map_some, Option.getD_some]
    split
    · rfl
    · by_cases h1 : r < hl.length
      · rw [List.getElem?_eq_getElem h1, List.getElem_append_left h1]; rfl
      · rw [List.getElem?_eq_none (by omega), List.getElem_append_right (by omega)]; simp
  · have hno : (fpL evs).any (fun p => p.2.contains r) = false := by
      cases h : (fpL evs).any (fun p => p.2.contains r) with
      | false => rfl
      | true =>
        obtain ⟨p, hp, hc⟩ := List.any_eq_true.1 h
        have := (List.all_eq_true.1 ((List.all_eq_true.1 hall) p hp)) r (by simpa using hc)
        simp at this; omega
    have h1 : (hl ++ List.replicate (m - hl.length) HO.free).length ≤ r := by simp; omega
    have h2 : hl.length ≤ r := by omega
    rw [hno, List.getElem?_eq_none h1, List.getElem?_eq_none h2]
    simp

/-- A statement whose order is open. -/
theorem wpD_draw (hT : ∀ t, TyOK P t (T t)) (hm : P.follows .mixedOrders = true) {id : Nat} (hback : backB ops = true)
    (h : wpT P G T ops ops.toList 0 tl hl [] [] (fun tl' hl' fp pk => (orderedBy ops tl.length (fpAt fp) && decide (hl.length ≤ hl'.length) && fp.all fun p => p.2.all fun r => decide (r < hl'.length)) = true ∧ (match pk with
      | [] => Q .nrm tl' hl' df
      | _ => ∀ p, p ∈ pk → Q (.pan p.2) (killTl ops tl) (killHl fp (hl ++ List.replicate (hl'.length - hl.length) .free)) df))) : wpD P G M (.region id ops true) Q tl hl df := fun ρ0 w0 H0 ρ w a hbs hst => by
  obtain ⟨evs, hg, hord, hfin⟩ := wpT_good (Q := LiftQ G ρ0 w0 H0 tl.length Q) hT ops.toList 0 tl hl [] [] _ (fun j o hj => by simpa using hj) h
  rw [List.nil_append] at hord hfin
  simp only [Bool.and_eq_true, decide_eq_true_eq] at hord
  obtain ⟨⟨hord, hle⟩, hall⟩ := hord
  let tr : Nat → Ev := fun i => evs.getD i ⟨.ok, .junk, [], []⟩
  have htr : ∀ j ev, evs[j]? = some ev → tr j = ev := fun j ev hj => by
    show evs.getD j _ = ev
    rw [List.getD_eq_getElem?_getD, hj]; rfl
  have hdt : ∀ j t, dstOf ops j = some t → t < tl.length := fun j t hj => by
    by_cases hjs : j < ops.size
    · exact (ordered_at hord hjs).1 t hj
    · unfold dstOf at hj; rw [Array.getElem?_eq_none (by omega)] at hj; cases hj
  obtain ⟨g1, g2, g3, g4, -, g6, g7⟩ := good_of_L (P := P) (G := G) (Q := LiftQ G ρ0 w0 H0 tl.length Q) (trk := tr) (nt := tl.length) ops.toList 0 tl hl evs [] (fun j o hj => by simpa using hj) (by simp) rfl hdt (fun j ev hj => by rw [Nat.zero_add]; exact htr j ev hj) hg (t0 := tmOf tl) (h0 := hOf hl) rfl rfl (by simp)
  have hn : evs.length = ops.size := by simpa using g7
  have hordF : orderedBy ops tl.length (fpOf tr) = true := fpAt_fpL htr hn rfl hord
  refine region_mid hm hback hordF (fun i hi => g1 i (Nat.zero_le _) hi) (fun i hi hk ρ' w' a' u hu hst' => ?_) (fun hok ρ' w' a' hst' => ?_) hst
  · have hmem := g6 i (Nat.zero_le _) hi hk
    rw [killT_list, killH_list htr hn hle hall] at hst'
    generalize pksOf evs 0 [] = pk at hfin hmem
    cases pk with
    | nil => cases hmem
    | cons p pk =>
      have := hfin _ hmem
      exact ⟨.pan (tr i).d, _, _, df, ρ', this, ⟨u, rfl, hu⟩, by simp [killTl], hst'⟩
  · have hnil : ∀ (l : List Ev) (i : Nat), (∀ ev, ev ∈ l → ev.k = .ok) → pksOf l i [] = [] := by
      intro l
      induction l with
      | nil => intro i _; rfl
      | cons ev l ih =>
        intro i he
        rw [pksOf, he ev (List.mem_cons_self ..)]
        exact ih _ fun x hx => he x (List.mem_cons_of_mem _ hx)
    rw [hnil evs 0 (fun ev hev => by
      obtain ⟨j, hj⟩ := List.getElem?_of_mem hev
      have hjl : j < evs.length := (List.getElem?_eq_some_iff.1 hj).1
      have := hok j (by omega)
      rwa [htr j ev hj] at this)] at hfin
    rw [g2, g3] at hst'
    exact ⟨.nrm, _, _, df, ρ', hfin, rfl, g4, hst'⟩

/-- so, what comes behind hidden -/
theorem wpD_drawk (hT : ∀ t, TyOK P t (T t)) (hm : P.follows .mixedOrders = true) {id : Nat} (hback : backB ops = true)
    (h : ∀ K : List D → List HO → Foot → List (Nat × D) → Prop, (∀ tl' hl' fp pk, (orderedBy ops tl.length (fpAt fp) && decide (hl.length ≤ hl'.length) && fp.all fun p => p.2.all fun r => decide (r < hl'.length)) = true → (match pk with
      | [] => Q .nrm tl' hl' df
      | _ => ∀ p, p ∈ pk → Q (.pan p.2) (killTl ops tl) (killHl fp (hl ++ List.replicate (hl'.length - hl.length) .free)) df) → K tl' hl' fp pk) → wpT P G T ops ops.toList 0 tl hl [] [] K) : wpD P G M (.region id ops true) Q tl hl df :=
  wpD_draw hT hm hback (h _ fun _ _ _ _ h1 h2 => ⟨h1, h2⟩)
end
end Go.Proofs.Ytbjgdeednmhpfaa
