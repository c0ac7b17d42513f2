/-
  A statement whose order is open, on data: each operation's value and changes are those of the text's order, if what conflicts is ordered.
-/
import Derived.Test.YtbjgdeednmhpfaaDsnd2
import Derived.OrdersHeld
set_option linter.unusedSimpArgs false
set_option linter.unusedVariables false
namespace Go.Proofs.Ytbjgdeednmhpfaa
open Go.RowKit

section
variable {α : Type}
/-- updates, some of them, in order -/
def U (x0 : Nat → α) (f : Nat → Nat → Option α) (E : Nat → Bool) : Nat → Nat → α
  | 0, r => x0 r
  | k + 1, r => if E k then (f k r).getD (U x0 f E k r) else U x0 f E k r

variable {x0 : Nat → α} {f : Nat → Nat → Option α} {E E' : Nat → Bool} {r : Nat}
theorem U_congr : ∀ k, (∀ j, j < k → (f j r).isSome = true → E j = E' j) → U x0 f E k r = U x0 f E' k r
  | 0, _ => rfl
  | k + 1, h => by
    have ih := U_congr k (fun j hj => h j (by omega))
    simp only [U, ih]
    cases hf : f k r with
    | none => simp
    | some x => rw [h k (by omega) (by rw [hf]; rfl)]
theorem U_stop {i : Nat} : ∀ n, i ≤ n → (∀ j, i ≤ j → j < n → (f j r).isSome = true → E j = false) → U x0 f E n r = U x0 f E i r
  | 0, h, _ => by
    have : i = 0 := by omega
    subst this; rfl
  | n + 1, h, hj => by
    by_cases hn : i = n + 1
    · subst hn; rfl
    · have ih := U_stop n (by omega) (fun j h1 h2 => hj j h1 (by omega))
      simp only [U, ih]
      cases hf : f n r with
      | none => simp
      | some x => rw [hj n (by omega) (by omega) (by rw [hf]; rfl)]; simp
theorem U_set {i n : Nat} (hi : i < n) (hE : E' i = true) (hE2 : ∀ j, j ≠ i → E' j = E j) (h : ∀ j, i < j → j < n → (f j r).isSome = true → (f i r).isSome = true → E j = false) :
    U x0 f E' n r = (f i r).getD (U x0 f E n r) := by
  cases hf : f i r with
  | none =>
    refine (U_congr n fun j hj hs => ?_)
    by_cases hji : j = i
    · subst hji; rw [hf] at hs; cases hs
    · exact hE2 j hji
  | some x =>
    rw [U_stop (i := i + 1) n (by omega) (fun j h1 h2 h3 => by rw [hE2 j (by omega)]; exact h j (by omega) h2 h3 (by rw [hf]; rfl))]
    simp [U, hE, hf]
end

def waitsFor (ops : Array Oper) (i j : Nat) : Bool := ((ops[i]?).map (·.after.toList.any fun e => Region.binds .any e && e.on == j)).getD false

/-- whom an operation waits for, as bits -/
def maskOf (acc : Array Nat) : List Edge → Nat
  | [] => 0
  | e :: r => if Region.binds .any e then (2 ^ e.on) ||| (acc.getD e.on 0) ||| maskOf acc r else maskOf acc r
def befGo : List Oper → Array Nat → Array Nat
  | [], acc => acc
  | o :: r, acc => befGo r (acc.push (maskOf acc o.after.toList))
/-- does number i wait for number j, through others too? -/
def reach (ops : Array Oper) (i j : Nat) : Bool := ((befGo ops.toList #[]).getD i 0).testBit j

theorem maskOf_bit {acc : Array Nat} {j : Nat} : ∀ {es : List Edge}, (maskOf acc es).testBit j = true → ∃ e, e ∈ es ∧ Region.binds .any e = true ∧ (e.on = j ∨ (acc.getD e.on 0).testBit j = true)
  | [], h => by simp [maskOf] at h
  | e :: r, h => by
    rw [maskOf] at h
    split at h
    · rename_i hb
      rw [Nat.testBit_or, Nat.testBit_or] at h
      simp only [Bool.or_eq_true] at h
      rcases h with (h | h) | h
      · rw [Nat.testBit_two_pow] at h
        exact ⟨e, List.mem_cons_self .., hb, .inl (by simpa using h)⟩
      · exact ⟨e, List.mem_cons_self .., hb, .inr h⟩
      · obtain ⟨e', h1, h2⟩ := maskOf_bit h
        exact ⟨e', List.mem_cons_of_mem _ h1, h2⟩
    · obtain ⟨e', h1, h2⟩ := maskOf_bit h
      exact ⟨e', List.mem_cons_of_mem _ h1, h2⟩

theorem befGo_mem {ops : Array Oper} {E : Nat → Bool} (hE : ∀ i j, E i = true → waitsFor ops i j = true → E j = true) : ∀ (l : List Oper) (acc : Array Nat), ops.toList.drop acc.size = l →
    (∀ i, i < acc.size → ∀ j, (acc.getD i 0).testBit j = true → (∀ k, waitsFor ops i k = true → E k = true) → E j = true) →
    ∀ i j, ((befGo l acc).getD i 0).testBit j = true → (∀ k, waitsFor ops i k = true → E k = true) → E j = true
  | [], acc, _, h, i, j, hb, hd => by
    rw [befGo] at hb
    rcases Nat.lt_or_ge i acc.size with hi | hi
    · exact h i hi j hb hd
    · rw [Array.getD_eq_getD_getElem?, Array.getElem?_eq_none hi] at hb; simp at hb
  | o :: r, acc, hl, h, i, j, hb, hd => by
    rw [befGo] at hb
    refine befGo_mem hE r _ ?_ ?_ i j hb hd
    · rw [Array.size_push, ← List.drop_drop, hl]; rfl
    · intro i hi j hb hd
      rw [Array.size_push] at hi
      by_cases hia : i = acc.size
      · subst hia
        have ho : ops[acc.size]? = some o := by
          have := congrArg (·[0]?) hl
          simpa using this
        rw [Array.getD_eq_getD_getElem?] at hb
        simp only [Array.getElem?_push_size, Option.getD_some] at hb
        obtain ⟨e, he, hbd, hj⟩ := maskOf_bit hb
        have hw : waitsFor ops acc.size e.on = true := by
          unfold waitsFor; rw [ho]
          simp only [Option.map_some, Option.getD_some, List.any_eq_true, Bool.and_eq_true, beq_iff_eq]
          exact ⟨e, he, hbd, rfl⟩
        have h1 := hd _ hw
        rcases hj with rfl | hj
        · exact h1
        · rcases Nat.lt_or_ge e.on acc.size with hlt | hge
          · exact h e.on hlt j hj (fun k hk => hE _ k h1 hk)
          · rw [Array.getD_eq_getD_getElem?, Array.getElem?_eq_none hge] at hj; simp at hj
      · have hlt : i < acc.size := by omega
        refine h i hlt j ?_ hd
        rw [Array.getD_eq_getD_getElem?, Array.getElem?_push_lt hlt] at hb
        rw [Array.getD_eq_getD_getElem?, Array.getElem?_eq_getElem hlt]
        exact hb

theorem reach_mem {ops : Array Oper} {E : Nat → Bool} (hE : ∀ i j, E i = true → waitsFor ops i j = true → E j = true) (i j : Nat) (hd : ∀ k, waitsFor ops i k = true → E k = true) (h : reach ops i j = true) : E j = true :=
  befGo_mem hE ops.toList #[] (by simp) (fun i hi => absurd hi (Nat.not_lt_zero _)) i j h hd

/-- last of the changes of a name -/
def lkU (r : Nat) : List (Nat × HO) → Option HO
  | [] => none
  | (n, x) :: l => match lkU r l with
    | some y => some y
    | none => if r = n then some x else none
theorem updL_lk (r : Nat) : ∀ (up : List (Nat × HO)) (H : Nat → HO), updL H up r = (lkU r up).getD (H r)
  | [], H => rfl
  | (n, x) :: l, H => by
    rw [updL, updL_lk r l, lkU]
    cases lkU r l with
    | some y => rfl
    | none => by_cases h : r = n <;> simp [h, setH]

/-- an operation's part in a statement: it leaves a value; it throws; it never comes up, since one that it waits for throws -/
inductive Kd where
  | ok | pan | nev
structure Ev where
  k : Kd
  d : D
  rd : List Nat
  up : List (Nat × HO)

/-- what is thrown -/
def thrown (u : Value) : List PanicEntry := [{ v := u, recovered := false }]

section
variable (P : Program) (G : Nat → Option D) (Q : Exit → Act → World → Prop) (ops : Array Oper)

/-- number i, with these temporaries, these objects, leaves d and changes objects so -/
def StepL (i : Nat) (dst : Option Tmp) (used : List Tmp) (tm : Nat → D) (h : Nat → HO) (ev : Ev) : Prop :=
  ∀ (ρ : Rho) (w : World) (a : Act) (H : Nat → HO), Rel G ρ w H → (∀ r, r ∈ ev.rd → H r = h r) → (∀ t, t ∈ used → Rp ρ w (tm t) (a.tmps.getD t undef)) →
    ∀ K : Act → World → Prop, (∀ u ρ' w', Rp ρ' w' ev.d u → Rel G ρ' w' (updL H ev.up) → Ex ρ w H ρ' w' (updL H ev.up) → K (a.put dst u) w') → wpOp P ops Q i K a w

/-- number i throws d -/
def StepP (i : Nat) (used : List Tmp) (tm : Nat → D) (h : Nat → HO) (ev : Ev) : Prop :=
  ∀ (ρ : Rho) (w : World) (a : Act) (H : Nat → HO), Rel G ρ w H → (∀ r, r ∈ ev.rd → H r = h r) → (∀ t, t ∈ used → Rp ρ w (tm t) (a.tmps.getD t undef)) →
    ∀ K : Act → World → Prop, (∀ u ρ' w', Rp ρ' w' ev.d u → Rel G ρ' w' (updL H ev.up) → Ex ρ w H ρ' w' (updL H ev.up) → Q (.panic (thrown u)) a w') → wpOp P ops Q i K a w
end

def dstOf (ops : Array Oper) (i : Nat) : Option Tmp := (ops[i]?).bind (·.dst)
def usedOf (ops : Array Oper) (i : Nat) : List Tmp := ((ops[i]?).map (Oper.looksAt ops)).getD []

/-- what conflicts -/
def clash (ops : Array Oper) (fp : Nat → List Nat × List Nat) (i j : Nat) : Bool :=
  (match dstOf ops j with | some t => (usedOf ops i).contains t || dstOf ops i == some t | none => false) ||
  (match dstOf ops i with | some t => (usedOf ops j).contains t | none => false) ||
  (fp i).1.any (fun r => (fp j).2.contains r) || (fp j).1.any (fun r => (fp i).2.contains r)

/-- what conflicts is ordered; temporaries are there; what is changed is looked at -/
def orderedBy (ops : Array Oper) (nt : Nat) (fp : Nat → List Nat × List Nat) : Bool :=
  (List.range ops.size).all fun i =>
    (match dstOf ops i with | some t => decide (t < nt) | none => true) && (fp i).2.all (fun r => (fp i).1.contains r) &&
    (List.range i).all fun j => !clash ops fp i j || reach ops i j

def fpOf (tr : Nat → Ev) (i : Nat) : List Nat × List Nat := ((tr i).rd, (tr i).up.map (·.1))

theorem lkU_some {r : Nat} : ∀ {up : List (Nat × HO)}, (lkU r up).isSome = true → r ∈ up.map (·.1)
  | [], h => by cases h
  | (n, x) :: l, h => by
    rw [lkU] at h
    cases hl : lkU r l with
    | some y => exact List.mem_cons_of_mem _ (lkU_some (by rw [hl]; rfl))
    | none =>
      rw [hl] at h
      by_cases hr : r = n
      · subst hr; exact List.mem_cons_self ..
      · simp [hr] at h

/-- temporaries, objects, when some have come up -/
def tmU (ops : Array Oper) (tr : Nat → Ev) (t0 : Nat → D) (E : Nat → Bool) (k : Nat) : Nat → D := U t0 (fun i t => if dstOf ops i = some t then some (tr i).d else none) E k
def hU (tr : Nat → Ev) (h0 : Nat → HO) (E : Nat → Bool) (k : Nat) : Nat → HO := U h0 (fun i r => lkU r (tr i).up) E k

theorem U_none {α : Type} {x0 : Nat → α} {f : Nat → Nat → Option α} {E : Nat → Bool} {r : Nat} : ∀ n, (∀ j, j < n → (f j r) = none) → U x0 f E n r = x0 r
  | 0, _ => rfl
  | n + 1, h => by
    have ih := U_none (x0 := x0) (E := E) n (fun j hj => h j (by omega))
    simp [U, ih, h n (by omega)]

/-- calls for later -/
def DfM (ρ : Rho) (w : World) : List Deferred → List (FuncId × List D) → Prop
  | ds, [] => ds = []
  | ds, (f, cs) :: r => ∃ (us : List Value) (ds' : List Deferred), ds = { target := .fn (.func f) us.toArray, args := #[] } :: ds' ∧ RpL ρ w cs us ∧ DfM ρ w ds' r

theorem DfM.grow {ρ ρ' : Rho} {w w' : World} (g : Grow ρ w ρ' w') : ∀ {df : List (FuncId × List D)} {ds : List Deferred}, DfM ρ w ds df → DfM ρ' w' ds df
  | [], ds, h => h
  | (f, cs) :: r, ds, ⟨us, ds', h1, h2, h3⟩ => ⟨us, ds', h1, RpL.grow g _ _ h2, DfM.grow g h3⟩

/-- where a call stands: its temporaries, its objects, its calls for later -/
structure InSt (G : Nat → Option D) (ρ0 : Rho) (w0 : World) (H0 : Nat → HO) (nt : Nat) (ρ : Rho) (w : World) (a : Act) (t : Nat → D) (h : Nat → HO) (df : List (FuncId × List D)) : Prop where
  rel : Rel G ρ w h
  ex : Ex ρ0 w0 H0 ρ w h
  tmp : ∀ k, Rp ρ w (t k) (a.tmps.getD k undef)
  size : a.tmps.size = nt
  df : DfM ρ w a.defers df

theorem Rel.kill {G : Nat → Option D} {ρ : Rho} {w : World} {H H' : Nat → HO} (hR : Rel G ρ w H) (h : ∀ r, H' r = H r ∨ H' r = .dead) : Rel G ρ w H' := by
  have hl : ∀ r, (H' r).live = true → H' r = H r := fun r hr => by
    rcases h r with h | h
    · exact h
    · rw [h] at hr; cases hr
  refine ⟨fun i hi => ?_, hR.fresh, fun i b f h1 => ?_, fun i j b f g h1 h2 h3 h4 => hR.inj i j b f g h1 h2 (by rw [← hl i h3]; exact h3) (by rw [← hl j h4]; exact h4), hR.glob⟩
  · rcases h i with h | h
    · exact hR.free i (h ▸ hi)
    · rw [h] at hi; cases hi
  · rcases h i with h | h
    · rw [h]; exact hR.obj i b f h1
    · rw [h]; trivial
theorem Ex.kill {ρ0 ρ : Rho} {w0 w : World} {H0 H H' : Nat → HO} (he : Ex ρ0 w0 H0 ρ w H) (h : ∀ r, H' r = H r ∨ H' r = .dead) : Ex ρ0 w0 H0 ρ w H' :=
  ⟨he.grow, he.frame, fun b ⟨i, f, h1, h2⟩ hb => he.live b ⟨i, f, h1, by
    rcases h i with h | h
    · rwa [← h]
    · rw [h] at h2; cases h2⟩ hb⟩

/-- temporaries that a statement writes are not known; objects that it changes neither -/
def killT (ops : Array Oper) (t0 : Nat → D) (t : Nat) : D := if (List.range ops.size).any (fun i => dstOf ops i == some t) then .junk else t0 t
def killH (n : Nat) (tr : Nat → Ev) (h0 : Nat → HO) (r : Nat) : HO := if (List.range n).any (fun i => ((tr i).up.map (·.1)).contains r) then .dead else h0 r

theorem Act.put_size {a : Act} {dst : Option Tmp} {u : Value} : (a.put dst u).tmps.size = a.tmps.size := by cases dst <;> simp [Act.put]
theorem Act.put_same {a : Act} {t : Tmp} {u : Value} (h : t < a.tmps.size) : (a.put (some t) u).tmps.getD t undef = u := by simp [Act.put, h]
theorem Act.put_ne {a : Act} {dst : Option Tmp} {t : Tmp} {u : Value} (h : dst ≠ some t) : (a.put dst u).tmps.getD t undef = a.tmps.getD t undef := by
  cases dst with
  | none => rfl
  | some d =>
    have : d ≠ t := fun e => h (by rw [e])
    simp [Act.put, Array.getElem?_setIfInBounds_ne this]

section
variable {P : Program} {G : Nat → Option D} {Q : Exit → Act → World → Prop} {ops : Array Oper} {ρ0 : Rho} {w0 : World} {H0 : Nat → HO} {nt : Nat} {t0 : Nat → D} {h0 : Nat → HO} {df : List (FuncId × List D)} {tr : Nat → Ev}

/-- the text's order -/
def allE : Nat → Bool := fun _ => true

/-- each operation does its part, behind those ahead of it in the text -/
def Good (P : Program) (G : Nat → Option D) (Q : Exit → Act → World → Prop) (ops : Array Oper) (t0 : Nat → D) (h0 : Nat → HO) (tr : Nat → Ev) : Prop := ∀ i, i < ops.size →
  match (tr i).k with
  | .ok => StepL P G Q ops i (dstOf ops i) (usedOf ops i) (tmU ops tr t0 allE i) (hU tr h0 allE i) (tr i)
  | .pan => StepP P G Q ops i (usedOf ops i) (tmU ops tr t0 allE i) (hU tr h0 allE i) (tr i)
  | .nev => ∃ j, j < ops.size ∧ reach ops i j = true ∧ (tr j).k = .pan

theorem ordered_at {fp : Nat → List Nat × List Nat} (h : orderedBy ops nt fp = true) {i : Nat} (hi : i < ops.size) :
    (∀ t, dstOf ops i = some t → t < nt) ∧ (∀ r, r ∈ (fp i).2 → r ∈ (fp i).1) ∧ ∀ j, j < i → clash ops fp i j = true → reach ops i j = true := by
  have h1 := (List.all_eq_true.1 h) i (List.mem_range.2 hi)
  simp only [Bool.and_eq_true, List.all_eq_true, List.mem_range] at h1
  obtain ⟨⟨h2, h3⟩, h4⟩ := h1
  refine ⟨fun t ht => ?_, fun r hr => by simpa using h3 r hr, fun j hj hc => ?_⟩
  · rw [ht] at h2; simpa using h2
  · have := h4 j hj
    rw [hc] at this
    simpa using this

theorem clash_used {fp : Nat → List Nat × List Nat} {i j : Nat} {t : Tmp} (h1 : dstOf ops j = some t) (h2 : t ∈ usedOf ops i) : clash ops fp i j = true := by
  unfold clash; rw [h1]; simp [h2]
theorem clash_used' {fp : Nat → List Nat × List Nat} {i j : Nat} {t : Tmp} (h1 : dstOf ops i = some t) (h2 : t ∈ usedOf ops j) : clash ops fp i j = true := by
  unfold clash; rw [h1]; simp [h2]
theorem clash_dst {fp : Nat → List Nat × List Nat} {i j : Nat} {t : Tmp} (h1 : dstOf ops i = some t) (h2 : dstOf ops j = some t) : clash ops fp i j = true := by
  unfold clash; rw [h1, h2]; simp
theorem clash_up {fp : Nat → List Nat × List Nat} {i j r : Nat} (h1 : r ∈ (fp i).1) (h2 : r ∈ (fp j).2) : clash ops fp i j = true := by
  unfold clash
  have : ((fp i).1.any fun r => (fp j).2.contains r) = true := List.any_eq_true.2 ⟨r, h1, by simpa using h2⟩
  rw [this]; simp
theorem clash_up' {fp : Nat → List Nat × List Nat} {i j r : Nat} (h1 : r ∈ (fp j).1) (h2 : r ∈ (fp i).2) : clash ops fp i j = true := by
  unfold clash
  have : ((fp j).1.any fun r => (fp i).2.contains r) = true := List.any_eq_true.2 ⟨r, h1, by simpa using h2⟩
  rw [this]; simp

/-- what holds when those of E have come up -/
structure Mid (P : Program) (G : Nat → Option D) (ops : Array Oper) (ρ0 : Rho) (w0 : World) (H0 : Nat → HO) (nt : Nat) (t0 : Nat → D) (h0 : Nat → HO) (df : List (FuncId × List D)) (tr : Nat → Ev) (E : Nat → Bool) (a : Act) (w : World) : Prop where
  st : ∃ ρ, InSt G ρ0 w0 H0 nt ρ w a (tmU ops tr t0 E ops.size) (hU tr h0 E ops.size) df
  closed : ∀ i j, E i = true → waitsFor ops i j = true → E j = true
  ok : ∀ i, E i = true → i < ops.size → (tr i).k = .ok

theorem mid_step (hord : orderedBy ops nt (fpOf tr) = true) (hgood : Good P G Q ops t0 h0 tr)
    (hpan : ∀ i, i < ops.size → (tr i).k = .pan → ∀ ρ w a u, Rp ρ w (tr i).d u → InSt G ρ0 w0 H0 nt ρ w a (killT ops t0) (killH ops.size tr h0) df → Q (.panic (thrown u)) a w)
    {E E' : Nat → Bool} {a : Act} {w : World} (hM : Mid P G ops ρ0 w0 H0 nt t0 h0 df tr E a w) {i : Nat} (hi : i < ops.size) (hEi : E i = false) (hdep : ∀ j, waitsFor ops i j = true → E j = true)
    (hE' : E' i = true) (hE2 : ∀ j, j ≠ i → E' j = E j) {K : Act → World → Prop} (hK : ∀ a' w', Mid P G ops ρ0 w0 H0 nt t0 h0 df tr E' a' w' → K a' w') : wpOp P ops Q i K a w := by
  obtain ⟨⟨ρ, hst⟩, hcl, hok⟩ := hM
  -- who conflicts and stands ahead has come up; who conflicts and stands behind has not
  have hahead : ∀ j, j < i → clash ops (fpOf tr) i j = true → E j = true := fun j hj hc => reach_mem hcl i j hdep ((ordered_at hord hi).2.2 j hj hc)
  have hbehind : ∀ j, i < j → j < ops.size → clash ops (fpOf tr) j i = true → E j = false := fun j hj hjn hc => by
    cases h : E j with
    | false => rfl
    | true =>
      have := reach_mem hcl j i (fun k hk => hcl j k h hk) ((ordered_at hord hjn).2.2 i hj hc)
      rw [hEi] at this; cases this
  have hread : ∀ r, r ∈ (tr i).rd → hU tr h0 E ops.size r = hU tr h0 allE i r := fun r hr => by
    unfold hU
    rw [U_stop (i := i) ops.size (by omega) (fun j h1 h2 h3 => ?_)]
    · refine U_congr i fun j hj hs => ?_
      exact hahead j hj (clash_up (r := r) hr (lkU_some hs))
    · by_cases hji : j = i
      · subst hji; exact hEi
      · exact hbehind j (by omega) h2 (clash_up' (r := r) hr (lkU_some h3))
  have htmp : ∀ t, t ∈ usedOf ops i → tmU ops tr t0 E ops.size t = tmU ops tr t0 allE i t := fun t ht => by
    unfold tmU
    rw [U_stop (i := i) ops.size (by omega) (fun j h1 h2 h3 => ?_)]
    · refine U_congr i fun j hj hs => ?_
      refine hahead j hj (clash_used (t := t) ?_ ht)
      by_cases h : dstOf ops j = some t
      · exact h
      · simp [h] at hs
    · by_cases hji : j = i
      · subst hji; exact hEi
      · refine hbehind j (by omega) h2 (clash_used' (t := t) ?_ ht)
        by_cases h : dstOf ops j = some t
        · exact h
        · simp [h] at h3
  have hg := hgood i hi
  cases hk : (tr i).k with
  | ok =>
    rw [hk] at hg
    dsimp only at hg
    refine hg ρ w a _ hst.rel hread (fun t ht => by rw [← htmp t ht]; exact hst.tmp t) K fun u ρ' w' hu hR' hex => hK _ _ ⟨⟨ρ', ?_⟩, ?_, ?_⟩
    · have hh : updL (hU tr h0 E ops.size) (tr i).up = hU tr h0 E' ops.size := by
        funext r
        rw [updL_lk]
        unfold hU
        rw [U_set (E := E) (E' := E') hi hE' hE2 (fun j h1 h2 h3 h4 => ?_)]
        refine hbehind j h1 h2 (clash_up' (r := r) ?_ (lkU_some h3))
        exact (ordered_at hord hi).2.1 r (lkU_some h4)
      rw [hh] at hR' hex
      refine ⟨hR', hst.ex.trans hex, fun t => ?_, by rw [Act.put_size]; exact hst.size, ?_⟩
      · have ht : tmU ops tr t0 E' ops.size t = (if dstOf ops i = some t then some (tr i).d else none).getD (tmU ops tr t0 E ops.size t) := by
          unfold tmU
          rw [U_set (E := E) (E' := E') hi hE' hE2 (fun j h1 h2 h3 h4 => ?_)]
          by_cases h : dstOf ops i = some t
          · by_cases h' : dstOf ops j = some t
            · exact hbehind j h1 h2 (clash_dst h' h)
            · simp [h'] at h3
          · simp [h] at h4
        rw [ht]
        by_cases h : dstOf ops i = some t
        · have hlt := (ordered_at hord hi).1 t h
          rw [h]
          rw [Act.put_same (by rw [hst.size]; exact hlt)]
          simpa using hu
        · rw [Act.put_ne h]
          simp only [h, if_false, Option.getD_none]
          exact Rp.grow hex.grow _ _ (hst.tmp t)
      · have := hst.df.grow hex.grow
        cases hd : dstOf ops i <;> simpa [Act.put] using this
    · intro x y hx hxy
      by_cases hxi : x = i
      · subst hxi
        by_cases hyx : y = x
        · subst hyx; exact hE'
        · rw [hE2 y hyx]; exact hdep y hxy
      · rw [hE2 x hxi] at hx
        have := hcl x y hx hxy
        by_cases hyi : y = i
        · subst hyi; exact hE'
        · rw [hE2 y hyi]; exact this
    · intro x hx hxn
      by_cases hxi : x = i
      · subst hxi; exact hk
      · rw [hE2 x hxi] at hx; exact hok x hx hxn
  | pan =>
    rw [hk] at hg
    dsimp only at hg
    refine hg ρ w a _ hst.rel hread (fun t ht => by rw [← htmp t ht]; exact hst.tmp t) K fun u ρ' w' hu hR' hex => hpan i hi hk ρ' w' a u hu ?_
    have hkl : ∀ r, killH ops.size tr h0 r = updL (hU tr h0 E ops.size) (tr i).up r ∨ killH ops.size tr h0 r = .dead := fun r => by
      unfold killH
      by_cases hany : (List.range ops.size).any (fun i => ((tr i).up.map (·.1)).contains r) = true
      · rw [if_pos hany]; exact .inr rfl
      · rw [if_neg hany]
        left
        have hno : ∀ j, j < ops.size → lkU r (tr j).up = none := fun j hj => by
          cases h : lkU r (tr j).up with
          | none => rfl
          | some x =>
            exact absurd (List.any_eq_true.2 ⟨j, List.mem_range.2 hj, by simpa using lkU_some (r := r) (up := (tr j).up) (by rw [h]; rfl)⟩) hany
        rw [updL_lk, hno i hi]
        unfold hU
        rw [U_none _ hno]
        rfl
    refine ⟨hR'.kill hkl, (hst.ex.trans hex).kill hkl, fun t => ?_, hst.size, hst.df.grow hex.grow⟩
    unfold killT
    by_cases hany : (List.range ops.size).any (fun i => dstOf ops i == some t) = true
    · rw [if_pos hany, Rp]; trivial
    · rw [if_neg hany]
      have hno : ∀ j, j < ops.size → (if dstOf ops j = some t then some (tr j).d else none) = none := fun j hj => by
        by_cases h : dstOf ops j = some t
        · exact absurd (List.any_eq_true.2 ⟨j, List.mem_range.2 hj, by simp [h]⟩) hany
        · simp [h]
      have := hst.tmp t
      unfold tmU at this
      rw [U_none _ hno] at this
      exact Rp.grow hex.grow _ _ this
  | nev =>
    rw [hk] at hg
    obtain ⟨j, hj, hr, hjk⟩ := hg
    have h1 := reach_mem hcl i j hdep hr
    have := hok j h1 hj
    rw [hjk] at this; cases this
end
end Go.Proofs.Ytbjgdeednmhpfaa
