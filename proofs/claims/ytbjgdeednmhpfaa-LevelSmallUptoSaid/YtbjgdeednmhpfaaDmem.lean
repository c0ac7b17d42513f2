/-
  Objects are laid, written, read.
-/
import Derived.Test.YtbjgdeednmhpfaaDop
set_option linter.unusedSimpArgs false
set_option linter.unusedVariables false
namespace Go.Proofs.Ytbjgdeednmhpfaa
open Go.RowKit

def setH (H : Nat → HO) (n : Nat) (x : HO) : Nat → HO := fun i => if i = n then x else H i
def updL (H : Nat → HO) : List (Nat × HO) → Nat → HO
  | [] => H
  | (n, x) :: r => updL (setH H n x) r

theorem setH_same (H : Nat → HO) (n : Nat) (x : HO) : setH H n x n = x := by simp [setH]
theorem setH_ne (H : Nat → HO) {n i : Nat} (x : HO) (h : i ≠ n) : setH H n x i = H i := by simp [setH, h]

theorem D.one_cell {d : D} {ρ : Rho} {w : World} {v : Value} (h : d.one = true) (hr : Rp ρ w d v) : v.oneCell' = true := by
  cases d
  case ref d => obtain ⟨b, o, rfl, -⟩ := Rp_ref.1 hr; rfl
  case own i n => rw [Rp] at hr; rcases hr with ⟨-, _, rfl⟩ | ⟨_, _, -, rfl, -⟩ <;> rfl
  all_goals first | (simp [D.one] at h; done) | skip
  all_goals rw [Rp] at hr
  all_goals first
    | (obtain ⟨rfl, -⟩ := hr; rfl)
    | (subst hr; rfl)
    | (obtain ⟨_, _, rfl, -⟩ := hr; rfl)
    | (obtain ⟨_, rfl, -⟩ := hr; rfl)
    | (obtain ⟨_, _, _, rfl, -⟩ := hr; rfl)
    | (obtain ⟨_, _, -, rfl⟩ := hr; rfl)

theorem Value.cells_one {v : Value} (h : v.oneCell' = true) : v.cells = #[v] := by
  cases v <;> first | rfl | cases h

/-- a value's cells are those of its datum -/
theorem Rp.cells {d : D} {ρ : Rho} {w : World} {v : Value} (h : d.cells.all D.one = true) (hr : Rp ρ w d v) : RpL ρ w d.cells v.cells.toList ∧ ∀ u, u ∈ v.cells.toList → u.oneCell' = true := by
  have hc : RpL ρ w d.cells v.cells.toList := by
    cases d
    case agg cs =>
      rw [Rp] at hr
      obtain ⟨us, rfl, h2⟩ := hr
      exact h2
    all_goals
      have h1 := Value.cells_one (D.one_cell (by simpa only [D.cells, List.all_cons, List.all_nil, Bool.and_true] using h) hr)
      rw [h1]
      exact RpL_cons'.2 ⟨hr, RpL_nil.2 rfl⟩
  refine ⟨hc, fun u hu => ?_⟩
  obtain ⟨i, hi⟩ := List.getElem?_of_mem hu
  have hlen := hc.length
  have hi2 : i < d.cells.length := by rw [← hlen]; exact (List.getElem?_eq_some_iff.1 hi).1
  obtain ⟨v2, e2, h2⟩ := hc.get (List.getElem?_eq_getElem hi2)
  rw [hi] at e2; cases e2
  exact D.one_cell (List.all_eq_true.1 h _ (List.getElem_mem hi2)) h2

section
variable {G : Nat → Option D} {ρ : Rho} {w : World} {H : Nat → HO}

/-- a block more is the call's own -/
def Rho.lay (ρ : Rho) (w : World) (n : Nat) : Rho := ⟨fun b => if b = w.heap.size then some 0 else ρ.c b, fun i => if i = n then some (w.heap.size, 0) else ρ.nm i⟩

theorem Grow.lay (hR : Rel G ρ w H) {n : Nat} (hn : H n = .free) (o : Obj) : Grow ρ w (ρ.lay w n) (w.alloc o) := by
  have hne : ∀ b, b < w.heap.size → (ρ.lay w n).c b = ρ.c b := fun b hb => by simp [Rho.lay, Nat.ne_of_lt hb]
  refine ⟨rfl, rfl, rfl, by simp, fun b hb h => ⟨(hne b hb).trans h, Below.heap_alloc w o b hb⟩, fun b k hb h => ⟨.inl ⟨k, (hne b hb).trans h, Nat.le_refl _⟩, fun vs ty fz hh => ⟨vs, (Below.heap_alloc w o b hb).trans hh, rfl, fun _ _ => rfl⟩⟩, fun i x hx => ?_⟩
  by_cases hi : i = n
  · subst hi; rw [hR.free i hn] at hx; cases hx
  · simp [Rho.lay, hi, hx]

theorem Ex.lay (hR : Rel G ρ w H) {n : Nat} (hn : H n = .free) {o : Obj} {x : HO} (hl : x.live = true) (hx : ∀ ρ', Grow ρ w ρ' (w.alloc o) → ρ'.c w.heap.size = some 0 → ObjAt ρ' (w.alloc o) w.heap.size 0 x) :
    Rel G (ρ.lay w n) (w.alloc o) (setH H n x) ∧ Ex ρ w H (ρ.lay w n) (w.alloc o) (setH H n x) := by
  have g := Grow.lay hR hn o
  have hne : ∀ b, b < w.heap.size → (ρ.lay w n).c b = ρ.c b := fun b hb => by simp [Rho.lay, Nat.ne_of_lt hb]
  have hnm : ∀ i, i ≠ n → (ρ.lay w n).nm i = ρ.nm i := fun i hi => by simp [Rho.lay, hi]
  have hn0 : (ρ.lay w n).nm n = some (w.heap.size, 0) := by simp [Rho.lay]
  have hold : ∀ i b f, i ≠ n → (ρ.lay w n).nm i = some (b, f) → (H i).live = true → b < w.heap.size := fun i b f hi h1 h2 => by
    rw [hnm i hi] at h1
    exact (hR.obj i b f h1).lt h2
  refine ⟨⟨fun i hi => ?_, fun b hb => ?_, fun i b f h1 => ?_, fun i j b f g' h1 h2 h3 h4 => ?_, fun gg d hd => (hR.glob gg d hd).grow g⟩, g, fun b hb hnl => ⟨Below.heap_alloc w o b hb, hne b hb⟩, fun b hlv hb => ?_⟩
  · by_cases h : i = n
    · subst h; rw [setH_same] at hi; subst hi; cases hl
    · rw [setH_ne H x h] at hi; rw [hnm i h]; exact hR.free i hi
  · have : b ≠ w.heap.size := by simp at hb; omega
    have h2 := hR.fresh b (by simp at hb; omega)
    simp [Rho.lay, this, h2]
  · by_cases h : i = n
    · subst h
      rw [setH_same]
      rw [hn0] at h1; cases h1
      exact hx _ g (by simp [Rho.lay])
    · rw [setH_ne H x h]
      have h2 := hR.obj i b f (by rw [← hnm i h]; exact h1)
      cases hlv : (H i).live with
      | false =>
        revert hlv h2; generalize H i = ho; intro h2 hlv
        cases ho <;> first | exact trivial | cases hlv
      | true => exact h2.keep g (Below.heap_alloc w o b (h2.lt hlv)) (hne b (h2.lt hlv))
  · by_cases hi : i = n
    · by_cases hj : j = n
      · rw [hi, hj]
      · exfalso
        subst hi
        rw [hn0] at h1; cases h1
        rw [setH_ne H x hj] at h4
        have := hold j _ _ hj h2 h4
        omega
    · by_cases hj : j = n
      · exfalso
        subst hj
        rw [hn0] at h2; cases h2
        rw [setH_ne H x hi] at h3
        have := hold i _ _ hi h1 h3
        omega
      · rw [setH_ne H x hi] at h3
        rw [setH_ne H x hj] at h4
        exact hR.inj i j b f g' (by rw [← hnm i hi]; exact h1) (by rw [← hnm j hj]; exact h2) h3 h4
  · obtain ⟨i, f, h1, h2⟩ := hlv
    by_cases hi : i = n
    · subst hi; rw [hn0] at h1; cases h1; omega
    · rw [setH_ne H x hi] at h2
      exact ⟨i, f, by rw [← hnm i hi]; exact h1, h2⟩

/-- an object's block is written -/
theorem Ex.write (hR : Rel G ρ w H) {n b f : Nat} (hn : ρ.nm n = some (b, f)) (hlv : (H n).live = true) {w' : World} (hos : w'.os = w.os) (htp : w'.tape = w.tape) (hout : w'.output = w.output) (hsz : w'.heap.size = w.heap.size)
    (hfar : ∀ k, k ≠ b → w'.heap[k]? = w.heap[k]?) (hc : ρ.c b = some 0) (hcells : ∀ vs ty fz, w.heap[b]? = some (.cells vs ty fz) → ∃ vs', w'.heap[b]? = some (.cells vs' ty fz) ∧ vs'.size = vs.size)
    {x : HO} (hl : x.live = true) (hx : Grow ρ w ρ w' → ObjAt ρ w' b f x) : Rel G ρ w' (setH H n x) ∧ Ex ρ w H ρ w' (setH H n x) := by
  have g : Grow ρ w ρ w' := by
    refine ⟨hos, htp, hout, by omega, fun k hk h => ⟨h, hfar k (fun e => by subst e; rw [hc] at h; cases h)⟩, fun k m hk h => ⟨.inl ⟨m, h, Nat.le_refl _⟩, fun vs ty fz hh => ?_⟩, fun _ _ h => h⟩
    by_cases hkb : k = b
    · subst hkb
      rw [hc] at h; cases h
      obtain ⟨vs', h1, h2⟩ := hcells vs ty fz hh
      exact ⟨vs', h1, h2, fun o ho => absurd ho (Nat.not_lt_zero _)⟩
    · exact ⟨vs, (hfar k hkb).trans hh, rfl, fun _ _ => rfl⟩
  refine ⟨⟨fun i hi => ?_, fun k hk => hR.fresh k (by omega), fun i b' f' h1 => ?_, fun i j b' f' g' h1 h2 h3 h4 => ?_, fun gg d hd => (hR.glob gg d hd).grow g⟩, g, fun k hk hnl => ⟨hfar k (fun e => hnl ⟨n, f, by rw [e]; exact hn, hlv⟩), rfl⟩, fun k hlk hk => ?_⟩
  · by_cases h : i = n
    · subst h; rw [setH_same] at hi; subst hi; cases hl
    · rw [setH_ne H x h] at hi; exact hR.free i hi
  · by_cases h : i = n
    · subst h
      rw [setH_same]
      rw [hn] at h1; cases h1
      exact hx g
    · rw [setH_ne H x h]
      have h2 := hR.obj i b' f' h1
      cases hv : (H i).live with
      | false =>
        revert hv h2; generalize H i = ho; intro h2 hv
        cases ho <;> first | exact trivial | cases hv
      | true =>
        have hbb : b' ≠ b := fun e => by
          subst e
          exact h (hR.inj i n b' f' f h1 hn hv hlv)
        exact h2.keep g (hfar b' hbb) rfl
  · have key : ∀ k, (setH H n x k).live = true → (H k).live = true := fun k hk => by
      by_cases h : k = n
      · subst h; exact hlv
      · rwa [setH_ne H x h] at hk
    exact hR.inj i j b' f' g' h1 h2 (key i h3) (key j h4)
  · obtain ⟨i, f', h1, h2⟩ := hlk
    refine ⟨i, f', h1, ?_⟩
    by_cases h : i = n
    · subst h; exact hlv
    · rwa [setH_ne H x h] at h2

end

/-- cells that stay, one by one -/
theorem RpC.get {ρ : Rho} {w : World} : ∀ {ds : List D} {b o : Nat}, RpC ρ w ds b o → ∀ {i : Nat} {d : D}, ds[i]? = some d → ∃ v, cellAt ρ w b (o + i) v ∧ Rp ρ w d v
  | [], b, o, h, i, d, hi => by simp at hi
  | x :: r, b, o, h, i, d, hi => by
    rw [RpC_cons] at h
    cases i with
    | zero => simp at hi; subst hi; exact h.1
    | succ i =>
      have := RpC.get h.2 (i := i) (by simpa using hi)
      rw [show o + (i + 1) = o + 1 + i by omega]; exact this
theorem RpC.of {ρ : Rho} {w : World} : ∀ {ds : List D} {b o : Nat}, (∀ (i : Nat) (d : D), ds[i]? = some d → ∃ v, cellAt ρ w b (o + i) v ∧ Rp ρ w d v) → RpC ρ w ds b o
  | [], b, o, _ => RpC_nil
  | x :: r, b, o, h => RpC_cons.2 ⟨h 0 x rfl, RpC.of fun i d hi => by
      have := h (i + 1) d (by simpa using hi)
      rwa [show o + (i + 1) = o + 1 + i by omega] at this⟩
theorem RpC.part {ρ : Rho} {w : World} {ds : List D} {b o : Nat} (h : RpC ρ w ds b o) (k n : Nat) : RpC ρ w ((ds.drop k).take n) b (o + k) :=
  RpC.of fun i d hi => by
    have hlt : i < n := by have := (List.getElem?_eq_some_iff.1 hi).1; simp at this; omega
    rw [List.getElem?_take_of_lt hlt, List.getElem?_drop] at hi
    rw [show o + k + i = o + (k + i) by omega]
    exact h.get hi
/-- the values of cells -/
theorem RpC.vals {ρ : Rho} {w : World} : ∀ {ds : List D} {b o : Nat}, RpC ρ w ds b o → ∃ vs, RpL ρ w ds vs ∧ ∀ (j : Nat) (v : Value), vs[j]? = some v → w.cell? ⟨b, o + j, none⟩ = some v ∧ v.oneCell' = true
  | [], b, o, _ => ⟨[], RpL_nil.2 rfl, fun j v h => by simp at h⟩
  | x :: r, b, o, h => by
    rw [RpC_cons] at h
    obtain ⟨⟨v, h1, h2⟩, h3⟩ := h
    obtain ⟨vs, h4, h5⟩ := RpC.vals h3
    refine ⟨v :: vs, RpL_cons'.2 ⟨h2, h4⟩, fun j u hu => ?_⟩
    cases j with
    | zero => simp at hu; subst hu; exact ⟨h1.2.1, h1.2.2⟩
    | succ j =>
      have := h5 j u (by simpa using hu)
      rwa [show o + (j + 1) = o + 1 + j by omega]

theorem RpE.get {ρ : Rho} {w : World} {sz : Nat} : ∀ {els : List D} {b o : Nat}, RpE ρ w els b o → (∀ e, e ∈ els → e.size = sz) → ∀ {i : Nat} {d : D}, els[i]? = some d → RpAt ρ w d b (o + i * sz)
  | [], b, o, h, _, i, d, hi => by simp at hi
  | x :: r, b, o, h, hs, i, d, hi => by
    rw [RpE_cons] at h
    cases i with
    | zero => simp at hi; subst hi; simpa using h.1
    | succ i =>
      have hx := hs x (List.mem_cons_self ..)
      have := RpE.get (sz := sz) h.2 (fun e he => hs e (List.mem_cons_of_mem _ he)) (i := i) (by simpa using hi)
      rw [hx] at this
      rwa [show o + (i + 1) * sz = o + sz + i * sz by rw [Nat.succ_mul]; omega]
theorem RpE.of {ρ : Rho} {w : World} {sz : Nat} : ∀ {els : List D} {b o : Nat}, (∀ e, e ∈ els → e.size = sz) → (∀ (i : Nat) (d : D), els[i]? = some d → RpAt ρ w d b (o + i * sz)) → RpE ρ w els b o
  | [], b, o, _, _ => RpE_nil
  | x :: r, b, o, hs, h => by
    have hx := hs x (List.mem_cons_self ..)
    refine RpE_cons.2 ⟨by simpa using h 0 x rfl, RpE.of (sz := sz) (fun e he => hs e (List.mem_cons_of_mem _ he)) fun i d hi => ?_⟩
    have := h (i + 1) d (by simpa using hi)
    rw [hx]
    rwa [show o + (i + 1) * sz = o + sz + i * sz by rw [Nat.succ_mul]; omega] at this
end Go.Proofs.Ytbjgdeednmhpfaa
