/-
  append, on data: the right to grow in place goes on to what is told.
-/
import Derived.Test.YtbjgdeednmhpfaaDreg
import Derived.Deep.Upon
set_option linter.unusedSimpArgs false
set_option linter.unusedVariables false
namespace Go.Proofs.Ytbjgdeednmhpfaa
open Go.RowKit

theorem RpC.append {ρ : Rho} {w : World} : ∀ {as bs : List D} {b o : Nat}, RpC ρ w as b o → RpC ρ w bs b (o + as.length) → RpC ρ w (as ++ bs) b o
  | [], bs, b, o, _, h => by simpa using h
  | a :: r, bs, b, o, h, g => by
    rw [RpC_cons] at h
    rw [List.cons_append]
    exact RpC_cons.2 ⟨h.1, RpC.append h.2 (by rw [List.length_cons] at g; rwa [show o + 1 + r.length = o + (r.length + 1) by omega])⟩
theorem RpE.append {ρ : Rho} {w : World} {sz : Nat} {as bs : List D} {b o : Nat} (ha : ∀ e, e ∈ as → e.size = sz) (hb : ∀ e, e ∈ bs → e.size = sz) (h : RpE ρ w as b o) (g : RpE ρ w bs b (o + as.length * sz)) : RpE ρ w (as ++ bs) b o := by
  refine RpE.of (sz := sz) (fun e he => ?_) fun i d hi => ?_
  · rcases List.mem_append.1 he with he | he
    · exact ha e he
    · exact hb e he
  · by_cases hlt : i < as.length
    · rw [List.getElem?_append_left hlt] at hi
      exact h.get ha hi
    · rw [List.getElem?_append_right (by omega)] at hi
      have := g.get hb hi
      rwa [show o + as.length * sz + (i - as.length) * sz = o + i * sz by rw [Nat.add_assoc, ← Nat.add_mul]; congr 2; omega] at this

/-- elements' cells, as values -/
theorem RpE.vals {ρ : Rho} {w : World} : ∀ {els : List D} {b o : Nat}, RpE ρ w els b o → ∃ vs : List Value, vs.length = (els.map D.size).sum ∧ (∀ (j : Nat) (v : Value), vs[j]? = some v → w.cell? ⟨b, o + j, none⟩ = some v ∧ v.oneCell' = true) ∧
      ∀ (ρ' : Rho) (w' : World) (b' o' : Nat), Grow ρ w ρ' w' → (∀ (j : Nat) (v : Value), vs[j]? = some v → cellAt ρ' w' b' (o' + j) v) → RpE ρ' w' els b' o'
  | [], b, o, _ => ⟨[], rfl, fun j v h => by simp at h, fun _ _ _ _ _ _ => RpE_nil⟩
  | e :: r, b, o, h => by
    rw [RpE_cons] at h
    obtain ⟨vs, h1, h2, h3⟩ := RpE.vals h.2
    have key : ∃ us : List Value, us.length = e.size ∧ (∀ (j : Nat) (v : Value), us[j]? = some v → w.cell? ⟨b, o + j, none⟩ = some v ∧ v.oneCell' = true) ∧
        ∀ (ρ' : Rho) (w' : World) (b' o' : Nat), Grow ρ w ρ' w' → (∀ (j : Nat) (v : Value), us[j]? = some v → cellAt ρ' w' b' (o' + j) v) → RpAt ρ' w' e b' o' := by
      have hat := h.1
      cases e
      case agg cs =>
        obtain ⟨us, g1, g2⟩ := RpC.vals (show RpC ρ w cs b o from hat)
        refine ⟨us, g1.length, g2, fun ρ' w' b' o' g hc => ?_⟩
        show RpC ρ' w' cs b' o'
        exact RpC.of fun i d hi => by
          obtain ⟨v, e1, e2⟩ := g1.get hi
          exact ⟨v, hc i v e1, Rp.grow g d v e2⟩
      all_goals
        obtain ⟨u, g1, g2⟩ := hat
        refine ⟨[u], rfl, fun j v hj => ?_, fun ρ' w' b' o' g hc => ⟨u, hc 0 u rfl, Rp.grow g _ u g2⟩⟩
        cases j with
        | zero => simp at hj; subst hj; exact ⟨g1.2.1, g1.2.2⟩
        | succ j => simp at hj
    obtain ⟨us, g1, g2, g3⟩ := key
    refine ⟨us ++ vs, by simp [g1, h1], fun j v hj => ?_, fun ρ' w' b' o' g hc => RpE_cons.2 ⟨g3 ρ' w' b' o' g fun j v hj => hc j v ?_, h3 ρ' w' b' _ g fun j v hj => ?_⟩⟩
    · by_cases hlt : j < us.length
      · rw [List.getElem?_append_left hlt] at hj; exact g2 j v hj
      · rw [List.getElem?_append_right (by omega)] at hj
        have := h2 (j - us.length) v hj
        rwa [show o + e.size + (j - us.length) = o + j by omega] at this
    · rw [List.getElem?_append_left (List.getElem?_eq_some_iff.1 hj).1]; exact hj
    · have := hc (us.length + j) v (by rw [List.getElem?_append_right (by omega)]; simpa using hj)
      rwa [show o' + (us.length + j) = o' + e.size + j by omega] at this

theorem sum_size {sz : Nat} : ∀ {els : List D}, (∀ e, e ∈ els → e.size = sz) → (els.map D.size).sum = els.length * sz
  | [], _ => by simp
  | e :: r, h => by
    rw [List.map_cons, List.sum_cons, sum_size fun x hx => h x (List.mem_cons_of_mem _ hx), h e (List.mem_cons_self ..), List.length_cons, Nat.succ_mul]; omega

section
variable {P : Program} {G : Nat → Option D} {ρ : Rho} {w : World} {H : Nat → HO}

/-- a slice's cells, as what is appended -/
theorem slice_src {tx e' : TypeId} (hk : P.underlying tx = some (.slice e')) {els : List D} {c : Cp} {v : Value} {sz : Nat} (hs : ∀ e, e ∈ els → e.size = sz) (h : Rp ρ w (.slice els c) v) :
    ∃ (A : Option Addr) (cap : Nat) (vs : List Value), v = .slice A els.length cap ∧ Src P sz tx v els.length vs w ∧ (Builtin.firstCells sz els.length v).run P w.drew = .ok vs.toArray w.drew ∧
      ∀ (ρ' : Rho) (w' : World) (b' o' : Nat), Grow ρ w ρ' w' → (∀ (j : Nat) (u : Value), vs[j]? = some u → cellAt ρ' w' b' (o' + j) u) → RpE ρ' w' els b' o' := by
  rw [Rp] at h
  obtain ⟨A, cap, sz', rfl, -, -, -, -, -, h5⟩ := h
  by_cases hne : els = []
  · subst hne
    have : Src P sz tx (.slice A 0 cap) 0 [] w := by
      cases A with
      | none => exact Src.ofNil w hk cap
      | some a => exact Src.ofSlice w hk a 0 cap [] (by simp) (fun j u h => by simp at h) (fun u h => by cases h)
    exact ⟨A, cap, [], rfl, this, this.cellsD, fun _ _ _ _ _ _ => RpE_nil⟩
  · obtain ⟨b, o, rfl, h6⟩ := h5 hne
    obtain ⟨vs, h7, h8, h9⟩ := RpE.vals h6
    rw [sum_size hs] at h7
    have : Src P sz tx (.slice (some ⟨b, o, none⟩) els.length cap) els.length vs w := Src.ofSlice w hk _ _ cap vs h7 (fun j u hu => by rw [addr_add]; exact (h8 j u hu).1) (fun u hu => by
      obtain ⟨j, hj⟩ := List.getElem?_of_mem hu
      exact (h8 j u hj).2)
    exact ⟨_, cap, vs, rfl, this, this.cellsD, h9⟩

theorem run_append_in {t tx ty e et : TypeId} {i : TypeInfo} (ht : P.underlying t = some (.slice e)) (hi : P.info? e = some i) {g o sLen sCap : Nat} {cur : Array Value} (hg : w.heap[g]? = some (.cells cur et (0, 0)))
    {x : Value} {n : Nat} {news : List Value} (hs : Src P i.size tx x n news w) (hroom : sLen + n ≤ sCap) (hfit : o + sLen * i.size + news.length ≤ cur.size) :
    (Builtin.append_ #[t, tx] ty #[.slice (some ⟨g, o, none⟩) sLen sCap, x]).run P w =
      .ok (.slice (some ⟨g, o, none⟩) (sLen + n) sCap) (w.setRow g (cur.toList.take (o + sLen * i.size) ++ news ++ cur.toList.drop (o + sLen * i.size + news.length)).toArray) := by
  have hst := run_storeCells_at P g (o + sLen * i.size) et news 0 cur w hg (by simpa using hfit) hs.one
  simp only [Nat.add_zero] at hst
  rcases hs.kind with ⟨e', hk⟩ | hk <;>
    simp [Builtin.append_, run_underlying ht, run_underlying hk, sizeOf, typeInfo, hi, hs.len, hroom, hs.cells, addr_add, hst]

/-- a right is handed on: old's to nx's, its block grown -/
def Rho.hand (ρ : Rho) (nx b f : Nat) : Rho := ⟨fun k => if k = b then some f else ρ.c k, fun i => if i = nx then some (b, f) else ρ.nm i⟩

/-- a row in a new block -/
theorem Ex.row (hR : Rel G ρ w H) {nx f : Nat} (hn : H nx = .free) (vs : List Value) (t : TypeId) (hf : f ≤ vs.length) : Rel G (ρ.hand nx w.heap.size f) (w.drew.alloc (.cells vs.toArray t)) (setH H nx .tok) ∧ Ex ρ w H (ρ.hand nx w.heap.size f) (w.drew.alloc (.cells vs.toArray t)) (setH H nx .tok) := by
  obtain ⟨hRd, hed⟩ := Ex.drew hR
  have hne : ∀ b, b < w.heap.size → (ρ.hand nx w.heap.size f).c b = ρ.c b := fun b hb => by simp [Rho.hand, Nat.ne_of_lt hb]
  have hnm : ∀ i, i ≠ nx → (ρ.hand nx w.heap.size f).nm i = ρ.nm i := fun i hi => by simp [Rho.hand, hi]
  have hn0 : (ρ.hand nx w.heap.size f).nm nx = some (w.heap.size, f) := by simp [Rho.hand]
  have hblk : ∀ b, b < w.heap.size → (w.drew.alloc (.cells vs.toArray t)).heap[b]? = w.heap[b]? := fun b hb => Below.heap_alloc w.drew _ b hb
  have g : Grow ρ w (ρ.hand nx w.heap.size f) (w.drew.alloc (.cells vs.toArray t)) :=
    ⟨rfl, rfl, rfl, by simp, fun b hb h => ⟨(hne b hb).trans h, hblk b hb⟩, fun b k hb h => ⟨.inl ⟨k, (hne b hb).trans h, Nat.le_refl _⟩, fun us ty fz hh => ⟨us, (hblk b hb).trans hh, rfl, fun _ _ => rfl⟩⟩, fun i x hx => by
      by_cases hi : i = nx
      · subst hi; rw [hR.free i hn] at hx; cases hx
      · rw [hnm i hi]; exact hx⟩
  have hold : ∀ i b f', i ≠ nx → (ρ.hand nx w.heap.size f).nm i = some (b, f') → (H i).live = true → b < w.heap.size := fun i b f' hi h1 h2 => by
    rw [hnm i hi] at h1
    exact (hR.obj i b f' h1).lt h2
  refine ⟨⟨fun i hi => ?_, fun b hb => ?_, fun i b f' h1 => ?_, fun i j b f1 f2 h1 h2 h3 h4 => ?_, fun gg d hd => (hR.glob gg d hd).grow g⟩, g, fun b hb hnl => ⟨hblk b hb, hne b hb⟩, fun b hlv hb => ?_⟩
  · by_cases h : i = nx
    · subst h; rw [setH_same] at hi; cases hi
    · rw [setH_ne H _ h] at hi; rw [hnm i h]; exact hR.free i hi
  · have : b ≠ w.heap.size := by simp at hb; omega
    have h2 := hR.fresh b (by simp at hb; omega)
    simp [Rho.hand, this, h2]
  · by_cases h : i = nx
    · subst h
      rw [setH_same]
      rw [hn0] at h1; cases h1
      exact ⟨by simp [Rho.hand], by simp⟩
    · rw [setH_ne H _ h]
      have h2 := hR.obj i b f' (by rw [← hnm i h]; exact h1)
      cases hlv : (H i).live with
      | false =>
        revert hlv h2; generalize H i = ho; intro h2 hlv
        cases ho <;> first | exact trivial | cases hlv
      | true => exact h2.keep g (hblk b (h2.lt hlv)) (hne b (h2.lt hlv))
  · by_cases hi : i = nx
    · by_cases hj : j = nx
      · rw [hi, hj]
      · exfalso
        subst hi
        rw [hn0] at h1; cases h1
        rw [setH_ne H _ hj] at h4
        have := hold j _ _ hj h2 h4
        omega
    · by_cases hj : j = nx
      · exfalso
        subst hj
        rw [hn0] at h2; cases h2
        rw [setH_ne H _ hi] at h3
        have := hold i _ _ hi h1 h3
        omega
      · rw [setH_ne H _ hi] at h3
        rw [setH_ne H _ hj] at h4
        exact hR.inj i j b f1 f2 (by rw [← hnm i hi]; exact h1) (by rw [← hnm j hj]; exact h2) h3 h4
  · obtain ⟨i, f', h1, h2⟩ := hlv
    by_cases hi : i = nx
    · subst hi; rw [hn0] at h1; cases h1; omega
    · rw [setH_ne H _ hi] at h2
      exact ⟨i, f', by rw [← hnm i hi]; exact h1, h2⟩

/-- no right at all, but a name -/
theorem Ex.name (hR : Rel G ρ w H) {nx : Nat} (hn : H nx = .free) : Rel G ρ w (setH H nx .tok) ∧ Ex ρ w H ρ w (setH H nx .tok) := by
  have h0 := hR.free nx hn
  have key : ∀ i b f, ρ.nm i = some (b, f) → setH H nx .tok i = H i := fun i b f h => setH_ne H _ (fun e => by subst e; rw [h0] at h; cases h)
  refine ⟨⟨fun i hi => ?_, hR.fresh, fun i b f h => by rw [key i b f h]; exact hR.obj i b f h, fun i j b f g h1 h2 h3 h4 => hR.inj i j b f g h1 h2 (by rwa [key i _ _ h1] at h3) (by rwa [key j _ _ h2] at h4), hR.glob⟩, Grow.refl _ _, fun b hb hl => ⟨rfl, rfl⟩, fun b ⟨i, f, h1, h2⟩ hb => ⟨i, f, h1, by rwa [key i _ _ h1] at h2⟩⟩
  by_cases h : i = nx
  · subst h; exact h0
  · rw [setH_ne H _ h] at hi; exact hR.free i hi

theorem setH_comm (H : Nat → HO) {i j : Nat} (x y : HO) (h : i ≠ j) : setH (setH H i x) j y = setH (setH H j y) i x := by
  funext k
  by_cases hi : k = i
  · subst hi; rw [setH_ne _ _ h, setH_same, setH_same]
  · by_cases hj : k = j
    · subst hj; rw [setH_same, setH_ne _ _ hi, setH_same]
    · rw [setH_ne _ _ hj, setH_ne _ _ hi, setH_ne _ _ hi, setH_ne _ _ hj]

theorem dead_one (H : Nat → HO) (i : Nat) : ∀ r, setH H i .dead r = H r ∨ setH H i .dead r = .dead := fun r => by
  by_cases h : r = i
  · subst h; rw [setH_same]; exact .inr rfl
  · rw [setH_ne _ _ h]; exact .inl rfl

/-- a row grows where it lies -/
theorem Ex.growIn (hR : Rel G ρ w H) {i nx b f f' : Nat} (hi : H i = .tok) (hn : H nx = .free) (hnm : ρ.nm i = some (b, f)) (hff : f ≤ f') {cur cur' : Array Value} {t : TypeId} (hg : w.heap[b]? = some (.cells cur t (0, 0)))
    (hsz : cur'.size = cur.size) (hsame : ∀ o, o < f → cur'[o]? = cur[o]?) :
    Rel G (ρ.hand nx b f') (w.setRow b cur') (setH (setH H i .dead) nx .tok) ∧ Ex ρ w H (ρ.hand nx b f') (w.setRow b cur') (setH (setH H i .dead) nx .tok) := by
  have hin : i ≠ nx := fun e => by subst e; rw [hi] at hn; cases hn
  have hcb : ρ.c b = some f := by have := hR.obj i b f hnm; rw [hi] at this; exact this.1
  have hb : b < w.heap.size := (Array.getElem?_eq_some_iff.1 hg).1
  have hrow := setRow_heap w b cur cur' t (0, 0) hg
  have hfar : ∀ k, k ≠ b → (w.setRow b cur').heap[k]? = w.heap[k]? := fun k hk => by simp [World.setRow, Array.getElem?_modify, Ne.symm hk]
  have hcne : ∀ k, k ≠ b → (ρ.hand nx b f').c k = ρ.c k := fun k hk => by simp [Rho.hand, hk]
  have hcb' : (ρ.hand nx b f').c b = some f' := by simp [Rho.hand]
  have hnme : ∀ k, k ≠ nx → (ρ.hand nx b f').nm k = ρ.nm k := fun k hk => by simp [Rho.hand, hk]
  have hn0 : (ρ.hand nx b f').nm nx = some (b, f') := by simp [Rho.hand]
  have hlive : Live ρ H b := ⟨i, f, hnm, by rw [hi]; rfl⟩
  have g : Grow ρ w (ρ.hand nx b f') (w.setRow b cur') := by
    refine ⟨rfl, rfl, rfl, by simp [World.setRow], fun k hk h => ?_, fun k m hk h => ?_, fun k x hx => ?_⟩
    · have : k ≠ b := fun e => by subst e; rw [hcb] at h; cases h
      exact ⟨(hcne k this).trans h, hfar k this⟩
    · by_cases hkb : k = b
      · subst hkb
        rw [hcb] at h; cases h
        refine ⟨.inl ⟨f', hcb', hff⟩, fun vs ty fz hh => ?_⟩
        rw [hg] at hh; cases hh
        exact ⟨cur', hrow, hsz, hsame⟩
      · exact ⟨.inl ⟨m, (hcne k hkb).trans h, Nat.le_refl _⟩, fun vs ty fz hh => ⟨vs, (hfar k hkb).trans hh, rfl, fun _ _ => rfl⟩⟩
    · by_cases hk : k = nx
      · subst hk; rw [hR.free k hn] at hx; cases hx
      · rw [hnme k hk]; exact hx
  have hval : ∀ k, k ≠ nx → k ≠ i → setH (setH H i .dead) nx .tok k = H k := fun k h1 h2 => by rw [setH_ne _ _ h1, setH_ne _ _ h2]
  have hvi : setH (setH H i .dead) nx .tok i = .dead := by rw [setH_ne _ _ hin, setH_same]
  have hother : ∀ k b' f'', k ≠ nx → k ≠ i → ρ.nm k = some (b', f'') → (H k).live = true → b' ≠ b := fun k b' f'' h1 h2 h3 h4 e => by
    subst e
    exact h2 (hR.inj k i b' f'' f h3 hnm h4 (by rw [hi]; rfl))
  refine ⟨⟨fun k hk => ?_, fun k hk => ?_, fun k b' f'' h1 => ?_, fun k j b' f1 f2 h1 h2 h3 h4 => ?_, fun gg d hd => (hR.glob gg d hd).grow g⟩, g, fun k hk hnl => ?_, fun k hlk hk => ?_⟩
  · by_cases h : k = nx
    · subst h; rw [setH_same] at hk; cases hk
    · by_cases h2 : k = i
      · subst h2; rw [hvi] at hk; cases hk
      · rw [hval k h h2] at hk; rw [hnme k h]; exact hR.free k hk
  · have hk2 : w.heap.size ≤ k := by simpa [World.setRow] using hk
    rw [hcne k (by omega)]; exact hR.fresh k hk2
  · by_cases h : k = nx
    · subst h; rw [setH_same]; rw [hn0] at h1; cases h1
      exact ⟨hcb', by simpa [World.setRow] using hb⟩
    · by_cases h2 : k = i
      · subst h2; rw [hvi]; trivial
      · rw [hval k h h2]
        rw [hnme k h] at h1
        have h3 := hR.obj k b' f'' h1
        cases hlv : (H k).live with
        | false =>
          revert hlv h3; generalize H k = ho; intro h3 hlv
          cases ho <;> first | exact trivial | cases hlv
        | true =>
          have := hother k b' f'' h h2 h1 hlv
          exact h3.keep g (hfar b' this) (hcne b' this)
  · by_cases hk : k = nx
    · by_cases hj : j = nx
      · rw [hk, hj]
      · exfalso
        subst hk
        rw [hn0] at h1; cases h1
        by_cases hji : j = i
        · subst hji; rw [hvi] at h4; cases h4
        · rw [hval j hj hji] at h4
          rw [hnme j hj] at h2
          exact hother j _ _ hj hji h2 h4 rfl
    · by_cases hki : k = i
      · subst hki; rw [hvi] at h3; cases h3
      · rw [hval k hk hki] at h3
        rw [hnme k hk] at h1
        by_cases hj : j = nx
        · exfalso
          subst hj
          rw [hn0] at h2; cases h2
          exact hother k _ _ hk hki h1 h3 rfl
        · by_cases hji : j = i
          · subst hji; rw [hvi] at h4; cases h4
          · rw [hval j hj hji] at h4
            rw [hnme j hj] at h2
            exact hR.inj k j b' f1 f2 h1 h2 h3 h4
  · have : k ≠ b := fun e => hnl (e ▸ hlive)
    exact ⟨hfar k this, hcne k this⟩
  · obtain ⟨j, f1, h1, h2⟩ := hlk
    by_cases hj : j = nx
    · subst hj; rw [hn0] at h1; cases h1; exact hlive
    · by_cases hji : j = i
      · subst hji; rw [hvi] at h2; cases h2
      · rw [hval j hj hji] at h2
        rw [hnme j hj] at h1
        exact ⟨j, f1, h1, h2⟩

theorem cvs_length : ∀ ds : List D, (D.cvs ds).length = ds.length
  | [] => by rw [D.cvs]; rfl
  | d :: r => by rw [D.cvs]; simp [cvs_length r]
theorem cv_size (d : D) : d.cv.cells.size = d.size ∨ d.closed = false := by
  cases d <;> first | exact .inr rfl | skip
  all_goals first | (left; rw [D.cv]; rfl) | skip
  case agg ds => left; rw [D.cv]; simp [Value.cells, D.size, cvs_length]

def appUp (cx : Cp) (nx : Nat) : List (Nat × HO) :=
  match cx with
  | .tok i => [(i, .dead), (nx, .tok)]
  | _ => [(nx, .tok)]

section
variable {T : TypeId → Ty} {v : Operand → Value} {e : Operand → D} {o : Oper}
theorem app_up (hR : Rel G ρ w H) {ρ' : Rho} {w' : World} {cx : Cp} {nx : Nat} (hn : H nx = .free) (hc : cx = .full ∨ ∃ i, cx = .tok i ∧ H i = .tok) (h : Rel G ρ' w' (setH H nx .tok) ∧ Ex ρ w H ρ' w' (setH H nx .tok)) :
    Rel G ρ' w' (updL H (appUp cx nx)) ∧ Ex ρ w H ρ' w' (updL H (appUp cx nx)) := by
  rcases hc with rfl | ⟨i, rfl, hi⟩
  · exact h
  · have hin : i ≠ nx := fun e => by subst e; rw [hi] at hn; cases hn
    show Rel G ρ' w' (setH (setH H i .dead) nx .tok) ∧ Ex ρ w H ρ' w' (setH (setH H i .dead) nx .tok)
    rw [setH_comm H _ _ hin]
    exact ⟨h.1.kill (dead_one _ i), h.2.kill (dead_one _ i)⟩

theorem heap_new (w : World) (o : Obj) : (w.alloc o).heap[w.heap.size]? = some o := by rw [← World.alloc_eq]; simp

theorem snd_append (hT : ∀ t, TyOK P t (T t)) (hR : Rel G ρ w H) {c : Call} {x y : Operand} {t t2 el el2 : TypeId} (ho : o.op = .call c) (hcl : c.callee = .builtin .append) (ha : c.args = #[x, y]) (ht : c.argTypes = #[t, t2])
    (hx : Rp ρ w (e x) (v x)) (hy : Rp ρ w (e y) (v y)) {els els2 : List D} {cx cy : Cp} (hex : e x = .slice els cx) (hey : e y = .slice els2 cy) (hk : (T t).k = .slice el) (hk2 : (T t2).k = .slice el2) (hel : (T el).k.known = true) (hby : (T el).bytes ≤ 256)
    (hs1 : ∀ d, d ∈ els → d.size = (T el).size) (hs2 : ∀ d, d ∈ els2 → d.size = (T el).size) (hl : els.length + els2.length ≤ LMax) {nx : Nat} (hn : H nx = .free) (hc : cx = .full ∨ ∃ i, cx = .tok i ∧ H i = .tok) :
    StepV P G v o ρ w H (.slice (els ++ els2) (.tok nx)) (appUp cx nx) := by
  obtain ⟨it, d, -, -, -, -, -, -, -, h1, h2⟩ := (hT t).info (by rw [hk]; rfl)
  rw [hk] at h2; simp only [KOK] at h2; subst h2
  obtain ⟨it2, d2, -, -, -, -, -, -, -, h3, h4⟩ := (hT t2).info (by rw [hk2]; rfl)
  rw [hk2] at h4; simp only [KOK] at h4; subst h4
  obtain ⟨i, d3, hi, hsz, hbt, hz, hzc, hzs, -, -, -⟩ := (hT el).info hel
  rw [hex] at hx
  rw [hey] at hy
  obtain ⟨By, cy2, news, hvy, hsrc, -, hputy⟩ := slice_src (P := P) (sz := (T el).size) h3 hs2 hy
  obtain ⟨Ax, cx2, olds, hvx, hsrcx, holdD, hputx⟩ := slice_src (P := P) (sz := (T el).size) h1 hs1 hx
  have hx' := hx
  rw [Rp] at hx'
  obtain ⟨A, cap, sz, hv, hle, hcm, hll, hsz2, hcap, hels⟩ := hx'
  rw [hvx] at hv
  simp only [Value.slice.injEq, true_and] at hv
  obtain ⟨rfl, rfl⟩ := hv
  have hrunop : ∀ {u : Value} {w' : World}, (Builtin.append_ #[t, t2] o.type #[v x, v y]).run P w = .ok u w' → (execOp v o).run P w = .ok (.value u) w' := fun {u w'} h => by
    simp [execOp, ho, hcl, ha, ht, resolve, invoke, builtin, h]
  have hlen1 := hsrcx.newsLen
  have hlen2 := hsrc.newsLen
  have hone1 := hsrcx.one
  have hone2 := hsrc.one
  -- the row in a new block
  have hgrow : Ax = Ax → cx2 < els.length + els2.length → StepV P G v o ρ w H (.slice (els ++ els2) (.tok nx)) (appUp cx nx) := fun _ hlt => by
    have h63 : ((els.length + els2.length : Nat) : Int) ≤ 9223372036854775807 := by unfold LMax at hl; omega
    have hfit : Builtin.nextslicecap (els.length + els2.length) cx2 * i.bytes ≤ 281474976710656 := by
      have g1 := nextslicecap_le hlt
      have g2 := Nat.mul_le_mul g1 (show i.bytes ≤ 256 by omega)
      unfold LMax at hl
      omega
    have hrun := run_append_grow_src w t t2 o.type el i _ h1 hi hz Ax els.length cx2 olds (by rw [hsz, ← hvx]; exact holdD) (v y) els2.length news (by rw [hsz]; exact hsrc) hlt h63 hfit
    have hcg := grownCap_ge w (els.length + els2.length) cx2 el
    have hcm' : grownCap w (els.length + els2.length) cx2 el ≤ maxLen := grownCap_le_maxLen w _ cx2 el (by unfold LMax at hl; simp only [maxLen]; omega)
    generalize grownCap w (els.length + els2.length) cx2 el = cap' at hrun hcg hcm'
    have hvs : (olds ++ news).toArray ++ Builtin.zeroCells (T el).zero.cv.cells (cap' - (els.length + els2.length)) = (olds ++ news ++ (Builtin.zeroCells (T el).zero.cv.cells (cap' - (els.length + els2.length))).toList).toArray := by apply Array.ext'; simp
    rw [hvs] at hrun
    have hfl : (els.length + els2.length) * (T el).size ≤ (olds ++ news ++ (Builtin.zeroCells (T el).zero.cv.cells (cap' - (els.length + els2.length))).toList).length := by simp [hlen1, hlen2, Nat.add_mul]
    have hex2 := Ex.row hR hn (olds ++ news ++ (Builtin.zeroCells (T el).zero.cv.cells (cap' - (els.length + els2.length))).toList) el hfl
    obtain ⟨r1, r2⟩ := app_up hR hn hc hex2
    refine ⟨_, _, _, _, hrunop (by rw [hvx]; exact hrun), .inl rfl, ?_, r1, r2⟩
    have hcellat : ∀ (j : Nat) (u : Value), (olds ++ news)[j]? = some u → cellAt (ρ.hand nx w.heap.size ((els.length + els2.length) * (T el).size)) (w.drew.alloc (.cells (olds ++ news ++ (Builtin.zeroCells (T el).zero.cv.cells (cap' - (els.length + els2.length))).toList).toArray el)) w.heap.size (0 + j) u := fun j u hj => by
      have hjl := (List.getElem?_eq_some_iff.1 hj).1
      refine ⟨fun k hk => ?_, ?_, ?_⟩
      · simp only [Rho.hand, if_true, Option.some.injEq] at hk
        rw [← hk, Nat.add_mul, ← hlen1, ← hlen2, ← List.length_append]; omega
      · rw [show w.heap.size = w.drew.heap.size from rfl, World.cell?_alloc_new, Nat.zero_add]
        rw [List.getElem?_toArray, List.getElem?_append_left hjl]; exact hj
      · rcases List.mem_append.1 (List.mem_of_getElem? hj) with h | h
        · exact hone1 u h
        · exact hone2 u h
    rw [Rp]
    refine ⟨some ⟨w.heap.size, 0, none⟩, cap', (T el).size, by rw [List.length_append], by rw [List.length_append]; exact hcg, hcm', by rw [List.length_append]; exact hl, fun d hd => (List.mem_append.1 hd).elim (hs1 d) (hs2 d), .inr ⟨w.heap.size, 0, (els.length + els2.length) * (T el).size, _, el, by rw [List.length_append]; omega, rfl, by simp [Rho.hand], by rw [List.length_append]; omega, by simp, heap_new w.drew _, ?_⟩, fun _ => ⟨w.heap.size, 0, rfl, ?_⟩⟩
    · have hzz : (T el).zero.cv.cells.size = (T el).size := by
        rcases cv_size (T el).zero with h | h
        · rw [h, hzs]
        · rw [hzc] at h; cases h
      have : cap' * (T el).size = (els.length + els2.length) * (T el).size + (cap' - (els.length + els2.length)) * (T el).size := by rw [← Nat.add_mul]; congr 1; omega
      simp only [Nat.zero_add, List.size_toArray, List.length_append, hlen1, hlen2, Array.length_toList, size_zeroCells, hzz]
      rw [this, Nat.add_mul]
      omega
    · refine RpE.append hs1 hs2 (hputx _ _ _ _ r2.grow fun j u hj => hcellat j u (by rw [List.getElem?_append_left (List.getElem?_eq_some_iff.1 hj).1]; exact hj)) (hputy _ _ _ _ r2.grow fun j u hj => ?_)
      have := hcellat (olds.length + j) u (by rw [List.getElem?_append_right (by omega)]; simpa using hj)
      rw [hlen1] at this
      rwa [show 0 + els.length * (T el).size + j = 0 + (els.length * (T el).size + j) by omega]
  -- nothing is brought, there is no room
  have hnone : els2 = [] → cx2 = els.length → StepV P G v o ρ w H (.slice (els ++ els2) (.tok nx)) (appUp cx nx) := fun he hcn => by
    subst he
    have hnn : news = [] := List.eq_nil_of_length_eq_zero (by simpa using hlen2)
    subst hnn
    have hrun := run_append_nothing (P := P) w t t2 o.type el i h1 hi Ax els.length cx2 (by omega) (v y) (by rw [hsz]; exact hsrc)
    obtain ⟨r1, r2⟩ := app_up hR hn hc (Ex.name hR hn)
    refine ⟨_, _, ρ, w, hrunop (by rw [hvx]; exact hrun), .inl rfl, ?_, r1, r2⟩
    rw [Rp, List.append_nil]
    exact ⟨Ax, cx2, sz, rfl, hle, hcm, hll, hsz2, .inl hcn, hels⟩
  have hfull : cx2 = els.length → StepV P G v o ρ w H (.slice (els ++ els2) (.tok nx)) (appUp cx nx) := fun hcn => by
    by_cases he : els2 = []
    · exact hnone he hcn
    · exact hgrow rfl (by have := List.length_pos_iff.2 he; omega)
  rcases hc with rfl | ⟨j, rfl, hj⟩
  · exact hfull hcap
  · rcases hcap with hcap | ⟨b, off, f, vs, ty, h0, rfl, hnm, hf, hb, hh, hroom⟩
    · exact hfull hcap
    · by_cases hfits : els.length + els2.length ≤ cx2
      · -- in place
        have hne : els ≠ [] := fun e => by subst e; simp at h0
        obtain ⟨d, hd⟩ := List.exists_mem_of_ne_nil els hne
        have hszz : sz = (T el).size := by rw [← hsz2 d hd, hs1 d hd]
        subst hszz
        obtain ⟨b', off', hA, hE⟩ := hels hne
        simp only [Option.some.injEq, Addr.mk.injEq, and_true] at hA
        obtain ⟨rfl, rfl⟩ := hA
        have hmul : (els.length + els2.length) * (T el).size ≤ cx2 * (T el).size := Nat.mul_le_mul_right _ hfits
        rw [Nat.add_mul] at hmul
        have hfit2 : off + els.length * i.size + news.length ≤ vs.size := by rw [hsz, hlen2]; omega
        have hrun := run_append_in (P := P) (w := w) (t := t) (tx := t2) (ty := o.type) h1 hi hh (by rw [hsz]; exact hsrc) hfits hfit2
        rw [hsz, hf] at hrun
        have hcur : (vs.toList.take f ++ news ++ vs.toList.drop (f + news.length)).toArray.size = vs.size := by simp; omega
        have hpre : ∀ k, k < f → (vs.toList.take f ++ news ++ vs.toList.drop (f + news.length)).toArray[k]? = vs[k]? := fun k hk => by
          rw [List.getElem?_toArray, List.append_assoc, List.getElem?_append_left (by simp; omega), List.getElem?_take_of_lt hk]; simp
        obtain ⟨r1, r2⟩ := Ex.growIn hR hj hn hnm (f' := f + news.length) (by omega) hh hcur hpre
        refine ⟨_, _, _, _, hrunop (by rw [hvx]; exact hrun), .inl rfl, ?_, r1, r2⟩
        have hrow := setRow_heap w b vs (vs.toList.take f ++ news ++ vs.toList.drop (f + news.length)).toArray ty (0, 0) hh
        rw [Rp]
        refine ⟨some ⟨b, off, none⟩, cx2, (T el).size, by rw [List.length_append], by rw [List.length_append]; exact hfits, hcm, by rw [List.length_append]; exact hl, fun d hd => (List.mem_append.1 hd).elim (hs1 d) (hs2 d),
          .inr ⟨b, off, f + news.length, _, ty, by rw [List.length_append]; omega, rfl, by simp [Rho.hand], by rw [List.length_append, Nat.add_mul, hlen2]; omega, by simpa [World.setRow] using hb, hrow, by rw [hcur]; exact hroom⟩,
          fun _ => ⟨b, off, rfl, RpE.append hs1 hs2 (RpE.grow r2.grow _ _ _ hE) (hputy _ _ _ _ r2.grow fun k u hk => ?_)⟩⟩
        have hkl := (List.getElem?_eq_some_iff.1 hk).1
        rw [hf]
        refine ⟨fun m hm => ?_, ?_, hone2 u (List.mem_of_getElem? hk)⟩
        · simp only [Rho.hand, if_true, Option.some.injEq] at hm
          omega
        · simp only [World.cell?, hrow, Option.isSome_none, Bool.false_eq_true, if_false]
          rw [List.getElem?_toArray, List.append_assoc, List.getElem?_append_right (by simp; omega), List.getElem?_append_left (by simp; omega)]
          rw [← hk]; congr 1; simp; omega
      · exact hgrow rfl (by omega)
end
end
end Go.Proofs.Ytbjgdeednmhpfaa
