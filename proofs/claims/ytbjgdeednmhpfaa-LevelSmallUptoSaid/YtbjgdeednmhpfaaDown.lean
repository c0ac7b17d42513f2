/-
  Slices of the call's own (D.own, HO.row): made, read, written, appended to.
-/
import Derived.Test.YtbjgdeednmhpfaaDmap
import Derived.Laws.MakeOwn
set_option linter.unusedSimpArgs false
set_option linter.unusedVariables false
namespace Go.Proofs.Ytbjgdeednmhpfaa
open Go.RowKit Go.MapKept

theorem RpL.elem {ρ : Rho} {w : World} {sz : Nat} : ∀ {els : List D} {us : List Value}, RpL ρ w (els.flatMap D.cells) us → (∀ e, e ∈ els → e.size = sz) → ∀ {k : Nat} {d : D}, els[k]? = some d → RpL ρ w d.cells ((us.drop (k * sz)).take sz)
  | [], us, _, _, k, d, hk => by simp at hk
  | e :: r, us, h, hs, k, d, hk => by
    have hl : e.cells.length = sz := by rw [← hs e (List.mem_cons_self ..)]; cases e <;> rfl
    rw [List.flatMap_cons] at h
    have h1 := h.take e.cells.length
    have h2 := h.drop e.cells.length
    rw [List.take_left] at h1
    rw [List.drop_left] at h2
    cases k with
    | zero => simp at hk; subst hk; rw [← hl]; simpa using h1
    | succ k =>
      have := RpL.elem h2 (fun x hx => hs x (List.mem_cons_of_mem _ hx)) (k := k) (d := d) (by simpa using hk)
      rw [List.drop_drop, hl] at this
      rw [show (k + 1) * sz = sz + k * sz by rw [Nat.succ_mul]; omega]
      exact this


theorem cells_len (d : D) : d.cells.length = d.size := by cases d <;> rfl
theorem flat_len {sz : Nat} : ∀ {els : List D}, (∀ e, e ∈ els → e.size = sz) → (els.flatMap D.cells).length = els.length * sz
  | [], _ => by simp
  | e :: r, h => by
    rw [List.flatMap_cons, List.length_append, cells_len, h e (List.mem_cons_self ..), flat_len fun x hx => h x (List.mem_cons_of_mem _ hx), List.length_cons, Nat.succ_mul]; omega
theorem flat_set {sz : Nat} : ∀ {els : List D} {k : Nat} {d : D}, (∀ e, e ∈ els → e.size = sz) → k < els.length → (els.set k d).flatMap D.cells = (els.flatMap D.cells).take (k * sz) ++ d.cells ++ (els.flatMap D.cells).drop ((k + 1) * sz)
  | [], k, d, _, h => by simp at h
  | e :: r, k, d, hs, h => by
    have hl : e.cells.length = sz := by rw [cells_len]; exact hs e (List.mem_cons_self ..)
    cases k with
    | zero =>
      rw [List.set_cons_zero, List.flatMap_cons, List.flatMap_cons, Nat.zero_add, Nat.one_mul, ← hl, List.drop_left]
      simp
    | succ k =>
      rw [List.set_cons_succ, List.flatMap_cons, List.flatMap_cons, flat_set (fun x hx => hs x (List.mem_cons_of_mem _ hx)) (by simpa using h)]
      have e1 : (k + 1) * sz = e.cells.length + k * sz := by rw [Nat.succ_mul, hl]; omega
      have e2 : (k + 1 + 1) * sz = e.cells.length + (k + 1) * sz := by rw [Nat.succ_mul (k + 1), hl]; omega
      rw [e2, List.drop_length_add_append, e1, List.take_length_add_append]
      simp only [List.append_assoc]

theorem flat_get {sz : Nat} : ∀ {els : List D} {k : Nat} {d : D}, (∀ e, e ∈ els → e.size = sz) → els[k]? = some d → d.cells = ((els.flatMap D.cells).drop (k * sz)).take sz
  | [], k, d, _, h => by simp at h
  | e :: r, k, d, hs, h => by
    have hl : e.cells.length = sz := by rw [cells_len]; exact hs e (List.mem_cons_self ..)
    cases k with
    | zero => simp at h; subst h; rw [List.flatMap_cons, Nat.zero_mul, List.drop_zero, ← hl, List.take_left]
    | succ k =>
      rw [List.flatMap_cons, show (k + 1) * sz = e.cells.length + k * sz by rw [Nat.succ_mul, hl]; omega, List.drop_length_add_append]
      exact flat_get (fun x hx => hs x (List.mem_cons_of_mem _ hx)) (by simpa using h)

section
variable {P : Program} {G : Nat → Option D} {ρ : Rho} {w : World} {H : Nat → HO}

/-- a block more is the call's own, with a number -/
def Rho.layF (ρ : Rho) (w : World) (n f : Nat) : Rho := ⟨fun b => if b = w.heap.size then some 0 else ρ.c b, fun i => if i = n then some (w.heap.size, f) else ρ.nm i⟩

theorem Grow.layF (hR : Rel G ρ w H) {n f : Nat} (hn : H n = .free) (o : Obj) : Grow ρ w (ρ.layF w n f) (w.alloc o) := by
  have hne : ∀ b, b < w.heap.size → (ρ.layF w n f).c b = ρ.c b := fun b hb => by simp [Rho.layF, Nat.ne_of_lt hb]
  refine ⟨rfl, rfl, rfl, by simp, fun b hb h => ⟨(hne b hb).trans h, Below.heap_alloc w o b hb⟩, fun b k hb h => ⟨.inl ⟨k, (hne b hb).trans h, Nat.le_refl _⟩, fun vs ty fz hh => ⟨vs, (Below.heap_alloc w o b hb).trans hh, rfl, fun _ _ => rfl⟩⟩, fun i x hx => ?_⟩
  by_cases hi : i = n
  · subst hi; rw [hR.free i hn] at hx; cases hx
  · simp [Rho.layF, hi, hx]

theorem Ex.layF (hR : Rel G ρ w H) {n f : Nat} (hn : H n = .free) {o : Obj} {x : HO} (hl : x.live = true) (hx : ∀ ρ', Grow ρ w ρ' (w.alloc o) → ρ'.c w.heap.size = some 0 → ObjAt ρ' (w.alloc o) w.heap.size f x) :
    Rel G (ρ.layF w n f) (w.alloc o) (setH H n x) ∧ Ex ρ w H (ρ.layF w n f) (w.alloc o) (setH H n x) := by
  have g := Grow.layF (f := f) hR hn o
  have hne : ∀ b, b < w.heap.size → (ρ.layF w n f).c b = ρ.c b := fun b hb => by simp [Rho.layF, Nat.ne_of_lt hb]
  have hnm : ∀ i, i ≠ n → (ρ.layF w n f).nm i = ρ.nm i := fun i hi => by simp [Rho.layF, hi]
  have hn0 : (ρ.layF w n f).nm n = some (w.heap.size, f) := by simp [Rho.layF]
  have hold : ∀ i b f', i ≠ n → (ρ.layF w n f).nm i = some (b, f') → (H i).live = true → b < w.heap.size := fun i b f' hi h1 h2 => by
    rw [hnm i hi] at h1
    exact (hR.obj i b f' h1).lt h2
  refine ⟨⟨fun i hi => ?_, fun b hb => ?_, fun i b f' h1 => ?_, fun i j b f' g' h1 h2 h3 h4 => ?_, fun gg d hd => (hR.glob gg d hd).grow g⟩, g, fun b hb hnl => ⟨Below.heap_alloc w o b hb, hne b hb⟩, fun b hlv hb => ?_⟩
  · by_cases h : i = n
    · subst h; rw [setH_same] at hi; subst hi; cases hl
    · rw [setH_ne H x h] at hi; rw [hnm i h]; exact hR.free i hi
  · have : b ≠ w.heap.size := by simp at hb; omega
    have h2 := hR.fresh b (by simp at hb; omega)
    simp [Rho.layF, this, h2]
  · by_cases h : i = n
    · subst h
      rw [setH_same]
      rw [hn0] at h1; cases h1
      exact hx _ g (by simp [Rho.layF])
    · rw [setH_ne H x h]
      have h2 := hR.obj i b f' (by rw [← hnm i h]; exact h1)
      cases hlv : (H i).live with
      | false =>
        revert hlv h2; generalize H i = ho; intro h2 hlv
        cases ho <;> first | exact trivial | cases hlv
      | true => exact h2.keep g (Below.heap_alloc w o b (h2.lt hlv)) (hne b (h2.lt hlv))
  · by_cases hi : i = n
    · by_cases hj : j = n
      · rw [hi, hj]
      · exfalso
        subst hi
        rw [hn0] at h1; cases h1
        rw [setH_ne H x hj] at h4
        have := hold j _ _ hj h2 h4
        omega
    · by_cases hj : j = n
      · exfalso
        subst hj
        rw [hn0] at h2; cases h2
        rw [setH_ne H x hi] at h3
        have := hold i _ _ hi h1 h3
        omega
      · rw [setH_ne H x hi] at h3
        rw [setH_ne H x hj] at h4
        exact hR.inj i j b f' g' (by rw [← hnm i hi]; exact h1) (by rw [← hnm j hj]; exact h2) h3 h4
  · obtain ⟨i, f', h1, h2⟩ := hlv
    by_cases hi : i = n
    · subst hi; rw [hn0] at h1; cases h1; omega
    · rw [setH_ne H x hi] at h2
      exact ⟨i, f', by rw [← hnm i hi]; exact h1, h2⟩

/-- a name without a block -/
theorem Ex.nameX (hR : Rel G ρ w H) {nx : Nat} (hn : H nx = .free) {x : HO} (hl : x.live = true) : Rel G ρ w (setH H nx x) ∧ Ex ρ w H ρ w (setH H nx x) := by
  have h0 := hR.free nx hn
  have hne : ∀ i y, ρ.nm i = some y → i ≠ nx := fun i y h e => by subst e; rw [h0] at h; cases h
  refine ⟨⟨fun i hi => ?_, hR.fresh, fun i b f h => ?_, fun i j b f g h1 h2 h3 h4 => ?_, hR.glob⟩, Grow.refl _ _, fun _ _ _ => ⟨rfl, rfl⟩, fun b ⟨i, f, h1, h2⟩ _ => ⟨i, f, h1, by rwa [setH_ne _ _ (hne i _ h1)] at h2⟩⟩
  · by_cases h : i = nx
    · subst h; exact h0
    · rw [setH_ne _ _ h] at hi; exact hR.free i hi
  · rw [setH_ne _ _ (hne i _ h)]; exact hR.obj i b f h
  · rw [setH_ne _ _ (hne i _ h1)] at h3
    rw [setH_ne _ _ (hne j _ h2)] at h4
    exact hR.inj i j b f g h1 h2 h3 h4

/-- an object under a new name -/
def Rho.as (ρ : Rho) (nx i : Nat) : Rho := ⟨ρ.c, fun k => if k = nx then ρ.nm i else ρ.nm k⟩
theorem Ex.rename (hR : Rel G ρ w H) {i nx : Nat} (hn : H nx = .free) (hi : (H i).live = true) : Rel G (ρ.as nx i) w (setH (setH H i .dead) nx (H i)) ∧ Ex ρ w H (ρ.as nx i) w (setH (setH H i .dead) nx (H i)) := by
  have hin : i ≠ nx := fun e => by subst e; rw [hn] at hi; cases hi
  have h0 := hR.free nx hn
  have hg : ∀ k x, ρ.nm k = some x → (ρ.as nx i).nm k = some x := fun k x h => by
    have : k ≠ nx := fun e => by subst e; rw [h0] at h; cases h
    simp [Rho.as, this, h]
  have g : Grow ρ w (ρ.as nx i) w := ⟨rfl, rfl, rfl, Nat.le_refl _, fun _ _ h => ⟨h, rfl⟩, fun b k _ h => ⟨.inl ⟨k, h, Nat.le_refl _⟩, fun vs ty fz hh => ⟨vs, hh, rfl, fun _ _ => rfl⟩⟩, hg⟩
  have hsrc : ∀ k x, (ρ.as nx i).nm k = some x → (k = nx ∧ ρ.nm i = some x) ∨ (k ≠ nx ∧ ρ.nm k = some x) := fun k x h => by
    by_cases hk : k = nx
    · left; refine ⟨hk, ?_⟩; simpa [Rho.as, hk] using h
    · right; refine ⟨hk, ?_⟩; simpa [Rho.as, hk] using h
  have hH : ∀ k, k ≠ nx → setH (setH H i .dead) nx (H i) k = if k = i then .dead else H k := fun k hk => by
    rw [setH_ne _ _ hk]
    split
    · rename_i h; subst h; rw [setH_same]
    · rename_i h; rw [setH_ne _ _ h]
  have hlv : ∀ k x, (ρ.as nx i).nm k = some x → (setH (setH H i .dead) nx (H i) k).live = true → ∃ k0, ρ.nm k0 = some x ∧ (H k0).live = true ∧ (k = nx ∧ k0 = i ∨ k ≠ nx ∧ k0 = k ∧ k ≠ i) := fun k x h1 h2 => by
    rcases hsrc k x h1 with ⟨rfl, h3⟩ | ⟨hk, h3⟩
    · exact ⟨i, h3, hi, .inl ⟨rfl, rfl⟩⟩
    · rw [hH k hk] at h2
      split at h2
      · cases h2
      · rename_i hki; exact ⟨k, h3, h2, .inr ⟨hk, rfl, hki⟩⟩
  refine ⟨⟨fun k hk => ?_, hR.fresh, fun k b f h => ?_, fun k l b f1 f2 h1 h2 h3 h4 => ?_, fun gg d hd => (hR.glob gg d hd).grow g⟩, g, fun _ _ _ => ⟨rfl, rfl⟩, fun b ⟨k, f, h1, h2⟩ _ => ?_⟩
  · by_cases hkn : k = nx
    · subst hkn; rw [setH_same] at hk; rw [hk] at hi; cases hi
    · rw [hH k hkn] at hk
      split at hk
      · cases hk
      · cases hq : (ρ.as nx i).nm k with
        | none => rfl
        | some x =>
          rcases hsrc k x hq with ⟨h3, -⟩ | ⟨-, h3⟩
          · exact absurd h3 hkn
          · rw [hR.free k hk] at h3; cases h3
  · rcases hsrc k _ h with ⟨rfl, h3⟩ | ⟨hk, h3⟩
    · rw [setH_same]; exact (hR.obj i b f h3).keep g rfl rfl
    · rw [hH k hk]
      split
      · trivial
      · exact (hR.obj k b f h3).keep g rfl rfl
  · obtain ⟨k0, a1, a2, a3⟩ := hlv k _ h1 h3
    obtain ⟨l0, b1, b2, b3⟩ := hlv l _ h2 h4
    have := hR.inj k0 l0 b f1 f2 a1 b1 a2 b2
    rcases a3 with ⟨rfl, rfl⟩ | ⟨q1, rfl, q2⟩ <;> rcases b3 with ⟨rfl, rfl⟩ | ⟨q3, rfl, q4⟩
    · rfl
    · exact absurd this.symm q4
    · exact absurd this q2
    · exact this
  · obtain ⟨k0, a1, a2, -⟩ := hlv k _ h1 h2
    exact ⟨k0, f, a1, a2⟩

variable {T : TypeId → Ty} {v : Operand → Value} {e : Operand → D} {o : Oper}

theorem i64_nat {n : Nat} (h : n ≤ LMax) : IntKind.i64.min ≤ (n : Int) ∧ (n : Int) ≤ IntKind.i64.max := by
  unfold LMax at h
  have h1 : IntKind.i64.min = -9223372036854775808 := by decide
  have h2 : IntKind.i64.max = 9223372036854775807 := by decide
  omega

theorem snd_len_own (hT : ∀ t, TyOK P t (T t)) (hR : Rel G ρ w H) {c : Call} {x : Operand} {t el : TypeId} (ho : o.op = .call c) (hc : c.callee = .builtin .len) (ha : c.args = #[x]) (ht : c.argTypes = #[t]) (hx : Rp ρ w (e x) (v x))
    {i n : Nat} (h : e x = .own i n) (hk : (T t).k = .slice el) : StepV P G v o ρ w H (.int .i64 n) [] := by
  rw [h, Rp] at hx
  have hv : ∃ A cap, v x = .slice A n cap ∧ n ≤ LMax := by
    rcases hx with ⟨rfl, A, hv⟩ | ⟨b, f, -, hv, -, hl⟩
    · exact ⟨A, 0, hv, Nat.zero_le _⟩
    · exact ⟨_, _, hv, hl⟩
  obtain ⟨A, cap, hv, hl⟩ := hv
  obtain ⟨ii, d, -, -, -, -, -, -, -, h1, h2⟩ := (hT t).info (by rw [hk]; rfl)
  rw [hk] at h2
  simp only [KOK] at h2
  subst h2
  refine StepV.same hR (u := .int .i64 n) ?_ (by rw [Rp]; exact ⟨rfl, i64_nat hl⟩)
  simp [execOp, ho, hc, ha, ht, hv, resolve, invoke, builtin, Builtin.len_, run_underlying h1, goInt]

/-- what a row is in memory -/
theorem obj_row (hR : Rel G ρ w H) {i b f sz : Nat} {els : List D} (hi : H i = .row sz els) (hn : ρ.nm i = some (b, f)) : ObjAt ρ w b f (.row sz els) := by
  have := hR.obj i b f hn
  rwa [hi] at this

theorem snd_index_own (hT : ∀ t, TyOK P t (T t)) (hR : Rel G ρ w H) {t el : TypeId} {x ix : Operand} (ho : o.op = .indexAddr t x ix) (hx : Rp ρ w (e x) (v x)) (hix : Rp ρ w (e ix) (v ix)) (hk : (T t).k = .slice el) (hel : (T el).k.known = true)
    {j n : Nat} {k : IntKind} {i : Int} (h : e x = .own j n) (h2 : e ix = .int k i) (hi : 0 ≤ i) (hn : i.toNat < n) : StepV P G v o ρ w H (.ebox j (T el).size i.toNat 0) [] := by
  rw [h, Rp] at hx
  rw [h2, Rp] at hix
  rcases hx with ⟨rfl, -⟩ | ⟨b, f, hnm, hv, -, -⟩
  · omega
  obtain ⟨ii, dd, -, -, -, -, -, -, -, h6, h7⟩ := (hT t).info (by rw [hk]; rfl)
  rw [hk] at h7
  simp only [KOK] at h7
  subst h7
  refine StepV.same hR (u := .pointer (some ⟨b, i.toNat * (T el).size, none⟩)) ?_ (by rw [Rp]; exact ⟨b, f, hnm, rfl⟩)
  have : 0 ≤ i ∧ i < (n : Int) := ⟨hi, by omega⟩
  simp [execOp, ho, hv, hix.1, Instr.indexAt, asIntOf, run_underlying h6, this, run_sizeOf (hT el) hel, addr_add]

theorem snd_faddr_ebox (hT : ∀ t, TyOK P t (T t)) (hR : Rel G ρ w H) {s ft : TypeId} {x : Operand} {n : Nat} (ho : o.op = .fieldAddr s x n) (hx : Rp ρ w (e x) (v x)) {fs : List (Nat × TypeId)} {k i sz j off : Nat} (hs : (T s).k = .struct fs) (hn : fs[n]? = some (k, ft))
    (hf : (T ft).k.known = true) (h0 : (T ft).size ≠ 0) (h : e x = .ebox i sz j off) : StepV P G v o ρ w H (.ebox i sz j (off + k)) [] := by
  rw [h, Rp] at hx
  obtain ⟨b, f, h1, hv⟩ := hx
  refine StepV.same hR (u := .pointer (some ⟨b, j * sz + (off + k), none⟩)) ?_ (by rw [Rp]; exact ⟨b, f, h1, rfl⟩)
  have := run_fieldAt (P := P) (w := w) (b := b) (off := j * sz + off) hT hs hn hf h0
  rw [Nat.add_assoc] at this
  simp [execOp, ho, hv, this]

theorem snd_load_ebox (hT : ∀ t, TyOK P t (T t)) (hR : Rel G ρ w H) {t : TypeId} {x : Operand} (ho : o.op = .load t x) (hx : Rp ρ w (e x) (v x)) {i sz k off : Nat} {els : List D} {d d' : D} (hex : e x = .ebox i sz k off) (hi : H i = .row sz els)
    (hd : els[k]? = some d) (hk : (T t).k.known = true) (hp : partD (T t) d.cells off = some d') : StepV P G v o ρ w H d' [] := by
  rw [hex, Rp] at hx
  obtain ⟨b, f, hnm, hv⟩ := hx
  obtain ⟨hc0, a1, a2, a3, a4, a5, ty, vs, us, hh, hr, h2, h3⟩ := obj_row hR hi hnm
  have hre := RpL.elem hr a2 hd
  obtain ⟨zs, q1, q2, q3⟩ := partD_load hp hre (size_one (hT t) hk)
  refine StepV.same hR ?_ q3
  have := run_loadVar (P := P) (hT t) hk (b := b) (o := k * sz + off) q1 (size_one (hT t) hk) (w := w) (fun j u hu => by
    have e1 := q2 j u hu
    have hlt := (List.getElem?_eq_some_iff.1 e1).1
    rw [List.length_take] at hlt
    rw [List.getElem?_take_of_lt (by omega), List.getElem?_drop] at e1
    have e1l := (List.getElem?_eq_some_iff.1 e1).1
    simp only [World.cell?, hh, Option.isSome_none, Bool.false_eq_true, if_false]
    rw [List.getElem?_toArray, List.getElem?_append_left (by omega), show k * sz + off + j = k * sz + (off + j) by omega]; exact e1)
  simp [execOp, ho, hv, Instr.loadAt, Instr.sureAddr, this]

theorem snd_store_ebox (hT : ∀ t, TyOK P t (T t)) (hR : Rel G ρ w H) {t : TypeId} {x y : Operand} (ho : o.op = .store t x y) (hx : Rp ρ w (e x) (v x)) (hy : Rp ρ w (e y) (v y)) {i sz k off : Nat} {els : List D} {d : D}
    (hex : e x = .ebox i sz k off) (hi : H i = .row sz els) (hd : els[k]? = some d) (hk : (T t).k.known = true) (hl : (e y).cells.length = (T t).size) (hle : off + (T t).size ≤ d.cells.length) (ha : (e y).cells.all D.one = true) :
    StepV P G v o ρ w H .junk [(i, .row sz (els.set k (reD d (d.cells.take off ++ (e y).cells ++ d.cells.drop (off + (T t).size)))))] := by
  rw [hex, Rp] at hx
  obtain ⟨b, f, hnm, hv⟩ := hx
  obtain ⟨hc0, a1, a2, a3, a4, a5, ty, vs, us, hh, hr, h2, h3⟩ := obj_row hR hi hnm
  obtain ⟨hc, h1⟩ := Rp.cells ha hy
  have hlc := hc.length
  have hsz : (v y).cells.size = (T t).size := by rw [← Array.length_toList, hlc, hl]
  have hkl : k < els.length := (List.getElem?_eq_some_iff.1 hd).1
  have hdl : d.cells.length = sz := by rw [cells_len]; exact a2 d (List.mem_of_getElem? hd)
  have hul : us.length = els.length * sz := by rw [hr.length, flat_len a2]
  have hkm : (k + 1) * sz ≤ els.length * sz := Nat.mul_le_mul_right _ hkl
  rw [Nat.succ_mul] at hkm
  have hrun := run_storeCells_at P b (k * sz + off) ty (v y).cells.toList 0 (us ++ vs).toArray w hh (by simp; omega) h1
  generalize hd' : reD d (d.cells.take off ++ (e y).cells ++ d.cells.drop (off + (T t).size)) = d'
  have hcells : d'.cells = d.cells.take off ++ (e y).cells ++ d.cells.drop (off + (T t).size) := by
    subst hd'
    cases hda : d.isAggX with
    | true => cases d <;> first | rfl | cases hda
    | false =>
      have hdc : d.cells = [d] := by cases d <;> first | rfl | cases hda
      have hlen : (d.cells.take off ++ (e y).cells ++ d.cells.drop (off + (T t).size)).length = 1 := by
        rw [List.length_append, List.length_append, List.length_take, List.length_drop, hl]
        rw [hdc] at hle ⊢
        simp only [List.length_cons, List.length_nil] at hle ⊢
        omega
      obtain ⟨z, hz⟩ := List.length_eq_one_iff.1 hlen
      rw [hz]
      have hzr : reD d [z] = z := by cases d <;> first | rfl | cases hda
      rw [hzr]
      have hmem : z ∈ d.cells.take off ++ (e y).cells ++ d.cells.drop (off + (T t).size) := by rw [hz]; simp
      have hzn : z.isAggX = false := by
        rcases List.mem_append.1 hmem with h | h
        · rcases List.mem_append.1 h with h | h
          · have := List.mem_of_mem_take h
            rw [hdc] at this
            rw [List.mem_singleton.1 this]; exact hda
          · have := List.all_eq_true.1 ha z h
            cases z <;> first | rfl | cases this
        · have := List.mem_of_mem_drop h
          rw [hdc] at this
          rw [List.mem_singleton.1 this]; exact hda
      cases z <;> first | rfl | cases hzn
  have hd'l : d'.size = sz := by
    rw [← cells_len, hcells, List.length_append, List.length_append, List.length_take, List.length_drop, hl]; omega
  have hnew : (us ++ vs).take (k * sz + off + 0) ++ (v y).cells.toList ++ (us ++ vs).drop (k * sz + off + 0 + (v y).cells.toList.length) = (us.take (k * sz + off) ++ (v y).cells.toList ++ us.drop (k * sz + off + (v y).cells.toList.length)) ++ vs := by
    have e1 : (v y).cells.toList.length = (T t).size := by rw [hlc, hl]
    rw [Nat.add_zero, e1, List.take_append_of_le_length (by omega), List.drop_append_of_le_length (by omega)]
    simp
  have hrel : ∀ ρ', Grow ρ w ρ' (w.setRow b ((us ++ vs).toArray.toList.take (k * sz + off + 0) ++ (v y).cells.toList ++ (us ++ vs).toArray.toList.drop (k * sz + off + 0 + (v y).cells.toList.length)).toArray) →
      RpL ρ' (w.setRow b ((us ++ vs).toArray.toList.take (k * sz + off + 0) ++ (v y).cells.toList ++ (us ++ vs).toArray.toList.drop (k * sz + off + 0 + (v y).cells.toList.length)).toArray) ((els.set k d').flatMap D.cells) (us.take (k * sz + off) ++ (v y).cells.toList ++ us.drop (k * sz + off + (v y).cells.toList.length)) := fun ρ' g => by
    have hrg := RpL.grow g _ _ hr
    have hcg := RpL.grow g _ _ hc
    rw [flat_set a2 hkl, hcells]
    have e1 : (v y).cells.toList.length = (T t).size := by rw [hlc, hl]
    have hde : d.cells = ((els.flatMap D.cells).drop (k * sz)).take sz := flat_get a2 hd
    have p1 : (els.flatMap D.cells).take (k * sz) ++ (d.cells.take off ++ (e y).cells ++ d.cells.drop (off + (T t).size)) ++ (els.flatMap D.cells).drop ((k + 1) * sz) = (els.flatMap D.cells).take (k * sz + off) ++ (e y).cells ++ (els.flatMap D.cells).drop (k * sz + off + (T t).size) := by
      rw [hde]
      have s1 : (els.flatMap D.cells).take (k * sz + off) = (els.flatMap D.cells).take (k * sz) ++ (((els.flatMap D.cells).drop (k * sz)).take sz).take off := by
        rw [List.take_add, List.take_take, Nat.min_eq_left (by omega)]
      have s2 : (((els.flatMap D.cells).drop (k * sz)).take sz).drop (off + (T t).size) ++ (els.flatMap D.cells).drop ((k + 1) * sz) = (els.flatMap D.cells).drop (k * sz + off + (T t).size) := by
        have : (els.flatMap D.cells).drop ((k + 1) * sz) = (((els.flatMap D.cells).drop (k * sz)).drop sz) := by rw [List.drop_drop, Nat.succ_mul]
        rw [this, ← List.drop_append_of_le_length (by rw [List.length_take, List.length_drop, flat_len a2]; omega), List.take_append_drop, List.drop_drop]
        congr 1; omega
      rw [s1, ← s2]
      simp only [List.append_assoc]
    rw [p1]
    have hfin := ((hrg.take (k * sz + off)).append hcg).append (hrg.drop (k * sz + off + (T t).size))
    rw [e1]
    rw [e1] at hfin
    exact hfin
  obtain ⟨r1, r2⟩ := Ex.write hR hnm (by rw [hi]; rfl) (w' := w.setRow b ((us ++ vs).toArray.toList.take (k * sz + off + 0) ++ (v y).cells.toList ++ (us ++ vs).toArray.toList.drop (k * sz + off + 0 + (v y).cells.toList.length)).toArray) rfl rfl rfl
    (by simp [World.setRow]) (fun k hk => by simp [World.setRow, Array.getElem?_modify, Ne.symm hk]) hc0
    (fun vs' ty' fz hq => by
      rw [hh] at hq; cases hq
      exact ⟨_, setRow_heap w b _ _ _ _ hh, by simp; omega⟩)
    (x := .row sz (els.set k d')) rfl
    (fun g => ⟨hc0, a1, (fun z hz => (List.mem_or_eq_of_mem_set hz).elim (a2 z) (fun h => h ▸ hd'l)), by rw [List.length_set]; exact a3, a4, by rw [List.length_set]; exact a5, ty, vs, us.take (k * sz + off) ++ (v y).cells.toList ++ us.drop (k * sz + off + (v y).cells.toList.length), by
      rw [setRow_heap w b _ _ _ _ hh]
      show some (Obj.cells ((us ++ vs).take _ ++ _ ++ (us ++ vs).drop _).toArray ty (0, 0)) = _
      rw [hnew], hrel _ g, by
      have e1 : (v y).cells.toList.length = (T t).size := by rw [hlc, hl]
      simp only [List.length_append, List.length_take, List.length_drop, e1]; omega, fun u hu => by
      rcases List.mem_append.1 hu with hu | hu
      · rcases List.mem_append.1 hu with hu | hu
        · exact h3 u (List.mem_of_mem_take hu)
        · exact h1 u hu
      · exact h3 u (List.mem_of_mem_drop hu)⟩)
  refine ⟨.skip, undef, ρ, _, ?_, .inr ⟨rfl, rfl⟩, by rw [Rp]; trivial, r1, r2⟩
  have hrun2 : (storeCells ⟨b, k * sz + off, none⟩ (v y).cells.toList).run P w = _ := hrun
  simp [execOp, ho, hv, Instr.storeAt, Instr.sureAddr, storeVar, run_sizeOf (hT t) hk, hsz, hrun2]

theorem setH_twice (H : Nat → HO) (n : Nat) (x y : HO) : setH (setH H n x) n y = setH H n y := by
  funext k; unfold setH; split <;> rfl

/-- elements that stay, as values -/
theorem RpE.flat {ρ : Rho} {w : World} : ∀ {els : List D} {b o : Nat}, RpE ρ w els b o → ∃ vs : List Value, RpL ρ w (els.flatMap D.cells) vs ∧ ∀ (j : Nat) (v : Value), vs[j]? = some v → w.cell? ⟨b, o + j, none⟩ = some v ∧ v.oneCell' = true
  | [], b, o, _ => ⟨[], RpL_nil.2 rfl, fun j v h => by simp at h⟩
  | e :: r, b, o, h => by
    rw [RpE_cons] at h
    obtain ⟨vs, h1, h2⟩ := RpE.flat h.2
    have key : ∃ us : List Value, RpL ρ w e.cells us ∧ ∀ (j : Nat) (v : Value), us[j]? = some v → w.cell? ⟨b, o + j, none⟩ = some v ∧ v.oneCell' = true := by
      have hat := h.1
      cases e
      case agg cs =>
        obtain ⟨us, g1, g2⟩ := RpC.vals (show RpC ρ w cs b o from hat)
        exact ⟨us, g1, g2⟩
      all_goals
        obtain ⟨u, g1, g2⟩ := hat
        refine ⟨[u], RpL_cons'.2 ⟨g2, RpL_nil.2 rfl⟩, fun j v hj => ?_⟩
        cases j with
        | zero => simp at hj; subst hj; exact ⟨g1.2.1, g1.2.2⟩
        | succ j => simp at hj
    obtain ⟨us, g1, g2⟩ := key
    have hl : us.length = e.size := by rw [g1.length, cells_len]
    refine ⟨us ++ vs, by rw [List.flatMap_cons]; exact g1.append h1, fun j v hj => ?_⟩
    by_cases hlt : j < us.length
    · rw [List.getElem?_append_left hlt] at hj; exact g2 j v hj
    · rw [List.getElem?_append_right (by omega)] at hj
      have := h2 (j - us.length) v hj
      rwa [show o + e.size + (j - us.length) = o + j by omega] at this

theorem slice_flat {tx e' : TypeId} (hk : P.underlying tx = some (.slice e')) {els : List D} {c : Cp} {v : Value} {sz : Nat} (hs : ∀ e, e ∈ els → e.size = sz) (h : Rp ρ w (.slice els c) v) :
    ∃ vs : List Value, Src P sz tx v els.length vs w ∧ RpL ρ w (els.flatMap D.cells) vs := by
  rw [Rp] at h
  obtain ⟨A, cap, sz', rfl, -, -, -, -, -, h5⟩ := h
  by_cases hne : els = []
  · subst hne
    have : Src P sz tx (.slice A 0 cap) 0 [] w := by
      cases A with
      | none => exact Src.ofNil w hk cap
      | some a => exact Src.ofSlice w hk a 0 cap [] (by simp) (fun j u h => by simp at h) (fun u h => by cases h)
    exact ⟨[], this, RpL_nil.2 rfl⟩
  · obtain ⟨b, o, rfl, h6⟩ := h5 hne
    obtain ⟨vs, h7, h8⟩ := RpE.flat h6
    have hlen := h7.length
    rw [flat_len hs] at hlen
    have : Src P sz tx (.slice (some ⟨b, o, none⟩) els.length cap) els.length vs w := Src.ofSlice w hk _ _ cap vs hlen (fun j u hu => by rw [addr_add]; exact (h8 j u hu).1) (fun u hu => by
      obtain ⟨j, hj⟩ := List.getElem?_of_mem hu
      exact (h8 j u hj).2)
    exact ⟨vs, this, h7⟩

variable {T : TypeId → Ty} {v : Operand → Value} {e : Operand → D} {o : Oper}

theorem flat_append (as bs : List D) : (as ++ bs).flatMap D.cells = as.flatMap D.cells ++ bs.flatMap D.cells := List.flatMap_append ..

theorem snd_append_own (hT : ∀ t, TyOK P t (T t)) (hR : Rel G ρ w H) {c : Call} {x y : Operand} {t t2 el el2 : TypeId} (ho : o.op = .call c) (hcl : c.callee = .builtin .append) (ha : c.args = #[x, y]) (ht : c.argTypes = #[t, t2])
    (hx : Rp ρ w (e x) (v x)) (hy : Rp ρ w (e y) (v y)) {els els2 : List D} {cy : Cp} {i sz : Nat} (hex : e x = .own i els.length) (hi : H i = .row sz els) (hey : e y = .slice els2 cy) (hk : (T t).k = .slice el) (hk2 : (T t2).k = .slice el2) (hel : (T el).k.known = true) (hby : (T el).bytes ≤ 256)
    (hs : sz = (T el).size) (hp : 0 < sz) (hs1 : ∀ d, d ∈ els → d.size = sz) (hs2 : ∀ d, d ∈ els2 → d.size = sz) (hl : els.length + els2.length ≤ LMax) {nx : Nat} (hn : H nx = .free) :
    StepV P G v o ρ w H (.own nx (els.length + els2.length)) [(i, .dead), (nx, .row sz (els ++ els2))] := by
  subst hs
  have hin : i ≠ nx := fun e => by subst e; rw [hn] at hi; cases hi
  obtain ⟨it, d, -, -, -, -, -, -, -, h1, h2⟩ := (hT t).info (by rw [hk]; rfl)
  rw [hk] at h2; simp only [KOK] at h2; subst h2
  obtain ⟨it2, d2, -, -, -, -, -, -, -, h3, h4⟩ := (hT t2).info (by rw [hk2]; rfl)
  rw [hk2] at h4; simp only [KOK] at h4; subst h4
  obtain ⟨ii, d3, hii, hsz, hbt, hz, hzc, hzs, -, -, -⟩ := (hT el).info hel
  rw [hey] at hy
  obtain ⟨news, hsrc, hnr⟩ := slice_flat (P := P) (sz := (T el).size) h3 hs2 hy
  have hlen2 := hsrc.newsLen
  have hone2 := hsrc.one
  have hrunop : ∀ {u : Value} {w' : World}, (Builtin.append_ #[t, t2] o.type #[v x, v y]).run P w = .ok u w' → (execOp v o).run P w = .ok (.value u) w' := fun {u w'} h => by
    simp [execOp, ho, hcl, ha, ht, resolve, invoke, builtin, h]
  have hsall : ∀ d, d ∈ els ++ els2 → d.size = (T el).size := fun d hd => (List.mem_append.1 hd).elim (hs1 d) (hs2 d)
  have hcomm : ∀ y : HO, setH (setH H nx y) i .dead = setH (setH H i .dead) nx y := fun y => (setH_comm H _ _ hin).symm
  -- a row in a new block
  have hgrow : ∀ (A : Option Addr) (cap : Nat) (olds : List Value), v x = .slice A els.length cap → (Builtin.firstCells (T el).size els.length (.slice A els.length cap)).run P w.drew = .ok olds.toArray w.drew → RpL ρ w (els.flatMap D.cells) olds → (∀ u, u ∈ olds → u.oneCell' = true) → cap < els.length + els2.length →
      StepV P G v o ρ w H (.own nx (els.length + els2.length)) [(i, .dead), (nx, .row (T el).size (els ++ els2))] := fun A cap olds hvx hold hor hone1 hlt => by
    have h63 : ((els.length + els2.length : Nat) : Int) ≤ 9223372036854775807 := by unfold LMax at hl; omega
    have hfit : Builtin.nextslicecap (els.length + els2.length) cap * ii.bytes ≤ 281474976710656 := by
      have g1 := nextslicecap_le hlt
      have g2 := Nat.mul_le_mul g1 (show ii.bytes ≤ 256 by omega)
      unfold LMax at hl
      omega
    have hrun := run_append_grow_src w t t2 o.type el ii _ h1 hii hz A els.length cap olds (by rw [hsz]; exact hold) (v y) els2.length news (by rw [hsz]; exact hsrc) hlt h63 hfit
    have hcg := grownCap_ge w (els.length + els2.length) cap el
    have hcm' : grownCap w (els.length + els2.length) cap el ≤ maxLen := grownCap_le_maxLen w _ cap el (by unfold LMax at hl; simp only [maxLen]; omega)
    generalize grownCap w (els.length + els2.length) cap el = cap' at hrun hcg hcm'
    have hlen1 : olds.length = els.length * (T el).size := by rw [hor.length, flat_len hs1]
    have hvs : (olds ++ news).toArray ++ Builtin.zeroCells (T el).zero.cv.cells (cap' - (els.length + els2.length)) = ((olds ++ news) ++ (Builtin.zeroCells (T el).zero.cv.cells (cap' - (els.length + els2.length))).toList).toArray := by apply Array.ext'; simp
    rw [hvs] at hrun
    obtain ⟨hRd, hed⟩ := Ex.drew hR
    have hzz : (T el).zero.cv.cells.size = (T el).size := by
      rcases cv_size (T el).zero with h | h
      · rw [h, hzs]
      · rw [hzc] at h; cases h
    obtain ⟨r1, r2⟩ := Ex.layF (f := cap') hRd hn (o := .cells ((olds ++ news) ++ (Builtin.zeroCells (T el).zero.cv.cells (cap' - (els.length + els2.length))).toList).toArray el) (x := .row (T el).size (els ++ els2)) rfl (fun ρ' g hc => by
      refine ⟨hc, hp, hsall, by rw [List.length_append]; exact hcg, hcm', by rw [List.length_append]; exact hl, el, (Builtin.zeroCells (T el).zero.cv.cells (cap' - (els.length + els2.length))).toList, olds ++ news, heap_new w.drew _, ?_, ?_, fun u hu => (List.mem_append.1 hu).elim (hone1 u) (hone2 u)⟩
      · rw [flat_append]
        exact RpL.grow g _ _ (RpL.grow hed.grow _ _ (hor.append hnr))
      · have : cap' * (T el).size = (els.length + els2.length) * (T el).size + (cap' - (els.length + els2.length)) * (T el).size := by rw [← Nat.add_mul]; congr 1; omega
        simp only [List.length_append, hlen1, hlen2, Array.length_toList, size_zeroCells, hzz]
        rw [this, Nat.add_mul]
        omega)
    have q1 := r1.kill (dead_one _ i)
    have q2 := (hed.trans r2).kill (dead_one _ i)
    rw [hcomm] at q1 q2
    refine ⟨_, _, _, _, hrunop (by rw [hvx]; exact hrun), .inl rfl, ?_, q1, q2⟩
    rw [Rp]
    exact .inr ⟨w.drew.heap.size, cap', by simp [Rho.layF], rfl, hcg, hl⟩
  have hx' := hx
  rw [hex, Rp] at hx'
  rcases hx' with ⟨h0, A, hvx⟩ | ⟨b, f, hnm, hvx, hnf, -⟩
  · have he : els = [] := List.eq_nil_of_length_eq_zero h0
    subst he
    by_cases he2 : els2 = []
    · subst he2
      have hnn : news = [] := List.eq_nil_of_length_eq_zero (by simpa using hlen2)
      subst hnn
      have hrun := run_append_nothing (P := P) w t t2 o.type el ii h1 hii A 0 0 (Nat.le_refl _) (v y) (by rw [hsz]; exact hsrc)
      obtain ⟨r1, r2⟩ := Ex.nameX hR hn (x := .row (T el).size ([] ++ [])) rfl
      have q1 := r1.kill (dead_one _ i)
      have q2 := r2.kill (dead_one _ i)
      rw [hcomm] at q1 q2
      refine ⟨_, _, ρ, w, hrunop (by rw [hvx]; exact hrun), .inl rfl, ?_, q1, q2⟩
      rw [Rp]
      exact .inl ⟨rfl, A, rfl⟩
    · refine hgrow A 0 [] hvx ?_ (RpL_nil.2 rfl) (fun u hu => by cases hu) (by have := List.length_pos_iff.2 he2; simpa using this)
      have : Src P (T el).size t (.slice A 0 0) 0 [] w := by
        cases A with
        | none => exact Src.ofNil w h1 0
        | some a => exact Src.ofSlice w h1 a 0 0 [] (by simp) (fun j u h => by simp at h) (fun u h => by cases h)
      exact this.cellsD
  · obtain ⟨hc0, a1, a2, a3, a4, a5, ty, vs, us, hh, hr, g2, g3⟩ := obj_row hR hi hnm
    have hul : us.length = els.length * (T el).size := by rw [hr.length, flat_len hs1]
    have hsx : Src P (T el).size t (.slice (some ⟨b, 0, none⟩) els.length f) els.length us w := Src.ofSlice w h1 _ _ f us hul (fun j u hu => by
      have hlt := (List.getElem?_eq_some_iff.1 hu).1
      rw [addr_add]
      simp only [Nat.zero_add, World.cell?, hh, Option.isSome_none, Bool.false_eq_true, if_false]
      rw [List.getElem?_toArray, List.getElem?_append_left hlt]; exact hu) g3
    by_cases hfits : els.length + els2.length ≤ f
    · have hmul : (els.length + els2.length) * (T el).size ≤ f * (T el).size := Nat.mul_le_mul_right _ hfits
      rw [Nat.add_mul] at hmul
      have hfit2 : 0 + els.length * ii.size + news.length ≤ (us ++ vs).toArray.size := by rw [hsz, hlen2]; simp; omega
      have hrun := run_append_in (P := P) (w := w) (t := t) (tx := t2) (ty := o.type) h1 hii hh (by rw [hsz]; exact hsrc) hfits hfit2
      rw [hsz] at hrun
      have hnew : (us ++ vs).take (0 + els.length * (T el).size) ++ news ++ (us ++ vs).drop (0 + els.length * (T el).size + news.length) = (us ++ news) ++ vs.drop news.length := by
        rw [Nat.zero_add, ← hul, List.take_left, List.drop_length_add_append]
      have hnew' : ((us ++ vs).toArray.toList.take (0 + els.length * (T el).size) ++ news ++ (us ++ vs).toArray.toList.drop (0 + els.length * (T el).size + news.length)).toArray = ((us ++ news) ++ vs.drop news.length).toArray := by rw [← hnew]
      rw [hnew'] at hrun
      obtain ⟨r1, r2⟩ := Ex.write hR hnm (by rw [hi]; rfl) (w' := w.setRow b ((us ++ news) ++ vs.drop news.length).toArray) rfl rfl rfl (by simp [World.setRow]) (fun k hk => by simp [World.setRow, Array.getElem?_modify, Ne.symm hk]) hc0
        (fun vs' ty' fz hq => by
          rw [hh] at hq; cases hq
          exact ⟨_, setRow_heap w b _ _ _ _ hh, by simp; omega⟩)
        (x := .row (T el).size (els ++ els2)) rfl
        (fun g => ⟨hc0, a1, hsall, by rw [List.length_append]; exact hfits, a4, by rw [List.length_append]; exact hl, ty, vs.drop news.length, us ++ news, setRow_heap w b _ _ _ _ hh, by
          rw [flat_append]; exact RpL.grow g _ _ (hr.append hnr), by simp; omega, fun u hu => (List.mem_append.1 hu).elim (g3 u) (hone2 u)⟩)
      have hn' : setH H i (.row (T el).size (els ++ els2)) nx = .free := by rw [setH_ne _ _ (Ne.symm hin)]; exact hn
      obtain ⟨s1, s2⟩ := Ex.rename r1 hn' (i := i) (by rw [setH_same]; rfl)
      rw [setH_same, setH_twice] at s1 s2
      refine ⟨_, _, _, _, hrunop (by rw [hvx]; exact hrun), .inl rfl, ?_, s1, r2.trans s2⟩
      rw [Rp]
      exact .inr ⟨b, f, by simp [Rho.as, hnm], rfl, hfits, hl⟩
    · exact hgrow _ f us hvx hsx.cellsD hr g3 (by omega)
end

section
variable {P : Program} {G : Nat → Option D} {ρ : Rho} {w : World} {H : Nat → HO} {T : TypeId → Ty} {v : Operand → Value} {e : Operand → D} {o : Oper}
theorem flat_rep {z : D} {sz : Nat} (hz : z.size = sz) : ∀ {c j : Nat}, j < c * sz → ((List.replicate c z).flatMap D.cells)[j]? = z.cells[j % sz]?
  | 0, j, h => by omega
  | c + 1, j, h => by
    rw [List.replicate_succ, List.flatMap_cons]
    have hl : z.cells.length = sz := by rw [cells_len]; exact hz
    by_cases hj : j < sz
    · rw [List.getElem?_append_left (by omega), Nat.mod_eq_of_lt hj]
    · rw [Nat.succ_mul] at h
      rw [List.getElem?_append_right (by omega), hl, flat_rep hz (c := c) (by omega)]
      rw [Nat.mod_eq_sub_mod (a := j) (by omega)]

theorem made_get (z : Array Value) (n j : Nat) : (madeCells z n)[j]? = if j < n then some (z[j % z.size]!) else none := by
  unfold madeCells
  rw [Array.getElem?_map]
  by_cases h : j < n
  · rw [if_pos h, Array.getElem?_eq_getElem (by simpa using h), Array.getElem_range]; rfl
  · rw [if_neg h, Array.getElem?_eq_none (by simpa using h)]; rfl

theorem snd_makeSlice (hT : ∀ t, TyOK P t (T t)) (hR : Rel G ρ w H) {t el : TypeId} {x y : Operand} (ho : o.op = .makeSlice t x y) (hx : Rp ρ w (e x) (v x)) (hy : Rp ρ w (e y) (v y)) {k1 k2 : IntKind} {c : Int} (hex : e x = .int k1 c) (hey : e y = .int k2 c) (h0 : 0 ≤ c) (h1 : c ≤ 1048576)
    (hk : (T t).k = .slice el) (hel : (T el).k.known = true) (hby : (T el).bytes ≤ 256) (hp : 0 < (T el).size) (hone : (T el).zero.cells.all D.one = true) {nx : Nat} (hn : H nx = .free) :
    StepV P G v o ρ w H (.own nx c.toNat) [(nx, .row (T el).size (List.replicate c.toNat (T el).zero))] := by
  rw [hex, Rp] at hx
  rw [hey, Rp] at hy
  obtain ⟨it, d, -, -, -, -, -, -, -, g1, g2⟩ := (hT t).info (by rw [hk]; rfl)
  rw [hk] at g2; simp only [KOK] at g2; subst g2
  obtain ⟨ii, d3, hii, hsz, hbt, hz, hzc, hzs, -, -, -⟩ := (hT el).info hel
  have hrun := run_make (P := P) w t el ii _ g1 hii hz k1 k2 c c h0 (Int.le_refl _) (by
    have : ((ii.bytes : Nat) : Int) ≤ 256 := by omega
    have := Int.mul_le_mul this h1 h0 (by omega)
    omega) (by omega)
  rw [hsz] at hrun
  have hzrp := Rp_cv ρ w (T el).zero hzc
  obtain ⟨hcr, hco⟩ := Rp.cells hone hzrp
  have hzz : (T el).zero.cv.cells.size = (T el).size := by
    rcases cv_size (T el).zero with h | h
    · rw [h, hzs]
    · rw [hzc] at h; cases h
  have hmade : ∀ (j : Nat) (u : Value), (madeCells (T el).zero.cv.cells (c.toNat * (T el).size)).toList[j]? = some u → j < c.toNat * (T el).size ∧ (T el).zero.cv.cells.toList[j % (T el).size]? = some u := fun j u hu => by
    rw [Array.getElem?_toList, made_get] at hu
    split at hu
    · rename_i hj
      refine ⟨hj, ?_⟩
      rw [hzz] at hu
      have hm : j % (T el).size < (T el).zero.cv.cells.size := by rw [hzz]; exact Nat.mod_lt _ hp
      have he : (T el).zero.cv.cells[j % (T el).size]! = (T el).zero.cv.cells[j % (T el).size] := getElem!_pos (T el).zero.cv.cells (j % (T el).size) hm
      rw [he] at hu
      rw [Array.getElem?_toList, Array.getElem?_eq_getElem hm]; exact hu
    · cases hu
  obtain ⟨r1, r2⟩ := Ex.layF (f := c.toNat) hR hn (o := .cells (madeCells (T el).zero.cv.cells (c.toNat * (T el).size)) el) (x := .row (T el).size (List.replicate c.toNat (T el).zero)) rfl (fun ρ' g hc => by
    refine ⟨hc, hp, fun z hz => by rw [List.eq_of_mem_replicate hz]; exact hzs, by simp, by simp only [maxLen]; omega, by simp [LMax]; omega, el, [], (madeCells (T el).zero.cv.cells (c.toNat * (T el).size)).toList, by rw [List.append_nil, Array.toArray_toList]; exact heap_new w _, ?_, ?_, fun u hu => ?_⟩
    · refine RpL.of ?_ fun j d u hd hu => ?_
      · rw [flat_len (sz := (T el).size) (fun z hz => by rw [List.eq_of_mem_replicate hz]; exact hzs)]; simp [size_madeCells]
      · obtain ⟨hj, hu2⟩ := hmade j u hu
        rw [flat_rep hzs hj] at hd
        obtain ⟨u', q1, q2⟩ := (RpL.grow g _ _ hcr).get hd
        rw [hu2] at q1; cases q1
        exact q2
    · simp [size_madeCells]
    · obtain ⟨j, hj⟩ := List.getElem?_of_mem hu
      exact hco u (List.mem_of_getElem? (hmade j u hj).2))
  refine ⟨.value (.slice (some ⟨w.heap.size, 0, none⟩) c.toNat c.toNat), _, _, _, ?_, .inl rfl, ?_, r1, r2⟩
  · simp [execOp, ho, hx.1, hy.1, hrun]
  · rw [Rp]
    exact .inr ⟨w.heap.size, c.toNat, by simp [Rho.layF], rfl, Nat.le_refl _, by unfold LMax; omega⟩

theorem upd_now {k kk : IntKind} {a : Int} {x : D} {u : Value} (hu : Rp ρ w x u) : ∀ {es : List (D × D)} {l : List MapEntry} (i : Nat) {d : D}, (es.all fun p => isIntK k p.1) = true → RpL ρ w (es.map (·.1)) (l.map (·.key)) → RpL ρ w (es.map (·.2)) (l.map (·.val)) → findD (.int k a) es = some d →
    ∃ j z m, Instr.findNow (.int kk) (.int k a) l i = some (some (i + j, z)) ∧ l[j]? = some m ∧ m.key = .int k a ∧ RpL ρ w ((updE (.int k a) x es).map (·.1)) ((l.modify j fun e => { e with key := .int k a, val := u }).map (·.key)) ∧ RpL ρ w ((updE (.int k a) x es).map (·.2)) ((l.modify j fun e => { e with key := .int k a, val := u }).map (·.val))
  | [], l, i, d, _, h1, _, hf => by cases hf
  | p :: es, l, i, d, h, h1, h2, hf => by
    cases l with
    | nil => rw [List.map_cons, RpL_cons] at h1; obtain ⟨_, _, h1, -⟩ := h1; cases h1
    | cons m l =>
      rw [List.all_cons, Bool.and_eq_true] at h
      simp only [List.map_cons] at h1 h2
      obtain ⟨g1, g2⟩ := RpL_cons'.1 h1
      obtain ⟨g3, g4⟩ := RpL_cons'.1 h2
      obtain ⟨n, e1, e2⟩ := isIntK_rp h.1 g1
      rw [findD, e1] at hf
      rw [updE, e1]
      by_cases han : a = n
      · subst han
        have hk : keyEq (.int k a) (.int k a) = true := by simp [keyEq]
        rw [hk]
        simp only [if_true]
        refine ⟨0, m.val, m, by rw [Instr.findNow, e2]; simp [Instr.sameNow], rfl, e2, ?_, ?_⟩
        · simp only [List.map_cons, List.modify_zero_cons]
          exact RpL_cons'.2 ⟨by rw [e1, e2] at g1; exact g1, g2⟩
        · simp only [List.map_cons, List.modify_zero_cons]
          exact RpL_cons'.2 ⟨hu, g4⟩
      · have hk : keyEq (.int k a) (.int k n) = false := by simp [keyEq, han]
        rw [hk] at hf ⊢
        simp only [Bool.false_eq_true, if_false] at hf ⊢
        obtain ⟨j, z, m', q1, q2, q3, q4, q5⟩ := upd_now (k := k) (kk := kk) (a := a) hu (i + 1) h.2 g2 g4 hf
        have hs : Instr.findNow (.int kk) (.int k a) (m :: l) i = Instr.findNow (.int kk) (.int k a) l (i + 1) := by
          rw [Instr.findNow, e2]
          have : (a == n) = false := by simpa using han
          simp [Instr.sameNow, this]
        refine ⟨j + 1, z, m', by rw [hs, q1, show i + 1 + j = i + (j + 1) by omega], by simpa using q2, q3, ?_, ?_⟩
        · simp only [List.map_cons, List.modify_succ_cons]
          exact RpL_cons'.2 ⟨g1, q4⟩
        · simp only [List.map_cons, List.modify_succ_cons]
          exact RpL_cons'.2 ⟨g3, q5⟩

theorem updE_length (k x : D) : ∀ es : List (D × D), (updE k x es).length = es.length
  | [] => rfl
  | p :: r => by
    rw [updE]
    split
    · rfl
    · rw [List.length_cons, updE_length k x r]; rfl

theorem stamped_modify {ents : Array MapEntry} {clock j : Nat} {m : MapEntry} {key u : Value} (h : Stamped ents clock) (hj : ents.toList[j]? = some m) (hk : m.key = key) : Stamped (ents.modify j fun e => { e with key := key, val := u }) clock := by
  obtain ⟨h1, h2, h3⟩ := h
  have hb : ((ents.modify j fun e => { e with key := key, val := u }).toList.map (·.born)) = ents.toList.map (·.born) := by
    rw [Array.toList_modify]
    apply List.ext_getElem?
    intro i
    rw [List.getElem?_map, List.getElem?_map, List.getElem?_modify]
    cases ents.toList[i]? with
    | none => rfl
    | some x => simp only [Option.map_eq_map, Option.map_some]; split <;> rfl
  have hkk : ((ents.modify j fun e => { e with key := key, val := u }).toList.map (·.key)) = ents.toList.map (·.key) := by
    rw [Array.toList_modify]
    apply List.ext_getElem?
    intro i
    rw [List.getElem?_map, List.getElem?_map, List.getElem?_modify]
    cases hi : ents.toList[i]? with
    | none => rfl
    | some x =>
      simp only [Option.map_eq_map, Option.map_some]
      split
      · rename_i hij; subst hij; rw [hi] at hj; cases hj; rw [← hk]
      · rfl
  refine ⟨fun x hx => ?_, by rw [hb]; exact h2, by rw [hkk]; exact h3⟩
  have hm : x.born ∈ (ents.modify j fun e => { e with key := key, val := u }).toList.map (·.born) := List.mem_map.2 ⟨x, hx, rfl⟩
  rw [hb] at hm
  obtain ⟨y, hy, e⟩ := List.mem_map.1 hm
  rw [← e]; exact h1 y hy

theorem snd_update (hT : ∀ t, TyOK P t (T t)) (hR : Rel G ρ w H) {t kt el : TypeId} {m ix x : Operand} (ho : o.op = .mapUpdate t m ix x) (hm : Rp ρ w (e m) (v m)) (hix : Rp ρ w (e ix) (v ix)) (hx : Rp ρ w (e x) (v x)) {kk k : IntKind} {a : Int} (hk : (T t).k = .map kt el) (hkt : (T kt).k = .int kk)
    {i : Nat} {es : List (D × D)} {d : D} (hem : e m = .map i) (hei : e ix = .int k a) (hi : H i = .mp es) (hall : (es.all fun p => isIntK k p.1) = true) (hyes : findD (.int k a) es = some d) :
    StepV P G v o ρ w H .junk [(i, .mp (updE (.int k a) (e x) es))] := by
  rw [hem, Rp] at hm
  obtain ⟨b, f, hnm, hv⟩ := hm
  rw [hei, Rp] at hix
  have hobj := hR.obj i b f hnm
  rw [hi] at hobj
  obtain ⟨hc0, ents, clock, hh, h1, h2, ⟨hst1, hst2, hst3⟩, hlm⟩ := hobj
  obtain ⟨it, d', -, -, -, -, -, -, -, g1, g2⟩ := (hT t).info (by rw [hk]; rfl)
  rw [hk] at g2; simp only [KOK] at g2; subst g2
  obtain ⟨it2, d2, -, -, -, -, -, -, -, g3, g4⟩ := (hT kt).info (by rw [hkt]; rfl)
  rw [hkt] at g4; simp only [KOK] at g4; subst g4
  have hlt : b < w.heap.size := (Array.getElem?_eq_some_iff.1 hh).1
  obtain ⟨j, z, m', q1, q2, q3, -, -⟩ := upd_now (ρ := ρ) (w := w) (kk := kk) (a := a) hx 0 hall h1 h2 hyes
  rw [Nat.zero_add] at q1
  obtain ⟨r1, r2⟩ := Ex.write hR hnm (by rw [hi]; rfl) (w' := { w with heap := w.heap.setIfInBounds b (.map (ents.modify j fun e => { e with key := .int k a, val := v x }) clock) }) rfl rfl rfl (by simp)
    (fun k hk => by simp [Array.getElem?_setIfInBounds_ne (Ne.symm hk)]) hc0 (fun vs ty fz hq => by rw [hh] at hq; cases hq)
    (x := .mp (updE (.int k a) (e x) es)) rfl (fun g => by
      obtain ⟨j2, z2, m2, p1, p2, p3, p4, p5⟩ := upd_now (ρ := ρ) (kk := kk) (a := a) (Rp.grow g _ _ hx) 0 hall (RpL.grow g _ _ h1) (RpL.grow g _ _ h2) hyes
      rw [q1, Nat.zero_add] at p1
      cases p1
      refine ⟨hc0, ents.modify j fun e => { e with key := .int k a, val := v x }, clock, by simp [hlt], ?_, ?_, ?_, by rw [updE_length]; exact hlm⟩
      · rw [Array.toList_modify]; exact p4
      · rw [Array.toList_modify]; exact p5
      · exact stamped_modify ⟨hst1, hst2, hst3⟩ q2 q3)
  refine ⟨.skip, undef, ρ, _, ?_, .inr ⟨rfl, rfl⟩, by rw [Rp]; trivial, r1, r2⟩
  have hrun : (Instr.mapUpdate t (v m) (v ix) (v x)).run P w = .ok () { w with heap := w.heap.setIfInBounds b (.map (ents.modify j fun e => { e with key := .int k a, val := v x }) clock) } := by
    have hck := run_checkKey_int (P := P) (w := w) (k := k) (a := a) g3 false 9999
    simp only [Nat.reduceAdd] at hck
    have q2' : ents[j]? = some m' := by simpa using q2
    have hsb : Instr.sameBits 10000 (.int k a) (.int k a) = true := by simp [Instr.sameBits]
    simp [Instr.mapUpdate, run_underlying g1, hv, hix.1, run_getMap hh, run_setMap hh, hck, run_underlying g3, Instr.findKey, q1, q2', q3, Instr.keyThatStays, hsb]
  simp [execOp, ho, hrun]
end
end Go.Proofs.Ytbjgdeednmhpfaa
