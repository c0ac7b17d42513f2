/-
  evOp is right: what it says an operation leaves, it leaves.
-/
import Derived.Test.YtbjgdeednmhpfaaDmem
set_option linter.unusedSimpArgs false
set_option linter.unusedVariables false
namespace Go.Proofs.Ytbjgdeednmhpfaa
open Go.RowKit

/-- an operation leaves a value -/
def StepV (P : Program) (G : Nat → Option D) (v : Operand → Value) (o : Oper) (ρ : Rho) (w : World) (H : Nat → HO) (d : D) (up : List (Nat × HO)) : Prop :=
  ∃ n u ρ' w', (execOp v o).run P w = .ok n w' ∧ (n = .value u ∨ (n = .skip ∧ u = undef)) ∧ Rp ρ' w' d u ∧ Rel G ρ' w' (updL H up) ∧ Ex ρ w H ρ' w' (updL H up)

section
variable {P : Program} {G : Nat → Option D} {T : TypeId → Ty} {v : Operand → Value} {e : Operand → D} {o : Oper} {ρ : Rho} {w : World} {H : Nat → HO}

/-- a value, memory as it was -/
theorem StepV.same (hR : Rel G ρ w H) {d : D} {u : Value} (hr : (execOp v o).run P w = .ok (.value u) w) (hd : Rp ρ w d u) : StepV P G v o ρ w H d [] :=
  ⟨_, u, ρ, w, hr, .inl rfl, hd, hR, Ex.refl _ _ _⟩

theorem TyOK.info {t : TypeId} (h : TyOK P t (T t)) (hk : (T t).k.known = true) : ∃ i d, P.info? t = some i ∧ i.size = (T t).size ∧ i.bytes = (T t).bytes ∧ i.zero = some (T t).zero.cv ∧ (T t).zero.closed = true ∧ (T t).zero.size = (T t).size ∧ ((T t).k.isAgg = true ∨ (T t).size = 1) ∧ P.underlying t = some d ∧ KOK d (T t).k := by
  obtain ⟨i, d, h1, h2, h3, h4, h5, h6, h7, h8, h9, -⟩ := h hk
  exact ⟨i, d, h1, h2, h3, h4, h5, h6, h7, h8, h9⟩
theorem TyOK.eqp {t : TypeId} (h : TyOK P t (T t)) (hk : (T t).k.known = true) (hq : (T t).eq2 = true) : EqP P t := by
  obtain ⟨i, d, -, -, -, -, -, -, -, -, -, h9⟩ := h hk
  exact h9 hq

theorem run_isAgg {t : TypeId} (h : TyOK P t (T t)) (hk : (T t).k.known = true) (w : World) : (isAgg t).run P w = .ok (T t).k.isAgg w := by
  obtain ⟨i, d, -, -, -, -, -, -, -, h1, h2⟩ := h.info hk
  unfold isAgg
  simp only [Sem.run_bind, run_underlying h1, Result.andThen_ok]
  cases hkk : (T t).k <;> rw [hkk] at h2 hk <;> simp only [KOK] at h2
  case none => cases hk
  all_goals first
    | (subst h2; rfl)
    | (obtain ⟨_, rfl⟩ := h2; rfl)
    | (obtain ⟨_, _, _, rfl⟩ := h2; rfl)
    | (obtain ⟨_, rfl, -⟩ := h2; rfl)

theorem run_sizeOf {t : TypeId} (h : TyOK P t (T t)) (hk : (T t).k.known = true) (w : World) : (sizeOf t).run P w = .ok (T t).size w := by
  obtain ⟨i, d, h1, h2, -⟩ := h.info hk
  simp [sizeOf, typeInfo, h1, h2]

theorem run_zero {t : TypeId} (h : TyOK P t (T t)) (hk : (T t).k.known = true) (w : World) : (zeroValue t).run P w = .ok (T t).zero.cv w := by
  obtain ⟨i, d, h1, -, -, h2, -⟩ := h.info hk
  simp [zeroValue, typeInfo, h1, h2]

/-- what a place holds is loaded -/
theorem run_loadVar {t : TypeId} (h : TyOK P t (T t)) (hk : (T t).k.known = true) {b o : Nat} {vs : List Value} (hl : vs.length = (T t).size) (h1 : (T t).k.isAgg = false → (T t).size = 1)
    (hc : ∀ (j : Nat) (u : Value), vs[j]? = some u → w.cell? ⟨b, o + j, none⟩ = some u) : (loadVar t ⟨b, o, none⟩).run P w = .ok (if (T t).k.isAgg then .agg vs.toArray else vs.headD undef) w := by
  unfold loadVar
  simp only [Sem.run_bind, run_isAgg h hk, Result.andThen_ok]
  cases ha : (T t).k.isAgg with
  | true =>
    have := run_loadCells_list (P := P) w ⟨b, o, none⟩ vs (fun j u hu => by
      have := hc j u hu
      have e : (⟨b, o, none⟩ : Addr).add j = ⟨b, o + j, none⟩ := by unfold Addr.add; split <;> simp_all
      rw [e]; exact this)
    rw [hl] at this
    simp [run_sizeOf h hk, this]
  | false =>
    have h2 := h1 ha
    rw [h2] at hl
    obtain ⟨u, rfl⟩ := List.length_eq_one_iff.1 hl
    have := hc 0 u rfl
    rw [Nat.add_zero] at this
    simp [run_load, this]

theorem size_one {t : TypeId} (h : TyOK P t (T t)) (hk : (T t).k.known = true) (ha : (T t).k.isAgg = false) : (T t).size = 1 := by
  obtain ⟨i, d, -, -, -, -, -, -, h2, -⟩ := h.info hk
  exact h2.resolve_left (by rw [ha]; simp)

theorem zero_rp {t : TypeId} (h : TyOK P t (T t)) (hk : (T t).k.known = true) (ρ : Rho) (w : World) : Rp ρ w (T t).zero (T t).zero.cv := by
  obtain ⟨i, d, -, -, -, -, h1, -⟩ := h.info hk
  exact Rp_cv ρ w _ h1

/-- cells are laid -/
theorem lay_cells (hR : Rel G ρ w H) {n : Nat} (hn : H n = .free) {ds : List D} {vs : List Value} (t : TypeId) (h : RpL ρ w ds vs) :
    Rel G (ρ.lay w n) (w.alloc (.cells vs.toArray t)) (setH H n (.cells t ds)) ∧ Ex ρ w H (ρ.lay w n) (w.alloc (.cells vs.toArray t)) (setH H n (.cells t ds)) ∧
      Rp (ρ.lay w n) (w.alloc (.cells vs.toArray t)) (.box n 0) (.pointer (some ⟨w.heap.size, 0, none⟩)) := by
  obtain ⟨h1, h2⟩ := Ex.lay hR hn (o := .cells vs.toArray t) (x := .cells t ds) rfl (fun ρ' g hc => ⟨hc, vs, by simp [← World.alloc_eq], RpL.grow g ds vs h⟩)
  exact ⟨h1, h2, by rw [Rp]; exact ⟨_, 0, by simp [Rho.lay], rfl⟩⟩

theorem snd_alloc (hT : ∀ t, TyOK P t (T t)) (hR : Rel G ρ w H) {t : TypeId} (ho : o.op = .alloc t) {n : Nat} (hn : H n = .free) (hk : (T t).k.known = true) (ha : (T t).zero.cells.all D.one = true) :
    StepV P G v o ρ w H (.box n 0) [(n, .cells t (T t).zero.cells)] := by
  obtain ⟨hc, -⟩ := Rp.cells ha (zero_rp (hT t) hk ρ w)
  obtain ⟨h1, h2, h3⟩ := lay_cells hR hn t hc
  refine ⟨_, _, _, _, ?_, .inl rfl, h3, h1, h2⟩
  simp [execOp, ho, Instr.alloc, run_zero (hT t) hk, newVar, newRow]

theorem snd_box (hR : Rel G ρ w H) {t : TypeId} {x : Operand} (ho : o.op = .box t x) (hx : Rp ρ w (e x) (v x)) {n : Nat} (hn : H n = .free) (ha : (e x).cells.all D.one = true) :
    StepV P G v o ρ w H (.box n 0) [(n, .cells t (e x).cells)] := by
  obtain ⟨hc, -⟩ := Rp.cells ha hx
  obtain ⟨h1, h2, h3⟩ := lay_cells hR hn t hc
  refine ⟨_, _, _, _, ?_, .inl rfl, h3, h1, h2⟩
  simp [execOp, ho, Instr.box, newVar, newRow]

theorem snd_move (hR : Rel G ρ w H) {x : Operand} (ho : o.op = .move x ∨ o.op = .assign x) (hx : Rp ρ w (e x) (v x)) : StepV P G v o ρ w H (e x) [] := by
  refine StepV.same hR (u := v x) ?_ hx
  rcases ho with ho | ho <;> simp [execOp, ho]

theorem snd_pick (hR : Rel G ρ w H) {c a b : Operand} (ho : o.op = .pick c a b) {cb : Bool} (hc : e c = .bool cb) (hcv : Rp ρ w (e c) (v c)) (ha : Rp ρ w (e a) (v a)) (hb : Rp ρ w (e b) (v b)) :
    StepV P G v o ρ w H (if cb then e a else e b) [] := by
  rw [hc, Rp] at hcv
  refine StepV.same hR (u := if cb then v a else v b) ?_ ?_
  · simp [execOp, ho, hcv, asBool]
  · cases cb <;> simp <;> assumption

/-- an object's cells in memory -/
theorem obj_cells (hR : Rel G ρ w H) {i : Nat} {ty : TypeId} {ds : List D} (hi : H i = .cells ty ds) {off : Nat} {p : Value} (hp : Rp ρ w (.box i off) p) :
    ∃ (b f : Nat) (vs : List Value), p = .pointer (some ⟨b, off, none⟩) ∧ ρ.nm i = some (b, f) ∧ ρ.c b = some 0 ∧ w.heap[b]? = some (.cells vs.toArray ty (0, 0)) ∧ RpL ρ w ds vs := by
  rw [Rp] at hp
  obtain ⟨b, f, h1, rfl⟩ := hp
  have h2 := hR.obj i b f h1
  rw [hi] at h2
  obtain ⟨h3, vs, h4, h5⟩ := h2
  exact ⟨b, f, vs, rfl, h1, h3, h4, h5⟩

theorem partD_one {cs : List D} {o : Nat} {d : D} (h : (match cs[o]? with | some d => if d.one then some d else none | none => none) = some d) : cs[o]? = some d ∧ d.one = true := by
  cases hc : cs[o]? with
  | none => rw [hc] at h; cases h
  | some x =>
    rw [hc] at h
    dsimp only at h
    split at h
    · rename_i h1; cases h; exact ⟨rfl, h1⟩
    · cases h

theorem partD_load {y : Ty} {ds : List D} {off : Nat} {d : D} (h : partD y ds off = some d) {vs : List Value} (hv : RpL ρ w ds vs) (h1 : y.k.isAgg = false → y.size = 1) :
    ∃ us : List Value, us.length = y.size ∧ (∀ (j : Nat) (u : Value), us[j]? = some u → vs[off + j]? = some u) ∧ Rp ρ w d (if y.k.isAgg then .agg us.toArray else us.headD undef) := by
  unfold partD at h
  cases ha : y.k.isAgg with
  | true =>
    rw [ha] at h
    simp only [if_true] at h
    split at h
    · rename_i hle
      cases h
      have hlen := hv.length
      refine ⟨(vs.drop off).take y.size, by simp; omega, fun j u hu => ?_, ?_⟩
      · have hj : j < y.size := by have := (List.getElem?_eq_some_iff.1 hu).1; simp at this; omega
        rwa [List.getElem?_take_of_lt hj, List.getElem?_drop] at hu
      · simp only [if_true]
        rw [Rp]; exact ⟨_, rfl, (hv.drop off).take y.size⟩
    · cases h
  | false =>
    rw [ha] at h
    simp only [Bool.false_eq_true, if_false] at h
    obtain ⟨h, -⟩ := partD_one h
    obtain ⟨u, h2, h3⟩ := hv.get h
    refine ⟨[u], by rw [h1 ha]; rfl, fun j x hx => ?_, by simpa using h3⟩
    cases j with
    | zero => simp at hx; subst hx; simpa using h2
    | succ j => simp at hx

theorem snd_load_box (hT : ∀ t, TyOK P t (T t)) (hR : Rel G ρ w H) {t : TypeId} {x : Operand} (ho : o.op = .load t x) (hx : Rp ρ w (e x) (v x)) {i off : Nat} {ty : TypeId} {ds : List D} {d : D} (hex : e x = .box i off) (hi : H i = .cells ty ds)
    (hk : (T t).k.known = true) (hp : partD (T t) ds off = some d) : StepV P G v o ρ w H d [] := by
  rw [hex] at hx
  obtain ⟨b, f, vs, hv, -, -, hh, hr⟩ := obj_cells hR hi hx
  obtain ⟨us, h1, h2, h3⟩ := partD_load hp hr (size_one (hT t) hk)
  refine StepV.same hR ?_ h3
  have := run_loadVar (P := P) (hT t) hk (b := b) (o := off) h1 (size_one (hT t) hk) (w := w) (fun j u hu => by
    have := h2 j u hu
    simp [World.cell?, hh, this])
  simp [execOp, ho, hv, Instr.loadAt, Instr.sureAddr, this]

theorem snd_load_ref (hT : ∀ t, TyOK P t (T t)) (hR : Rel G ρ w H) {t : TypeId} {x : Operand} (ho : o.op = .load t x) (hx : Rp ρ w (e x) (v x)) {d : D} (hex : e x = .ref d)
    (hk : (T t).k.known = true) (hd : ((T t).k.isAgg = true ∧ ∃ cs, d = .agg cs ∧ cs.length = (T t).size) ∨ ((T t).k.isAgg = false ∧ d.one = true)) : StepV P G v o ρ w H d [] := by
  rw [hex] at hx
  obtain ⟨b, off, hv, hat⟩ := Rp_ref.1 hx
  rcases hd with ⟨ha, cs, rfl, hl⟩ | ⟨ha, h1⟩
  · obtain ⟨vs, hr, hc⟩ := RpC.vals (show RpC ρ w cs b off from hat)
    have := run_loadVar (P := P) (hT t) hk (by rw [hr.length]; exact hl) (size_one (hT t) hk) (w := w) (fun j u hu => (hc j u hu).1)
    refine StepV.same hR (u := .agg vs.toArray) ?_ (by rw [Rp]; exact ⟨vs, rfl, hr⟩)
    simp [execOp, ho, hv, Instr.loadAt, Instr.sureAddr, this, ha]
  · have hat2 : ∃ u, cellAt ρ w b off u ∧ Rp ρ w d u := by
      cases d <;> first | exact hat | cases h1
    obtain ⟨u, h2, h3⟩ := hat2
    have := run_loadVar (P := P) (hT t) hk (vs := [u]) (by rw [size_one (hT t) hk ha]; rfl) (size_one (hT t) hk) (w := w) (b := b) (o := off) (fun j z hz => by
      cases j with
      | zero => simp at hz; subst hz; exact h2.2.1
      | succ j => simp at hz)
    refine StepV.same hR (u := u) ?_ h3
    simp [execOp, ho, hv, Instr.loadAt, Instr.sureAddr, this, ha]

theorem snd_store (hT : ∀ t, TyOK P t (T t)) (hR : Rel G ρ w H) {t : TypeId} {x y : Operand} (ho : o.op = .store t x y) (hx : Rp ρ w (e x) (v x)) (hy : Rp ρ w (e y) (v y)) {i off : Nat} {ty : TypeId} {ds : List D}
    (hex : e x = .box i off) (hi : H i = .cells ty ds) (hk : (T t).k.known = true) (hl : (e y).cells.length = (T t).size) (hle : off + (T t).size ≤ ds.length) (ha : (e y).cells.all D.one = true) :
    StepV P G v o ρ w H .junk [(i, .cells ty (ds.take off ++ (e y).cells ++ ds.drop (off + (T t).size)))] := by
  rw [hex] at hx
  obtain ⟨b, f, vs, hv, hnm, hc0, hh, hr⟩ := obj_cells hR hi hx
  obtain ⟨hc, h1⟩ := Rp.cells ha hy
  have hlen := hr.length
  have hlc := hc.length
  have hsz : (v y).cells.size = (T t).size := by rw [← Array.length_toList, hlc, hl]
  have hrun := run_storeCells_at P b off ty (v y).cells.toList 0 vs.toArray w hh (by simp; omega) h1
  obtain ⟨r1, r2⟩ := Ex.write hR hnm (by rw [hi]; rfl) (w' := w.setRow b (vs.toArray.toList.take (off + 0) ++ (v y).cells.toList ++ vs.toArray.toList.drop (off + 0 + (v y).cells.toList.length)).toArray) rfl rfl rfl
    (by simp [World.setRow]) (fun k hk => by simp [World.setRow, Array.getElem?_modify, Ne.symm hk]) hc0
    (fun vs' ty' fz hq => by
      rw [hh] at hq; cases hq
      exact ⟨_, setRow_heap w b _ _ _ _ hh, by simp; omega⟩)
    (x := .cells ty (ds.take off ++ (e y).cells ++ ds.drop (off + (T t).size))) rfl
    (fun g => ⟨hc0, _, setRow_heap w b _ _ _ _ hh, by
      have := (((RpL.grow g _ _ hr).take off).append (RpL.grow g _ _ hc)).append ((RpL.grow g _ _ hr).drop (off + (T t).size))
      simpa [hsz] using this⟩)
  refine ⟨.skip, undef, ρ, _, ?_, .inr ⟨rfl, rfl⟩, by rw [Rp]; trivial, r1, r2⟩
  have hrun2 : (storeCells ⟨b, off, none⟩ (v y).cells.toList).run P w = _ := hrun
  simp [execOp, ho, hv, Instr.storeAt, Instr.sureAddr, storeVar, run_sizeOf (hT t) hk, hsz, hrun2]
end
end Go.Proofs.Ytbjgdeednmhpfaa
