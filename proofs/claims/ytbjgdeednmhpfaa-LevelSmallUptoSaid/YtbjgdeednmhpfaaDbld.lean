/-
  Structs, rows, maps are built, on data.
-/
import Derived.Test.YtbjgdeednmhpfaaDapp
set_option linter.unusedSimpArgs false
set_option linter.unusedVariables false
namespace Go.Proofs.Ytbjgdeednmhpfaa
open Go.RowKit

theorem fold_set : ∀ (vs : List Value) (k off : Nat) (cells : Array Value), off + k + vs.length ≤ cells.size →
    ((vs.zipIdx k).foldl (fun cs (p : Value × Nat) => cs.setIfInBounds (off + p.2) p.1) cells).toList = cells.toList.take (off + k) ++ vs ++ cells.toList.drop (off + k + vs.length)
  | [], k, off, cells, h => by simp
  | v :: r, k, off, cells, h => by
    rw [List.zipIdx_cons, List.foldl_cons]
    have ih := fold_set r (k + 1) off (cells.setIfInBounds (off + k) v) (by simp at h ⊢; omega)
    rw [ih]
    have := list_seg_step cells.toList (off + k) v r (by simp at h ⊢; omega)
    simpa [Array.toList_setIfInBounds, Nat.add_assoc] using this

theorem fill_one (place : Nat → Option (Nat × Nat)) (cells : Array Value) (i : Nat) (v : Value) (r : List (Nat × Value)) {off size : Nat} (hp : place i = some (off, size)) (hs : v.cells.size = size) (hle : off + size ≤ cells.size) :
    Instr.fill place cells ((i, v) :: r) = Instr.fill place (cells.toList.take off ++ v.cells.toList ++ cells.toList.drop (off + size)).toArray r := by
  have hf := fold_set v.cells.toList 0 off cells (by simp; omega)
  have he : v.cells.zipIdx.foldl (fun cs (p : Value × Nat) => cs.setIfInBounds (off + p.2) p.1) cells = (cells.toList.take off ++ v.cells.toList ++ cells.toList.drop (off + size)).toArray := by
    apply Array.ext'
    rw [← Array.foldl_toList, Array.toList_zipIdx]
    simp only [Nat.add_zero] at hf
    rw [hf, Array.length_toList, hs]
  have hg : ¬ (v.cells.size ≠ size || decide (off + v.cells.size > cells.size)) = true := by simp; omega
  rw [Instr.fill, hp]
  dsimp only
  rw [if_neg (by simpa using hg)]
  exact congrArg (fun c => Instr.fill place c r) he

section
variable {P : Program} {G : Nat → Option D} {ρ : Rho} {w : World} {H : Nat → HO} {T : TypeId → Ty} {v : Operand → Value} {e : Operand → D} {o : Oper}

theorem fillD_rel {places : List (Nat × Nat)} {place : Nat → Option (Nat × Nat)} (hpl : ∀ i x, places[i]? = some x → place i = some x) : ∀ {ps : List (Nat × D)} {qs : List (Nat × Value)} {cells cs : List D} {us : List Value}, fillD places cells ps = some cs → RpL ρ w cells us →
    (ps.map (·.1) = qs.map (·.1)) → RpL ρ w (ps.map (·.2)) (qs.map (·.2)) → ∃ us' : List Value, Instr.fill place us.toArray qs = some us'.toArray ∧ RpL ρ w cs us'
  | [], qs, cells, cs, us, h, hr, hk, hv => by
    rw [fillD] at h; cases h
    have : qs = [] := by cases qs with | nil => rfl | cons a b => simp at hk
    subst this
    exact ⟨us, by rw [Instr.fill], hr⟩
  | (i, d) :: r, qs, cells, cs, us, h, hr, hk, hv => by
    cases qs with
    | nil => simp at hk
    | cons q qs =>
      obtain ⟨j, x⟩ := q
      simp only [List.map_cons, List.cons.injEq] at hk
      obtain ⟨rfl, hk⟩ := hk
      simp only [List.map_cons] at hv
      obtain ⟨h1, h2⟩ := RpL_cons'.1 hv
      rw [fillD] at h
      cases hp : places[i]? with
      | none => rw [hp] at h; cases h
      | some os =>
        obtain ⟨off, size⟩ := os
        rw [hp] at h
        dsimp only at h
        split at h
        · rename_i hcond
          obtain ⟨g1, g2, g3⟩ := hcond
          obtain ⟨c1, c2⟩ := Rp.cells g3 h1
          have hsz : x.cells.size = size := by rw [← Array.length_toList, c1.length, g1]
          have hul := hr.length
          rw [fill_one place us.toArray i x qs (hpl i _ hp) hsz (by simp; omega)]
          refine fillD_rel hpl h ?_ hk h2
          exact ((hr.take off).append c1).append (hr.drop (off + size))
        · cases h

theorem run_fields (hT : ∀ t, TyOK P t (T t)) : ∀ {fields : List Field}, (∀ f, f ∈ fields → (T f.type).k.known = true) → fields.mapM (fun f => (P.info? f.type).map fun i => (f.offset, i.size)) = some (fields.map fun f => (f.offset, (T f.type).size))
  | [], _ => rfl
  | f :: r, h => by
    obtain ⟨i, d, h1, h2, -⟩ := (hT f.type).info (h f (List.mem_cons_self ..))
    rw [List.mapM_cons, run_fields hT fun g hg => h g (List.mem_cons_of_mem _ hg)]
    simp [h1, h2]

theorem snd_build (hT : ∀ t, TyOK P t (T t)) (hR : Rel G ρ w H) {t : TypeId} {ps : Array (Nat × Operand)} (ho : o.op = .build t ps) (hp : ∀ p, p ∈ ps.toList → Rp ρ w (e p.2) (v p.2)) {fs : List (Nat × TypeId)} (hk : (T t).k = .struct fs) {cs : List D}
    (h : fillD (fs.map fun f => (f.1, (T f.2).size)) (T t).zero.cells (ps.toList.map fun p => (p.1, e p.2)) = some cs) (hfs : ∀ f, f ∈ fs → (T f.2).k.known = true) (hza : (T t).zero.cells.all D.one = true) : StepV P G v o ρ w H (.agg cs) [] := by
  obtain ⟨it, d, h1, -, -, h2, -, -, -, h3, h4⟩ := (hT t).info (by rw [hk]; rfl)
  rw [hk] at h4
  obtain ⟨fields, rfl, h5⟩ := h4
  obtain ⟨hz, -⟩ := Rp.cells hza (zero_rp (hT t) (by rw [hk]; rfl) ρ w)
  have hmp := run_fields hT (fields := fields.toList) (fun f hf => by
    refine hfs (f.offset, f.type) ?_
    rw [← h5]; exact List.mem_map.2 ⟨f, hf, rfl⟩)
  have hpls : (fields.toList.map fun f => (f.offset, (T f.type).size)) = fs.map fun f => (f.1, (T f.2).size) := by rw [← h5, List.map_map]; rfl
  rw [hpls] at hmp
  obtain ⟨us', g1, g2⟩ := fillD_rel (ρ := ρ) (w := w) (place := fun i => (fs.map fun f => (f.1, (T f.2).size)).toArray[i]?) (fun i x hx => by simpa using hx) (qs := ps.toList.map fun p => (p.1, v p.2)) h hz (by simp) (by
    rw [List.map_map, List.map_map]
    have := RpL_map (ρ := ρ) (w := w) (e := e) (v := v) (l := ps.toList.map (·.2)) (fun x hx => by
      obtain ⟨p, hp1, rfl⟩ := List.mem_map.1 hx
      exact hp p hp1)
    rw [List.map_map, List.map_map] at this
    exact this)
  have hrun := run_build (P := P) w t (ps.map fun p => (p.1, v p.2)) us'.toArray (by
    unfold Program.built
    rw [h1, h3]
    dsimp only
    rw [h2, hmp]
    dsimp only
    rw [Array.toList_map]
    have e1 : (T t).zero.cv.cells.toList.toArray = (T t).zero.cv.cells := by simp
    rw [e1] at g1
    exact g1)
  refine StepV.same hR (u := .agg us'.toArray) ?_ (by rw [Rp]; exact ⟨us', rfl, g2⟩)
  simp only [execOp, ho]
  have e2 : (ps.map fun (i, x) => (i, v x)) = ps.map fun p => (p.1, v p.2) := rfl
  rw [e2]
  simp [hrun]

/-- whole rows -/
theorem fill_rows {place : Nat → Option (Nat × Nat)} {sz : Nat} (hpl : ∀ i, place i = some (i * sz, sz)) : ∀ (vs : List Value) (done : List Value) (k : Nat) (rest : List Value), done.length = k * sz → (∀ x, x ∈ vs → x.cells.size = sz) → rest.length = vs.length * sz →
    Instr.fill place (done ++ rest).toArray ((List.range' k vs.length).zip vs) = some (done ++ vs.flatMap fun x => x.cells.toList).toArray
  | [], done, k, rest, h1, h2, h3 => by
    have : rest = [] := List.eq_nil_of_length_eq_zero (by simpa using h3)
    subst this
    simp [Instr.fill]
  | x :: r, done, k, rest, h1, h2, h3 => by
    have hx := h2 x (List.mem_cons_self ..)
    rw [List.length_cons, List.range'_succ, List.zip_cons_cons]
    rw [List.length_cons, Nat.succ_mul] at h3
    rw [fill_one place _ k x _ (hpl k) hx (by simp [h1]; omega)]
    have e1 : ((done ++ rest).toArray.toList.take (k * sz) ++ x.cells.toList ++ (done ++ rest).toArray.toList.drop (k * sz + sz)).toArray = ((done ++ x.cells.toList) ++ rest.drop sz).toArray := by
      congr 1
      rw [List.toList_toArray, ← h1, List.take_left, List.drop_append, List.drop_eq_nil_of_le (by omega)]
      simp
    rw [e1, fill_rows hpl r (done ++ x.cells.toList) (k + 1) (rest.drop sz) (by simp [h1, hx, Nat.succ_mul]) (fun y hy => h2 y (List.mem_cons_of_mem _ hy)) (by simp; omega)]
    simp

theorem snd_slice_lit (hT : ∀ t, TyOK P t (T t)) (hR : Rel G ρ w H) {t el : TypeId} {n : Nat} {ps : Array (Nat × Operand)} (ho : o.op = .buildSlice t n ps) (hp : ∀ p, p ∈ ps.toList → Rp ρ w (e p.2) (v p.2)) (hk : (T t).k = .slice el) (hel : (T el).k.known = true)
    (hr : ps.toList.map (·.1) = List.range n) (hall : ∀ p, p ∈ ps.toList → (e p.2).cells.all D.one = true ∧ (e p.2).cells.length = (T el).size ∧ (e p.2).size = (T el).size) (hmax : n * (T el).size ≤ 2 ^ 24) (hz : (T el).size ≠ 0) :
    StepV P G v o ρ w H (.slice (ps.toList.map fun p => e p.2) .full) [] := by
  obtain ⟨it, d, -, -, -, -, -, -, -, h3, h4⟩ := (hT t).info (by rw [hk]; rfl)
  rw [hk] at h4; simp only [KOK] at h4; subst h4
  obtain ⟨ie, d2, hi1, hi2, -, hi3, hi4, hi5, -⟩ := (hT el).info hel
  have hn : ps.toList.length = n := by have := congrArg List.length hr; simpa using this
  have hcz : (T el).zero.cv.cells.size = (T el).size := by
    rcases cv_size (T el).zero with h | h
    · rw [h, hi5]
    · rw [hi4] at h; cases h
  have hcs : ∀ x, x ∈ ps.toList.map (fun p => v p.2) → x.cells.size = (T el).size := fun x hx => by
    obtain ⟨p, hp1, rfl⟩ := List.mem_map.1 hx
    obtain ⟨g1, g2, -⟩ := hall p hp1
    obtain ⟨c1, -⟩ := Rp.cells g1 (hp p hp1)
    rw [← Array.length_toList, c1.length, g2]
  have hlist : ps.toList.map (fun p => (p.1, v p.2)) = (List.range' 0 (ps.toList.map (fun p => v p.2)).length).zip (ps.toList.map (fun p => v p.2)) := by
    rw [List.length_map, hn, ← List.range_eq_range', ← hr, List.zip_map']
  have hfill := fill_rows (place := fun i => some (i * (T el).size, (T el).size)) (fun _ => rfl) (ps.toList.map fun p => v p.2) [] 0 ((Array.range (n * (T el).size)).map ((T el).zero.cv.cells[· % (T el).zero.cv.cells.size]!)).toList (by simp) hcs (by simp [← hn])
  rw [List.nil_append, List.nil_append, ← hlist] at hfill
  generalize hcells : (ps.toList.map fun p => v p.2).flatMap (fun x => x.cells.toList) = cells at hfill
  obtain ⟨r1, r2⟩ := Ex.laid hR (.cells cells.toArray el)
  have hrun : (Instr.buildSlice t n (ps.map fun p => (p.1, v p.2))).run P w = .ok (.slice (some ⟨w.heap.size, 0, none⟩) n n) (w.alloc (.cells cells.toArray el)) := by
    have hz2 : (zeroValue el).run P w = .ok (T el).zero.cv w := run_zero (hT el) hel w
    have hmax' : ¬ (16777216 < n * (T el).size) := by omega
    have hf2 : Instr.fill (fun i => some (i * (T el).size, (T el).size)) ((Array.range (n * (T el).size)).map ((T el).zero.cv.cells[· % (T el).zero.cv.cells.size]!)) (ps.map fun p => (p.1, v p.2)).toList = some cells.toArray := by
      rw [Array.toList_map]; rw [Array.toArray_toList] at hfill; exact hfill
    by_cases hn0 : n * (T el).size = 0
    · have hn00 : n = 0 := (Nat.mul_eq_zero.1 hn0).resolve_right hz
      subst hn00
      have hps : ps = #[] := by
        have : ps.toList = [] := List.eq_nil_of_length_eq_zero hn
        exact Array.toList_eq_nil_iff.1 this
      subst hps
      have : cells = [] := by rw [← hcells]; rfl
      subst this
      simp [Instr.buildSlice, run_underlying h3, run_sizeOf (hT el) hel, Instr.fill, newRow, Array.range_zero']
    · simp only [Instr.buildSlice, Sem.run_bind, run_underlying h3, Result.andThen_ok, run_sizeOf (hT el) hel]
      simp only [show ¬ (n * (T el).size > 2 ^ 24) by omega, if_false, hn0, Sem.run_bind, hz2, Result.andThen_ok, Sem.run_pure, pure_bind]
      rw [hf2]
      simp [newRow]
  refine ⟨.value (.slice (some ⟨w.heap.size, 0, none⟩) n n), .slice (some ⟨w.heap.size, 0, none⟩) n n, ρ, w.alloc (.cells cells.toArray el), ?_, .inl rfl, ?_, r1, r2⟩
  · simp only [execOp, ho]
    have e2 : (ps.map fun (i, x) => (i, v x)) = ps.map fun p => (p.1, v p.2) := rfl
    rw [e2]
    simp only [Sem.run_bind, hrun, Result.andThen_ok, Sem.run_pure]
  · have hlm : n ≤ LMax := by
      have : n * 1 ≤ n * (T el).size := Nat.mul_le_mul_left _ (by omega)
      unfold LMax; omega
    rw [Rp]
    refine ⟨some ⟨w.heap.size, 0, none⟩, n, (T el).size, by rw [List.length_map, hn], by rw [List.length_map, hn]; omega, by simp only [maxLen]; unfold LMax at hlm; omega, by rw [List.length_map, hn]; exact hlm, fun x hx => ?_, by show n = _; rw [List.length_map, hn], fun _ => ⟨w.heap.size, 0, rfl, ?_⟩⟩
    · obtain ⟨p, hp1, rfl⟩ := List.mem_map.1 hx
      exact (hall p hp1).2.2
    · have hw : ∀ (j : Nat) (u : Value), cells[j]? = some u → (w.alloc (.cells cells.toArray el)).cell? ⟨w.heap.size, j, none⟩ = some u := fun j u hj => by rw [World.cell?_alloc_new]; simpa using hj
      have hone : ∀ u, u ∈ cells → u.oneCell' = true := fun u hu => by
        rw [← hcells] at hu
        obtain ⟨x, hx, hxu⟩ := List.mem_flatMap.1 hu
        obtain ⟨p, hp1, rfl⟩ := List.mem_map.1 hx
        exact (Rp.cells (hall p hp1).1 (hp p hp1)).2 u hxu
      have hst : ∀ o, Stab ρ w.heap.size o := fun o k hk => by rw [hR.fresh _ (Nat.le_refl _)] at hk; cases hk
      have key : ∀ (l : List (Nat × Operand)) (o : Nat), (∀ p, p ∈ l → p ∈ ps.toList) → (∀ (j : Nat) (u : Value), ((l.map fun p => v p.2).flatMap fun x => x.cells.toList)[j]? = some u → cells[o + j]? = some u) → RpE ρ (w.alloc (.cells cells.toArray el)) (l.map fun p => e p.2) w.heap.size o := by
        intro l
        induction l with
        | nil => intro o _ _; exact RpE_nil
        | cons p r ih =>
          intro o hm hc
          have hpm := hm p (List.mem_cons_self ..)
          obtain ⟨a1, a2, a3⟩ := hall p hpm
          obtain ⟨c1, -⟩ := Rp.cells a1 (hp p hpm)
          have hvl : (v p.2).cells.toList.length = (T el).size := by rw [c1.length, a2]
          rw [List.map_cons]
          refine RpE_cons.2 ⟨?_, ?_⟩
          · have hcell : ∀ (j : Nat) (u : Value), (v p.2).cells.toList[j]? = some u → cellAt ρ (w.alloc (.cells cells.toArray el)) w.heap.size (o + j) u := fun j u hj => by
              have := hc j u (by rw [List.map_cons, List.flatMap_cons, List.getElem?_append_left (List.getElem?_eq_some_iff.1 hj).1]; exact hj)
              exact ⟨hst _, hw _ _ this, hone u (List.mem_of_getElem? this)⟩
            have hgr := RpL.grow r2.grow _ _ c1
            generalize e p.2 = d at c1 hgr a1 a2 a3
            cases d
            case agg cs =>
              show RpC _ _ cs _ _
              exact RpC.of fun i x hi => by
                obtain ⟨u, e1, e2⟩ := hgr.get (show (D.agg cs).cells[i]? = some x from hi)
                exact ⟨u, hcell i u e1, e2⟩
            all_goals
              obtain ⟨u, e1, e2⟩ := hgr.get (i := 0) rfl
              exact ⟨u, hcell 0 u e1, e2⟩
          · refine ih _ (fun q hq => hm q (List.mem_cons_of_mem _ hq)) fun j u hj => ?_
            have := hc ((v p.2).cells.toList.length + j) u (by rw [List.map_cons, List.flatMap_cons, List.getElem?_append_right (by omega)]; simpa using hj)
            rw [hvl] at this
            rw [a3]
            rwa [show o + (T el).size + j = o + ((T el).size + j) by omega]
      exact key ps.toList 0 (fun p h => h) (fun j u hj => by rw [hcells] at hj; simpa using hj)
end
end Go.Proofs.Ytbjgdeednmhpfaa
