/-
  MC2: the texts Dex Dev Dwp Dcode Dspec Ddraw Dfrz Ddrop Dren Dobj Ddef Dle Drng, one behind the other.
-/
import Derived.Lib.MinMax
import Derived.Defers
import Derived.Recover
import Derived.Test.YtgloldepdhgfaaaDoorMC1
namespace Go.Proofs.YtgloldepdhgfaaaDoor
set_option linter.unusedSimpArgs false
set_option linter.unusedVariables false
open Go.RowKit Go.MapKept
section
variable {P : Program} {G : Nat → Option D} {ρ : Rho} {w : World} {H : Nat → HO} {T : TypeId → Ty} {e : Operand → D} {v : Operand → Value} {o : Oper}
theorem snd_cap (hT : ∀ t, TyOK P t (T t)) (hR : Rel G ρ w H) {c : Call} {x : Operand} {t el : TypeId} (ho : o.op = .call c) (hc : c.callee = .builtin .cap) (ha : c.args = #[x]) (ht : c.argTypes = #[t]) (hx : Rp ρ w (e x) (v x))
    {els : List D} (h : e x = .slice els .full) (hk : (T t).k = .slice el) : StepV P G v o ρ w H (.int .i64 els.length) [] := by
  rw [h, Rp] at hx
  obtain ⟨A, cap, sz, hv, -, -, hl, -, hcap, -⟩ := hx
  have hcap : cap = els.length := hcap
  subst hcap
  obtain ⟨i, d, -, -, -, -, -, -, -, h1, h2⟩ := (hT t).info (by rw [hk]; rfl)
  rw [hk] at h2
  simp only [KOK] at h2
  subst h2
  refine StepV.same hR (u := .int .i64 els.length) ?_ (by rw [Rp]; unfold LMax at hl; exact ⟨rfl, by have : IntKind.i64.min = -9223372036854775808 := (by decide); omega, by have : IntKind.i64.max = 9223372036854775807 := (by decide); omega⟩)
  simp [execOp, ho, hc, ha, ht, hv, resolve, invoke, builtin, Builtin.cap_, run_underlying h1, goInt]
theorem flat_take {sz : Nat} : ∀ {els : List D} {k : Nat}, (∀ e, e ∈ els → e.size = sz) → (els.take k).flatMap D.cells = (els.flatMap D.cells).take (k * sz)
  | [], k, _ => by simp
  | x :: r, 0, _ => by simp
  | x :: r, k + 1, h => by
    have hl : x.cells.length = sz := by rw [cells_len]; exact h x (List.mem_cons_self ..)
    rw [List.take_succ_cons, List.flatMap_cons, List.flatMap_cons, flat_take (fun y hy => h y (List.mem_cons_of_mem _ hy)), show (k + 1) * sz = x.cells.length + k * sz by rw [Nat.succ_mul, hl]; omega, List.take_length_add_append]
theorem ObjAt.less {b f sz : Nat} {els : List D} (h : ObjAt ρ w b f (.row sz els)) (q : Nat) : ObjAt ρ w b f (.row sz (els.take q)) := by
  obtain ⟨h0, a1, a2, a3, a4, a5, ty, vs, us, h1, h2, h3, h4⟩ := h
  refine ⟨h0, a1, fun x hx => a2 x (List.mem_of_mem_take hx), by rw [List.length_take]; omega, a4, by rw [List.length_take]; omega, ty, us.drop (q * sz) ++ vs, us.take (q * sz), ?_, ?_, ?_, fun u hu => h4 u (List.mem_of_mem_take hu)⟩
  · rw [h1, ← List.append_assoc, List.take_append_drop]
  · rw [flat_take a2]; exact h2.take _
  · rw [List.length_append, List.length_take, List.length_drop]; omega
theorem Ex.less (hR : Rel G ρ w H) {i sz : Nat} {els : List D} (hi : H i = .row sz els) (q : Nat) : Rel G ρ w (setH H i (.row sz (els.take q))) ∧ Ex ρ w H ρ w (setH H i (.row sz (els.take q))) := by
  have hlv : ∀ j, (setH H i (.row sz (els.take q)) j).live = (H j).live := fun j => by
    by_cases h : j = i
    · subst h; rw [setH_same, hi]; rfl
    · rw [setH_ne _ _ h]
  refine ⟨⟨fun j hj => ?_, hR.fresh, fun j b f h1 => ?_, fun j k b f g h1 h2 h3 h4 => hR.inj j k b f g h1 h2 (by rw [← hlv]; exact h3) (by rw [← hlv]; exact h4), hR.glob⟩, Grow.refl _ _, fun _ _ _ => ⟨rfl, rfl⟩, fun b ⟨j, f, h1, h2⟩ _ => ⟨j, f, h1, by rw [← hlv]; exact h2⟩⟩
  · by_cases h : j = i
    · subst h; rw [setH_same] at hj; cases hj
    · rw [setH_ne _ _ h] at hj; exact hR.free j hj
  · by_cases h : j = i
    · subst h
      rw [setH_same]
      have := hR.obj j b f h1
      rw [hi] at this
      exact this.less q
    · rw [setH_ne _ _ h]; exact hR.obj j b f h1
theorem snd_slice_own (hT : ∀ t, TyOK P t (T t)) (hR : Rel G ρ w H) {t el : TypeId} {x : Operand} {lo hi mx : Option Operand} (ho : o.op = .slice t x lo hi mx) (hx : Rp ρ w (e x) (v x)) (hlo : ∀ y, lo = some y → Rp ρ w (e y) (v y)) (hhi : ∀ y, hi = some y → Rp ρ w (e y) (v y)) (hmx : ∀ y, mx = some y → Rp ρ w (e y) (v y))
    (hk : (T t).k = .slice el) (hel : (T el).k.known = true) {els : List D} {i sz : Nat} (hex : e x = .own i els.length) (hi' : H i = .row sz els) {q : Nat} (hl : bndD e lo = some none) (hh : bndD e hi = some (some q)) (hm : bndD e mx = some none) (hq : q ≤ els.length) :
    StepV P G v o ρ w H (.own i q) [(i, .row sz (els.take q))] := by
  obtain ⟨it, d, -, -, -, -, -, -, -, g1, g2⟩ := (hT t).info (by rw [hk]; rfl)
  rw [hk] at g2; simp only [KOK] at g2; subst g2
  have hbm := bnd_run hmx hm
  have hbh := bnd_run hhi hh
  have hbl := bnd_run hlo hl
  have e1 : mx.map v = none := by
    rcases hbm with ⟨e1, -⟩ | ⟨k1, n1, -, -, e5⟩
    · exact e1
    · cases e5
  have e3 : lo.map v = none := by
    rcases hbl with ⟨e1, -⟩ | ⟨k1, n1, -, -, e5⟩
    · exact e1
    · cases e5
  obtain ⟨k2, n2, e2, p2, hn2⟩ : ∃ k n, hi.map v = some (.int k n) ∧ 0 ≤ n ∧ q = n.toNat := by
    rcases hbh with ⟨-, e5⟩ | ⟨k, n, e2, p2, e5⟩
    · cases e5
    · cases e5; exact ⟨k, n, e2, p2, rfl⟩
  rw [hex, Rp] at hx
  obtain ⟨r1, r2⟩ := Ex.less hR hi' q
  have hrun : ∀ (A : Option Addr) (f : Nat), v x = .slice A els.length f → els.length ≤ f → (execOp v o).run P w = .ok (.value (.slice (if f = 0 then A else A.map (·.add 0)) q f)) w := fun A f hv hf => by
    have q2 : 0 ≤ n2 ∧ n2 ≤ (f : Int) := ⟨p2, by omega⟩
    have hB : (Instr.sliceBounds true els.length f (lo.map v) (hi.map v) (mx.map v)).run P w = .ok (0, q, f) w := by
      simp [Instr.sliceBounds, e1, e2, e3, Instr.sliceBound, asIntOf, q2, hn2]
    have := run_sizeOf (P := P) (hT el) hel w
    have hs : (Instr.sliceAt t (v x) (lo.map v) (hi.map v) (mx.map v)).run P w = .ok (.slice (if f = 0 then A else A.map (·.add 0)) q f) w := by
      simp [Instr.sliceAt, run_underlying g1, hv, Instr.slice, hB, this]
    simp [execOp, ho, hs]
  rcases hx with ⟨h0, A, hv⟩ | ⟨b, f, hnm, hv, hnf, hnl⟩
  · have hq0 : q = 0 := by omega
    have hv' : v x = .slice A els.length 0 := by rw [hv, h0]
    refine ⟨_, _, ρ, w, hrun A 0 hv' (by omega), .inl rfl, ?_, r1, r2⟩
    rw [Rp]
    exact .inl ⟨hq0, A, by rw [hq0]; rfl⟩
  · refine ⟨_, _, ρ, w, hrun (some ⟨b, 0, none⟩) f hv hnf, .inl rfl, ?_, r1, r2⟩
    rw [Rp]
    refine .inr ⟨b, f, hnm, ?_, by omega, by omega⟩
    have : (if f = 0 then some (⟨b, 0, none⟩ : Addr) else (some (⟨b, 0, none⟩ : Addr)).map (·.add 0)) = some ⟨b, 0, none⟩ := by
      split
      · rfl
      · simp [addr_add]
    rw [this]
theorem snd_slice_lent (hT : ∀ t, TyOK P t (T t)) (hR : Rel G ρ w H) {t el : TypeId} {x : Operand} {lo hi mx : Option Operand} (ho : o.op = .slice t x lo hi mx) (hx : Rp ρ w (e x) (v x)) (hlo : ∀ y, lo = some y → Rp ρ w (e y) (v y)) (hhi : ∀ y, hi = some y → Rp ρ w (e y) (v y)) (hmx : ∀ y, mx = some y → Rp ρ w (e y) (v y))
    (hk : (T t).k = .slice el) (hel : (T el).k.known = true) {els sp : List D} (hex : e x = .lent els sp) {q : Nat} (hl : bndD e lo = some none) (hh : bndD e hi = some (some q)) (hm : bndD e mx = some none) (hq : q ≤ els.length + sp.length) (hsz : ∀ d, d ∈ els ++ sp → d.size = (T el).size) :
    StepV P G v o ρ w H (.lent ((els ++ sp).take q) ((els ++ sp).drop q)) [] := by
  obtain ⟨it, d, -, -, -, -, -, -, -, g1, g2⟩ := (hT t).info (by rw [hk]; rfl)
  rw [hk] at g2; simp only [KOK] at g2; subst g2
  have hbm := bnd_run hmx hm
  have hbh := bnd_run hhi hh
  have hbl := bnd_run hlo hl
  have e1 : mx.map v = none := by
    rcases hbm with ⟨e1, -⟩ | ⟨k1, n1, -, -, e5⟩
    · exact e1
    · cases e5
  have e3 : lo.map v = none := by
    rcases hbl with ⟨e1, -⟩ | ⟨k1, n1, -, -, e5⟩
    · exact e1
    · cases e5
  obtain ⟨k2, n2, e2, p2, hn2⟩ : ∃ k n, hi.map v = some (.int k n) ∧ 0 ≤ n ∧ q = n.toNat := by
    rcases hbh with ⟨-, e5⟩ | ⟨k, n, e2, p2, e5⟩
    · cases e5
    · cases e5; exact ⟨k, n, e2, p2, rfl⟩
  rw [hex, Rp] at hx
  obtain ⟨b, off, cap, sz, hv, h2, h3, h4, h5, h6, h7, h8⟩ := hx
  have q2 : 0 ≤ n2 ∧ n2 ≤ (cap : Int) := ⟨p2, by omega⟩
  have hB : (Instr.sliceBounds true els.length cap (lo.map v) (hi.map v) (mx.map v)).run P w = .ok (0, q, cap) w := by
    simp [Instr.sliceBounds, e1, e2, e3, Instr.sliceBound, asIntOf, q2, hn2]
  have hso := run_sizeOf (P := P) (hT el) hel w
  have hs : (Instr.sliceAt t (v x) (lo.map v) (hi.map v) (mx.map v)).run P w = .ok (.slice (some ⟨b, off, none⟩) q cap) w := by
    have hA : (if cap = 0 then some (⟨b, off, none⟩ : Addr) else (some (⟨b, off, none⟩ : Addr)).map (·.add 0)) = some ⟨b, off, none⟩ := by
      split
      · rfl
      · simp [addr_add]
    have : (Instr.sliceAt t (v x) (lo.map v) (hi.map v) (mx.map v)).run P w = .ok (.slice (if cap = 0 then some (⟨b, off, none⟩ : Addr) else (some (⟨b, off, none⟩ : Addr)).map (·.add 0)) q cap) w := by
      simp [Instr.sliceAt, run_underlying g1, hv, Instr.slice, hB, hso]
    rw [this, hA]
  have hss : ∀ d, d ∈ els ++ sp → d.size = sz := fun d hd => (List.mem_append.1 hd).elim (h5 d) (h6 d)
  have hall := RpE.append h5 h6 h7 h8
  have hlen : ((els ++ sp).take q).length = q := by rw [List.length_take, List.length_append]; omega
  refine StepV.same hR (u := .slice (some ⟨b, off, none⟩) q cap) (by simp [execOp, ho, hs]) ?_
  rw [Rp]
  refine ⟨b, off, cap, sz, by rw [hlen], ?_, h3, ?_, fun d hd => hss d (List.mem_of_mem_take hd), fun d hd => hss d (List.mem_of_mem_drop hd), ?_, ?_⟩
  · rw [hlen, List.length_drop, List.length_append]; omega
  · rw [hlen, List.length_drop, List.length_append]; omega
  · have := RpE.part hall hss 0 q
    simpa using this
  · have := RpE.part hall hss q (els ++ sp).length
    rw [List.take_length] at this
    rw [hlen]; exact this
theorem zeros_rows {el : TypeId} (hp : 0 < (T el).size) (hzc : (T el).zero.closed = true) (hzs : (T el).zero.size = (T el).size) (hone : (T el).zero.cells.all D.one = true) (ρ' : Rho) (w' : World) (m : Nat) :
    RpL ρ' w' ((List.replicate m (T el).zero).flatMap D.cells) (Builtin.zeroCells (T el).zero.cv.cells m).toList ∧ ∀ u, u ∈ (Builtin.zeroCells (T el).zero.cv.cells m).toList → u.oneCell' = true := by
  have hzrp := Rp_cv ρ' w' (T el).zero hzc
  obtain ⟨hcr, hco⟩ := Rp.cells hone hzrp
  have hzz : (T el).zero.cv.cells.size = (T el).size := by
    rcases cv_size (T el).zero with h | h
    · rw [h, hzs]
    · rw [hzc] at h; cases h
  have hget : ∀ (j : Nat) (u : Value), (Builtin.zeroCells (T el).zero.cv.cells m).toList[j]? = some u → j < m * (T el).size ∧ (T el).zero.cv.cells.toList[j % (T el).size]? = some u := fun j u hu => by
    rw [Array.getElem?_toList] at hu
    unfold Builtin.zeroCells at hu
    rw [Array.getElem?_map] at hu
    cases hr : (Array.range (m * (T el).zero.cv.cells.size))[j]? with
    | none => rw [hr] at hu; cases hu
    | some r =>
      rw [hr] at hu
      have hj := (Array.getElem?_eq_some_iff.1 hr).1
      simp only [Array.size_range, hzz] at hj
      have hrj : r = j := by have := (Array.getElem?_eq_some_iff.1 hr).2; simpa using this.symm
      subst hrj
      simp only [Option.map_some, Option.some.injEq] at hu
      refine ⟨hj, ?_⟩
      have hm : r % (T el).size < (T el).zero.cv.cells.size := by rw [hzz]; exact Nat.mod_lt _ hp
      have he : (T el).zero.cv.cells[r % (T el).size]! = (T el).zero.cv.cells[r % (T el).size] := getElem!_pos (T el).zero.cv.cells (r % (T el).size) hm
      rw [hzz, he] at hu
      rw [Array.getElem?_toList, Array.getElem?_eq_getElem hm, hu]
  refine ⟨RpL.of ?_ fun j d u hd hu => ?_, fun u hu => ?_⟩
  · rw [flat_len (sz := (T el).size) (fun z hz => by rw [List.eq_of_mem_replicate hz]; exact hzs)]; simp [size_zeroCells, hzz]
  · obtain ⟨hj, hu2⟩ := hget j u hu
    rw [flat_rep hzs hj] at hd
    obtain ⟨u', q1, q2⟩ := hcr.get hd
    rw [hu2] at q1; cases q1
    exact q2
  · obtain ⟨j, hj⟩ := List.getElem?_of_mem hu
    exact hco u (List.mem_of_getElem? (hget j u hj).2)
theorem snd_append_zeros (hT : ∀ t, TyOK P t (T t)) (hR : Rel G ρ w H) {c : Call} {x y : Operand} {t t2 el : TypeId} {kk : IntKind} (ho : o.op = .call c) (hcl : c.callee = .builtin .append) (ha : c.args = #[x, y]) (ht : c.argTypes = #[t, t2])
    (hx : Rp ρ w (e x) (v x)) (hy : Rp ρ w (e y) (v y)) {a : Int} {ka : IntKind} (hex : e x = .slice [] .full) (hey : e y = .int ka a) (hk : (T t).k = .slice el) (hk2 : (T t2).k = .int kk) (hel : (T el).k.known = true) (hby : (T el).bytes ≤ 256)
    (hp : 0 < (T el).size) (h0 : 0 ≤ a) (h1 : a ≤ 274877906944) (hone : (T el).zero.cells.all D.one = true) {nx : Nat} (hn : H nx = .free) :
    StepV P G v o ρ w H (.own nx a.toNat) [(nx, .row (T el).size (List.replicate a.toNat (T el).zero))] := by
  obtain ⟨it, d, -, -, -, -, -, -, -, g1, g2⟩ := (hT t).info (by rw [hk]; rfl)
  rw [hk] at g2; simp only [KOK] at g2; subst g2
  obtain ⟨it2, d2, -, -, -, -, -, -, -, g3, g4⟩ := (hT t2).info (by rw [hk2]; rfl)
  rw [hk2] at g4; simp only [KOK] at g4; subst g4
  obtain ⟨ii, d3, hii, hsz, hbt, hz, hzc, hzs, -, -, -⟩ := (hT el).info hel
  rw [hex, Rp] at hx
  obtain ⟨A, cap, sz, hv, -, -, -, -, hcap, -⟩ := hx
  have hcap : cap = 0 := hcap
  subst hcap
  rw [hey, Rp] at hy
  have hw : IntKind.i64.wrap a = a := by rw [IntKind.wrap_i64]; omega
  have hrunop : ∀ {u : Value} {w' : World}, (Builtin.append_ #[t, t2] o.type #[v x, v y]).run P w = .ok u w' → (execOp v o).run P w = .ok (.value u) w' := fun {u w'} h => by
    simp [execOp, ho, hcl, ha, ht, resolve, invoke, builtin, h]
  have n1 : ¬ a < 0 := by omega
  have n2 : ¬ 281474976710656 < a * (ii.bytes : Int) := by
    have : (ii.bytes : Int) ≤ 256 := by omega
    have := Int.mul_le_mul h1 this (by omega) (by omega)
    omega
  by_cases h00 : a = 0
  · subst h00
    have hrun : (Builtin.append_ #[t, t2] o.type #[v x, v y]).run P w = .ok (.slice A 0 0) w := by
      rw [hv, hy.1]
      cases A <;> simp [Builtin.append_, run_underlying g1, run_underlying g3, sizeOf, typeInfo, hii, asInt, asIntOf, hw, storeCells]
    obtain ⟨r1, r2⟩ := Ex.nameX hR hn (x := .row (T el).size (List.replicate (0 : Int).toNat (T el).zero)) rfl
    refine ⟨_, _, ρ, w, hrunop hrun, .inl rfl, ?_, r1, r2⟩
    rw [Rp]
    exact .inl ⟨rfl, A, rfl⟩
  · have hpos : 0 < a.toNat := by omega
    have hnn : ¬ (a.toNat ≤ 0) := by omega
    have h63' : ¬ (9223372036854775807 < ((a.toNat : Nat) : Int)) := by omega
    have hfit : ¬ (281474976710656 < Builtin.nextslicecap a.toNat 0 * ii.bytes) := by
      have g1 := nextslicecap_le (show 0 < a.toNat from hpos)
      have g2 := Nat.mul_le_mul g1 (show ii.bytes ≤ 256 by omega)
      omega
    have hcells : (zeroValue el).run P w.drew = .ok (T el).zero.cv w.drew := by simp [zeroValue, typeInfo, hii, hz]
    have hfc : (Builtin.firstCells (T el).size 0 (.slice A 0 0)).run P w.drew = .ok #[] w.drew := by
      cases A <;> simp [Builtin.firstCells, loadCells, loadCellsFrom]
    have hns : ¬ (a.toNat * (T el).size = 0) := by
      intro h; rcases Nat.mul_eq_zero.1 h with h | h <;> omega
    have hna : ¬ a ≤ 0 := by omega
    have hmx : ¬ 9223372036854775807 < max a 0 := by omega
    have hrun : (Builtin.append_ #[t, t2] o.type #[v x, v y]).run P w = .ok (.slice (some ⟨w.heap.size, 0, none⟩) a.toNat (grownCap w a.toNat 0 el))
        (w.drew.alloc (.cells (Builtin.zeroCells (T el).zero.cv.cells a.toNat ++ Builtin.zeroCells (T el).zero.cv.cells (grownCap w a.toNat 0 el - a.toNat)) el)) := by
      rw [hv, hy.1]
      simp [Builtin.append_, run_underlying g1, run_underlying g3, sizeOf, typeInfo, hii, asInt, asIntOf, hw, n1, n2, hnn, hna, hmx, h63', hfit, hsz, hfc, hns, hcells, newRow, grownCap, Question.forced]
    have hcg := grownCap_ge w a.toNat 0 el
    have hcm' : grownCap w a.toNat 0 el ≤ maxLen := grownCap_le_maxLen w _ 0 el (by simp only [maxLen]; omega)
    generalize grownCap w a.toNat 0 el = cap' at hrun hcg hcm'
    have hzz : (T el).zero.cv.cells.size = (T el).size := by
      rcases cv_size (T el).zero with h | h
      · rw [h, hzs]
      · rw [hzc] at h; cases h
    have hvs : Builtin.zeroCells (T el).zero.cv.cells a.toNat ++ Builtin.zeroCells (T el).zero.cv.cells (cap' - a.toNat) = ((Builtin.zeroCells (T el).zero.cv.cells a.toNat).toList ++ (Builtin.zeroCells (T el).zero.cv.cells (cap' - a.toNat)).toList).toArray := by apply Array.ext'; simp
    rw [hvs] at hrun
    obtain ⟨hRd, hed⟩ := Ex.drew hR
    obtain ⟨r1, r2⟩ := Ex.layF (f := cap') hRd hn (o := .cells ((Builtin.zeroCells (T el).zero.cv.cells a.toNat).toList ++ (Builtin.zeroCells (T el).zero.cv.cells (cap' - a.toNat)).toList).toArray el) (x := .row (T el).size (List.replicate a.toNat (T el).zero)) rfl (fun ρ' g hc => by
      refine ⟨hc, hp, fun z hz => by rw [List.eq_of_mem_replicate hz]; exact hzs, by rw [List.length_replicate]; exact hcg, hcm', by rw [List.length_replicate]; unfold LMax; omega, el, (Builtin.zeroCells (T el).zero.cv.cells (cap' - a.toNat)).toList, (Builtin.zeroCells (T el).zero.cv.cells a.toNat).toList, heap_new w.drew _, (zeros_rows hp hzc hzs hone _ _ _).1, ?_, (zeros_rows hp hzc hzs hone ρ' (w.drew.alloc (.cells ((Builtin.zeroCells (T el).zero.cv.cells a.toNat).toList ++ (Builtin.zeroCells (T el).zero.cv.cells (cap' - a.toNat)).toList).toArray el)) _).2⟩
      have : cap' * (T el).size = a.toNat * (T el).size + (cap' - a.toNat) * (T el).size := by rw [← Nat.add_mul]; congr 1; omega
      simp only [Array.length_toList, size_zeroCells, hzz]
      omega)
    refine ⟨_, _, _, _, hrunop hrun, .inl rfl, ?_, r1, hed.trans r2⟩
    rw [Rp]
    exact .inr ⟨w.drew.heap.size, cap', by simp [Rho.layF], rfl, hcg, by unfold LMax; omega⟩
theorem snd_make (hT : ∀ t, TyOK P t (T t)) (hR : Rel G ρ w H) {t el : TypeId} {x y : Operand} (ho : o.op = .makeSlice t x y) (hx : Rp ρ w (e x) (v x)) (hy : Rp ρ w (e y) (v y)) {k1 k2 : IntKind} {c d : Int} (hex : e x = .int k1 c) (hey : e y = .int k2 d) (hcd : c ≤ d) (h0 : 0 ≤ c) (h1 : d ≤ 1048576)
    (hk : (T t).k = .slice el) (hel : (T el).k.known = true) (hby : (T el).bytes ≤ 256) (hp : 0 < (T el).size) (hone : (T el).zero.cells.all D.one = true) {nx : Nat} (hn : H nx = .free) :
    StepV P G v o ρ w H (.own nx c.toNat) [(nx, .row (T el).size (List.replicate c.toNat (T el).zero))] := by
  rw [hex, Rp] at hx
  rw [hey, Rp] at hy
  obtain ⟨it, d', -, -, -, -, -, -, -, g1, g2⟩ := (hT t).info (by rw [hk]; rfl)
  rw [hk] at g2; simp only [KOK] at g2; subst g2
  obtain ⟨ii, d3, hii, hsz, hbt, hz, hzc, hzs, -, -, -⟩ := (hT el).info hel
  have hrun := run_make (P := P) w t el ii _ g1 hii hz k1 k2 c d h0 hcd (by
    have : ((ii.bytes : Nat) : Int) ≤ 256 := by omega
    have := Int.mul_le_mul this h1 (by omega) (by omega)
    omega) (by omega)
  rw [hsz] at hrun
  have hzrp := Rp_cv ρ w (T el).zero hzc
  obtain ⟨hcr, hco⟩ := Rp.cells hone hzrp
  have hzz : (T el).zero.cv.cells.size = (T el).size := by
    rcases cv_size (T el).zero with h | h
    · rw [h, hzs]
    · rw [hzc] at h; cases h
  have hmade : ∀ (j : Nat) (u : Value), (madeCells (T el).zero.cv.cells (d.toNat * (T el).size)).toList[j]? = some u → j < d.toNat * (T el).size ∧ (T el).zero.cv.cells.toList[j % (T el).size]? = some u := fun j u hu => by
    rw [Array.getElem?_toList, made_get] at hu
    split at hu
    · rename_i hj
      refine ⟨hj, ?_⟩
      rw [hzz] at hu
      have hm : j % (T el).size < (T el).zero.cv.cells.size := by rw [hzz]; exact Nat.mod_lt _ hp
      have he : (T el).zero.cv.cells[j % (T el).size]! = (T el).zero.cv.cells[j % (T el).size] := getElem!_pos (T el).zero.cv.cells (j % (T el).size) hm
      rw [he] at hu
      rw [Array.getElem?_toList, Array.getElem?_eq_getElem hm]; exact hu
    · cases hu
  have hle : c.toNat * (T el).size ≤ d.toNat * (T el).size := Nat.mul_le_mul_right _ (by omega)
  obtain ⟨L, hL⟩ : ∃ L, L = (madeCells (T el).zero.cv.cells (d.toNat * (T el).size)).toList := ⟨_, rfl⟩
  have hLs : L.length = d.toNat * (T el).size := by rw [hL]; simp [size_madeCells]
  obtain ⟨r1, r2⟩ := Ex.layF (f := d.toNat) hR hn (o := .cells (madeCells (T el).zero.cv.cells (d.toNat * (T el).size)) el) (x := .row (T el).size (List.replicate c.toNat (T el).zero)) rfl (fun ρ' g hc => by
    refine ⟨hc, hp, fun z hz => by rw [List.eq_of_mem_replicate hz]; exact hzs, by rw [List.length_replicate]; omega, by simp only [maxLen]; omega, by rw [List.length_replicate]; unfold LMax; omega, el, L.drop (c.toNat * (T el).size), L.take (c.toNat * (T el).size), ?_, ?_, ?_, fun u hu => ?_⟩
    · rw [List.take_append_drop, hL, Array.toArray_toList]; exact heap_new w _
    · refine RpL.of ?_ fun j z u hd hu => ?_
      · rw [flat_len (sz := (T el).size) (fun z hz => by rw [List.eq_of_mem_replicate hz]; exact hzs), List.length_take, hLs, List.length_replicate]; omega
      · rw [List.getElem?_take] at hu
        split at hu
        · rename_i hj
          obtain ⟨-, hu2⟩ := hmade j u (by rw [← hL]; exact hu)
          rw [flat_rep hzs hj] at hd
          obtain ⟨u', q1, q2⟩ := (RpL.grow g _ _ hcr).get hd
          rw [hu2] at q1; cases q1
          exact q2
        · cases hu
    · rw [List.length_take, List.length_drop, hLs]; omega
    · obtain ⟨j, hj⟩ := List.getElem?_of_mem (List.mem_of_mem_take hu)
      exact hco u (List.mem_of_getElem? (hmade j u (by rw [← hL]; exact hj)).2))
  refine ⟨.value (.slice (some ⟨w.heap.size, 0, none⟩) c.toNat d.toNat), _, _, _, ?_, .inl rfl, ?_, r1, r2⟩
  · simp [execOp, ho, hx.1, hy.1, hrun]
  · rw [Rp]
    exact .inr ⟨w.heap.size, d.toNat, by simp [Rho.layF], rfl, by omega, by unfold LMax; omega⟩
end
end Go.Proofs.YtgloldepdhgfaaaDoor
namespace Go.Proofs.YtgloldepdhgfaaaDoor
set_option linter.unusedSimpArgs false
set_option linter.unusedVariables false
open Go.RowKit
section
variable {P : Program} {G : Nat → Option D} {ρ : Rho} {w : World} {H h : Nat → HO} {T : TypeId → Ty} {v : Operand → Value} {e : Operand → D} {o : Oper} {nx : Nat} {d : D} {rd : List Nat} {up : List (Nat × HO)}
theorem isFree_eq {x : HO} (h : isFree x = true) : x = .free := by cases x <;> first | rfl | cases h
theorem isTok_eq {x : HO} (h : isTok x = true) : x = .tok := by cases x <;> first | rfl | cases h
theorem array_one {α : Type} {a : Array α} {x : α} (h : a.toList = [x]) : a = #[x] := by apply Array.ext'; simpa using h
theorem array_two {α : Type} {a : Array α} {x y : α} (h : a.toList = [x, y]) : a = #[x, y] := by apply Array.ext'; simpa using h
theorem run_equal_nil {t : TypeId} {ms : Array (String × TypeId)} (h : P.underlying t = some (.interface ms)) : (Op.equal t .nilIface .nilIface).run P w = .ok true w := by
  have : ∀ n, (Op.equalIn (n + 1) t .nilIface .nilIface).run P w = .ok true w := fun n => by
    simp only [Op.equalIn, Sem.run_bind, run_underlying h, Result.andThen_ok]; rfl
  exact this 9999
theorem run_equal_some {t t1 : TypeId} {u : Value} {ms : Array (String × TypeId)} (h : P.underlying t = some (.interface ms)) : (Op.equal t (.iface t1 u) .nilIface).run P w = .ok false w := by
  have : ∀ n, (Op.equalIn (n + 1) t (.iface t1 u) .nilIface).run P w = .ok false w := fun n => by
    simp only [Op.equalIn, Sem.run_bind, run_underlying h, Result.andThen_ok]; rfl
  exact this 9999
theorem run_equal_nilS {t el : TypeId} {A : Option Addr} {n cap : Nat} (h : P.underlying t = some (.slice el)) : (Op.equal t (.slice A n cap) (.slice none 0 0)).run P w = .ok A.isNone w := by
  have : ∀ k, (Op.equalIn (k + 1) t (.slice A n cap) (.slice none 0 0)).run P w = .ok A.isNone w := fun k => by
    simp only [Op.equalIn, Sem.run_bind, run_underlying h, Result.andThen_ok]
    cases A <;> rfl
  exact this 9999
theorem guard_nilS {op : BinOp} {t : TypeId} {x y : Operand} {A : Option Addr} {n cap : Nat} : (eqGuard op t x y (.slice A n cap) (.slice none 0 0)).run P w = .ok () w := by
  unfold eqGuard
  cases op <;> rfl
theorem bin_nilS {t el : TypeId} {A : Option Addr} {n cap : Nat} (h : P.underlying t = some (.slice el)) : (binOp .eql t (.slice A n cap) (.slice none 0 0)).run P w = .ok (.bool A.isNone) w := by
  show (do pure (Value.bool (← Op.equal t (.slice A n cap) (.slice none 0 0))) : Sem Value).run P w = _
  simp only [Sem.run_bind, run_equal_nilS h, Result.andThen_ok, Sem.run_pure]
theorem run_equal_bool {t : TypeId} {a b : Bool} (h : P.underlying t = some .bool) : (Op.equal t (.bool a) (.bool b)).run P w = .ok (a == b) w := by
  have : ∀ n, (Op.equalIn (n + 1) t (.bool a) (.bool b)).run P w = .ok (a == b) w := fun n => by
    simp only [Op.equalIn, Sem.run_bind, run_underlying h, Result.andThen_ok]; rfl
  exact this 9999
theorem snd_pairX (hT : ∀ t, TyOK P t (T t)) (hR : Rel G ρ w H) {op : BinOp} {t t' : TypeId} {x y : Operand} (ho : o.op = .binOp op t x y t') (hx : Rp ρ w (e x) (v x)) (hy : Rp ρ w (e y) (v y)) (h : pairX ((T t).eq2 && (T t).k.known) op (e x) (e y) = some d) :
    StepV P G v o ρ w H d [] := by
  have hrb : ∀ b : Bool, Rp ρ w (.bool b) (.bool b) := fun b => by rw [Rp]
  unfold pairX at h
  split at h
  · rename_i hq hex hey
    cases h
    simp only [Bool.and_eq_true] at hq
    obtain ⟨h1, h2⟩ := (hT t).eqp hq.2 hq.1
    rw [hex] at hx
    rw [hey] at hy
    simp only [Rp, RpL] at hx hy
    obtain ⟨us, hx0, _, _, rfl, ⟨rfl, -⟩, _, _, rfl, ⟨rfl, -⟩, rfl⟩ := hx
    obtain ⟨vs, hy0, _, _, rfl, ⟨rfl, -⟩, _, _, rfl, ⟨rfl, -⟩, rfl⟩ := hy
    refine StepV.same hR ?_ (hrb _)
    have h1' := h1 w
    have h2' := h2 w
    simp only [List.toArray] at hx0 hy0
    simp [execOp, ho, hx0, hy0, h2', h1']
  · cases h
theorem snd_binX (hT : ∀ t, TyOK P t (T t)) (hR : Rel G ρ w H) {op : BinOp} {t t' : TypeId} {x y : Operand} (ho : o.op = .binOp op t x y t') (hx : Rp ρ w (e x) (v x)) (hy : Rp ρ w (e y) (v y)) (h : binX (isCst y) (T t).k op (e x) (e y) = some d) :
    StepV P G v o ρ w H d [] := by
  have hrb : ∀ b : Bool, Rp ρ w (.bool b) (.bool b) := fun b => by rw [Rp]
  unfold binX at h
  split at h
  · rename_i t1 d1 hk hex hey
    cases h
    rw [hex, Rp] at hx
    rw [hey, Rp] at hy
    obtain ⟨u, hv, -⟩ := hx
    obtain ⟨i, dd, -, -, -, -, -, -, -, h1, h2⟩ := (hT t).info (by rw [hk]; rfl)
    rw [hk] at h2
    obtain ⟨ms, rfl⟩ := h2
    refine StepV.same hR (u := .bool true) ?_ (hrb _)
    simp [execOp, ho, hv, hy, eqGuard_at_iface, binOp, run_equal_some h1]
  · rename_i hk hex hey
    split at h
    · rename_i hc
      cases h
      rw [hex, Rp] at hx
      rw [hey, Rp] at hy
      obtain ⟨i, dd, -, -, -, -, -, -, -, h1, h2⟩ := (hT t).info (by rw [hk]; rfl)
      rw [hk] at h2
      obtain ⟨ms, rfl⟩ := h2
      refine StepV.same hR (u := .bool false) ?_ (hrb _)
      cases y <;> first | (cases hc; done) | skip
      simp [execOp, ho, hx, hy, eqGuard_nil_constR, binOp, run_equal_nil h1]
    · cases h
  · rename_i a b hk hex hey
    cases h
    rw [hex, Rp] at hx
    rw [hey, Rp] at hy
    obtain ⟨i, dd, -, -, -, -, -, -, -, h1, h2⟩ := (hT t).info (by rw [hk]; rfl)
    rw [hk] at h2
    simp only [KOK] at h2
    subst h2
    refine StepV.same hR (u := .bool (decide (a = b))) ?_ (hrb _)
    simp [execOp, ho, hx, hy, eqGuard_at_bool, binOp, run_equal_bool h1]
    rfl
  · rename_i a b hk hex hey
    cases h
    rw [hex, Rp] at hx
    rw [hey, Rp] at hy
    obtain ⟨i, dd, -, -, -, -, -, -, -, h1, h2⟩ := (hT t).info (by rw [hk]; rfl)
    rw [hk] at h2
    simp only [KOK] at h2
    subst h2
    refine StepV.same hR (u := .bool (!decide (a = b))) ?_ (hrb _)
    simp [execOp, ho, hx, hy, eqGuard_at_bool, binOp, run_equal_bool h1]
    rfl
  · split at h
    · rename_i d' hd
      cases h
      exact snd_bin hR ho hx hy hd
    · exact snd_binE hR ho hx hy h
theorem snd_nil (hcv : ∀ c, v (.const c) = c) (hT : ∀ t, TyOK P t (T t)) (hR : Rel G ρ w H) {op : BinOp} {t t' : TypeId} {x y : Operand} (ho : o.op = .binOp op t x y t') {els : List D} {c : Cp} (hx : Rp ρ w (.slice els c) (v x)) (hn : nilTest op (T t).k (isNilS y) = true) :
    ∃ b : Bool, (els ≠ [] → b = false) ∧ StepV P G v o ρ w H (.bool b) [] := by
  unfold nilTest at hn
  split at hn
  · rename_i el hk
    have hy : y = .const (.slice none 0 0) := by
      unfold isNilS at hn
      split at hn
      · rfl
      · cases hn
    subst hy
    rw [Rp] at hx
    obtain ⟨A, cap, sz, hv, -, -, -, -, -, h7⟩ := hx
    obtain ⟨i, dd, -, -, -, -, -, -, -, h1, h2⟩ := (hT t).info (by rw [hk]; rfl)
    rw [hk] at h2
    simp only [KOK] at h2
    subst h2
    refine ⟨A.isNone, fun hne => ?_, ?_⟩
    · obtain ⟨b, o', rfl, -⟩ := h7 hne
      rfl
    · refine StepV.same hR (u := .bool A.isNone) ?_ (by rw [Rp])
      simp [execOp, ho, hv, hcv, guard_nilS, bin_nilS h1]
  · cases hn
/-- a test whose answer is not known -/
theorem evOp_bit (hcv : ∀ c, v (.const c) = c) (hT : ∀ t, TyOK P t (T t)) (hev : evOp T e h nx o = some .bit) (hR : Rel G ρ w H) (hop : ∀ x, x ∈ o.op.operands.toList → Rp ρ w (e x) (v x)) : ∃ b : Bool, StepV P G v o ρ w H (.bool b) [] := by
  unfold evOp at hev
  cases ho : o.op <;> rw [ho] at hev hop <;> try dsimp only at hev
  case binOp op t x y t' =>
    split at hev
    · rename_i hn
      split at hev
      · rename_i c0 hx0
        have hx := hop x (by simp [Op.operands])
        rw [hx0] at hx
        obtain ⟨b, -, hs⟩ := snd_nil hcv hT hR ho hx hn
        exact ⟨b, hs⟩
      · cases hev
      · cases hev
    · exfalso
      repeat' (first | (cases hev; done) | (simp only [Option.bind_eq_some_iff] at hev; obtain ⟨_, _, hev⟩ := hev) | split at hev)
  case makeMap t r => cases r <;> dsimp only at hev <;> (repeat' (first | (cases hev; done) | split at hev))
  all_goals (repeat' (first | (cases hev; done) | (simp only [Option.bind_eq_some_iff] at hev; obtain ⟨_, _, hev⟩ := hev) | split at hev))
set_option maxHeartbeats 1000000 in
/-- what an operation leaves -/
theorem evOp_val (hcv : ∀ c, v (.const c) = c) (hT : ∀ t, TyOK P t (T t)) (hev : evOp T e h nx o = some (.val d rd up)) (hR : Rel G ρ w H) (hH : ∀ r, r ∈ rd → H r = h r) (hop : ∀ x, x ∈ o.op.operands.toList → Rp ρ w (e x) (v x)) : StepV P G v o ρ w H d up := by
  unfold evOp at hev
  cases ho : o.op <;> rw [ho] at hev hop <;> try dsimp only at hev
  case move x =>
    cases hev
    exact snd_move hR (.inl ho) (hop x (by simp [Op.operands]))
  case assign x =>
    cases hev
    exact snd_move hR (.inr ho) (hop x (by simp [Op.operands]))
  case pick c a b =>
    split at hev
    · rename_i cb hc
      cases hev
      exact snd_pick hR ho hc (hop c (by simp [Op.operands])) (hop a (by simp [Op.operands])) (hop b (by simp [Op.operands]))
    · cases hev
  case alloc t =>
    split at hev
    · rename_i hc
      simp only [Bool.and_eq_true] at hc
      cases hev
      exact snd_alloc hT hR ho ((hH nx (by simp)).trans (isFree_eq hc.1.1)) hc.1.2 hc.2
    · cases hev
  case box t x =>
    split at hev
    · rename_i hc
      simp only [Bool.and_eq_true] at hc
      cases hev
      exact snd_box hR ho (hop x (by simp [Op.operands])) ((hH nx (by simp)).trans (isFree_eq hc.1)) hc.2
    · cases hev
  case build t ps =>
    split at hev
    · rename_i fs hk
      cases hf : fillD (fs.map fun f => (f.1, (T f.2).size)) (T t).zero.cells (ps.toList.map fun p => (p.1, e p.2)) with
      | none => rw [hf] at hev; cases hev
      | some cs =>
        rw [hf] at hev
        simp only [Option.bind_some] at hev
        split at hev
        · rename_i hc
          simp only [Bool.and_eq_true] at hc
          cases hev
          exact snd_build hT hR ho (fun p hp => hop p.2 (by simp only [Op.operands]; rw [List.toList_toArray]; exact List.mem_map.2 ⟨p, hp, rfl⟩)) hk hf (fun f hf => List.all_eq_true.1 hc.1 f hf) hc.2
        · cases hev
    · cases hev
  case buildSlice t n ps =>
    split at hev
    · rename_i el hk
      split at hev
      · rename_i hc
        simp only [Bool.and_eq_true, List.all_eq_true, decide_eq_true_eq] at hc
        obtain ⟨⟨⟨⟨h1, h2⟩, h3⟩, h4⟩, h5⟩ := hc
        cases hev
        exact snd_slice_lit hT hR ho (fun p hp => hop p.2 (by simp only [Op.operands]; rw [List.toList_toArray]; exact List.mem_map.2 ⟨p, hp, rfl⟩)) hk h1 h2 (fun p hp => ⟨List.all_eq_true.2 (h3 p hp).1.1, (h3 p hp).1.2, (h3 p hp).2⟩) h4 h5
      · cases hev
    · cases hev
  case load t x =>
    have hx := hop x (by simp [Op.operands])
    split at hev
    · rename_i dd hex
      split at hev
      · rename_i cs
        split at hev
        · rename_i hc
          simp only [Bool.and_eq_true, decide_eq_true_eq] at hc
          cases hev
          have hk : (T t).k.known = true := by cases hh : (T t).k <;> rw [hh] at hc <;> first | rfl | cases hc.1
          exact snd_load_ref hT hR ho hx hex hk (.inl ⟨hc.1, cs, rfl, hc.2⟩)
        · cases hev
      · split at hev
        · rename_i hc
          simp only [Bool.and_eq_true, Bool.not_eq_true'] at hc
          cases hev
          exact snd_load_ref hT hR ho hx hex hc.1.1 (.inr ⟨hc.1.2, hc.2⟩)
        · cases hev
    · rename_i i off hex
      split at hev
      · rename_i ty ds hi
        split at hev
        · rename_i hk
          cases hp : partD (T t) ds off with
          | none => rw [hp] at hev; cases hev
          | some d1 =>
            rw [hp] at hev
            simp only [Option.bind_some] at hev
            cases hev
            exact snd_load_box hT hR ho hx hex ((hH i (by simp)).trans hi) hk hp
        · cases hev
      · cases hev
    · rename_i i sz k off hex
      split at hev
      · rename_i sz' els hi
        split at hev
        · rename_i dd hd
          split at hev
          · rename_i hc
            simp only [Bool.and_eq_true, decide_eq_true_eq] at hc
            obtain ⟨hk, rfl⟩ := hc
            cases hp : partD (T t) dd.cells off with
            | none => rw [hp] at hev; cases hev
            | some d1 =>
              rw [hp] at hev
              simp only [Option.bind_some] at hev
              cases hev
              exact snd_load_ebox hT hR ho hx hex ((hH i (by simp)).trans hi) hd hk hp
          · cases hev
        · cases hev
      · cases hev
    · cases hev
  case store t x y =>
    split at hev
    · rename_i i off hex
      split at hev
      · rename_i ty ds hi
        split at hev
        · rename_i hc
          simp only [Bool.and_eq_true, decide_eq_true_eq] at hc
          cases hev
          exact snd_store hT hR ho (hop x (by simp [Op.operands])) (hop y (by simp [Op.operands])) hex ((hH i (by simp)).trans hi) hc.1.1.1 hc.1.1.2 hc.1.2 hc.2
        · cases hev
      · cases hev
    · rename_i i sz k off hex
      split at hev
      · rename_i sz' els hi
        split at hev
        · rename_i dd hd
          split at hev
          · rename_i hc
            simp only [Bool.and_eq_true, decide_eq_true_eq] at hc
            obtain ⟨⟨⟨⟨hk, rfl⟩, h1⟩, h2⟩, h3⟩ := hc
            cases hev
            exact snd_store_ebox hT hR ho (hop x (by simp [Op.operands])) (hop y (by simp [Op.operands])) hex ((hH i (by simp)).trans hi) hd hk h1 h2 h3
          · cases hev
        · cases hev
      · cases hev
    · cases hev
  case nilCheck x =>
    have hx := hop x (by simp [Op.operands])
    split at hev
    · rename_i dd hex
      cases hev
      rw [hex] at hx
      obtain ⟨b, off, hv, -⟩ := Rp_ref.1 hx
      exact StepV.same hR (u := v x) (by simp [execOp, ho, hv]) hx
    · rename_i i off hex
      cases hev
      rw [hex] at hx
      have hx' := hx
      rw [Rp] at hx'
      obtain ⟨b, f, -, hv⟩ := hx'
      exact StepV.same hR (u := v x) (by simp [execOp, ho, hv]) hx
    · rename_i i sz k off hex
      cases hev
      rw [hex] at hx
      have hx' := hx
      rw [Rp] at hx'
      obtain ⟨b, f, -, hv⟩ := hx'
      exact StepV.same hR (u := v x) (by simp [execOp, ho, hv]) hx
    · rename_i f a b hex
      cases hev
      rw [hex] at hx
      have hx' := hx
      rw [Rp] at hx'
      obtain ⟨us, vs, hv, -⟩ := hx'
      exact StepV.same hR (u := v x) (by simp [execOp, ho, hv]) hx
    · cases hev
  case binOp op t x y t' =>
    split at hev
    · rename_i hn
      split at hev
      · cases hev
      · rename_i d0 r0 c0 hx0
        cases hev
        have hx := hop x (by simp [Op.operands])
        rw [hx0] at hx
        obtain ⟨b, hb, hs⟩ := snd_nil hcv hT hR ho hx hn
        rw [hb (by simp)] at hs
        exact hs
      · cases hev
    split at hev
    · rename_i dp hp
      cases hev
      exact snd_pairX hT hR ho (hop x (by simp [Op.operands])) (hop y (by simp [Op.operands])) hp
    · cases hb : binX (isCst y) (T t).k op (e x) (e y) with
      | none => rw [hb] at hev; cases hev
      | some d1 =>
        rw [hb] at hev
        simp only [Option.bind_some] at hev
        cases hev
        exact snd_binX hT hR ho (hop x (by simp [Op.operands])) (hop y (by simp [Op.operands])) hb
  case unOp op t x =>
    split at hev
    · rename_i b hex
      cases hev
      exact snd_not hR ho (hop x (by simp [Op.operands])) hex
    · cases hev
  case convert s t x =>
    split at hev
    · rename_i k k' n hs ht hex
      cases hev
      exact snd_convert hT hR ho (hop x (by simp [Op.operands])) hex hs ht
    · cases hev
  case makeInterface t x =>
    split at hev
    · cases hev
    · cases hev
    · rename_i h1 h2
      cases hev
      refine snd_iface hT hR ho (hop x (by simp [Op.operands])) ?_ h2
      cases hh : (T t).k <;> first | rfl | exact absurd hh h1
  case makeFunc fn a b =>
    cases hev
    exact snd_func hR ho (fun x hx => hop x (by simp only [Op.operands]; simp at hx ⊢; exact .inl hx)) (fun x hx => hop x (by simp only [Op.operands]; simp at hx ⊢; exact .inr hx))
  case fieldAddr s x f =>
    have hx := hop x (by simp [Op.operands])
    split at hev
    · rename_i fs hs
      split at hev
      · rename_i k ft hn
        split at hev
        · rename_i hc
          simp only [Bool.and_eq_true, decide_eq_true_eq] at hc
          split at hev
          · rename_i i off hex
            cases hev
            exact snd_faddr_box hT hR ho hx hs hn hc.1 hc.2 hex
          · rename_i i sz j off hex
            cases hev
            exact snd_faddr_ebox hT hR ho hx hs hn hc.1 hc.2 hex
          · rename_i cs hex
            cases hp : partD (T ft) cs k with
            | none => rw [hp] at hev; cases hev
            | some d1 =>
              rw [hp] at hev
              simp only [Option.bind_some] at hev
              cases hev
              exact snd_faddr_ref hT hR ho hx hs hn hc.1 hc.2 hex hp
          · cases hev
        · cases hev
      · cases hev
    · cases hev
  case field s x f =>
    have hx := hop x (by simp [Op.operands])
    split at hev
    · rename_i fs hs
      split at hev
      · rename_i k ft hn
        split at hev
        · rename_i hc
          split at hev
          · rename_i cs hex
            cases hp : partD (T ft) cs k with
            | none => rw [hp] at hev; cases hev
            | some d1 =>
              rw [hp] at hev
              simp only [Option.bind_some] at hev
              cases hev
              exact snd_field hT hR ho hx hs hn hc hex hp
          · cases hev
        · cases hev
      · cases hev
    · cases hev
  case indexAddr t x ix =>
    have hx := hop x (by simp [Op.operands])
    have hix := hop ix (by simp [Op.operands])
    split at hev
    · rename_i el hk
      split at hev
      · rename_i els cp k i hex hei
        split at hev
        · rename_i hc
          simp only [Bool.and_eq_true, decide_eq_true_eq] at hc
          split at hev
          · rename_i d1 hd
            split at hev
            · rename_i hs
              cases hev
              exact snd_index_slice hT hR ho hx hix hk hc.2 hex hei hc.1 hd hs
            · cases hev
          · cases hev
        · cases hev
      · rename_i j n k i hex hei
        split at hev
        · rename_i hc
          simp only [Bool.and_eq_true, decide_eq_true_eq] at hc
          cases hev
          exact snd_index_own hT hR ho hx hix hk hc.2 hex hei hc.1.1 hc.1.2
        · cases hev
      · rename_i els sp k i hex hei
        split at hev
        · rename_i hc
          simp only [Bool.and_eq_true, decide_eq_true_eq] at hc
          split at hev
          · rename_i d1 hd
            split at hev
            · rename_i hs
              cases hev
              exact snd_index_lent hT hR ho hx hix hk hc.2 hex hei hc.1 hd hs
            · cases hev
          · cases hev
        · cases hev
      · cases hev
    · rename_i n el hk
      split at hev
      · rename_i cs k i hex hei
        split at hev
        · rename_i hc
          simp only [Bool.and_eq_true, decide_eq_true_eq] at hc
          cases hp : partD (T el) cs (i.toNat * (T el).size) with
          | none => rw [hp] at hev; cases hev
          | some d1 =>
            rw [hp] at hev
            simp only [Option.bind_some] at hev
            cases hev
            exact snd_index_arr hT hR ho hx hix hk hc.2 hex hei hc.1.1 hc.1.2 hp
        · cases hev
      · cases hev
    · cases hev
  case slice t x lo hi mx =>
    split at hev
    · rename_i el els cx l h' m hk hex hl hh hm
      split at hev
      · rename_i hc
        simp only [Bool.and_eq_true, decide_eq_true_eq, List.all_eq_true] at hc
        obtain ⟨⟨⟨⟨h1, h2⟩, h3⟩, h4⟩, h5⟩ := hc
        cases hev
        refine snd_slice hT hR ho (hop x (by simp [Op.operands])) (fun y hy => hop y (by subst hy; simp [Op.operands])) (fun y hy => hop y (by subst hy; simp [Op.operands])) (fun y hy => hop y (by subst hy; simp [Op.operands])) hk h1 hex hl hh hm h2 h3 (fun n hn => ?_) h5
        subst hn
        have : h' = some n := by simpa [capB] using h4
        subst this
        exact ⟨rfl, rfl⟩
      · cases hev
    · rename_i el i n q hk hex hl hh hm
      split at hev
      · rename_i sz els hi'
        split at hev
        · rename_i hc
          simp only [Bool.and_eq_true, decide_eq_true_eq] at hc
          obtain ⟨⟨h1, rfl⟩, h2⟩ := hc
          cases hev
          exact snd_slice_own hT hR ho (hop x (by simp [Op.operands])) (fun y hy => hop y (by subst hy; simp [Op.operands])) (fun y hy => hop y (by subst hy; simp [Op.operands])) (fun y hy => hop y (by subst hy; simp [Op.operands])) hk h1 hex ((hH i (by simp)).trans hi') hl hh hm h2
        · cases hev
      · cases hev
    · rename_i el els sp q hk hex hl hh hm
      split at hev
      · rename_i hc
        simp only [Bool.and_eq_true, decide_eq_true_eq, List.all_eq_true] at hc
        obtain ⟨⟨h1, h2⟩, h3⟩ := hc
        cases hev
        exact snd_slice_lent hT hR ho (hop x (by simp [Op.operands])) (fun y hy => hop y (by subst hy; simp [Op.operands])) (fun y hy => hop y (by subst hy; simp [Op.operands])) (fun y hy => hop y (by subst hy; simp [Op.operands])) hk h1 hex hl hh hm h2 h3
      · cases hev
    · cases hev
  case lookup t m ix ok =>
    split at hev
    · rename_i kt el i k a hk hem hei
      split at hev
      · rename_i kk es hkt hi
        split at hev
        · rename_i hc
          simp only [Bool.and_eq_true] at hc
          cases hev
          exact snd_lookup hT hR ho (hop m (by simp [Op.operands])) (hop ix (by simp [Op.operands])) hk hkt hc.2 hem hei ((hH i (by simp)).trans hi) hc.1
        · cases hev
      · cases hev
    · rename_i kt el ks vs k a hk hem hei
      split at hev
      · rename_i kk hkt
        split at hev
        · rename_i hc
          simp only [Bool.and_eq_true, decide_eq_true_eq] at hc
          cases hev
          exact snd_lookupc hT hR ho (hop m (by simp [Op.operands])) (hop ix (by simp [Op.operands])) hk hkt hc.2 hem hei hc.1.1 hc.1.2
        · cases hev
      · cases hev
    · cases hev
  case makeMap t r =>
    cases r with
    | some x => cases hev
    | none =>
      dsimp only at hev
      split at hev
      · rename_i hc
        cases hev
        exact snd_makeMap hR ho ((hH nx (by simp)).trans (isFree_eq hc))
      · cases hev
  case mapUpdate t m ix x =>
    split at hev
    · rename_i kt el i k a hk hem hei
      split at hev
      · rename_i kk es hkt hi
        split at hev
        · rename_i hc
          split at hev
          · rename_i dd hf
            cases hev
            exact snd_update hT hR ho (hop m (by simp [Op.operands])) (hop ix (by simp [Op.operands])) (hop x (by simp [Op.operands])) hk hkt hem hei ((hH i (by simp)).trans hi) hc hf
          · rename_i hf
            split at hev
            · rename_i hl
              cases hev
              exact snd_insert hT hR (.inl ho) (hop m (by simp [Op.operands])) (hop ix (by simp [Op.operands])) (hop x (by simp [Op.operands])) hk hkt hem hei ((hH i (by simp)).trans hi) hc hf hl
            · cases hev
        · cases hev
      · cases hev
    · cases hev
  case makeSlice t x y =>
    split at hev
    · rename_i el k1 a k2 b hk hex hey
      split at hev
      · rename_i hc
        simp only [Bool.and_eq_true, decide_eq_true_eq] at hc
        obtain ⟨⟨⟨⟨⟨⟨⟨h1, hab⟩, h2⟩, h3⟩, h4⟩, h5⟩, h6⟩, h7⟩ := hc
        cases hev
        exact snd_make hT hR ho (hop x (by simp [Op.operands])) (hop y (by simp [Op.operands])) hex hey hab h2 h3 hk h4 h5 h6 h7 ((hH nx (by simp)).trans (isFree_eq h1))
      · cases hev
    · cases hev
  case insert t m ix x =>
    split at hev
    · rename_i kt el i k a hk hem hei
      split at hev
      · rename_i kk es hkt hi
        split at hev
        · rename_i hc
          simp only [Bool.and_eq_true, Option.isNone_iff_eq_none, decide_eq_true_eq] at hc
          cases hev
          exact snd_insert hT hR (.inr ho) (hop m (by simp [Op.operands])) (hop ix (by simp [Op.operands])) (hop x (by simp [Op.operands])) hk hkt hem hei ((hH i (by simp)).trans hi) hc.1.1 hc.1.2 hc.2
        · cases hev
      · cases hev
    · cases hev
  case extract x i =>
    split at hev
    · rename_i ds hex
      cases hd : ds[i]? with
      | none => rw [hd] at hev; cases hev
      | some d1 =>
        rw [hd] at hev
        simp only [Option.bind_some] at hev
        cases hev
        exact snd_extract hR ho (hop x (by simp [Op.operands])) hex hd
    · cases hev
  case typeAssert x xt at_ ok =>
    split at hev
    · cases hev
    · cases hev
    · rename_i t1 d1 hex h1 h2
      split at hev
      · rename_i hok
        subst hok
        cases hev
        refine snd_assert hT hR ho (hop x (by simp [Op.operands])) hex ?_ h2
        cases hh : (T at_).k <;> first | rfl | exact absurd hh h1
      · cases hev
    · cases hev
  case panic x => split at hev <;> cases hev
  case defer c =>
    split at hev
    · split at hev
      · split at hev <;> cases hev
      · cases hev
    · cases hev
  case call c =>
    split at hev
    · rename_i hcal
      split at hev
      · rename_i x t ha ht
        split at hev
        · rename_i el els cp hk hex
          cases hev
          exact snd_len hT hR ho hcal (array_one ha) (array_one ht) (hop x (by simp only [Op.operands, Call.operands]; rw [array_one ha]; simp)) hex hk
        · rename_i el i n hk hex
          cases hev
          exact snd_len_own hT hR ho hcal (array_one ha) (array_one ht) (hop x (by simp only [Op.operands, Call.operands]; rw [array_one ha]; simp)) hex hk
        · rename_i el els sp hk hex
          cases hev
          exact snd_len_lent hT hR ho hcal (array_one ha) (array_one ht) (hop x (by simp only [Op.operands, Call.operands]; rw [array_one ha]; simp)) hex hk
        · cases hev
      · cases hev
    · rename_i hcal
      split at hev
      · rename_i x t ha ht
        split at hev
        · rename_i el els hk hex
          cases hev
          exact snd_cap hT hR ho hcal (array_one ha) (array_one ht) (hop x (by simp only [Op.operands, Call.operands]; rw [array_one ha]; simp)) hex hk
        · cases hev
      · cases hev
    · rename_i hcal
      split at hev
      · rename_i x y t t2 ha ht
        split at hev
        · rename_i el el2 els cx els2 cy hk hk2 hex hey
          split at hev
          · rename_i hc
            simp only [Bool.and_eq_true, decide_eq_true_eq, List.all_eq_true] at hc
            obtain ⟨⟨⟨⟨⟨h1, h2⟩, h3⟩, h4⟩, h5⟩, h6⟩ := hc
            have hx := hop x (by simp only [Op.operands, Call.operands]; rw [array_two ha]; simp)
            have hy := hop y (by simp only [Op.operands, Call.operands]; rw [array_two ha]; simp)
            split at hev
            · cases hev
              exact snd_append hT hR ho hcal (array_two ha) (array_two ht) hx hy hex hey hk hk2 h2 h3 h4 h5 h6 ((hH nx (by simp)).trans (isFree_eq h1)) (.inl rfl)
            · rename_i i
              split at hev
              · rename_i htk
                cases hev
                exact snd_append hT hR ho hcal (array_two ha) (array_two ht) hx hy hex hey hk hk2 h2 h3 h4 h5 h6 ((hH nx (by simp)).trans (isFree_eq h1)) (.inr ⟨i, rfl, (hH i (by simp)).trans (isTok_eq htk)⟩)
              · cases hev
            · cases hev
          · cases hev
        · rename_i el el2 i n els2 cy hk hk2 hex hey
          split at hev
          · rename_i sz els hi
            split at hev
            · rename_i hc
              simp only [Bool.and_eq_true, decide_eq_true_eq, List.all_eq_true] at hc
              obtain ⟨⟨⟨⟨⟨⟨⟨⟨h1, h2⟩, h3⟩, h4⟩, h5⟩, rfl⟩, h6⟩, h7⟩, h8⟩ := hc
              have hx := hop x (by simp only [Op.operands, Call.operands]; rw [array_two ha]; simp)
              have hy := hop y (by simp only [Op.operands, Call.operands]; rw [array_two ha]; simp)
              cases hev
              exact snd_append_own hT hR ho hcal (array_two ha) (array_two ht) hx hy hex ((hH i (by simp)).trans hi) hey hk hk2 h2 h3 h4 h5 h6 h7 h8 ((hH nx (by simp)).trans (isFree_eq h1))
            · cases hev
          · cases hev
        · rename_i el ki ka a hk hk2 hex hey
          split at hev
          · rename_i hc
            simp only [Bool.and_eq_true, decide_eq_true_eq] at hc
            obtain ⟨⟨⟨⟨⟨⟨h1, h2⟩, h3⟩, h4⟩, h5⟩, h6⟩, h7⟩ := hc
            have hx := hop x (by simp only [Op.operands, Call.operands]; rw [array_two ha]; simp)
            have hy := hop y (by simp only [Op.operands, Call.operands]; rw [array_two ha]; simp)
            cases hev
            exact snd_append_zeros hT hR ho hcal (array_two ha) (array_two ht) hx hy hex hey hk hk2 h2 h3 h4 h5 h6 h7 ((hH nx (by simp)).trans (isFree_eq h1))
          · cases hev
        · cases hev
      · cases hev
    · rename_i hcal
      split at hev
      · rename_i x y ha
        split at hev
        · rename_i k a k' b hex hey
          split at hev
          · rename_i hkk
            subst hkk
            cases hev
            have hx := hop x (by simp only [Op.operands, Call.operands]; rw [array_two ha]; simp)
            have hy := hop y (by simp only [Op.operands, Call.operands]; rw [array_two ha]; simp)
            rw [hex, Rp] at hx
            rw [hey, Rp] at hy
            refine StepV.same hR (u := .int k (max a b)) ?_ (by rw [Rp]; refine ⟨rfl, ?_⟩; omega)
            simp [execOp, ho, hcal, array_two ha, resolve, invoke, builtin, hx.1, hy.1, Lib.run_max_ints]
          · cases hev
        · cases hev
      · cases hev
    · rename_i hcal
      split at hev
      · rename_i x y ha
        split at hev
        · rename_i k a k' b hex hey
          split at hev
          · rename_i hkk
            subst hkk
            cases hev
            have hx := hop x (by simp only [Op.operands, Call.operands]; rw [array_two ha]; simp)
            have hy := hop y (by simp only [Op.operands, Call.operands]; rw [array_two ha]; simp)
            rw [hex, Rp] at hx
            rw [hey, Rp] at hy
            refine StepV.same hR (u := .int k (min a b)) ?_ (by rw [Rp]; refine ⟨rfl, ?_⟩; omega)
            simp [execOp, ho, hcal, array_two ha, resolve, invoke, builtin, hx.1, hy.1, Lib.run_min_ints]
          · cases hev
        · cases hev
      · cases hev
    · split at hev <;> cases hev
    · cases hev
  all_goals cases hev
end
end Go.Proofs.YtgloldepdhgfaaaDoor
namespace Go.Proofs.YtgloldepdhgfaaaDoor
set_option linter.unusedSimpArgs false
set_option linter.unusedVariables false
open Go.RowKit
inductive Out where
  | ret (d : D)
  | pan (d : D)
def OutM (ρ : Rho) (w : World) : Out → Ending → Prop
  | .ret d, e => ∃ u, e = .returned u ∧ Rp ρ w d u
  | .pan d, e => ∃ u, e = .panicked (thrown u) ∧ Rp ρ w d u
/-- a call does so -/
def CallOK (P : Program) (G : Nat → Option D) (f : FuncId) (args : List D) (h : Nat → HO) (out : Out) (rd : List Nat) (up : List (Nat × HO)) : Prop :=
  ∀ (ρ : Rho) (w : World) (H : Nat → HO) (vs : List Value), Rel G ρ w H → (∀ r, r ∈ rd → H r = h r) → RpL ρ w args vs → (callFunc f vs.toArray).run P w = .ok (.enter f vs.toArray) w ∧
    Calls P f vs.toArray w fun e w' => ∃ ρ', Rel G ρ' w' (updL H up) ∧ Ex ρ w H ρ' w' (updL H up) ∧ OutM ρ' w' out e
section
variable {P : Program} {G : Nat → Option D} {ρ : Rho} {w : World} {H h : Nat → HO} {T : TypeId → Ty} {v : Operand → Value} {e : Operand → D} {o : Oper} {nx : Nat}
theorem evOp_call {f : FuncId} {args : List D} (hev : evOp T e h nx o = some (.call f args)) (hop : ∀ x, x ∈ o.op.operands.toList → Rp ρ w (e x) (v x)) :
    ∃ vs : List Value, RpL ρ w args vs ∧ ∀ w, (execOp v o).run P w = (callFunc f vs.toArray).run P w := by
  unfold evOp at hev
  cases ho : o.op <;> rw [ho] at hev hop <;> try dsimp only at hev
  case call c =>
    split at hev
    · repeat' (first | (cases hev; done) | split at hev)
    · repeat' (first | (cases hev; done) | split at hev)
    · repeat' (first | (cases hev; done) | split at hev)
    · repeat' (first | (cases hev; done) | split at hev)
    · repeat' (first | (cases hev; done) | split at hev)
    · rename_i fo hcal
      split at hev
      · rename_i g a b hf
        cases hev
        have hfo := hop fo (by simp [Op.operands, Call.operands, hcal])
        rw [hf, Rp] at hfo
        obtain ⟨us, vs, hv, h1, h2⟩ := hfo
        have hargs : RpL ρ w (c.args.toList.map e) (c.args.toList.map v) := RpL_map fun x hx => hop x (by simp [Op.operands, Call.operands]; right; simpa using hx)
        refine ⟨us ++ c.args.toList.map v ++ vs, (h1.append hargs).append h2, fun w => ?_⟩
        simp only [execOp, ho, resolve, hcal, hv, Deferred.ofValue, Sem.run_bind, Sem.run_pure, Result.andThen_ok, invoke]
        congr 2
        apply Array.ext'
        simp
      · cases hev
    · cases hev
  case makeMap t r => cases r <;> dsimp only at hev <;> (repeat' (first | (cases hev; done) | split at hev))
  all_goals (repeat' (first | (cases hev; done) | (simp only [Option.bind_eq_some_iff] at hev; obtain ⟨_, _, hev⟩ := hev) | split at hev))
theorem evOp_pan {d : D} (hev : evOp T e h nx o = some (.pan d)) (hop : ∀ x, x ∈ o.op.operands.toList → Rp ρ w (e x) (v x)) : ∃ u, Rp ρ w d u ∧ (execOp v o).run P w = .halt (.panic u) w := by
  unfold evOp at hev
  cases ho : o.op <;> rw [ho] at hev hop <;> try dsimp only at hev
  case panic x =>
    split at hev
    · rename_i t d' hx
      cases hev
      have := hop x (by simp [Op.operands])
      rw [hx] at this
      refine ⟨v x, this, ?_⟩
      rw [Rp] at this
      obtain ⟨u, hv, -⟩ := this
      simp [execOp, ho, hv, Instr.panic, goPanic]
    · cases hev
  case makeMap t r => cases r <;> dsimp only at hev <;> (repeat' (first | (cases hev; done) | split at hev))
  all_goals (repeat' (first | (cases hev; done) | (simp only [Option.bind_eq_some_iff] at hev; obtain ⟨_, _, hev⟩ := hev) | split at hev))
theorem evOp_dfr {f : FuncId} {cap : List D} (hev : evOp T e h nx o = some (.dfr f cap)) (hop : ∀ x, x ∈ o.op.operands.toList → Rp ρ w (e x) (v x)) :
    ∃ vs : List Value, RpL ρ w cap vs ∧ (execOp v o).run P w = .ok (.defer { target := .fn (.func f) vs.toArray, args := #[] }) w := by
  unfold evOp at hev
  cases ho : o.op <;> rw [ho] at hev hop <;> try dsimp only at hev
  case defer c =>
    split at hev
    · rename_i fo hcal
      split at hev
      · rename_i g b hf
        split at hev
        · rename_i hemp
          cases hev
          have hfo := hop fo (by simp [Op.operands, Call.operands, hcal])
          rw [hf, Rp] at hfo
          obtain ⟨us, vs, hv, h1, h2⟩ := hfo
          rw [RpL_nil] at h1
          subst h1
          refine ⟨vs, h2, ?_⟩
          have hnil : c.args = #[] := by
            apply Array.ext'
            simpa using hemp
          simp [execOp, ho, resolve, hcal, hv, Deferred.ofValue, hnil]
        · cases hev
      · cases hev
    · cases hev
  case makeMap t r => cases r <;> dsimp only at hev <;> (repeat' (first | (cases hev; done) | split at hev))
  all_goals (repeat' (first | (cases hev; done) | (simp only [Option.bind_eq_some_iff] at hev; obtain ⟨_, _, hev⟩ := hev) | split at hev))
end
/-- is it to come up? -/
def wantD (ops : Array Oper) (tm : Nat → D) (o : Oper) : Option Bool :=
  match o.guard with
  | none => some true
  | some (j, want) => match dstOf ops j with
    | none => none
    | some t => match tm t with
      | .bool b => some (b == want)
      | .tuple [] => some false
      | _ => none
theorem wantD_spec {ops : Array Oper} {tm : Nat → D} {o : Oper} {b : Bool} (h : wantD ops tm o = some b) {ρ : Rho} {w : World} {a : Act} (hu : ∀ t, t ∈ Oper.looksAt ops o → Rp ρ w (tm t) (a.tmps.getD t undef)) : Region.wanted o (yielded ops a.tmps) = b := by
  unfold wantD at h
  unfold Region.wanted
  cases hg : o.guard with
  | none => rw [hg] at h; cases h; rfl
  | some gw =>
    obtain ⟨j, want⟩ := gw
    rw [hg] at h
    dsimp only at h ⊢
    cases hd : dstOf ops j with
    | none => rw [hd] at h; cases h
    | some t =>
      rw [hd] at h
      dsimp only at h
      have hdd : (ops[j]?).bind (·.dst) = some t := hd
      have ht := hu t (by unfold Oper.looksAt; rw [hg]; simp [hdd])
      unfold yielded
      rw [hdd]
      simp only [Option.bind_some]
      split at h
      · rename_i b' hb
        cases h
        rw [hb, Rp] at ht
        have : a.tmps[t]? = some (.bool b') := by
          rw [Array.getD_eq_getD_getElem?] at ht
          cases hq : a.tmps[t]? with
          | none => rw [hq] at ht; simp [undef] at ht
          | some x => rw [hq] at ht; simpa using ht
        rw [this]
        cases b' <;> cases want <;> rfl
      · rename_i hb
        cases h
        rw [hb, Rp] at ht
        obtain ⟨us, ht, hus⟩ := ht
        rw [RpL_nil] at hus
        subst hus
        rw [Array.getD_eq_getD_getElem?] at ht
        cases hq : a.tmps[t]? with
        | none => simp
        | some x => rw [hq] at ht; simp at ht; subst ht; simp
      · cases h
/-- temporaries, objects, as lists -/
def tmOf (tl : List D) : Nat → D := fun t => tl.getD t .junk
def hOf (hl : List HO) : Nat → HO := fun i => hl.getD i .free
def putS (tl : List D) : Option Tmp → D → List D
  | none, _ => tl
  | some t, d => tl.set t d
def setS (hl : List HO) (n : Nat) (x : HO) : List HO := if n < hl.length then hl.set n x else hl ++ List.replicate (n - hl.length) .free ++ [x]
def updS (hl : List HO) : List (Nat × HO) → List HO
  | [] => hl
  | (n, x) :: r => updS (setS hl n x) r
theorem hOf_set (hl : List HO) (n : Nat) (x : HO) : hOf (setS hl n x) = setH (hOf hl) n x := by
  funext i
  unfold hOf setS setH
  split
  · rename_i h
    by_cases hi : i = n
    · subst hi; simp [List.getD, h]
    · simp [List.getD, hi, List.getElem?_set_ne (Ne.symm hi)]
  · rename_i h
    by_cases hi : i = n
    · subst hi
      have : i - hl.length + (hl.length - i) = i - hl.length := by omega
      simp only [List.getD, if_true]
      rw [List.getElem?_append_right (by simp; omega)]
      have e : i - (hl ++ List.replicate (i - hl.length) HO.free).length = 0 := by simp; omega
      rw [e]; rfl
    · simp only [hi, if_false, List.getD]
      by_cases h1 : i < hl.length
      · rw [List.append_assoc, List.getElem?_append_left h1]
      · rw [List.getElem?_eq_none (Nat.le_of_not_lt h1)]
        by_cases h2 : i < n
        · rw [List.getElem?_append_left (by simp; omega), List.getElem?_append_right (by omega), List.getElem?_replicate]
          have : i - hl.length < n - hl.length := by omega
          simp [this]
        · rw [List.getElem?_eq_none (by simp; omega)]
theorem hOf_upd : ∀ (up : List (Nat × HO)) (hl : List HO), hOf (updS hl up) = updL (hOf hl) up
  | [], _ => rfl
  | (n, x) :: r, hl => by rw [updS, updL, hOf_upd r, hOf_set]
theorem putS_length (tl : List D) (dst : Option Tmp) (d : D) : (putS tl dst d).length = tl.length := by cases dst <;> simp [putS]
/-- one operation's part -/
def wpOne (P : Program) (ops : Array Oper) (Q : Exit → Act → World → Prop) (o : Oper) (K : Act → World → Prop) (a : Act) (w : World) : Prop :=
  if Region.wanted o (yielded ops a.tmps) then o.wp P a w K Q ∨ (o.asks P a w ∧ LetsOut Q) else K (a.put o.dst undef) w
theorem wpOp_one {P : Program} {ops : Array Oper} {Q : Exit → Act → World → Prop} {i : Nat} {o : Oper} (ho : ops[i]? = some o) {K : Act → World → Prop} {a : Act} {w : World} (h : wpOne P ops Q o K a w) : wpOp P ops Q i K a w := by
  unfold wpOp
  rw [ho]
  exact h
section
variable {P : Program} {G : Nat → Option D} {Q : Exit → Act → World → Prop} {ops : Array Oper} {T : TypeId → Ty} {o : Oper} {tm : Nat → D} {h : Nat → HO} {nx : Nat}
theorem opD_rp {ρ : Rho} {w : World} {H : Nat → HO} {a : Act} (hR : Rel G ρ w H) (hu : ∀ t, t ∈ Oper.looksAt ops o → Rp ρ w (tm t) (a.tmps.getD t undef)) (x : Operand) (hx : x ∈ o.op.operands.toList) : Rp ρ w (opD G tm x) (a.eval x) := by
  cases x with
  | tmp t =>
    refine hu t ?_
    unfold Oper.looksAt
    exact List.mem_append_left _ (List.mem_filterMap.2 ⟨.tmp t, hx, rfl⟩)
  | const v => exact Rp_ofV ρ w v
  | global g =>
    show Rp ρ w (match G g with | some d => .ref d | none => .junk) _
    cases hg : G g with
    | none => rw [Rp]; trivial
    | some d => exact Rp_ref.2 ⟨g, 0, rfl, hR.glob g d hg⟩
  | func f => show Rp ρ w (.fn (.func f) [] []) _; rw [Rp]; exact ⟨[], [], rfl, RpL_nil.2 rfl, RpL_nil.2 rfl⟩
theorem one_val (hT : ∀ t, TyOK P t (T t)) (hw : wantD ops tm o = some true) {d : D} {rd : List Nat} {up : List (Nat × HO)} (hev : evOp T (opD G tm) h nx o = some (.val d rd up)) {ρ : Rho} {w : World} {a : Act} {H : Nat → HO} (hR : Rel G ρ w H) (hH : ∀ r, r ∈ rd → H r = h r)
    (hu : ∀ t, t ∈ Oper.looksAt ops o → Rp ρ w (tm t) (a.tmps.getD t undef)) {K : Act → World → Prop} (hK : ∀ u ρ' w', Rp ρ' w' d u → Rel G ρ' w' (updL H up) → Ex ρ w H ρ' w' (updL H up) → K (a.put o.dst u) w') : wpOne P ops Q o K a w := by
  unfold wpOne
  rw [wantD_spec hw hu, if_pos rfl]
  obtain ⟨n, u, ρ', w', h1, h2, h3, h4, h5⟩ := evOp_val (fun _ => rfl) hT hev hR hH (fun x hx => opD_rp hR hu x hx)
  left
  unfold Oper.wp
  rw [h1]
  rcases h2 with rfl | ⟨rfl, rfl⟩
  · exact hK u ρ' w' h3 h4 h5
  · exact hK undef ρ' w' h3 h4 h5
theorem one_bit (hT : ∀ t, TyOK P t (T t)) (hw : wantD ops tm o = some true) (hev : evOp T (opD G tm) h nx o = some .bit) {ρ : Rho} {w : World} {a : Act} {H : Nat → HO} (hR : Rel G ρ w H)
    (hu : ∀ t, t ∈ Oper.looksAt ops o → Rp ρ w (tm t) (a.tmps.getD t undef)) {K : Act → World → Prop} (hK : ∀ b u ρ' w', Rp ρ' w' (.bool b) u → Rel G ρ' w' (updL H []) → Ex ρ w H ρ' w' (updL H []) → K (a.put o.dst u) w') : wpOne P ops Q o K a w := by
  unfold wpOne
  rw [wantD_spec hw hu, if_pos rfl]
  obtain ⟨b, n, u, ρ', w', h1, h2, h3, h4, h5⟩ := evOp_bit (fun _ => rfl) hT hev hR (fun x hx => opD_rp hR hu x hx)
  left
  unfold Oper.wp
  rw [h1]
  rcases h2 with rfl | ⟨rfl, rfl⟩
  · exact hK b u ρ' w' h3 h4 h5
  · exact hK b undef ρ' w' h3 h4 h5
theorem one_off (hw : wantD ops tm o = some false) {ρ : Rho} {w : World} {a : Act} {H : Nat → HO} (hR : Rel G ρ w H) (hu : ∀ t, t ∈ Oper.looksAt ops o → Rp ρ w (tm t) (a.tmps.getD t undef)) {K : Act → World → Prop}
    (hK : ∀ u ρ' w', Rp ρ' w' (.tuple []) u → Rel G ρ' w' (updL H []) → Ex ρ w H ρ' w' (updL H []) → K (a.put o.dst u) w') : wpOne P ops Q o K a w := by
  unfold wpOne
  rw [wantD_spec hw hu, if_neg (by simp)]
  exact hK undef ρ w (by rw [Rp]; exact ⟨[], rfl, RpL_nil.2 rfl⟩) hR (Ex.refl _ _ _)
theorem one_call (hw : wantD ops tm o = some true) {f : FuncId} {args : List D} {d : D} {rd : List Nat} {up : List (Nat × HO)} (hev : evOp T (opD G tm) h nx o = some (.call f args)) (hc : CallOK P G f args h (.ret d) rd up) {ρ : Rho} {w : World} {a : Act} {H : Nat → HO} (hR : Rel G ρ w H)
    (hH : ∀ r, r ∈ rd → H r = h r) (hu : ∀ t, t ∈ Oper.looksAt ops o → Rp ρ w (tm t) (a.tmps.getD t undef)) {K : Act → World → Prop} (hK : ∀ u ρ' w', Rp ρ' w' d u → Rel G ρ' w' (updL H up) → Ex ρ w H ρ' w' (updL H up) → K (a.put o.dst u) w') : wpOne P ops Q o K a w := by
  unfold wpOne
  rw [wantD_spec hw hu, if_pos rfl]
  obtain ⟨vs, h1, h2⟩ := evOp_call (P := P) (ρ := ρ) (w := w) (v := a.eval) hev (fun x hx => opD_rp hR hu x hx)
  obtain ⟨h3, h4⟩ := hc ρ w H vs hR hH h1
  left
  unfold Oper.wp
  rw [h2 w, h3, Oper.upon_enter]
  refine h4.mono ?_
  rintro e w' ⟨ρ', g1, g2, u, rfl, g3⟩
  exact hK u ρ' w' g3 g1 g2
theorem one_call_pan (hw : wantD ops tm o = some true) {f : FuncId} {args : List D} {d : D} {rd : List Nat} {up : List (Nat × HO)} (hev : evOp T (opD G tm) h nx o = some (.call f args)) (hc : CallOK P G f args h (.pan d) rd up) {ρ : Rho} {w : World} {a : Act} {H : Nat → HO} (hR : Rel G ρ w H)
    (hH : ∀ r, r ∈ rd → H r = h r) (hu : ∀ t, t ∈ Oper.looksAt ops o → Rp ρ w (tm t) (a.tmps.getD t undef)) {K : Act → World → Prop} (hK : ∀ u ρ' w', Rp ρ' w' d u → Rel G ρ' w' (updL H up) → Ex ρ w H ρ' w' (updL H up) → Q (.panic (thrown u)) a w') : wpOne P ops Q o K a w := by
  unfold wpOne
  rw [wantD_spec hw hu, if_pos rfl]
  obtain ⟨vs, h1, h2⟩ := evOp_call (P := P) (ρ := ρ) (w := w) (v := a.eval) hev (fun x hx => opD_rp hR hu x hx)
  obtain ⟨h3, h4⟩ := hc ρ w H vs hR hH h1
  left
  unfold Oper.wp
  rw [h2 w, h3, Oper.upon_enter]
  refine h4.mono ?_
  rintro e w' ⟨ρ', g1, g2, u, rfl, g3⟩
  exact hK u ρ' w' g3 g1 g2
theorem one_pan (hw : wantD ops tm o = some true) {d : D} (hev : evOp T (opD G tm) h nx o = some (.pan d)) {ρ : Rho} {w : World} {a : Act} {H : Nat → HO} (hR : Rel G ρ w H)
    (hu : ∀ t, t ∈ Oper.looksAt ops o → Rp ρ w (tm t) (a.tmps.getD t undef)) {K : Act → World → Prop} (hK : ∀ u ρ' w', Rp ρ' w' d u → Rel G ρ' w' (updL H []) → Ex ρ w H ρ' w' (updL H []) → Q (.panic (thrown u)) a w') : wpOne P ops Q o K a w := by
  unfold wpOne
  rw [wantD_spec hw hu, if_pos rfl]
  obtain ⟨u, h1, h2⟩ := evOp_pan (P := P) (ρ := ρ) (w := w) (v := a.eval) hev (fun x hx => opD_rp hR hu x hx)
  left
  unfold Oper.wp
  rw [h2, Oper.upon_panic]
  exact hK u ρ w h1 hR (Ex.refl _ _ _)
end
end Go.Proofs.YtgloldepdhgfaaaDoor
namespace Go.Proofs.YtgloldepdhgfaaaDoor
set_option linter.unusedSimpArgs false
set_option linter.unusedVariables false
open Go.RowKit
/-- how a piece of code ends -/
inductive DX where
  | nrm | ret
  | ext (id : Nat)
  | pan (d : D)
def DXM (ρ : Rho) (w : World) : DX → Exit → Prop
  | .nrm, e => e = .normal
  | .ret, e => e = .ret
  | .ext i, e => e = .exit i
  | .pan d, e => ∃ u, e = .panic (thrown u) ∧ Rp ρ w d u
abbrev Df := List (FuncId × List D)
abbrev DQ := DX → List D → List HO → Df → Prop
section
variable (P : Program) (G : Nat → Option D) (T : TypeId → Ty) (ops : Array Oper)
/-- a call does one of such things -/
def CallR (f : FuncId) (args : List D) (H : Nat → HO) (Φ : Out → List (Nat × HO) → Prop) : Prop :=
  ∀ (ρ : Rho) (w : World) (vs : List Value), Rel G ρ w H → RpL ρ w args vs → (callFunc f vs.toArray).run P w = .ok (.enter f vs.toArray) w ∧
    Calls P f vs.toArray w fun e w' => ∃ ρ' out up, Φ out up ∧ Rel G ρ' w' (updL H up) ∧ Ex ρ w H ρ' w' (updL H up) ∧ OutM ρ' w' out e
/-- calls, as a goal -/
def CallX (f : FuncId) (args : List D) (hl : List HO) (K : Out → List HO → Prop) : Prop := ∃ Φ : Out → List (Nat × HO) → Prop, CallR P G f args (hOf hl) Φ ∧ ∀ out up, Φ out up → K out (updS hl up)
/-- a statement in the text's order -/
def wpS : List Oper → List D → List HO → Df → (List D → List HO → Df → Prop) → (D → List D → List HO → Df → Prop) → Prop
  | [], tl, hl, df, K, _ => K tl hl df
  | o :: r, tl, hl, df, K, QP => match wantD ops (tmOf tl) o with
    | none => False
    | some g => if g then match evOp T (opD G (tmOf tl)) (hOf hl) hl.length o with
        | some (.val d _ up) => wpS r (putS tl o.dst d) (updS hl up) df K QP
        | some (.call f args) => CallX P G f args hl fun out hl' => match out with
          | .ret d => wpS r (putS tl o.dst d) hl' df K QP
          | .pan d => QP d tl hl' df
        | some (.pan d) => QP d tl hl df
        | some (.dfr f cap) => wpS r (putS tl o.dst (.tuple [])) hl ((f, cap) :: df) K QP
        | some .bit => ∀ b : Bool, wpS r (putS tl o.dst (.bool b)) hl df K QP
        | none => False
      else wpS r (putS tl o.dst (.tuple [])) hl df K QP
/-- behind a call -/
def wpAft (r : List Oper) (tl : List D) (dst : Option Tmp) (df : Df) (K : List D → List HO → Df → Prop) (QP : D → List D → List HO → Df → Prop) (out : Out) (hl : List HO) : Prop :=
  match out with
  | .ret d => wpS P G T ops r (putS tl dst d) hl df K QP
  | .pan d => QP d tl hl df
theorem wpAft_ret (r : List Oper) (tl : List D) (dst : Option Tmp) (df : Df) (K : List D → List HO → Df → Prop) (QP : D → List D → List HO → Df → Prop) (d : D) (hl : List HO) : wpAft P G T ops r tl dst df K QP (.ret d) hl = wpS P G T ops r (putS tl dst d) hl df K QP := rfl
theorem wpAft_pan (r : List Oper) (tl : List D) (dst : Option Tmp) (df : Df) (K : List D → List HO → Df → Prop) (QP : D → List D → List HO → Df → Prop) (d : D) (hl : List HO) : wpAft P G T ops r tl dst df K QP (.pan d) hl = QP d tl hl df := rfl
theorem wpS_nil (tl : List D) (hl : List HO) (df : Df) (K : List D → List HO → Df → Prop) (QP : D → List D → List HO → Df → Prop) : wpS P G T ops [] tl hl df K QP = K tl hl df := rfl
theorem wpS_cons (o : Oper) (r : List Oper) (tl : List D) (hl : List HO) (df : Df) (K : List D → List HO → Df → Prop) (QP : D → List D → List HO → Df → Prop) : wpS P G T ops (o :: r) tl hl df K QP = match wantD ops (tmOf tl) o with
    | none => False
    | some g => if g then match evOp T (opD G (tmOf tl)) (hOf hl) hl.length o with
        | some (.val d _ up) => wpS P G T ops r (putS tl o.dst d) (updS hl up) df K QP
        | some (.call f args) => CallX P G f args hl (wpAft P G T ops r tl o.dst df K QP)
        | some (.pan d) => QP d tl hl df
        | some (.dfr f cap) => wpS P G T ops r (putS tl o.dst (.tuple [])) hl ((f, cap) :: df) K QP
        | some .bit => ∀ b : Bool, wpS P G T ops r (putS tl o.dst (.bool b)) hl df K QP
        | none => False
      else wpS P G T ops r (putS tl o.dst (.tuple [])) hl df K QP := rfl
end
/-- what comes behind a call that ended so -/
def aftE (Q : Exit → Act → World → Prop) (dst : Option Tmp) (K : Act → World → Prop) (a : Act) (w : World) : Ending → Prop
  | .returned u => K (a.put dst u) w
  | .panicked ch => Q (.panic ch) a w
  | _ => False
theorem one_callR {P : Program} {G : Nat → Option D} {Q : Exit → Act → World → Prop} {ops : Array Oper} {T : TypeId → Ty} {o : Oper} {tm : Nat → D} {h : Nat → HO} {nx : Nat} (hw : wantD ops tm o = some true) {f : FuncId} {args : List D} {Φ : Out → List (Nat × HO) → Prop}
    (hev : evOp T (opD G tm) h nx o = some (.call f args)) (hc : CallR P G f args h Φ) {ρ : Rho} {w : World} {a : Act} (hR : Rel G ρ w h) (hu : ∀ t, t ∈ Oper.looksAt ops o → Rp ρ w (tm t) (a.tmps.getD t undef)) {K : Act → World → Prop}
    (hK : ∀ out e up ρ' w', Φ out up → Rel G ρ' w' (updL h up) → Ex ρ w h ρ' w' (updL h up) → OutM ρ' w' out e → aftE Q o.dst K a w' e) : wpOne P ops Q o K a w := by
  unfold wpOne
  rw [wantD_spec hw hu, if_pos rfl]
  obtain ⟨vs, h1, h2⟩ := evOp_call (P := P) (ρ := ρ) (w := w) (v := a.eval) hev (fun x hx => opD_rp hR hu x hx)
  obtain ⟨h3, h4⟩ := hc ρ w vs hR h1
  left
  unfold Oper.wp
  rw [h2 w, h3, Oper.upon_enter]
  refine h4.mono ?_
  rintro e w' ⟨ρ', out, up, hphi, g1, g2, g3⟩
  have := hK out e up ρ' w' hphi g1 g2 g3
  cases out with
  | ret d => obtain ⟨u, rfl, -⟩ := g3; exact this
  | pan d => obtain ⟨u, rfl, -⟩ := g3; exact this
def LiftQ (G : Nat → Option D) (ρ0 : Rho) (w0 : World) (H0 : Nat → HO) (nt : Nat) (Q : DQ) : Exit → Act → World → Prop := fun e a w =>
  ∃ x tl hl df ρ, Q x tl hl df ∧ DXM ρ w x e ∧ tl.length = nt ∧ InSt G ρ0 w0 H0 nt ρ w a (tmOf tl) (hOf hl) df
/-- code, on data -/
def wpD (P : Program) (G : Nat → Option D) (M : Nat) (c : Code) (Q : DQ) (tl : List D) (hl : List HO) (df : Df) : Prop :=
  ∀ (ρ0 : Rho) (w0 : World) (H0 : Nat → HO) (ρ : Rho) (w : World) (a : Act), (∀ i, M ≤ i → ρ0.nm i = none) → InSt G ρ0 w0 H0 tl.length ρ w a (tmOf tl) (hOf hl) df → c.wp P (LiftQ G ρ0 w0 H0 tl.length Q) a w
section
variable {P : Program} {G : Nat → Option D} {T : TypeId → Ty} {ops : Array Oper} {M : Nat}
theorem tmOf_put {tl : List D} {dst : Option Tmp} {d : D} {ρ ρ' : Rho} {w w' : World} {a : Act} {u : Value} (hs : a.tmps.size = tl.length) (g : Grow ρ w ρ' w') (h : ∀ k, Rp ρ w (tmOf tl k) (a.tmps.getD k undef)) (hu : Rp ρ' w' d u) :
    ∀ k, Rp ρ' w' (tmOf (putS tl dst d) k) ((a.put dst u).tmps.getD k undef) := fun k => by
  cases dst with
  | none => exact Rp.grow g _ _ (h k)
  | some t =>
    by_cases hk : t = k
    · subst hk
      by_cases hlt : t < tl.length
      · rw [Act.put_same (by rw [hs]; exact hlt)]
        have : tmOf (putS tl (some t) d) t = d := by simp [tmOf, putS, hlt]
        rw [this]; exact hu
      · have : tmOf (putS tl (some t) d) t = .junk := by
          have hn : (tl.set t d)[t]? = none := List.getElem?_eq_none (by rw [List.length_set]; exact Nat.le_of_not_lt hlt)
          show (tl.set t d).getD t .junk = .junk
          rw [List.getD_eq_getElem?_getD, hn]; rfl
        rw [this, Rp]; trivial
    · rw [Act.put_ne (fun e => hk (Option.some.inj e))]
      have : tmOf (putS tl (some t) d) k = tmOf tl k := by
        unfold tmOf putS
        rw [List.getD_eq_getElem?_getD, List.getD_eq_getElem?_getD, List.getElem?_set_ne hk]
      rw [this]; exact Rp.grow g _ _ (h k)
theorem InSt.put {ρ0 ρ ρ' : Rho} {w0 w w' : World} {H0 : Nat → HO} {tl : List D} {hl : List HO} {df : Df} {a : Act} {d : D} {u : Value} {up : List (Nat × HO)} (h : InSt G ρ0 w0 H0 tl.length ρ w a (tmOf tl) (hOf hl) df) (dst : Option Tmp)
    (hu : Rp ρ' w' d u) (hR : Rel G ρ' w' (updL (hOf hl) up)) (hE : Ex ρ w (hOf hl) ρ' w' (updL (hOf hl) up)) : InSt G ρ0 w0 H0 (putS tl dst d).length ρ' w' (a.put dst u) (tmOf (putS tl dst d)) (hOf (updS hl up)) df := by
  rw [hOf_upd]
  refine ⟨hR, h.ex.trans hE, tmOf_put h.size hE.grow h.tmp hu, by rw [Act.put_size, putS_length]; exact h.size, ?_⟩
  have := h.df.grow hE.grow
  cases dst <;> simpa [Act.put] using this
theorem wpS_sound (hT : ∀ t, TyOK P t (T t)) {ρ0 : Rho} {w0 : World} {H0 : Nat → HO} {Q : Exit → Act → World → Prop} : ∀ (l : List Oper) (tl : List D) (hl : List HO) (df : Df) (K : List D → List HO → Df → Prop) (QP : D → List D → List HO → Df → Prop), wpS P G T ops l tl hl df K QP →
    (∀ tl' hl' df' ρ w a, K tl' hl' df' → tl'.length = tl.length → InSt G ρ0 w0 H0 tl.length ρ w a (tmOf tl') (hOf hl') df' → Q .normal a w) →
    (∀ d u tl' hl' df' ρ w a, QP d tl' hl' df' → tl'.length = tl.length → InSt G ρ0 w0 H0 tl.length ρ w a (tmOf tl') (hOf hl') df' → Rp ρ w d u → Q (.panic (thrown u)) a w) →
    ∀ ρ w a, InSt G ρ0 w0 H0 tl.length ρ w a (tmOf tl) (hOf hl) df → wpList P ops Q l a w
  | [], tl, hl, df, K, QP, h, hK, hP, ρ, w, a, hst => hK tl hl df ρ w a h rfl hst
  | o :: r, tl, hl, df, K, QP, h, hK, hP, ρ, w, a, hst => by
    show wpOne P ops Q o (wpList P ops Q r) a w
    have hu : ∀ t, t ∈ Oper.looksAt ops o → Rp ρ w (tmOf tl t) (a.tmps.getD t undef) := fun t _ => hst.tmp t
    rw [wpS] at h
    cases hw : wantD ops (tmOf tl) o with
    | none => rw [hw] at h; exact h.elim
    | some g =>
      rw [hw] at h
      dsimp only at h
      cases g with
      | false =>
        simp only [Bool.false_eq_true, if_false] at h
        refine one_off hw hst.rel hu fun u ρ' w' h1 h2 h3 => ?_
        refine wpS_sound hT r _ _ _ K QP h (fun tl' hl' df' ρ w a k1 k2 k3 => ?_) (fun d u tl' hl' df' ρ w a k1 k2 k3 k4 => ?_) ρ' w' _ (hst.put o.dst h1 h2 h3)
        · rw [putS_length] at k2 k3; exact hK _ _ _ _ _ _ k1 k2 k3
        · rw [putS_length] at k2 k3; exact hP _ _ _ _ _ _ _ _ k1 k2 k3 k4
      | true =>
        simp only [if_true] at h
        cases hev : evOp T (opD G (tmOf tl)) (hOf hl) hl.length o with
        | none => rw [hev] at h; exact h.elim
        | some x =>
          rw [hev] at h
          cases x with
          | val d rd up =>
            dsimp only at h
            refine one_val hT hw hev hst.rel (fun _ _ => rfl) hu fun u ρ' w' h1 h2 h3 => ?_
            refine wpS_sound hT r _ _ _ K QP h (fun tl' hl' df' ρ w a k1 k2 k3 => ?_) (fun d u tl' hl' df' ρ w a k1 k2 k3 k4 => ?_) ρ' w' _ (hst.put o.dst h1 h2 h3)
            · rw [putS_length] at k2 k3; exact hK _ _ _ _ _ _ k1 k2 k3
            · rw [putS_length] at k2 k3; exact hP _ _ _ _ _ _ _ _ k1 k2 k3 k4
          | call f args =>
            dsimp only at h
            obtain ⟨Φ, hc, h0⟩ := h
            refine one_callR hw hev hc hst.rel hu fun out e up ρ' w' hphi h2 h3 hout => ?_
            have h := h0 out up hphi
            cases out with
            | ret d =>
              obtain ⟨u, rfl, h1⟩ := hout
              dsimp only at h ⊢
              refine wpS_sound hT r _ _ _ K QP h (fun tl' hl' df' ρ w a k1 k2 k3 => ?_) (fun d u tl' hl' df' ρ w a k1 k2 k3 k4 => ?_) ρ' w' _ (hst.put o.dst h1 h2 h3)
              · rw [putS_length] at k2 k3; exact hK _ _ _ _ _ _ k1 k2 k3
              · rw [putS_length] at k2 k3; exact hP _ _ _ _ _ _ _ _ k1 k2 k3 k4
            | pan d =>
              obtain ⟨u, rfl, h1⟩ := hout
              dsimp only at h ⊢
              refine hP d u tl (updS hl up) df ρ' w' a h rfl ?_ h1
              rw [hOf_upd]
              exact ⟨h2, hst.ex.trans h3, fun k => Rp.grow h3.grow _ _ (hst.tmp k), hst.size, hst.df.grow h3.grow⟩
          | bit =>
            dsimp only at h
            refine one_bit hT hw hev hst.rel hu fun b u ρ' w' h1 h2 h3 => ?_
            refine wpS_sound hT r _ _ _ K QP (h b) (fun tl' hl' df' ρ w a k1 k2 k3 => ?_) (fun d u tl' hl' df' ρ w a k1 k2 k3 k4 => ?_) ρ' w' _ (hst.put o.dst h1 h2 h3)
            · rw [putS_length] at k2 k3; exact hK _ _ _ _ _ _ k1 k2 k3
            · rw [putS_length] at k2 k3; exact hP _ _ _ _ _ _ _ _ k1 k2 k3 k4
          | pan d =>
            dsimp only at h
            refine one_pan hw hev hst.rel hu fun u ρ' w' h1 h2 h3 => ?_
            exact hP d u tl hl df ρ' w' a h rfl ⟨h2, hst.ex.trans h3, fun k => Rp.grow h3.grow _ _ (hst.tmp k), hst.size, hst.df.grow h3.grow⟩ h1
          | dfr f cap =>
            dsimp only at h
            unfold wpOne
            rw [wantD_spec hw hu, if_pos rfl]
            obtain ⟨vs, h1, h2⟩ := evOp_dfr (P := P) (ρ := ρ) (w := w) (v := a.eval) hev (fun x hx => opD_rp hst.rel hu x hx)
            left
            unfold Oper.wp
            rw [h2, Oper.upon_defer]
            have hst2 : InSt G ρ0 w0 H0 (putS tl o.dst (.tuple [])).length ρ w ({ a with defers := { target := .fn (.func f) vs.toArray, args := #[] } :: a.defers }.put o.dst undef) (tmOf (putS tl o.dst (.tuple []))) (hOf hl) ((f, cap) :: df) := by
              refine ⟨hst.rel, hst.ex, ?_, by rw [Act.put_size, putS_length]; exact hst.size, ?_⟩
              · exact tmOf_put (a := { a with defers := { target := .fn (.func f) vs.toArray, args := #[] } :: a.defers }) hst.size (Grow.refl _ _) hst.tmp (by rw [Rp]; exact ⟨[], rfl, RpL_nil.2 rfl⟩)
              · have : DfM ρ w ({ target := .fn (.func f) vs.toArray, args := #[] } :: a.defers) ((f, cap) :: df) := ⟨vs, a.defers, rfl, h1, hst.df⟩
                cases o.dst <;> simpa [Act.put] using this
            refine wpS_sound hT r _ _ _ K QP h (fun tl' hl' df' ρ w a k1 k2 k3 => ?_) (fun d u tl' hl' df' ρ w a k1 k2 k3 k4 => ?_) ρ w _ hst2
            · rw [putS_length] at k2 k3; exact hK _ _ _ _ _ _ k1 k2 k3
            · rw [putS_length] at k2 k3; exact hP _ _ _ _ _ _ _ _ k1 k2 k3 k4
variable {Q : DQ} {tl : List D} {hl : List HO} {df : Df}
theorem wpD_region (hT : ∀ t, TyOK P t (T t)) {id : Nat} (h : wpS P G T ops ops.toList tl hl df (fun tl hl df => Q .nrm tl hl df) (fun d tl hl df => Q (.pan d) tl hl df)) : wpD P G M (.region id ops false) Q tl hl df :=
  fun ρ0 w0 H0 ρ w a hbs hst => wp_region_list (wpS_sound hT _ _ _ _ _ _ h (fun tl' hl' df' ρ w a k1 k2 k3 => ⟨.nrm, tl', hl', df', ρ, k1, rfl, k2, k3⟩) (fun d u tl' hl' df' ρ w a k1 k2 k3 k4 => ⟨.pan d, tl', hl', df', ρ, k1, ⟨u, rfl, k4⟩, k2, k3⟩) ρ w a hst)
theorem wpD_skip (h : Q .nrm tl hl df) : wpD P G M .skip Q tl hl df := fun ρ0 w0 H0 ρ w a hbs hst => wp_skip ⟨.nrm, tl, hl, df, ρ, h, rfl, rfl, hst⟩
theorem wpD_ret (h : Q .ret tl hl df) : wpD P G M .ret Q tl hl df := fun ρ0 w0 H0 ρ w a hbs hst => wp_ret ⟨.ret, tl, hl, df, ρ, h, rfl, rfl, hst⟩
theorem wpD_exit {id : Nat} (h : Q (.ext id) tl hl df) : wpD P G M (.exit id) Q tl hl df := fun ρ0 w0 H0 ρ w a hbs hst => wp_exit ⟨.ext id, tl, hl, df, ρ, h, rfl, rfl, hst⟩
def thenD (next : List D → List HO → Df → Prop) (Q : DQ) : DQ
  | .nrm, tl, hl, df => next tl hl df
  | x, tl, hl, df => Q x tl hl df
theorem wpD_mono {c : Code} {Q' : DQ} (h : wpD P G M c Q tl hl df) (hq : ∀ x tl hl df, Q x tl hl df → Q' x tl hl df) : wpD P G M c Q' tl hl df := fun ρ0 w0 H0 ρ w a hbs hst =>
  wp_mono (h ρ0 w0 H0 ρ w a hbs hst) fun e a w ⟨x, tl, hl, df, ρ, h1, h2⟩ => ⟨x, tl, hl, df, ρ, hq _ _ _ _ h1, h2⟩
theorem wpD_seq {x y : Code} (h : wpD P G M x (thenD (fun tl hl df => wpD P G M y Q tl hl df) Q) tl hl df) : wpD P G M (.seq x y) Q tl hl df := fun ρ0 w0 H0 ρ w a hbs hst =>
  wp_seq (wp_mono (h ρ0 w0 H0 ρ w a hbs hst) fun e a w ⟨x, tl', hl', df', ρ', h1, h2, h3, h4⟩ => by
    cases x with
    | nrm =>
      cases h2
      have := h1 ρ0 w0 H0 ρ' w a hbs (h3 ▸ h4)
      rw [h3] at this
      exact this
    | ret => cases h2; exact ⟨.ret, tl', hl', df', ρ', h1, rfl, h3, h4⟩
    | ext i => cases h2; exact ⟨.ext i, tl', hl', df', ρ', h1, rfl, h3, h4⟩
    | pan d =>
      obtain ⟨u, rfl, hu⟩ := h2
      exact ⟨.pan d, tl', hl', df', ρ', h1, ⟨u, rfl, hu⟩, h3, h4⟩)
theorem wpD_seqk {x y : Code} (h : ∀ K : List D → List HO → Df → Prop, (∀ tl hl df, wpD P G M y Q tl hl df → K tl hl df) → wpD P G M x (thenD K Q) tl hl df) : wpD P G M (.seq x y) Q tl hl df := wpD_seq (h _ fun _ _ _ h => h)
theorem wpD_cond {c : Operand} {x y : Code} {b : Bool} (hc : opD G (tmOf tl) c = .bool b) (h : if b then wpD P G M x Q tl hl df else wpD P G M y Q tl hl df) : wpD P G M (.cond c x y) Q tl hl df := fun ρ0 w0 H0 ρ w a hbs hst => by
  have hb : a.eval c = .bool b := by
    have : Rp ρ w (opD G (tmOf tl) c) (a.eval c) := by
      cases c with
      | tmp t => exact hst.tmp t
      | const v => exact Rp_ofV ρ w v
      | global g => simp only [opD] at hc; split at hc <;> cases hc
      | func f => cases hc
    rw [hc, Rp] at this
    exact this
  refine wp_cond hb ?_
  cases b
  · exact h ρ0 w0 H0 ρ w a hbs hst
  · exact h ρ0 w0 H0 ρ w a hbs hst
theorem wpD_part {c : Operand} {x y : Code} {b : Bool} (hc : opD G (tmOf tl) c = .bool b) (ht : b = true → wpD P G M x Q tl hl df) (hf : b = false → wpD P G M y Q tl hl df) : wpD P G M (.cond c x y) Q tl hl df := by
  refine wpD_cond hc ?_
  cases b
  · exact hf rfl
  · exact ht rfl
def blockD (id : Nat) (Q : DQ) : DQ
  | .ext i, tl, hl, df => if i = id then Q .nrm tl hl df else Q (.ext i) tl hl df
  | x, tl, hl, df => Q x tl hl df
theorem wpD_block {id : Nat} {c : Code} (h : wpD P G M c (blockD id Q) tl hl df) : wpD P G M (.block id c) Q tl hl df := fun ρ0 w0 H0 ρ w a hbs hst =>
  wp_block (wp_mono (h ρ0 w0 H0 ρ w a hbs hst) fun e a w ⟨x, tl', hl', df', ρ', h1, h2, h3, h4⟩ => by
    cases x with
    | nrm => cases h2; exact ⟨.nrm, tl', hl', df', ρ', h1, rfl, h3, h4⟩
    | ret => cases h2; exact ⟨.ret, tl', hl', df', ρ', h1, rfl, h3, h4⟩
    | ext i =>
      cases h2
      show (if i = id then _ else _)
      simp only [blockD] at h1
      by_cases hi : i = id
      · rw [if_pos hi] at h1 ⊢; exact ⟨.nrm, tl', hl', df', ρ', h1, rfl, h3, h4⟩
      · rw [if_neg hi] at h1 ⊢; exact ⟨.ext i, tl', hl', df', ρ', h1, rfl, h3, h4⟩
    | pan d =>
      obtain ⟨u, rfl, hu⟩ := h2
      exact ⟨.pan d, tl', hl', df', ρ', h1, ⟨u, rfl, hu⟩, h3, h4⟩)
/-- a loop: I n: so much is left to do -/
theorem wpD_loop {c : Code} (I : Nat → List D → List HO → Df → Prop) (n : Nat) (h0 : I n tl hl df) (hr : ∀ n tl' hl' df', tl'.length = tl.length → I n tl' hl' df' → wpD P G M c (thenD (fun tl hl df => ∃ m, m < n ∧ I m tl hl df) Q) tl' hl' df') :
    wpD P G M (.loop c) Q tl hl df := fun ρ0 w0 H0 ρ w a hbs hst => by
  intro b k cs
  have key : ∀ n tl' hl' df' ρ w a, tl'.length = tl.length → I n tl' hl' df' → InSt G ρ0 w0 H0 tl.length ρ w a (tmOf tl') (hOf hl') df' →
      ∃ e a' w', LiftQ G ρ0 w0 H0 tl.length Q e a' w' ∧ Arrives P (lone (b.at a (.code c :: .inLoop c :: k)) cs w) b k cs e a' w' := by
    intro n
    induction n using Nat.strongRecOn with
    | _ n ih =>
      intro tl' hl' df' ρ w a hl1 hI hst
      obtain ⟨e, a₁, w₁, hq, harr⟩ := hr n tl' hl' df' hl1 hI ρ0 w0 H0 ρ w a hbs (hl1 ▸ hst) b (.inLoop c :: k) cs
      rw [hl1] at hq
      obtain ⟨x, tl2, hl2, df2, ρ2, h1, h2, h3, h4⟩ := hq
      cases x with
      | nrm =>
        cases h2
        obtain ⟨m, hm, hI2⟩ := h1
        obtain ⟨e₂, a₂, w₂, hq₂, harr₂⟩ := ih m hm tl2 hl2 df2 ρ2 w₁ a₁ h3 hI2 h4
        exact ⟨e₂, a₂, w₂, hq₂, .of_steps (Steps.trans harr (.one step_inLoop)) harr₂⟩
      | ret => cases h2; exact ⟨_, a₁, w₁, ⟨.ret, tl2, hl2, df2, ρ2, h1, rfl, h3, h4⟩, .pass (x := .inLoop c) rfl (fun _ _ => .inl (by simp)) harr⟩
      | ext i => cases h2; exact ⟨_, a₁, w₁, ⟨.ext i, tl2, hl2, df2, ρ2, h1, rfl, h3, h4⟩, .pass (x := .inLoop c) rfl (fun _ _ => .inl (by simp)) harr⟩
      | pan d =>
        obtain ⟨u, rfl, hu⟩ := h2
        exact ⟨_, a₁, w₁, ⟨.pan d, tl2, hl2, df2, ρ2, h1, ⟨u, rfl, hu⟩, h3, h4⟩, .pass (x := .inLoop c) rfl (fun _ _ => .inl (by simp)) harr⟩
  obtain ⟨e, a', w', hq, harr⟩ := key n tl hl df ρ w a rfl h0 hst
  exact ⟨e, a', w', hq, .of_steps (.one step_loop) harr⟩
/-- temporaries, some of them others -/
def putAll : List D → List Nat → List D → List D
  | tl, i :: r, y :: ys => putAll (tl.set i y) r ys
  | tl, _, _ => tl
theorem putAll_length : ∀ (W : List Nat) (tl ys : List D), (putAll tl W ys).length = tl.length
  | [], tl, ys => by cases ys <;> rfl
  | i :: r, tl, [] => rfl
  | i :: r, tl, y :: ys => by rw [putAll, putAll_length r]; simp
def getW (W : List Nat) (tl : List D) : List D := W.map fun i => tl.getD i .junk
/-- a loop that writes such temporaries: I n: so much is left to do; A: a round's end -/
theorem wpD_loopW {c : Code} (W : List Nat) (I : Nat → List D → List HO → Prop) (n0 : Nat) (h0 : tl = putAll tl W (getW W tl)) (hI : I n0 (getW W tl) hl)
    (hr : ∀ n ys hl' (A : List D → List HO → Df → Prop), (∀ m tl2 hl2, m < n → tl2 = putAll tl W (getW W tl2) → I m (getW W tl2) hl2 → A tl2 hl2 df) → I n ys hl' → wpD P G M c (thenD A Q) (putAll tl W ys) hl' df) : wpD P G M (.loop c) Q tl hl df := by
  refine wpD_loop (fun n tl2 hl2 df2 => ∃ ys2, df2 = df ∧ tl2 = putAll tl W ys2 ∧ I n ys2 hl2) n0 ⟨_, rfl, h0, hI⟩ ?_
  rintro n tl' hl' df' - ⟨ys, rfl, rfl, hIn⟩
  exact hr n ys hl' _ (fun m tl2 hl2 h1 h2 h3 => ⟨m, h1, _, rfl, h2, h3⟩) hIn
end
end Go.Proofs.YtgloldepdhgfaaaDoor
namespace Go.Proofs.YtgloldepdhgfaaaDoor
set_option linter.unusedSimpArgs false
set_option linter.unusedVariables false
open Go.RowKit
def Cp.free : Cp → Bool
  | .tok _ => false
  | _ => true
mutual
/-- does it name no object? -/
def D.pure : D → Bool
  | .box _ _ => false
  | .map _ => false
  | .own _ _ => false
  | .ebox _ _ _ _ => false
  | .fn _ a b => D.pures a && D.pures b
  | .iface _ d => D.pure d
  | .tuple ds => D.pures ds
  | .agg ds => D.pures ds
  | .slice els c => D.pures els && c.free
  | .ref d => D.pure d
  | .mapc ks vs => D.pures ks && D.pures vs
  | .lent els sp => D.pures els && D.pures sp
  | _ => true
def D.pures : List D → Bool
  | [] => true
  | d :: r => D.pure d && D.pures r
end
theorem cellAt_nm {ρ ρ' : Rho} {w : World} (h : ρ'.c = ρ.c) {b o : Nat} {v : Value} (hc : cellAt ρ w b o v) : cellAt ρ' w b o v := by
  obtain ⟨h1, h2, h3⟩ := hc
  exact ⟨fun k hk => h1 k (by rw [← h]; exact hk), h2, h3⟩
mutual
theorem Rp_nm {ρ ρ' : Rho} {w : World} (hc : ρ'.c = ρ.c) : ∀ (d : D) (v : Value), d.pure = true → Rp ρ w d v → Rp ρ' w d v
  | .junk, v, _, h => by rw [Rp]; trivial
  | .int k n, v, _, h => by rw [Rp] at h ⊢; exact h
  | .bool b, v, _, h => by rw [Rp] at h ⊢; exact h
  | .str s, v, _, h => by rw [Rp] at h ⊢; exact h
  | .nilp, v, _, h => by rw [Rp] at h ⊢; exact h
  | .nilf, v, _, h => by rw [Rp] at h ⊢; exact h
  | .nili, v, _, h => by rw [Rp] at h ⊢; exact h
  | .nilm, v, _, h => by rw [Rp] at h ⊢; exact h
  | .fn f a b, v, p, h => by
    rw [D.pure, Bool.and_eq_true] at p
    rw [Rp] at h ⊢
    obtain ⟨us, vs, h1, h2, h3⟩ := h
    exact ⟨us, vs, h1, RpL_nm hc a us p.1 h2, RpL_nm hc b vs p.2 h3⟩
  | .iface t d, v, p, h => by
    rw [D.pure] at p
    rw [Rp] at h ⊢
    obtain ⟨u, h1, h2⟩ := h
    exact ⟨u, h1, Rp_nm hc d u p h2⟩
  | .tuple ds, v, p, h => by
    rw [D.pure] at p
    rw [Rp] at h ⊢
    obtain ⟨u, h1, h2⟩ := h
    exact ⟨u, h1, RpL_nm hc ds u p h2⟩
  | .agg ds, v, p, h => by
    rw [D.pure] at p
    rw [Rp] at h ⊢
    obtain ⟨u, h1, h2⟩ := h
    exact ⟨u, h1, RpL_nm hc ds u p h2⟩
  | .slice els c, v, p, h => by
    rw [D.pure, Bool.and_eq_true] at p
    rw [Rp] at h ⊢
    obtain ⟨A, cap, sz, h1, h2, h3, h4, h5, h6, h7⟩ := h
    refine ⟨A, cap, sz, h1, h2, h3, h4, h5, ?_, fun hne => let ⟨b, o, h8, h9⟩ := h7 hne; ⟨b, o, h8, RpE_nm hc els b o p.1 h9⟩⟩
    cases c with
    | any => trivial
    | full => exact h6
    | tok i => simp [Cp.free] at p
  | .box i off, v, p, h => by simp [D.pure] at p
  | .map i, v, p, h => by simp [D.pure] at p
  | .own i n, v, p, h => by simp [D.pure] at p
  | .ebox _ _ _ _, v, p, h => by simp [D.pure] at p
  | .mapc ks vs, v, p, h => by
    rw [D.pure, Bool.and_eq_true] at p
    rw [Rp] at h ⊢
    obtain ⟨b, ents, clock, h1, h2, h3, h4, h5⟩ := h
    exact ⟨b, ents, clock, h1, by rw [hc]; exact h2, h3, RpL_nm hc ks _ p.1 h4, RpL_nm hc vs _ p.2 h5⟩
  | .lent els sp, v, p, h => by
    rw [D.pure, Bool.and_eq_true] at p
    rw [Rp] at h ⊢
    obtain ⟨b, o, cap, sz, h1, h2, h3, h4, h5, h6, h7, h8⟩ := h
    exact ⟨b, o, cap, sz, h1, h2, h3, h4, h5, h6, RpE_nm hc els b o p.1 h7, RpE_nm hc sp b _ p.2 h8⟩
  | .ref d, v, p, h => by
    rw [D.pure] at p
    obtain ⟨b, o, h1, h2⟩ := Rp_ref.1 h
    refine Rp_ref.2 ⟨b, o, h1, ?_⟩
    cases d
    case agg cs =>
      rw [D.pure] at p
      exact RpC_nm hc cs b o p h2
    all_goals
      obtain ⟨u, h3, h4⟩ := h2
      exact ⟨u, cellAt_nm hc h3, Rp_nm hc _ u p h4⟩
theorem RpL_nm {ρ ρ' : Rho} {w : World} (hc : ρ'.c = ρ.c) : ∀ (ds : List D) (vs : List Value), D.pures ds = true → RpL ρ w ds vs → RpL ρ' w ds vs
  | [], vs, _, h => by rw [RpL_nil] at h ⊢; exact h
  | d :: r, vs, p, h => by
    rw [D.pures, Bool.and_eq_true] at p
    rw [RpL_cons] at h
    obtain ⟨v, us, rfl, h2, h3⟩ := h
    exact RpL_cons'.2 ⟨Rp_nm hc d v p.1 h2, RpL_nm hc r us p.2 h3⟩
theorem RpC_nm {ρ ρ' : Rho} {w : World} (hc : ρ'.c = ρ.c) : ∀ (ds : List D) (b o : Nat), D.pures ds = true → RpC ρ w ds b o → RpC ρ' w ds b o
  | [], b, o, _, h => RpC_nil
  | d :: r, b, o, p, h => by
    rw [D.pures, Bool.and_eq_true] at p
    rw [RpC_cons] at h
    obtain ⟨⟨v, h1, h2⟩, h3⟩ := h
    exact RpC_cons.2 ⟨⟨v, cellAt_nm hc h1, Rp_nm hc d v p.1 h2⟩, RpC_nm hc r b (o + 1) p.2 h3⟩
theorem RpE_nm {ρ ρ' : Rho} {w : World} (hc : ρ'.c = ρ.c) : ∀ (ds : List D) (b o : Nat), D.pures ds = true → RpE ρ w ds b o → RpE ρ' w ds b o
  | [], b, o, _, h => RpE_nil
  | d :: r, b, o, p, h => by
    rw [D.pures, Bool.and_eq_true] at p
    rw [RpE_cons] at h
    refine RpE_cons.2 ⟨?_, RpE_nm hc r b _ p.2 h.2⟩
    have h2 := h.1
    cases d
    case agg cs =>
      have p1 := p.1
      rw [D.pure] at p1
      exact RpC_nm hc cs b o p1 h2
    all_goals
      obtain ⟨u, h3, h4⟩ := h2
      exact ⟨u, cellAt_nm hc h3, Rp_nm hc _ u p.1 h4⟩
end
theorem RpAt_nm {ρ ρ' : Rho} {w : World} (hc : ρ'.c = ρ.c) {d : D} {b o : Nat} (p : d.pure = true) (h : RpAt ρ w d b o) : RpAt ρ' w d b o := by
  have : Rp ρ' w (.ref d) (.pointer (some ⟨b, o, none⟩)) := Rp_nm hc (.ref d) _ (by rw [D.pure]; exact p) (Rp_ref.2 ⟨b, o, rfl, h⟩)
  obtain ⟨b', o', h1, h2⟩ := Rp_ref.1 this
  cases h1
  exact h2
mutual
/-- no right to grow: what is told is read alone -/
def D.fgt : D → D
  | .agg ds => .agg (D.fgts ds)
  | .tuple ds => .tuple (D.fgts ds)
  | .slice els _ => .slice els .any
  | .lent els _ => .slice els .any
  | .iface t d => .iface t (D.fgt d)
  | d => d
def D.fgts : List D → List D
  | [] => []
  | d :: r => D.fgt d :: D.fgts r
end
mutual
theorem Rp_fgt {ρ : Rho} {w : World} : ∀ (d : D) (v : Value), Rp ρ w d v → Rp ρ w d.fgt v
  | .agg ds, v, h => by
    rw [D.fgt]
    rw [Rp] at h ⊢
    obtain ⟨u, h1, h2⟩ := h
    exact ⟨u, h1, RpL_fgt ds u h2⟩
  | .tuple ds, v, h => by
    rw [D.fgt]
    rw [Rp] at h ⊢
    obtain ⟨u, h1, h2⟩ := h
    exact ⟨u, h1, RpL_fgt ds u h2⟩
  | .iface t d, v, h => by
    rw [D.fgt]
    rw [Rp] at h ⊢
    obtain ⟨u, h1, h2⟩ := h
    exact ⟨u, h1, Rp_fgt d u h2⟩
  | .slice els c, v, h => by
    rw [D.fgt]
    rw [Rp] at h ⊢
    obtain ⟨A, cap, sz, h1, h2, h3, h4, h5, h6, h7⟩ := h
    exact ⟨A, cap, sz, h1, h2, h3, h4, h5, trivial, h7⟩
  | .lent els sp, v, h => by
    rw [D.fgt]
    rw [Rp] at h
    rw [Rp]
    obtain ⟨b, o, cap, sz, h1, h2, h3, h4, h5, h6, h7, h8⟩ := h
    exact ⟨_, cap, sz, h1, by omega, h3, by omega, h5, trivial, fun _ => ⟨b, o, rfl, h7⟩⟩
  | .junk, v, h => h
  | .int _ _, v, h => h
  | .bool _, v, h => h
  | .str _, v, h => h
  | .nilp, v, h => h
  | .nilf, v, h => h
  | .nili, v, h => h
  | .nilm, v, h => h
  | .fn _ _ _, v, h => h
  | .box _ _, v, h => h
  | .map _, v, h => h
  | .own _ _, v, h => h
  | .ebox _ _ _ _, v, h => h
  | .mapc _ _, v, h => h
  | .ref _, v, h => h
theorem RpL_fgt {ρ : Rho} {w : World} : ∀ (ds : List D) (vs : List Value), RpL ρ w ds vs → RpL ρ w (D.fgts ds) vs
  | [], vs, h => by rw [D.fgts]; exact h
  | d :: r, vs, h => by
    rw [D.fgts]
    rw [RpL_cons] at h
    obtain ⟨v, us, rfl, h2, h3⟩ := h
    exact RpL_cons'.2 ⟨Rp_fgt d v h2, RpL_fgt r us h3⟩
end
/-- what is told, read alone -/
def Out.fgt : Out → Out
  | .ret d => .ret d.fgt
  | .pan d => .pan d.fgt
def Out.pure : Out → Bool
  | .ret d => d.pure
  | .pan d => d.pure
theorem OutM.fgt {ρ : Rho} {w : World} {out : Out} {e : Ending} (h : OutM ρ w out e) : OutM ρ w out.fgt e := by
  cases out with
  | ret d => obtain ⟨u, h1, h2⟩ := h; exact ⟨u, h1, Rp_fgt _ _ h2⟩
  | pan d => obtain ⟨u, h1, h2⟩ := h; exact ⟨u, h1, Rp_fgt _ _ h2⟩
theorem OutM.nm {ρ ρ' : Rho} {w : World} (hc : ρ'.c = ρ.c) {out : Out} {e : Ending} (p : out.pure = true) (h : OutM ρ w out e) : OutM ρ' w out e := by
  cases out with
  | ret d => obtain ⟨u, h1, h2⟩ := h; exact ⟨u, h1, Rp_nm hc _ _ p h2⟩
  | pan d => obtain ⟨u, h1, h2⟩ := h; exact ⟨u, h1, Rp_nm hc _ _ p h2⟩
/-- What a function does: called with such arguments, such objects, it tells what Post says, and leaves such objects. -/
def Spec (P : Program) (G : Nat → Option D) (f : FuncId) (args : List D) (hc : List HO) (Post : Out → List HO → Prop) : Prop :=
  ∀ (ρ : Rho) (w : World) (vs : List Value), Rel G ρ w (hOf hc) → RpL ρ w args vs → (callFunc f vs.toArray).run P w = .ok (.enter f vs.toArray) w ∧
    Calls P f vs.toArray w fun e w' => ∃ ρ' out hc', Post out hc' ∧ OutM ρ' w' out e ∧ Rel G ρ' w' (hOf hc') ∧ Ex ρ w (hOf hc) ρ' w' (hOf hc')
section
variable {P : Program} {G : Nat → Option D}
/-- a function that touches no object of its caller's -/
theorem CallOK.pure (hG : ∀ g d, G g = some d → d.pure = true) {f : FuncId} {args args' : List D} {out : Out} (h : Spec P G f args [] (fun o _ => o.fgt = out)) (ha : D.fgts args' = args) (hp : D.pures args = true) (ho : out.pure = true) (hh : Nat → HO) : CallOK P G f args' hh out [] [] := by
  intro ρ w H vs hR _ hvs
  let ρc : Rho := ⟨ρ.c, fun _ => none⟩
  have hRc : Rel G ρc w (hOf []) := ⟨fun _ _ => rfl, hR.fresh, fun i b f h => (by cases h), fun i j b f g h => (by cases h), fun g d hd => RpAt_nm (ρ := ρ) (ρ' := ρc) rfl (hG g d hd) (hR.glob g d hd)⟩
  have hvs' : RpL ρ w args vs := by rw [← ha]; exact RpL_fgt _ _ hvs
  obtain ⟨h1, h2⟩ := h ρc w vs hRc (RpL_nm (ρ := ρ) (ρ' := ρc) rfl args vs hp hvs')
  refine ⟨h1, h2.mono ?_⟩
  rintro e w' ⟨ρ', o, hc', hpost, hout, hR', hE⟩
  have hnl : ∀ b, ¬ Live ρc (hOf []) b := fun b ⟨i, f, h, _⟩ => by cases h
  have g : Grow ρ w ⟨ρ'.c, ρ.nm⟩ w' := ⟨hE.grow.os, hE.grow.tape, hE.grow.output, hE.grow.size, hE.grow.whole, hE.grow.part, fun _ _ h => h⟩
  have hfr : ∀ b, b < w.heap.size → w'.heap[b]? = w.heap[b]? ∧ ρ'.c b = ρ.c b := fun b hb => hE.frame b hb (hnl b)
  refine ⟨⟨ρ'.c, ρ.nm⟩, ⟨hR.free, hR'.fresh, fun i b f h => ?_, hR.inj, fun gg d hd => RpAt_nm (ρ := ρ') (ρ' := ⟨ρ'.c, ρ.nm⟩) rfl (hG gg d hd) (hR'.glob gg d hd)⟩, ⟨g, fun b hb _ => hfr b hb, fun b hl hb => hl⟩, ?_⟩
  · have h3 := hR.obj i b f h
    show ObjAt _ w' b f (H i)
    cases hlv : (H i).live with
    | false =>
      revert hlv h3; generalize H i = ho; intro h3 hlv
      cases ho <;> first | exact trivial | cases hlv
    | true => exact h3.keep g (hfr b (h3.lt hlv)).1 (hfr b (h3.lt hlv)).2
  · have := hout.fgt
    rw [hpost] at this
    exact this.nm (ρ := ρ') (ρ' := ⟨ρ'.c, ρ.nm⟩) rfl ho
/-- what the results are -/
def resOf (T : TypeId → Ty) (hl : List HO) (tl : List D) : ResultVar → Option D
  | .tmp t => match tmOf tl t with
    | .junk => none
    | d => some d
  | .cell a t => match tmOf tl a with
    | .box i off => match hOf hl i with
      | .cells _ ds => if (T t).k.known then partD (T t) ds off else none
      | _ => none
    | _ => none
def allOf (T : TypeId → Ty) (hl : List HO) (tl : List D) : List ResultVar → Option (List D)
  | [] => some []
  | r :: rs => match resOf T hl tl r, allOf T hl tl rs with
    | some d, some ds => some (d :: ds)
    | _, _ => none
def tellsD (T : TypeId → Ty) (hl : List HO) (tl : List D) (rs : List ResultVar) : Option D :=
  match allOf T hl tl rs with
  | some [d] => some d
  | some ds => some (.tuple ds)
  | none => none
variable {T : TypeId → Ty}
theorem resOf_run (hT : ∀ t, TyOK P t (T t)) {ρ0 ρ : Rho} {w0 w : World} {H0 : Nat → HO} {nt : Nat} {tl : List D} {hl : List HO} {df : Df} {a : Act} (hst : InSt G ρ0 w0 H0 nt ρ w a (tmOf tl) (hOf hl) df) {r : ResultVar} {d : D} (h : resOf T hl tl r = some d) :
    ∃ u, (match r with | .tmp t => (pure (a.tmps.getD t undef) : Sem Value) | .cell x t => do loadVar t (← asAddr (a.tmps.getD x undef))).run P w = .ok u w ∧ Rp ρ w d u := by
  cases r with
  | tmp t =>
    have h1 := hst.tmp t
    refine ⟨_, rfl, ?_⟩
    simp only [resOf] at h
    split at h
    · cases h
    · cases h; exact h1
  | cell x t =>
    have h1 := hst.tmp x
    simp only [resOf] at h
    split at h
    · rename_i i off hb
      split at h
      · rename_i ty ds hi
        split at h
        · rename_i hk
          rw [hb] at h1
          obtain ⟨b, f, vs, hv, -, -, hh, hr⟩ := obj_cells hst.rel hi h1
          obtain ⟨us, h2, h3, h4⟩ := partD_load h hr (size_one (hT t) hk)
          have := run_loadVar (P := P) (hT t) hk (b := b) (o := off) h2 (size_one (hT t) hk) (w := w) (fun j u hu => by
            have := h3 j u hu
            simp [World.cell?, hh, this])
          refine ⟨_, ?_, h4⟩
          dsimp only
          rw [Sem.run_bind, hv]
          simp [asAddr, this]
        · cases h
      · cases h
    · cases h
theorem allOf_run (hT : ∀ t, TyOK P t (T t)) {ρ0 ρ : Rho} {w0 w : World} {H0 : Nat → HO} {nt : Nat} {tl : List D} {hl : List HO} {df : Df} {a : Act} (hst : InSt G ρ0 w0 H0 nt ρ w a (tmOf tl) (hOf hl) df) : ∀ {rs : List ResultVar} {ds : List D}, allOf T hl tl rs = some ds →
    ∃ us : List Value, (rs.mapM fun (r : ResultVar) => (match r with | .tmp t => (pure (a.tmps.getD t undef) : Sem Value) | .cell x t => do loadVar t (← asAddr (a.tmps.getD x undef)))).run P w = .ok us w ∧ RpL ρ w ds us
  | [], ds, h => by simp only [allOf] at h; cases h; exact ⟨[], rfl, RpL_nil.2 rfl⟩
  | r :: rs, ds, h => by
    simp only [allOf] at h
    cases h1 : resOf T hl tl r with
    | none => rw [h1] at h; cases h
    | some d =>
      cases h2 : allOf T hl tl rs with
      | none => rw [h1, h2] at h; cases h
      | some ds' =>
        rw [h1, h2] at h
        cases h
        obtain ⟨u, g1, g2⟩ := resOf_run (P := P) hT hst h1
        obtain ⟨us, g3, g4⟩ := allOf_run hT hst h2
        refine ⟨u :: us, ?_, RpL_cons'.2 ⟨g2, g4⟩⟩
        rw [List.mapM_cons, Sem.run_bind, g1]
        simp only [Result.andThen_ok, Sem.run_bind, g3, Sem.run_pure]
theorem tellsD_run (hT : ∀ t, TyOK P t (T t)) {ρ0 ρ : Rho} {w0 w : World} {H0 : Nat → HO} {nt : Nat} {tl : List D} {hl : List HO} {df : Df} {a : Act} (hst : InSt G ρ0 w0 H0 nt ρ w a (tmOf tl) (hOf hl) df) {fn : Func} {d : D} (h : tellsD T hl tl fn.results.toList = some d) :
    ∃ u, (results fn a.tmps).run P w = .ok u w ∧ Rp ρ w d u := by
  unfold tellsD at h
  cases hds : allOf T hl tl fn.results.toList with
  | none => rw [hds] at h; cases h
  | some ds =>
    rw [hds] at h
    obtain ⟨us, h1, h2⟩ := allOf_run (P := P) hT hst hds
    have hrun : (results fn a.tmps).run P w = .ok (if h : us.toArray.size = 1 then us.toArray[0] else .tuple us.toArray) w := by
      unfold results
      rw [Sem.run_bind, ← Array.toArray_toList (xs := fn.results), List.mapM_toArray, Sem.run_map]
      have h1' := h1
      erw [h1']
      rfl
    have hlen := h2.length
    by_cases h3 : ds.length = 1
    · obtain ⟨d1, rfl⟩ := List.length_eq_one_iff.1 h3
      obtain ⟨u1, rfl⟩ := List.length_eq_one_iff.1 (hlen.trans h3)
      cases h
      exact ⟨u1, by rw [hrun]; rfl, (RpL_cons'.1 h2).1⟩
    · have hd : d = .tuple ds := by
        match ds, h, h3 with
        | [], h, _ => cases h; rfl
        | [x], _, h3 => exact absurd rfl h3
        | x :: y :: r, h, _ => cases h; rfl
      subst hd
      refine ⟨.tuple us.toArray, ?_, by rw [Rp]; exact ⟨us, rfl, h2⟩⟩
      rw [hrun, dif_neg (by simpa [hlen] using h3)]
/-- the end of a body -/
def EndQ (T : TypeId → Ty) (rs : List ResultVar) (Post : Out → List HO → Prop) : DQ := fun x tl hl df => df = [] ∧ match x with
  | .nrm | .ret => match tellsD T hl tl rs with
    | some d => Post (.ret d) hl
    | none => False
  | .pan d => Post (.pan d) hl
  | .ext _ => False
theorem EndQ.ret {rs : List ResultVar} {Post : Out → List HO → Prop} {tl : List D} {hl : List HO} {d : D} (h : tellsD T hl tl rs = some d) (hp : Post (.ret d) hl) : EndQ T rs Post .ret tl hl [] := ⟨rfl, by rw [h]; exact hp⟩
theorem EndQ.nrm {rs : List ResultVar} {Post : Out → List HO → Prop} {tl : List D} {hl : List HO} {d : D} (h : tellsD T hl tl rs = some d) (hp : Post (.ret d) hl) : EndQ T rs Post .nrm tl hl [] := ⟨rfl, by rw [h]; exact hp⟩
theorem EndQ.pan {rs : List ResultVar} {Post : Out → List HO → Prop} {tl : List D} {hl : List HO} {d : D} (hp : Post (.pan d) hl) : EndQ T rs Post (.pan d) tl hl [] := ⟨rfl, hp⟩
theorem CallOK.toR {f : FuncId} {args : List D} {H : Nat → HO} {out : Out} {rd : List Nat} {up : List (Nat × HO)} (h : CallOK P G f args H out rd up) : CallR P G f args H (fun o u => o = out ∧ u = up) := fun ρ w vs hR hvs =>
  let ⟨h1, h2⟩ := h ρ w H vs hR (fun _ _ => rfl) hvs
  ⟨h1, h2.mono fun e w' ⟨ρ', g1, g2, g3⟩ => ⟨ρ', out, up, ⟨rfl, rfl⟩, g1, g2, g3⟩⟩
theorem CallX.pure (hG : ∀ g d, G g = some d → d.pure = true) {f : FuncId} {args args' : List D} {out : Out} (h : Spec P G f args [] (fun o _ => o.fgt = out)) {hl : List HO} {K : Out → List HO → Prop} (hK : K out hl) (ha : D.fgts args' = args) (hp : D.pures args = true) (ho : out.pure = true) : CallX P G f args' hl K :=
  ⟨fun o up => o = out ∧ up = [], (CallOK.pure hG h ha hp ho _).toR, fun o up ⟨h1, h2⟩ => by subst h1; subst h2; exact hK⟩
theorem wpD_spec (hT : ∀ t, TyOK P t (T t)) {f : FuncId} {fn : Func} {c : Code} {args : List D} {hc : List HO} {Post : Out → List HO → Prop} (hf : P.funcs[f]? = some fn) (hb : fn.body = some c) (hcf : ∀ (vs : Array Value) (w : World), (callFunc f vs).run P w = .ok (.enter f vs) w) {n : Nat} {rs : List ResultVar} (hn : fn.ntmps = n) (hrs : fn.results.toList = rs)
    (h : wpD P G hc.length c (EndQ T rs Post) (args ++ List.replicate (n - args.length) (.tuple [])) hc []) : Spec P G f args hc Post := by
  intro ρ w vs hR hvs
  refine ⟨hcf _ _, ?_⟩
  have hlen := hvs.length
  refine calls_of_wp hf hb ?_
  subst hrs
  have htl : (vs.toArray ++ Array.replicate (fn.ntmps - vs.toArray.size) undef) = (vs ++ List.replicate (n - args.length) undef).toArray := by
    apply Array.ext'
    simp [hn, hlen]
  rw [htl]
  have hrp : RpL ρ w (args ++ List.replicate (n - args.length) (.tuple [])) (vs ++ List.replicate (n - args.length) undef) := by
    refine hvs.append ?_
    generalize n - args.length = m
    induction m with
    | zero => exact RpL_nil.2 rfl
    | succ m ih => rw [List.replicate_succ, List.replicate_succ]; exact RpL_cons'.2 ⟨by rw [Rp]; exact ⟨[], rfl, RpL_nil.2 rfl⟩, ih⟩
  refine wp_mono (h ρ w (hOf hc) ρ w { tmps := (vs ++ List.replicate (n - args.length) undef).toArray, defers := [] } (fun i hi => hR.free i (by unfold hOf; rw [List.getD_eq_getElem?_getD, List.getElem?_eq_none hi]; rfl)) ⟨hR, Ex.refl _ _ _, fun k => ?_, ?_, rfl⟩) ?_
  · unfold tmOf
    rw [Array.getD_eq_getD_getElem?, List.getElem?_toArray]
    cases hk : (args ++ List.replicate (n - args.length) (D.tuple []))[k]? with
    | none => rw [List.getD_eq_getElem?_getD, hk]; show Rp ρ w .junk _; rw [Rp]; trivial
    | some d =>
      obtain ⟨u, h1, h2⟩ := hrp.get hk
      rw [List.getD_eq_getElem?_getD, hk, h1]
      exact h2
  · simpa using hrp.length
  · rintro e a w' ⟨x, tl, hl, df, ρ', ⟨hdf, hq⟩, hx, htl, hst⟩
    subst hdf
    have hd : a.defers = [] := hst.df
    cases x with
    | nrm =>
      cases hx
      cases ht : tellsD T hl tl fn.results.toList with
      | none => rw [ht] at hq; exact hq.elim
      | some d =>
        rw [ht] at hq
        obtain ⟨u, h1, h2⟩ := tellsD_run (P := P) hT hst ht
        exact ⟨hd, u, h1, ρ', .ret d, hl, hq, ⟨u, rfl, h2⟩, hst.rel, hst.ex⟩
    | ret =>
      cases hx
      cases ht : tellsD T hl tl fn.results.toList with
      | none => rw [ht] at hq; exact hq.elim
      | some d =>
        rw [ht] at hq
        obtain ⟨u, h1, h2⟩ := tellsD_run (P := P) hT hst ht
        exact ⟨hd, u, h1, ρ', .ret d, hl, hq, ⟨u, rfl, h2⟩, hst.rel, hst.ex⟩
    | ext i => exact hq.elim
    | pan d =>
      obtain ⟨u, rfl, hu⟩ := hx
      exact ⟨hd, ρ', .pan d, hl, hq, ⟨u, rfl, hu⟩, hst.rel, hst.ex⟩
end
theorem i64w {n : Int} (h1 : -9223372036854775808 ≤ n) (h2 : n ≤ 9223372036854775807) : IntKind.i64.wrap n = n := by
  exact IntWalk.i64_in n ⟨h1, h2⟩
theorem D.pures_map {α : Type} (f : α → D) : ∀ l : List α, D.pures (l.map f) = l.all fun x => (f x).pure
  | [] => by rw [List.map_nil, D.pures]; rfl
  | x :: r => by rw [List.map_cons, D.pures, D.pures_map f r]; rfl
end Go.Proofs.YtgloldepdhgfaaaDoor
namespace Go.Proofs.YtgloldepdhgfaaaDoor
set_option linter.unusedSimpArgs false
set_option linter.unusedVariables false
open Go.RowKit
theorem ready_none {ops : Array Oper} {listed : Array Bool} (hback : ∀ i j, waitsFor ops i j = true → j < i) (hs : listed.size = ops.size) (h : Region.ready .any ops listed = []) : ∀ k, k < ops.size → listed.getD k false = true := by
  intro k
  induction k using Nat.strongRecOn with
  | _ k ih =>
    intro hk
    cases hl : listed.getD k true with
    | true =>
      have : k < listed.size := by omega
      simp [this] at hl ⊢
      exact hl
    | false =>
      exfalso
      have hm : k ∈ Region.ready .any ops listed := mem_ready.2 ⟨hl, ops[k], Array.getElem?_eq_getElem hk, fun e he hbd => by
        have h1 : waitsFor ops k e.on = true := by
          unfold waitsFor
          rw [Array.getElem?_eq_getElem hk]
          simp only [Option.map_some, Option.getD_some, List.any_eq_true, Bool.and_eq_true, beq_iff_eq]
          exact ⟨e, by simpa using he, hbd, rfl⟩
        have h2 := hback k e.on h1
        exact ih e.on h2 (by omega)⟩
      rw [h] at hm
      cases hm
def backB (ops : Array Oper) : Bool := (List.range ops.size).all fun i => ((ops[i]?).map (·.after.toList.all fun e => !Region.binds .any e || decide (e.on < i))).getD true
theorem backB_spec {ops : Array Oper} (h : backB ops = true) : ∀ i j, waitsFor ops i j = true → j < i := fun i j hw => by
  unfold waitsFor at hw
  cases ho : ops[i]? with
  | none => rw [ho] at hw; cases hw
  | some o =>
    have hi : i < ops.size := (Array.getElem?_eq_some_iff.1 ho).1
    have h1 := (List.all_eq_true.1 h) i (List.mem_range.2 hi)
    rw [ho] at hw h1
    simp only [Option.map_some, Option.getD_some, List.any_eq_true, List.all_eq_true, Bool.and_eq_true, Bool.or_eq_true, Bool.not_eq_true', decide_eq_true_eq, beq_iff_eq] at hw h1
    obtain ⟨e, he, hb, rfl⟩ := hw
    exact (h1 e he).resolve_left (by rw [hb]; simp)
section
variable {P : Program} {G : Nat → Option D} {Q : Exit → Act → World → Prop} {ops : Array Oper} {ρ0 : Rho} {w0 : World} {H0 : Nat → HO} {nt : Nat} {t0 : Nat → D} {h0 : Nat → HO} {df : Df} {tr : Nat → Ev}
theorem wpAny_mid (hback : ∀ i j, waitsFor ops i j = true → j < i) (hord : orderedBy ops nt (fpOf tr) = true) (hgood : Good P G Q ops t0 h0 tr)
    (hpan : ∀ i, i < ops.size → (tr i).k = .pan → ∀ ρ w a u, Rp ρ w (tr i).d u → InSt G ρ0 w0 H0 nt ρ w a (killT ops t0) (killH ops.size tr h0) df → Q (.panic (thrown u)) a w)
    (hend : (∀ i, i < ops.size → (tr i).k = .ok) → ∀ ρ w a, InSt G ρ0 w0 H0 nt ρ w a (tmU ops tr t0 allE ops.size) (hU tr h0 allE ops.size) df → Q .normal a w) :
    ∀ (fuel : Nat) (listed : Array Bool) (a : Act) (w : World), listed.size = ops.size → ((List.range ops.size).countP fun k => !(listed.getD k false)) ≤ fuel → Mid P G ops ρ0 w0 H0 nt t0 h0 df tr (fun k => listed.getD k false) a w → wpAny P .any ops Q fuel listed a w := by
  have hQ : ∀ {listed : Array Bool} {a : Act} {w : World}, (∀ k, k < ops.size → listed.getD k false = true) → Mid P G ops ρ0 w0 H0 nt t0 h0 df tr (fun k => listed.getD k false) a w → Q .normal a w := by
    intro listed a w hall hM
    obtain ⟨ρ, hst⟩ := hM.st
    refine hend (fun i hi => hM.ok i (hall i hi) hi) ρ w a ?_
    have e1 : tmU ops tr t0 (fun k => listed.getD k false) ops.size = tmU ops tr t0 allE ops.size := by
      funext t; unfold tmU; exact U_congr _ fun j hj _ => hall j hj
    have e2 : hU tr h0 (fun k => listed.getD k false) ops.size = hU tr h0 allE ops.size := by
      funext t; unfold hU; exact U_congr _ fun j hj _ => hall j hj
    rw [e1, e2] at hst
    exact hst
  intro fuel
  induction fuel with
  | zero =>
    intro listed a w hs hc hM
    have hall : ∀ k, k < ops.size → listed.getD k false = true := fun k hk => by
      have := List.countP_eq_zero.1 (Nat.le_zero.1 hc) k (List.mem_range.2 hk)
      simpa using this
    refine ⟨?_, hQ hall hM⟩
    cases hr : Region.ready .any ops listed with
    | nil => rfl
    | cons j r =>
      exfalso
      have hj : j ∈ Region.ready .any ops listed := by rw [hr]; exact List.mem_cons_self ..
      obtain ⟨h0, o, ho, -⟩ := mem_ready.1 hj
      have hlt : j < ops.size := (Array.getElem?_eq_some_iff.1 ho).1
      have := hall j hlt
      have hl : j < listed.size := by omega
      simp [hl] at h0 this
      rw [h0] at this
      cases this
  | succ fuel ih =>
    intro listed a w hs hc hM
    refine ⟨fun hr => hQ (ready_none hback hs hr) hM, fun i hi => ?_⟩
    obtain ⟨hl0, o, ho, hafter⟩ := mem_ready.1 hi
    have hlt : i < ops.size := (Array.getElem?_eq_some_iff.1 ho).1
    have hl : i < listed.size := by omega
    have hun : listed.getD i false = false := by simp [hl] at hl0 ⊢; exact hl0
    have hs' : (listed.setIfInBounds i true).size = ops.size := by simpa using hs
    have hset : (listed.setIfInBounds i true).getD i false = true := by simp [hl]
    have hne : ∀ j, j ≠ i → (listed.setIfInBounds i true).getD j false = listed.getD j false := fun j hj => getD_set_ne false (Ne.symm hj)
    have hc' : ((List.range ops.size).countP fun k => !((listed.setIfInBounds i true).getD k false)) ≤ fuel := by
      have hmono : ∀ (l : List Nat), (l.countP fun k => !((listed.setIfInBounds i true).getD k false)) ≤ (l.countP fun k => !(listed.getD k false)) := fun l =>
        List.countP_mono_left (fun k _ hk => by
          by_cases hki : k = i
          · subst hki; simp [hl] at hk
          · rwa [hne k hki] at hk)
      have hsplit : ∀ (l : List Nat), i ∈ l → (l.countP fun k => !((listed.setIfInBounds i true).getD k false)) < (l.countP fun k => !(listed.getD k false)) := by
        intro l
        induction l with
        | nil => intro h; cases h
        | cons x r ihr =>
          intro h
          rw [List.countP_cons, List.countP_cons]
          by_cases hx : x = i
          · subst hx
            have h1 := hmono r
            have h2 : (!((listed.setIfInBounds x true).getD x false)) = false := by rw [hset]; rfl
            have h3 : (!(listed.getD x false)) = true := by rw [hun]; rfl
            simp only [h2, h3, Bool.false_eq_true, if_false, if_true]
            omega
          · have hm : i ∈ r := by
              cases h with
              | head => exact absurd rfl hx
              | tail _ h => exact h
            have h1 := ihr hm
            rw [hne x hx]
            omega
      have := hsplit _ (List.mem_range.2 hlt)
      omega
    refine mid_step hord hgood hpan hM hlt hun (fun j hj => ?_) hset hne (fun a' w' hM' => ih _ a' w' hs' hc' hM')
    unfold waitsFor at hj
    rw [ho] at hj
    simp only [Option.map_some, Option.getD_some, List.any_eq_true, Bool.and_eq_true, beq_iff_eq] at hj
    obtain ⟨e, he, hb, rfl⟩ := hj
    exact hafter e (by simpa using he) hb
theorem region_mid (hm : P.follows .mixedOrders = true) (hback : backB ops = true) (hord : orderedBy ops nt (fpOf tr) = true) (hgood : Good P G Q ops t0 h0 tr)
    (hpan : ∀ i, i < ops.size → (tr i).k = .pan → ∀ ρ w a u, Rp ρ w (tr i).d u → InSt G ρ0 w0 H0 nt ρ w a (killT ops t0) (killH ops.size tr h0) df → Q (.panic (thrown u)) a w)
    (hend : (∀ i, i < ops.size → (tr i).k = .ok) → ∀ ρ w a, InSt G ρ0 w0 H0 nt ρ w a (tmU ops tr t0 allE ops.size) (hU tr h0 allE ops.size) df → Q .normal a w)
    {id : Nat} {ρ : Rho} {w : World} {a : Act} (hst : InSt G ρ0 w0 H0 nt ρ w a t0 h0 df) : (Code.region id ops true).wp P Q a w := by
  refine wp_region_any hm ?_
  have hno : ∀ k, (Array.replicate ops.size false).getD k false = false := fun k => by
    rw [Array.getD_eq_getD_getElem?, Array.getElem?_replicate]
    split <;> simp
  refine wpAny_mid (backB_spec hback) hord hgood hpan hend ops.size (Array.replicate ops.size false) a _ (by simp) ?_ ⟨⟨ρ, ?_⟩, fun i j h => ?_, fun i h => ?_⟩
  · refine Nat.le_trans List.countP_le_length ?_
    simp
  · have e1 : tmU ops tr t0 (fun k => (Array.replicate ops.size false).getD k false) ops.size = t0 := by
      funext t
      unfold tmU
      rw [U_congr (E' := fun _ => false) _ (fun j _ _ => hno j)]
      generalize ops.size = n
      induction n with
      | zero => rfl
      | succ n ih => simp only [U, Bool.false_eq_true, if_false]; exact ih
    have e2 : hU tr h0 (fun k => (Array.replicate ops.size false).getD k false) ops.size = h0 := by
      funext t
      unfold hU
      rw [U_congr (E' := fun _ => false) _ (fun j _ _ => hno j)]
      generalize ops.size = n
      induction n with
      | zero => rfl
      | succ n ih => simp only [U, Bool.false_eq_true, if_false]; exact ih
    rw [e1, e2]
    obtain ⟨hR, hE⟩ := Ex.drew hst.rel
    exact ⟨hR, hst.ex.trans hE, fun k => Rp.grow hE.grow _ _ (hst.tmp k), hst.size, hst.df.grow hE.grow⟩
  · rw [hno] at h; cases h
  · rw [hno] at h; cases h
end
section
variable (P : Program) (G : Nat → Option D) (T : TypeId → Ty) (ops : Array Oper)
/-- what is looked at, what is changed, of each -/
abbrev Foot := List (List Nat × List Nat)
/-- a call, with what it looks at and changes -/
def CallY (f : FuncId) (args : List D) (hl : List HO) (K : Out → List Nat → List (Nat × HO) → Prop) : Prop := ∃ out rd up, CallOK P G f args (hOf hl) out rd up ∧ K out rd up
theorem CallY.pure {P : Program} {G : Nat → Option D} (hG : ∀ g d, G g = some d → d.pure = true) {f : FuncId} {args args' : List D} {out : Out} (h : Spec P G f args [] (fun o _ => o.fgt = out)) {hl : List HO} {K : Out → List Nat → List (Nat × HO) → Prop} (hK : K out [] []) (ha : D.fgts args' = args) (hp : D.pures args = true) (ho : out.pure = true) : CallY P G f args' hl K :=
  ⟨out, [], [], CallOK.pure hG h ha hp ho _, hK⟩
def late (pk : List (Nat × D)) (i : Nat) : Bool := pk.any fun p => reach ops i p.1
/-- a statement in whatever order: walked in the text's; fp: what each looked at and changed; pk: who throws what -/
def wpT : List Oper → Nat → List D → List HO → Foot → List (Nat × D) → (List D → List HO → Foot → List (Nat × D) → Prop) → Prop
  | [], _, tl, hl, fp, pk, K => K tl hl fp pk
  | o :: r, i, tl, hl, fp, pk, K => if late ops pk i then wpT r (i + 1) (putS tl o.dst .junk) hl (fp ++ [([], [])]) pk K else match wantD ops (tmOf tl) o with
    | none => False
    | some g => if g then match evOp T (opD G (tmOf tl)) (hOf hl) hl.length o with
        | some (.val d rd up) => wpT r (i + 1) (putS tl o.dst d) (updS hl up) (fp ++ [(rd, up.map (·.1))]) pk K
        | some (.call f args) => CallY P G f args hl fun out rd up => match out with
          | .ret d => wpT r (i + 1) (putS tl o.dst d) (updS hl up) (fp ++ [(rd, up.map (·.1))]) pk K
          | .pan d => wpT r (i + 1) (putS tl o.dst d) (updS hl up) (fp ++ [(rd, up.map (·.1))]) ((i, d) :: pk) K
        | some (.pan d) => wpT r (i + 1) (putS tl o.dst d) hl (fp ++ [([], [])]) ((i, d) :: pk) K
        | _ => False
      else wpT r (i + 1) (putS tl o.dst (.tuple [])) hl (fp ++ [([], [])]) pk K
/-- behind a call -/
def wpAftT (r : List Oper) (i : Nat) (tl : List D) (hl : List HO) (dst : Option Tmp) (fp : Foot) (pk : List (Nat × D)) (K : List D → List HO → Foot → List (Nat × D) → Prop) (out : Out) (rd : List Nat) (up : List (Nat × HO)) : Prop :=
  match out with
  | .ret d => wpT P G T ops r (i + 1) (putS tl dst d) (updS hl up) (fp ++ [(rd, up.map (·.1))]) pk K
  | .pan d => wpT P G T ops r (i + 1) (putS tl dst d) (updS hl up) (fp ++ [(rd, up.map (·.1))]) ((i, d) :: pk) K
theorem wpAftT_ret (r : List Oper) (i : Nat) (tl : List D) (hl : List HO) (dst : Option Tmp) (fp : Foot) (pk : List (Nat × D)) (K : List D → List HO → Foot → List (Nat × D) → Prop) (d : D) (rd : List Nat) (up : List (Nat × HO)) :
    wpAftT P G T ops r i tl hl dst fp pk K (.ret d) rd up = wpT P G T ops r (i + 1) (putS tl dst d) (updS hl up) (fp ++ [(rd, up.map (·.1))]) pk K := rfl
theorem wpAftT_pan (r : List Oper) (i : Nat) (tl : List D) (hl : List HO) (dst : Option Tmp) (fp : Foot) (pk : List (Nat × D)) (K : List D → List HO → Foot → List (Nat × D) → Prop) (d : D) (rd : List Nat) (up : List (Nat × HO)) :
    wpAftT P G T ops r i tl hl dst fp pk K (.pan d) rd up = wpT P G T ops r (i + 1) (putS tl dst d) (updS hl up) (fp ++ [(rd, up.map (·.1))]) ((i, d) :: pk) K := rfl
theorem wpT_nil (i : Nat) (tl : List D) (hl : List HO) (fp : Foot) (pk : List (Nat × D)) (K : List D → List HO → Foot → List (Nat × D) → Prop) : wpT P G T ops [] i tl hl fp pk K = K tl hl fp pk := rfl
theorem wpT_cons (o : Oper) (r : List Oper) (i : Nat) (tl : List D) (hl : List HO) (fp : Foot) (pk : List (Nat × D)) (K : List D → List HO → Foot → List (Nat × D) → Prop) : wpT P G T ops (o :: r) i tl hl fp pk K =
    if late ops pk i then wpT P G T ops r (i + 1) (putS tl o.dst .junk) hl (fp ++ [([], [])]) pk K else match wantD ops (tmOf tl) o with
    | none => False
    | some g => if g then match evOp T (opD G (tmOf tl)) (hOf hl) hl.length o with
        | some (.val d rd up) => wpT P G T ops r (i + 1) (putS tl o.dst d) (updS hl up) (fp ++ [(rd, up.map (·.1))]) pk K
        | some (.call f args) => CallY P G f args hl (wpAftT P G T ops r i tl hl o.dst fp pk K)
        | some (.pan d) => wpT P G T ops r (i + 1) (putS tl o.dst d) hl (fp ++ [([], [])]) ((i, d) :: pk) K
        | some (.dfr _ _) => False
        | some .bit => False
        | none => False
      else wpT P G T ops r (i + 1) (putS tl o.dst (.tuple [])) hl (fp ++ [([], [])]) pk K := by
  rw [wpT]
  cases late ops pk i with
  | true => rfl
  | false =>
    cases wantD ops (tmOf tl) o with
    | none => rfl
    | some g =>
      cases g with
      | false => rfl
      | true =>
        simp only [if_true, Bool.false_eq_true, if_false]
        cases evOp T (opD G (tmOf tl)) (hOf hl) hl.length o with
        | none => rfl
        | some x => cases x <;> rfl
theorem wpT_late {o : Oper} {r : List Oper} {i : Nat} {tl : List D} {hl : List HO} {fp : Foot} {pk : List (Nat × D)} {K : List D → List HO → Foot → List (Nat × D) → Prop} (h : late ops pk i = true)
    (hk : wpT P G T ops r (i + 1) (putS tl o.dst .junk) hl (fp ++ [([], [])]) pk K) : wpT P G T ops (o :: r) i tl hl fp pk K := by
  rw [wpT_cons, if_pos h]; exact hk
end
/-- footprints, by number -/
def fpAt (fp : Foot) (i : Nat) : List Nat × List Nat := fp.getD i ([], [])
/-- temporaries that a statement writes, as a list -/
def killTl (ops : Array Oper) (tl : List D) : List D := tl.mapIdx fun t d => if (List.range ops.size).any (fun i => dstOf ops i == some t) then .junk else d
def killHl (fp : Foot) (hl : List HO) : List HO := hl.mapIdx fun r x => if fp.any (fun p => p.2.contains r) then .dead else x
section
variable {P : Program} {G : Nat → Option D} {T : TypeId → Ty} {ops : Array Oper} {Q : Exit → Act → World → Prop}
/-- the operations' parts, from number i on -/
def GoodL (P : Program) (G : Nat → Option D) (Q : Exit → Act → World → Prop) (ops : Array Oper) : List Oper → Nat → List D → List HO → List Ev → List (Nat × D) → Prop
  | [], _, _, _, evs, _ => evs = []
  | o :: r, i, tl, hl, evs, pk => ∃ ev L, evs = ev :: L ∧ (match ev.k with
      | .ok => StepL P G Q ops i o.dst (Oper.looksAt ops o) (tmOf tl) (hOf hl) ev
      | .pan => StepP P G Q ops i (Oper.looksAt ops o) (tmOf tl) (hOf hl) ev
      | .nev => late ops pk i = true) ∧ GoodL P G Q ops r (i + 1) (putS tl o.dst ev.d) (updS hl ev.up) L (match ev.k with | .pan => (i, ev.d) :: pk | _ => pk)
/-- where they end -/
def endL : List Oper → List Ev → List D → List HO → List D × List HO
  | o :: r, ev :: L, tl, hl => endL r L (putS tl o.dst ev.d) (updS hl ev.up)
  | _, _, tl, hl => (tl, hl)
def pksOf : List Ev → Nat → List (Nat × D) → List (Nat × D)
  | [], _, pk => pk
  | ev :: L, i, pk => pksOf L (i + 1) (match ev.k with | .pan => (i, ev.d) :: pk | _ => pk)
def fpL (evs : List Ev) : Foot := evs.map fun ev => (ev.rd, ev.up.map (·.1))
theorem wpT_good (hT : ∀ t, TyOK P t (T t)) : ∀ (l : List Oper) (i : Nat) (tl : List D) (hl : List HO) (fp : Foot) (pk : List (Nat × D)) (K : List D → List HO → Foot → List (Nat × D) → Prop), (∀ j o, l[j]? = some o → ops[i + j]? = some o) → wpT P G T ops l i tl hl fp pk K →
    ∃ evs, GoodL P G Q ops l i tl hl evs pk ∧ K (endL l evs tl hl).1 (endL l evs tl hl).2 (fp ++ fpL evs) (pksOf evs i pk)
  | [], i, tl, hl, fp, pk, K, _, h => ⟨[], rfl, by simpa [endL, fpL, pksOf, wpT] using h⟩
  | o :: r, i, tl, hl, fp, pk, K, ho, h => by
    have hoi : ops[i]? = some o := ho 0 o rfl
    have hor : ∀ j o, r[j]? = some o → ops[i + 1 + j]? = some o := fun j x hj => by
      have := ho (j + 1) x (by simpa using hj)
      rwa [show i + 1 + j = i + (j + 1) by omega]
    -- one more
    have key : ∀ (ev : Ev) (pk' : List (Nat × D)), pk' = (match ev.k with | .pan => (i, ev.d) :: pk | _ => pk) → (match ev.k with
        | .ok => StepL P G Q ops i o.dst (Oper.looksAt ops o) (tmOf tl) (hOf hl) ev
        | .pan => StepP P G Q ops i (Oper.looksAt ops o) (tmOf tl) (hOf hl) ev
        | .nev => late ops pk i = true) → wpT P G T ops r (i + 1) (putS tl o.dst ev.d) (updS hl ev.up) (fp ++ [(ev.rd, ev.up.map (·.1))]) pk' K →
        ∃ evs, GoodL P G Q ops (o :: r) i tl hl evs pk ∧ K (endL (o :: r) evs tl hl).1 (endL (o :: r) evs tl hl).2 (fp ++ fpL evs) (pksOf evs i pk) := by
      intro ev pk' hpk hstep hrest
      subst hpk
      obtain ⟨evs, h1, h2⟩ := wpT_good hT r (i + 1) _ _ _ _ K hor hrest
      refine ⟨ev :: evs, ⟨ev, evs, rfl, hstep, h1⟩, ?_⟩
      have : fp ++ fpL (ev :: evs) = fp ++ [(ev.rd, ev.up.map (·.1))] ++ fpL evs := by simp [fpL]
      rw [this]
      exact h2
    rw [wpT] at h
    cases hlate : late ops pk i with
    | true =>
      rw [hlate] at h
      simp only [if_true] at h
      exact key ⟨.nev, .junk, [], []⟩ pk rfl hlate h
    | false =>
      rw [hlate] at h
      simp only [Bool.false_eq_true, if_false] at h
      cases hw : wantD ops (tmOf tl) o with
      | none => rw [hw] at h; exact h.elim
      | some g =>
        rw [hw] at h
        dsimp only at h
        cases g with
        | false =>
          simp only [Bool.false_eq_true, if_false] at h
          exact key ⟨.ok, .tuple [], [], []⟩ pk rfl (fun ρ w a H hR hH hu K hK => wpOp_one hoi (one_off hw hR hu hK)) h
        | true =>
          simp only [if_true] at h
          cases hev : evOp T (opD G (tmOf tl)) (hOf hl) hl.length o with
          | none => rw [hev] at h; exact h.elim
          | some x =>
            rw [hev] at h
            cases x with
            | val d rd up =>
              dsimp only at h
              exact key ⟨.ok, d, rd, up⟩ pk rfl (fun ρ w a H hR hH hu K hK => wpOp_one hoi (one_val hT hw hev hR hH hu hK)) h
            | call f args =>
              dsimp only at h
              obtain ⟨out, rd, up, hc, h⟩ := h
              cases out with
              | ret d =>
                dsimp only at h
                exact key ⟨.ok, d, rd, up⟩ pk rfl (fun ρ w a H hR hH hu K hK => wpOp_one hoi (one_call hw hev hc hR hH hu hK)) h
              | pan d =>
                dsimp only at h
                exact key ⟨.pan, d, rd, up⟩ ((i, d) :: pk) rfl (fun ρ w a H hR hH hu K hK => wpOp_one hoi (one_call_pan hw hev hc hR hH hu hK)) h
            | pan d =>
              dsimp only at h
              exact key ⟨.pan, d, [], []⟩ ((i, d) :: pk) rfl (fun ρ w a H hR hH hu K hK => wpOp_one hoi (one_pan hw hev hR hu hK)) h
            | bit => exact h.elim
            | dfr f cap => exact h.elim
theorem tmOf_putS {tl : List D} {dst : Option Tmp} {d : D} (hd : ∀ t, dst = some t → t < tl.length) : tmOf (putS tl dst d) = fun t => (if dst = some t then some d else none).getD (tmOf tl t) := by
  funext t
  cases dst with
  | none => simp [putS]
  | some k =>
    by_cases hk : k = t
    · subst hk
      have := hd k rfl
      simp [tmOf, putS, List.getD, this]
    · have : ¬ (some k = some t) := fun e => hk (Option.some.inj e)
      simp only [this, if_false, Option.getD_none]
      unfold tmOf putS
      rw [List.getD_eq_getElem?_getD, List.getD_eq_getElem?_getD, List.getElem?_set_ne hk]
theorem good_of_L {nt : Nat} {trk : Nat → Ev} : ∀ (l : List Oper) (i : Nat) (tl : List D) (hl : List HO) (evs : List Ev) (pk : List (Nat × D)), (∀ j o, l[j]? = some o → ops[i + j]? = some o) → i + l.length = ops.size → tl.length = nt → (∀ j t, dstOf ops j = some t → t < nt) →
    (∀ j ev, evs[j]? = some ev → trk (i + j) = ev) → GoodL P G Q ops l i tl hl evs pk → ∀ {t0 : Nat → D} {h0 : Nat → HO}, tmU ops trk t0 allE i = tmOf tl → hU trk h0 allE i = hOf hl → (∀ p, p ∈ pk → p.1 < i ∧ (trk p.1).k = .pan ∧ (trk p.1).d = p.2) →
    (∀ j, i ≤ j → j < ops.size → match (trk j).k with
      | .ok => StepL P G Q ops j (dstOf ops j) (usedOf ops j) (tmU ops trk t0 allE j) (hU trk h0 allE j) (trk j)
      | .pan => StepP P G Q ops j (usedOf ops j) (tmU ops trk t0 allE j) (hU trk h0 allE j) (trk j)
      | .nev => ∃ k, k < ops.size ∧ reach ops j k = true ∧ (trk k).k = .pan) ∧ tmU ops trk t0 allE ops.size = tmOf (endL l evs tl hl).1 ∧ hU trk h0 allE ops.size = hOf (endL l evs tl hl).2 ∧ (endL l evs tl hl).1.length = nt ∧
      (∀ p, p ∈ pk → p ∈ pksOf evs i pk) ∧ (∀ j, i ≤ j → j < ops.size → (trk j).k = .pan → (j, (trk j).d) ∈ pksOf evs i pk) ∧ evs.length = l.length
  | [], i, tl, hl, evs, pk, ho, hn, htl, hdt, htr, hg, t0, h0, e1, e2, hpk => by
    have : evs = [] := hg
    subst this
    have hi : i = ops.size := by simpa using hn
    subst hi
    exact ⟨fun j h1 h2 => by omega, e1, e2, htl, fun p hp => hp, fun j h1 h2 => by omega, rfl⟩
  | o :: r, i, tl, hl, evs, pk, ho, hn, htl, hdt, htr, hg, t0, h0, e1, e2, hpk => by
    obtain ⟨ev, L, rfl, hstep, hg⟩ := hg
    have hoi : ops[i]? = some o := ho 0 o rfl
    have htri : trk i = ev := htr 0 ev rfl
    have hdst : dstOf ops i = o.dst := by unfold dstOf; rw [hoi]; rfl
    have hused : usedOf ops i = Oper.looksAt ops o := by unfold usedOf; rw [hoi]; rfl
    have hi : i < ops.size := (Array.getElem?_eq_some_iff.1 hoi).1
    have e1' : tmU ops trk t0 allE (i + 1) = tmOf (putS tl o.dst ev.d) := by
      rw [tmOf_putS (fun t ht => by rw [htl]; exact hdt i t (by rw [hdst]; exact ht))]
      funext t
      have := congrFun e1 t
      unfold tmU at this ⊢
      simp only [U, hdst, htri]
      rw [if_pos (show allE i = true from rfl)]
      rw [this]
    have e2' : hU trk h0 allE (i + 1) = hOf (updS hl ev.up) := by
      rw [hOf_upd]
      funext t
      have := congrFun e2 t
      unfold hU at this ⊢
      simp only [U, htri]
      rw [if_pos (show allE i = true from rfl)]
      rw [this, updL_lk]
    have hpk' : ∀ p, p ∈ (match ev.k with | .pan => (i, ev.d) :: pk | _ => pk) → p.1 < i + 1 ∧ (trk p.1).k = .pan ∧ (trk p.1).d = p.2 := by
      intro p hp
      cases hk : ev.k with
      | ok => rw [hk] at hp; obtain ⟨a, b, c⟩ := hpk p hp; exact ⟨by omega, b, c⟩
      | nev => rw [hk] at hp; obtain ⟨a, b, c⟩ := hpk p hp; exact ⟨by omega, b, c⟩
      | pan =>
        rw [hk] at hp
        cases hp with
        | head => exact ⟨by simp, by rw [htri]; exact hk, by rw [htri]⟩
        | tail _ hp => obtain ⟨a, b, c⟩ := hpk p hp; exact ⟨by omega, b, c⟩
    obtain ⟨g1, g2, g3, g4, g5, g6, g7⟩ := good_of_L r (i + 1) (putS tl o.dst ev.d) (updS hl ev.up) L _ (fun j x hj => by
      have := ho (j + 1) x (by simpa using hj)
      rwa [show i + 1 + j = i + (j + 1) by omega]) (by simp at hn; omega) (by rw [putS_length]; exact htl) hdt (fun j x hj => by
      have := htr (j + 1) x (by simpa using hj)
      rwa [show i + 1 + j = i + (j + 1) by omega]) hg e1' e2' hpk'
    have hsub : ∀ p, p ∈ pk → p ∈ (match ev.k with | .pan => (i, ev.d) :: pk | _ => pk) := fun p hp => by
      cases ev.k with
      | ok => exact hp
      | nev => exact hp
      | pan => exact List.mem_cons_of_mem _ hp
    refine ⟨fun j h1 h2 => ?_, g2, g3, g4, fun p hp => g5 p (hsub p hp), fun j h1 h2 h3 => ?_, by simp [g7]⟩
    · by_cases hj : j = i
      · subst hj
        rw [htri, hdst, hused, e1, e2]
        cases hk : ev.k with
        | ok => rw [hk] at hstep; exact hstep
        | pan => rw [hk] at hstep; exact hstep
        | nev =>
          rw [hk] at hstep
          obtain ⟨p, hp, hr⟩ := List.any_eq_true.1 (show (pk.any fun p => reach ops j p.1) = true from hstep)
          obtain ⟨a, b, c⟩ := hpk p hp
          exact ⟨p.1, by omega, hr, b⟩
      · exact g1 j (by omega) h2
    · by_cases hj : j = i
      · subst hj
        refine g5 _ ?_
        rw [htri] at h3 ⊢
        rw [h3]
        exact List.mem_cons_self ..
      · exact g6 j (by omega) h2 h3
end
section
variable {P : Program} {G : Nat → Option D} {T : TypeId → Ty} {ops : Array Oper} {Q : DQ} {tl : List D} {hl : List HO} {df : Df} {M : Nat}
theorem fpAt_fpL {evs : List Ev} {tr : Nat → Ev} (h : ∀ j ev, evs[j]? = some ev → tr j = ev) {n : Nat} (hn : evs.length = n) {nt : Nat} (hs : ops.size = n) (ho : orderedBy ops nt (fpAt (fpL evs)) = true) : orderedBy ops nt (fpOf tr) = true := by
  have he : ∀ i, i < n → fpOf tr i = fpAt (fpL evs) i := fun i hi => by
    have hi2 : i < evs.length := by omega
    have := h i _ (List.getElem?_eq_getElem hi2)
    unfold fpOf fpAt fpL
    rw [this, List.getD_eq_getElem?_getD, List.getElem?_map, List.getElem?_eq_getElem hi2]
    rfl
  refine List.all_eq_true.2 fun i hi => ?_
  have hi' : i < n := by rw [← hs]; exact List.mem_range.1 hi
  have h1 := (List.all_eq_true.1 ho) i hi
  rw [he i hi']
  simp only [Bool.and_eq_true, List.all_eq_true, List.mem_range] at h1 ⊢
  refine ⟨h1.1, fun j hj => ?_⟩
  have := h1.2 j hj
  unfold clash at this ⊢
  rw [he i hi', he j (by omega)]
  exact this
theorem killT_list {ops : Array Oper} {tl : List D} : killT ops (tmOf tl) = tmOf (killTl ops tl) := by
  funext t
  unfold killT tmOf killTl
  rw [List.getD_eq_getElem?_getD, List.getD_eq_getElem?_getD, List.getElem?_mapIdx]
  cases tl[t]? with
  | none => simp
  | some d => simp
theorem killH_list {n : Nat} {tr : Nat → Ev} {evs : List Ev} (htr : ∀ j ev, evs[j]? = some ev → tr j = ev) (hn : evs.length = n) {hl : List HO} {m : Nat} (hm : hl.length ≤ m) (hall : ((fpL evs).all fun p => p.2.all fun r => decide (r < m)) = true) :
    killH n tr (hOf hl) = hOf (killHl (fpL evs) (hl ++ List.replicate (m - hl.length) .free)) := by
  have hany : ∀ r, (List.range n).any (fun i => ((tr i).up.map (·.1)).contains r) = (fpL evs).any (fun p => p.2.contains r) := fun r => by
    rw [Bool.eq_iff_iff, List.any_eq_true, List.any_eq_true]
    constructor
    · rintro ⟨i, hi, hc⟩
      have hi' : i < evs.length := by rw [hn]; exact List.mem_range.1 hi
      rw [htr i _ (List.getElem?_eq_getElem hi')] at hc
      exact ⟨_, List.mem_map.2 ⟨evs[i], List.getElem_mem hi', rfl⟩, hc⟩
    · rintro ⟨p, hp, hc⟩
      obtain ⟨ev, hev, rfl⟩ := List.mem_map.1 hp
      obtain ⟨i, hi⟩ := List.getElem?_of_mem hev
      have hi' : i < evs.length := (List.getElem?_eq_some_iff.1 hi).1
      exact ⟨i, List.mem_range.2 (by omega), by rw [htr i _ hi]; exact hc⟩
  funext r
  unfold killH hOf killHl
  rw [hany r, List.getD_eq_getElem?_getD, List.getD_eq_getElem?_getD, List.getElem?_mapIdx]
  by_cases hr : r < m
  · have hlen : r < (hl ++ List.replicate (m - hl.length) HO.free).length := by simp; omega
    rw [List.getElem?_eq_getElem hlen]
    simp only [Option.map_some, Option.getD_some]
    split
    · rfl
    · by_cases h1 : r < hl.length
      · rw [List.getElem?_eq_getElem h1, List.getElem_append_left h1]; rfl
      · rw [List.getElem?_eq_none (by omega), List.getElem_append_right (by omega)]; simp
  · have hno : (fpL evs).any (fun p => p.2.contains r) = false := by
      cases h : (fpL evs).any (fun p => p.2.contains r) with
      | false => rfl
      | true =>
        obtain ⟨p, hp, hc⟩ := List.any_eq_true.1 h
        have := (List.all_eq_true.1 ((List.all_eq_true.1 hall) p hp)) r (by simpa using hc)
        simp at this; omega
    have h1 : (hl ++ List.replicate (m - hl.length) HO.free).length ≤ r := by simp; omega
    have h2 : hl.length ≤ r := by omega
    rw [hno, List.getElem?_eq_none h1, List.getElem?_eq_none h2]
    simp
/-- A statement whose order is open. -/
theorem wpD_draw (hT : ∀ t, TyOK P t (T t)) (hm : P.follows .mixedOrders = true) {id : Nat} (hback : backB ops = true)
    (h : wpT P G T ops ops.toList 0 tl hl [] [] (fun tl' hl' fp pk => (orderedBy ops tl.length (fpAt fp) && decide (hl.length ≤ hl'.length) && fp.all fun p => p.2.all fun r => decide (r < hl'.length)) = true ∧ (match pk with
      | [] => Q .nrm tl' hl' df
      | _ => ∀ p, p ∈ pk → Q (.pan p.2) (killTl ops tl) (killHl fp (hl ++ List.replicate (hl'.length - hl.length) .free)) df))) : wpD P G M (.region id ops true) Q tl hl df := fun ρ0 w0 H0 ρ w a hbs hst => by
  obtain ⟨evs, hg, hord, hfin⟩ := wpT_good (Q := LiftQ G ρ0 w0 H0 tl.length Q) hT ops.toList 0 tl hl [] [] _ (fun j o hj => by simpa using hj) h
  rw [List.nil_append] at hord hfin
  simp only [Bool.and_eq_true, decide_eq_true_eq] at hord
  obtain ⟨⟨hord, hle⟩, hall⟩ := hord
  let tr : Nat → Ev := fun i => evs.getD i ⟨.ok, .junk, [], []⟩
  have htr : ∀ j ev, evs[j]? = some ev → tr j = ev := fun j ev hj => by
    show evs.getD j _ = ev
    rw [List.getD_eq_getElem?_getD, hj]; rfl
  have hdt : ∀ j t, dstOf ops j = some t → t < tl.length := fun j t hj => by
    by_cases hjs : j < ops.size
    · exact (ordered_at hord hjs).1 t hj
    · unfold dstOf at hj; rw [Array.getElem?_eq_none (by omega)] at hj; cases hj
  obtain ⟨g1, g2, g3, g4, -, g6, g7⟩ := good_of_L (P := P) (G := G) (Q := LiftQ G ρ0 w0 H0 tl.length Q) (trk := tr) (nt := tl.length) ops.toList 0 tl hl evs [] (fun j o hj => by simpa using hj) (by simp) rfl hdt (fun j ev hj => by rw [Nat.zero_add]; exact htr j ev hj) hg (t0 := tmOf tl) (h0 := hOf hl) rfl rfl (by simp)
  have hn : evs.length = ops.size := by simpa using g7
  have hordF : orderedBy ops tl.length (fpOf tr) = true := fpAt_fpL htr hn rfl hord
  refine region_mid hm hback hordF (fun i hi => g1 i (Nat.zero_le _) hi) (fun i hi hk ρ' w' a' u hu hst' => ?_) (fun hok ρ' w' a' hst' => ?_) hst
  · have hmem := g6 i (Nat.zero_le _) hi hk
    rw [killT_list, killH_list htr hn hle hall] at hst'
    generalize pksOf evs 0 [] = pk at hfin hmem
    cases pk with
    | nil => cases hmem
    | cons p pk =>
      have := hfin _ hmem
      exact ⟨.pan (tr i).d, _, _, df, ρ', this, ⟨u, rfl, hu⟩, by simp [killTl], hst'⟩
  · have hnil : ∀ (l : List Ev) (i : Nat), (∀ ev, ev ∈ l → ev.k = .ok) → pksOf l i [] = [] := by
      intro l
      induction l with
      | nil => intro i _; rfl
      | cons ev l ih =>
        intro i he
        rw [pksOf, he ev (List.mem_cons_self ..)]
        exact ih _ fun x hx => he x (List.mem_cons_of_mem _ hx)
    rw [hnil evs 0 (fun ev hev => by
      obtain ⟨j, hj⟩ := List.getElem?_of_mem hev
      have hjl : j < evs.length := (List.getElem?_eq_some_iff.1 hj).1
      have := hok j (by omega)
      rwa [htr j ev hj] at this)] at hfin
    rw [g2, g3] at hst'
    exact ⟨.nrm, _, _, df, ρ', hfin, rfl, g4, hst'⟩
/-- so, what comes behind hidden -/
theorem wpD_drawk (hT : ∀ t, TyOK P t (T t)) (hm : P.follows .mixedOrders = true) {id : Nat} (hback : backB ops = true)
    (h : ∀ K : List D → List HO → Foot → List (Nat × D) → Prop, (∀ tl' hl' fp pk, (orderedBy ops tl.length (fpAt fp) && decide (hl.length ≤ hl'.length) && fp.all fun p => p.2.all fun r => decide (r < hl'.length)) = true → (match pk with
      | [] => Q .nrm tl' hl' df
      | _ => ∀ p, p ∈ pk → Q (.pan p.2) (killTl ops tl) (killHl fp (hl ++ List.replicate (hl'.length - hl.length) .free)) df) → K tl' hl' fp pk) → wpT P G T ops ops.toList 0 tl hl [] [] K) : wpD P G M (.region id ops true) Q tl hl df :=
  wpD_draw hT hm hback (h _ fun _ _ _ _ h1 h2 => ⟨h1, h2⟩)
end
end Go.Proofs.YtgloldepdhgfaaaDoor
namespace Go.Proofs.YtgloldepdhgfaaaDoor
set_option linter.unusedSimpArgs false
set_option linter.unusedVariables false
open Go.RowKit
inductive FK where
  | kb | mp | ow
def FK.isB : FK → Bool
  | .kb => true
  | _ => false
def FK.isM : FK → Bool
  | .mp => true
  | _ => false
def FK.isO : FK → Bool
  | .ow => true
  | _ => false
/-- a slice so long -/
def D.isLen (n : Nat) : D → Bool
  | .slice els _ => decide (els.length = n)
  | .lent els _ => decide (els.length = n)
  | _ => false
mutual
/-- x in the place of the box (the map) of a name -/
def D.frz (bx : FK) (i : Nat) (x : D) : D → D
  | .box j o => if bx.isB && decide (j = i) then (if o = 0 then x else .junk) else .box j o
  | .map j => if bx.isM && decide (j = i) then x else .map j
  | .own j n => if bx.isO && decide (j = i) then (if x.isLen n then x else .junk) else .own j n
  | .ebox j sz k o => if bx.isO && decide (j = i) then .junk else .ebox j sz k o
  | .fn f a b => .fn f (D.frzs bx i x a) (D.frzs bx i x b)
  | .iface t d => .iface t (D.frz bx i x d)
  | .tuple ds => .tuple (D.frzs bx i x ds)
  | .agg ds => .agg (D.frzs bx i x ds)
  | .slice els c => .slice (D.frzs bx i x els) c
  | .ref d => .ref (D.frz bx i x d)
  | .mapc ks vs => .mapc (D.frzs bx i x ks) (D.frzs bx i x vs)
  | .lent els sp => .lent (D.frzs bx i x els) (D.frzs bx i x sp)
  | d => d
def D.frzs (bx : FK) (i : Nat) (x : D) : List D → List D
  | [] => []
  | d :: r => D.frz bx i x d :: D.frzs bx i x r
end
theorem D.frzs_length (bx : FK) (i : Nat) (x : D) : ∀ ds : List D, (D.frzs bx i x ds).length = ds.length
  | [] => rfl
  | d :: r => by rw [D.frzs, List.length_cons, D.frzs_length bx i x r]; rfl
theorem D.frzs_map (bx : FK) (i : Nat) (x : D) : ∀ ds : List D, D.frzs bx i x ds = ds.map (D.frz bx i x)
  | [] => rfl
  | d :: r => by rw [D.frzs, D.frzs_map bx i x r]; rfl
def D.isAggD : D → Bool
  | .agg _ => true
  | _ => false
theorem D.frz_size {bx : FK} {i : Nat} {x : D} (hx : x.isAggD = false) (d : D) : (D.frz bx i x d).size = d.size ∧ (D.frz bx i x d).isAggD = d.isAggD := by
  have hs : x.size = 1 := by cases x <;> first | rfl | cases hx
  cases d <;> first | exact ⟨rfl, rfl⟩ | skip
  case box j o =>
    rw [D.frz]
    split
    · split
      · exact ⟨hs, hx⟩
      · exact ⟨rfl, rfl⟩
    · exact ⟨rfl, rfl⟩
  case map j =>
    rw [D.frz]
    split
    · exact ⟨hs, hx⟩
    · exact ⟨rfl, rfl⟩
  case own j n =>
    rw [D.frz]
    split
    · split
      · exact ⟨hs, hx⟩
      · exact ⟨rfl, rfl⟩
    · exact ⟨rfl, rfl⟩
  case ebox j sz k o =>
    rw [D.frz]
    split
    · exact ⟨rfl, rfl⟩
    · exact ⟨rfl, rfl⟩
  case agg ds => rw [D.frz]; exact ⟨D.frzs_length bx i x ds, rfl⟩
theorem RpAt_of {ρ : Rho} {w : World} {d : D} {b o : Nat} {u : Value} (h : d.isAggD = false) (hc : cellAt ρ w b o u) (hr : Rp ρ w d u) : RpAt ρ w d b o := by
  cases d <;> first | exact ⟨u, hc, hr⟩ | cases h
structure FrzOK (ρ : Rho) (w : World) (bx : FK) (i : Nat) (x : D) : Prop where
  a : x.isAggD = false
  b : bx.isB = true → ∀ v, Rp ρ w (.box i 0) v → Rp ρ w x v
  m : bx.isM = true → ∀ v, Rp ρ w (.map i) v → Rp ρ w x v
  o : bx.isO = true → ∀ n v, Rp ρ w (.own i n) v → x.isLen n = true → Rp ρ w x v
section
variable {ρ : Rho} {w : World} {bx : FK} {i : Nat} {x : D}
mutual
theorem Rp_frz (H : FrzOK ρ w bx i x) : ∀ (d : D) (v : Value), Rp ρ w d v → Rp ρ w (D.frz bx i x d) v
  | .junk, v, h => h
  | .int _ _, v, h => h
  | .bool _, v, h => h
  | .str _, v, h => h
  | .nilp, v, h => h
  | .nilf, v, h => h
  | .nili, v, h => h
  | .nilm, v, h => h
  | .box j o, v, h => by
    rw [D.frz]
    split
    · rename_i hc
      simp only [Bool.and_eq_true, decide_eq_true_eq] at hc
      split
      · rename_i ho
        subst ho
        obtain ⟨h1, rfl⟩ := hc
        exact H.b h1 v h
      · rw [Rp]; trivial
    · exact h
  | .map j, v, h => by
    rw [D.frz]
    split
    · rename_i hc
      simp only [Bool.and_eq_true, decide_eq_true_eq] at hc
      obtain ⟨h1, rfl⟩ := hc
      exact H.m h1 v h
    · exact h
  | .own j n, v, h => by
    rw [D.frz]
    split
    · rename_i hc
      simp only [Bool.and_eq_true, decide_eq_true_eq] at hc
      split
      · rename_i ho
        obtain ⟨h1, rfl⟩ := hc
        exact H.o h1 n v h ho
      · rw [Rp]; trivial
    · exact h
  | .ebox j sz k o, v, h => by
    rw [D.frz]
    split
    · rw [Rp]; trivial
    · exact h
  | .fn f a b, v, h => by
    rw [D.frz]
    rw [Rp] at h ⊢
    obtain ⟨us, vs, h1, h2, h3⟩ := h
    exact ⟨us, vs, h1, RpL_frz H a us h2, RpL_frz H b vs h3⟩
  | .iface t d, v, h => by
    rw [D.frz]
    rw [Rp] at h ⊢
    obtain ⟨u, h1, h2⟩ := h
    exact ⟨u, h1, Rp_frz H d u h2⟩
  | .tuple ds, v, h => by
    rw [D.frz]
    rw [Rp] at h ⊢
    obtain ⟨u, h1, h2⟩ := h
    exact ⟨u, h1, RpL_frz H ds u h2⟩
  | .agg ds, v, h => by
    rw [D.frz]
    rw [Rp] at h ⊢
    obtain ⟨u, h1, h2⟩ := h
    exact ⟨u, h1, RpL_frz H ds u h2⟩
  | .slice els c, v, h => by
    rw [D.frz]
    rw [Rp] at h ⊢
    obtain ⟨A, cap, sz, h1, h2, h3, h4, h5, h6, h7⟩ := h
    rw [D.frzs_length]
    refine ⟨A, cap, sz, h1, h2, h3, h4, fun e he => ?_, h6, fun hne => ?_⟩
    · rw [D.frzs_map] at he
      obtain ⟨d, hd, rfl⟩ := List.mem_map.1 he
      rw [(D.frz_size H.a d).1]; exact h5 d hd
    · have hne' : els ≠ [] := fun e => hne (by rw [e]; rfl)
      obtain ⟨b, o, h8, h9⟩ := h7 hne'
      exact ⟨b, o, h8, RpE_frz H els b o h9⟩
  | .mapc ks vs, v, h => by
    rw [D.frz]
    rw [Rp] at h ⊢
    obtain ⟨b, ents, clock, h1, h2, h3, h4, h5⟩ := h
    exact ⟨b, ents, clock, h1, h2, h3, RpL_frz H ks _ h4, RpL_frz H vs _ h5⟩
  | .lent els sp, v, h => by
    rw [D.frz]
    rw [Rp] at h ⊢
    obtain ⟨b, o, cap, sz, h1, h2, h3, h4, h5, h6, h7, h8⟩ := h
    have hsz : ∀ l : List D, (∀ e, e ∈ l → e.size = sz) → ∀ e, e ∈ D.frzs bx i x l → e.size = sz := fun l hl e he => by
      rw [D.frzs_map] at he
      obtain ⟨d, hd, rfl⟩ := List.mem_map.1 he
      rw [(D.frz_size H.a d).1]; exact hl d hd
    rw [D.frzs_length, D.frzs_length]
    exact ⟨b, o, cap, sz, h1, h2, h3, h4, hsz els h5, hsz sp h6, RpE_frz H els b o h7, RpE_frz H sp b _ h8⟩
  | .ref d, v, h => by
    rw [D.frz]
    obtain ⟨b, o, h1, h2⟩ := Rp_ref.1 h
    refine Rp_ref.2 ⟨b, o, h1, ?_⟩
    cases d
    case agg cs => rw [D.frz]; exact RpC_frz H cs b o h2
    all_goals
      obtain ⟨u, h3, h4⟩ := h2
      exact RpAt_of ((D.frz_size (bx := bx) (i := i) H.a _).2.trans rfl) h3 (Rp_frz H _ u h4)
theorem RpL_frz (H : FrzOK ρ w bx i x) : ∀ (ds : List D) (vs : List Value), RpL ρ w ds vs → RpL ρ w (D.frzs bx i x ds) vs
  | [], vs, h => h
  | d :: r, vs, h => by
    rw [D.frzs]
    rw [RpL_cons] at h
    obtain ⟨v, us, rfl, h2, h3⟩ := h
    exact RpL_cons'.2 ⟨Rp_frz H d v h2, RpL_frz H r us h3⟩
theorem RpC_frz (H : FrzOK ρ w bx i x) : ∀ (ds : List D) (b o : Nat), RpC ρ w ds b o → RpC ρ w (D.frzs bx i x ds) b o
  | [], b, o, h => h
  | d :: r, b, o, h => by
    rw [D.frzs]
    rw [RpC_cons] at h
    obtain ⟨⟨v, h1, h2⟩, h3⟩ := h
    exact RpC_cons.2 ⟨⟨v, h1, Rp_frz H d v h2⟩, RpC_frz H r b (o + 1) h3⟩
theorem RpE_frz (H : FrzOK ρ w bx i x) : ∀ (ds : List D) (b o : Nat), RpE ρ w ds b o → RpE ρ w (D.frzs bx i x ds) b o
  | [], b, o, h => h
  | d :: r, b, o, h => by
    rw [D.frzs]
    rw [RpE_cons] at h
    refine RpE_cons.2 ⟨?_, ?_⟩
    · have h2 := h.1
      cases d
      case agg cs => rw [D.frz]; exact RpC_frz H cs b o h2
      all_goals
        obtain ⟨u, h3, h4⟩ := h2
        exact RpAt_of ((D.frz_size (bx := bx) (i := i) H.a _).2.trans rfl) h3 (Rp_frz H _ u h4)
    · rw [(D.frz_size H.a d).1]; exact RpE_frz H r b _ h.2
end
end
theorem cells_of_one {d : D} (h : d.isAggD = false) : d.cells = [d] := by cases d <;> first | rfl | cases h
theorem cells_frz {bx : FK} {i : Nat} {x : D} (hx : x.isAggD = false) : ∀ els : List D, (els.map (D.frz bx i x)).flatMap D.cells = D.frzs bx i x (els.flatMap D.cells)
  | [] => rfl
  | e :: r => by
    rw [List.map_cons, List.flatMap_cons, List.flatMap_cons, cells_frz hx r, D.frzs_map, D.frzs_map, List.map_append]
    congr 1
    cases he : e.isAggD with
    | false => rw [cells_of_one he, cells_of_one ((D.frz_size (bx := bx) (i := i) hx e).2.trans he)]; rfl
    | true =>
      cases e <;> first | (cases he; done) | skip
      rw [D.frz, D.frzs_map]; rfl
def HO.frz (bx : FK) (i : Nat) (x : D) : HO → HO
  | .cells ty ds => .cells ty (D.frzs bx i x ds)
  | .mp es => .mp (es.map fun p => (D.frz bx i x p.1, D.frz bx i x p.2))
  | .row sz els => .row sz (els.map (D.frz bx i x))
  | h => h
theorem HO.frz_live (bx : FK) (i : Nat) (x : D) (h : HO) : (HO.frz bx i x h).live = h.live := by cases h <;> rfl
def frzH (bx : FK) (i : Nat) (x : D) (H : Nat → HO) : Nat → HO := fun r => HO.frz bx i x (setH H i .dead r)
section
variable {G : Nat → Option D} {ρ : Rho} {w : World} {H : Nat → HO}
/-- an object's block stays from here on -/
def Rho.stay (ρ : Rho) (b : Nat) : Rho := ⟨fun k => if k = b then none else ρ.c k, ρ.nm⟩
theorem Grow.stay {b : Nat} {k : Nat} (hb : ρ.c b = some k) : Grow ρ w (ρ.stay b) w := by
  refine ⟨rfl, rfl, rfl, Nat.le_refl _, fun r hr h => ⟨?_, rfl⟩, fun r m hr h => ⟨?_, fun vs ty fz hh => ⟨vs, hh, rfl, fun _ _ => rfl⟩⟩, fun _ _ h => h⟩
  · by_cases hrb : r = b
    · simp [Rho.stay, hrb]
    · simp [Rho.stay, hrb, h]
  · by_cases hrb : r = b
    · exact .inr (by simp [Rho.stay, hrb])
    · exact .inl ⟨m, by simp [Rho.stay, hrb, h], Nat.le_refl _⟩
theorem Ex.frz {ρ' : Rho} (hR : Rel G ρ w H) {bx : FK} {i : Nat} {x : D} (g : Grow ρ w ρ' w) (hnm : ρ'.nm = ρ.nm) (hfr : ∀ k, w.heap.size ≤ k → ρ'.c k = none) (hoth : ∀ r b f, r ≠ i → ρ.nm r = some (b, f) → (H r).live = true → ρ'.c b = ρ.c b)
    (hnl : ∀ k, ¬ Live ρ H k → ρ'.c k = ρ.c k) (hF : FrzOK ρ' w bx i x) : Rel G ρ' w (frzH bx i x H) ∧ Ex ρ w H ρ' w (frzH bx i x H) := by
  have hfi : frzH bx i x H i = .dead := by unfold frzH; rw [setH_same]; rfl
  have hfn : ∀ r, r ≠ i → frzH bx i x H r = HO.frz bx i x (H r) := fun r hr => by unfold frzH; rw [setH_ne _ _ hr]
  have hlv : ∀ r, (frzH bx i x H r).live = true → r ≠ i ∧ (H r).live = true := fun r hr => by
    by_cases h : r = i
    · subst h; rw [hfi] at hr; cases hr
    · rw [hfn r h, HO.frz_live] at hr; exact ⟨h, hr⟩
  refine ⟨⟨fun r hr => ?_, fun k hk => hfr k hk, fun r b' f' h1 => ?_, fun r s b' f1 f2 h1 h2 h3 h4 => hR.inj r s b' f1 f2 (hnm ▸ h1) (hnm ▸ h2) (hlv r h3).2 (hlv s h4).2, fun gg d hd => (hR.glob gg d hd).grow g⟩, g, fun k hk hn => ⟨rfl, hnl k hn⟩, fun k hlk hk => ?_⟩
  · by_cases h : r = i
    · subst h; rw [hfi] at hr; cases hr
    · rw [hfn r h] at hr
      rw [hnm]
      refine hR.free r ?_
      cases hh : H r <;> rw [hh] at hr <;> first | rfl | cases hr
  · rw [hnm] at h1
    by_cases h : r = i
    · subst h; rw [hfi]; trivial
    · rw [hfn r h]
      have h2 := hR.obj r b' f' h1
      cases hh : H r with
      | dead => trivial
      | free => trivial
      | tok =>
        rw [hh] at h2
        have hbb := hoth r b' f' h h1 (by rw [hh]; rfl)
        exact ⟨hbb.trans h2.1, h2.2⟩
      | cells ty ds =>
        rw [hh] at h2
        have hbb := hoth r b' f' h h1 (by rw [hh]; rfl)
        obtain ⟨c0, vs, e1, e2⟩ := h2
        exact ⟨hbb.trans c0, vs, e1, RpL_frz hF ds vs (RpL.grow g _ _ e2)⟩
      | row sz els =>
        rw [hh] at h2
        have hbb := hoth r b' f' h h1 (by rw [hh]; rfl)
        obtain ⟨c0, a1, a2, a3, a4, a5, ty, vs, us, e1, e2, e3⟩ := h2
        refine ⟨hbb.trans c0, a1, fun e he => ?_, by rw [List.length_map]; exact a3, a4, by rw [List.length_map]; exact a5, ty, vs, us, e1, ?_, e3⟩
        · obtain ⟨e', he', rfl⟩ := List.mem_map.1 he
          rw [(D.frz_size hF.a e').1]; exact a2 e' he'
        · rw [cells_frz hF.a]
          exact RpL_frz hF _ _ (RpL.grow g _ _ e2)
      | mp es =>
        rw [hh] at h2
        have hbb := hoth r b' f' h h1 (by rw [hh]; rfl)
        obtain ⟨c0, ents, clock, e1, e2, e3, e4⟩ := h2
        refine ⟨hbb.trans c0, ents, clock, e1, ?_, ?_, e4.1, by rw [List.length_map]; exact e4.2⟩
        · have := RpL_frz hF _ _ (RpL.grow g _ _ e2)
          rw [D.frzs_map] at this
          rw [List.map_map]; rw [List.map_map] at this; exact this
        · have := RpL_frz hF _ _ (RpL.grow g _ _ e3)
          rw [D.frzs_map] at this
          rw [List.map_map]; rw [List.map_map] at this; exact this
  · obtain ⟨r, f', h1, h2⟩ := hlk
    exact ⟨r, f', hnm ▸ h1, (hlv r h2).2⟩
theorem Ex.stay (hR : Rel G ρ w H) {bx : FK} {i b f : Nat} {x : D} (hn : ρ.nm i = some (b, f)) (hl : (H i).live = true) (hc : ρ.c b = some 0) (hF : FrzOK (ρ.stay b) w bx i x) :
    Rel G (ρ.stay b) w (frzH bx i x H) ∧ Ex ρ w H (ρ.stay b) w (frzH bx i x H) := by
  refine Ex.frz hR (Grow.stay hc) rfl (fun k hk => ?_) (fun r b' f' hr h1 h2 => ?_) (fun k hk => ?_) hF
  · have := hR.fresh k hk
    by_cases h : k = b
    · simp [Rho.stay, h]
    · simp [Rho.stay, h, this]
  · have hbb : b' ≠ b := fun e => by subst e; exact hr (hR.inj r i b' f' f h1 hn h2 hl)
    simp [Rho.stay, hbb]
  · have : k ≠ b := fun e => hk ⟨i, f, by rw [e]; exact hn, hl⟩
    simp [Rho.stay, this]
/-- what stands in a box, as a place -/
def refOf (T : TypeId → Ty) (ty : TypeId) (ds : List D) : D := if (T ty).k.isAgg then .ref (.agg ds) else match ds with | [d] => .ref d | _ => .junk
variable {P : Program} {T : TypeId → Ty} {Q : DQ} {tl : List D} {hl : List HO} {df : Df} {M : Nat}
def dfFrz (bx : FK) (i : Nat) (x : D) (df : Df) : Df := df.map fun p => (p.1, D.frzs bx i x p.2)
theorem DfM.frz {bx : FK} {i : Nat} {x : D} (hF : FrzOK ρ w bx i x) : ∀ {df : Df} {ds : List Deferred}, DfM ρ w ds df → DfM ρ w ds (dfFrz bx i x df)
  | [], ds, h => h
  | (fn, cs) :: r, ds, ⟨us, ds', h1, h2, h3⟩ => ⟨us, ds', h1, RpL_frz hF _ _ h2, DfM.frz hF h3⟩
theorem InSt.frz {ρ' : Rho} {ρ0 : Rho} {w0 : World} {H0 : Nat → HO} {nt : Nat} {a : Act} {bx : FK} {i : Nat} {x : D} (hst : InSt G ρ0 w0 H0 nt ρ w a (tmOf tl) (hOf hl) df) (hl' : (hOf hl i).live = true) (hF : FrzOK ρ' w bx i x)
    (hE : Rel G ρ' w (frzH bx i x (hOf hl)) ∧ Ex ρ w (hOf hl) ρ' w (frzH bx i x (hOf hl))) :
    InSt G ρ0 w0 H0 nt ρ' w a (tmOf (D.frzs bx i x tl)) (hOf ((hl.set i .dead).map (HO.frz bx i x))) (dfFrz bx i x df) := by
  obtain ⟨h1, h2⟩ := hE
  have g := h2.grow
  have he : hOf ((hl.set i .dead).map (HO.frz bx i x)) = frzH bx i x (hOf hl) := by
    have hi : i < hl.length := by
      rcases Nat.lt_or_ge i hl.length with h | h
      · exact h
      · unfold hOf at hl'; rw [List.getD_eq_getElem?_getD, List.getElem?_eq_none h] at hl'; cases hl'
    funext r
    unfold frzH hOf setH
    dsimp only
    rw [List.getD_eq_getElem?_getD, List.getElem?_map]
    by_cases hr : r = i
    · subst hr; simp [hi]
    · rw [List.getElem?_set_ne (Ne.symm hr)]
      simp only [hr, if_false]
      rw [List.getD_eq_getElem?_getD]
      cases hl[r]? <;> rfl
  rw [he]
  refine ⟨h1, hst.ex.trans h2, fun k => ?_, hst.size, DfM.frz hF (hst.df.grow g)⟩
  have := Rp_frz hF _ _ (Rp.grow g _ _ (hst.tmp k))
  have e : tmOf (D.frzs bx i x tl) k = D.frz bx i x (tmOf tl k) := by
    unfold tmOf
    rw [D.frzs_map, List.getD_eq_getElem?_getD, List.getElem?_map, List.getD_eq_getElem?_getD]
    cases tl[k]? <;> rfl
  rw [e]; exact this
/-- a box is written no more -/
theorem wpD_stay {c : Code} (i : Nat) {ty : TypeId} {ds : List D} (hi : hOf hl i = .cells ty ds) (hone : ds.all D.one = true) (hx : (refOf T ty ds).isAggD = false ∧ (refOf T ty ds = .ref (.agg ds) ∨ ∃ d, ds = [d] ∧ refOf T ty ds = .ref d))
    (h : wpD P G M c Q (D.frzs .kb i (refOf T ty ds) tl) ((hl.set i .dead).map (HO.frz .kb i (refOf T ty ds))) (dfFrz .kb i (refOf T ty ds) df)) : wpD P G M c Q tl hl df := fun ρ0 w0 H0 ρ w a hbs hst => by
  have hlive : (hOf hl i).live = true := by rw [hi]; rfl
  cases hnm : ρ.nm i with
  | none =>
    have hF : FrzOK ρ w .kb i (refOf T ty ds) := ⟨hx.1, (fun _ v hv => by rw [Rp] at hv; obtain ⟨b, f, h1, -⟩ := hv; rw [hnm] at h1; cases h1), (fun h => by cases h), (fun h => by cases h)⟩
    have := h ρ0 w0 H0 ρ w a hbs (by
      rw [D.frzs_length]
      exact hst.frz hlive hF (Ex.frz hst.rel (Grow.refl _ _) rfl hst.rel.fresh (fun _ _ _ _ _ _ => rfl) (fun _ _ => rfl) hF))
    rw [D.frzs_length] at this
    exact this
  | some bf =>
    obtain ⟨b, f⟩ := bf
    have hobj := hst.rel.obj i b f hnm
    rw [hi] at hobj
    obtain ⟨hc, vs, hh, hr⟩ := hobj
    have g : Grow ρ w (ρ.stay b) w := Grow.stay hc
    have hF : FrzOK (ρ.stay b) w .kb i (refOf T ty ds) := ⟨hx.1, fun _ v hv => ?_, (fun h => by cases h), fun h => by cases h⟩
    · have := h ρ0 w0 H0 (ρ.stay b) w a hbs (by
        rw [D.frzs_length]
        exact hst.frz hlive hF (Ex.stay hst.rel hnm hlive hc hF))
      rw [D.frzs_length] at this
      exact this
    · rw [Rp] at hv
      obtain ⟨b', f', h1, rfl⟩ := hv
      have h1' : ρ.nm i = some (b', f') := h1
      rw [hnm] at h1'; cases h1'
      have hcell : ∀ (j : Nat) (d : D), ds[j]? = some d → ∃ u, cellAt (ρ.stay b) w b (0 + j) u ∧ Rp (ρ.stay b) w d u := fun j d hj => by
        obtain ⟨u, e1, e2⟩ := hr.get hj
        have e3 := Rp.grow g _ _ e2
        refine ⟨u, ⟨fun k hk => by simp [Rho.stay] at hk, ?_, D.one_cell (List.all_eq_true.1 hone d (List.mem_of_getElem? hj)) e3⟩, e3⟩
        rw [Nat.zero_add]
        simp [World.cell?, hh, e1]
      rcases hx.2 with e | ⟨d, rfl, e⟩
      · rw [e]; exact Rp_ref.2 ⟨b, 0, rfl, RpC.of hcell⟩
      · rw [e]
        obtain ⟨u, e1, e2⟩ := hcell 0 d rfl
        refine Rp_ref.2 ⟨b, 0, rfl, ?_⟩
        cases d
        case agg cs => simp [D.one] at hone
        all_goals exact ⟨u, e1, e2⟩
/-- a map is written no more -/
theorem wpD_staym {c : Code} (i : Nat) {es : List (D × D)} (hi : hOf hl i = .mp es)
    (h : wpD P G M c Q (D.frzs .mp i (.mapc (es.map (·.1)) (es.map (·.2))) tl) ((hl.set i .dead).map (HO.frz .mp i (.mapc (es.map (·.1)) (es.map (·.2))))) (dfFrz .mp i (.mapc (es.map (·.1)) (es.map (·.2))) df)) : wpD P G M c Q tl hl df := fun ρ0 w0 H0 ρ w a hbs hst => by
  have hlive : (hOf hl i).live = true := by rw [hi]; rfl
  cases hnm : ρ.nm i with
  | none =>
    have hF : FrzOK ρ w .mp i (.mapc (es.map (·.1)) (es.map (·.2))) := ⟨rfl, (fun h => by cases h), (fun _ v hv => by rw [Rp] at hv; obtain ⟨b, f, h1, -⟩ := hv; rw [hnm] at h1; cases h1), fun h => by cases h⟩
    have := h ρ0 w0 H0 ρ w a hbs (by
      rw [D.frzs_length]
      exact hst.frz hlive hF (Ex.frz hst.rel (Grow.refl _ _) rfl hst.rel.fresh (fun _ _ _ _ _ _ => rfl) (fun _ _ => rfl) hF))
    rw [D.frzs_length] at this
    exact this
  | some bf =>
    obtain ⟨b, f⟩ := bf
    have hobj := hst.rel.obj i b f hnm
    rw [hi] at hobj
    obtain ⟨hc, ents, clock, hh, h1, h2, -⟩ := hobj
    have g : Grow ρ w (ρ.stay b) w := Grow.stay hc
    have hF : FrzOK (ρ.stay b) w .mp i (.mapc (es.map (·.1)) (es.map (·.2))) := ⟨rfl, (fun h => by cases h), (fun _ v hv => ?_), fun h => by cases h⟩
    · have := h ρ0 w0 H0 (ρ.stay b) w a hbs (by
        rw [D.frzs_length]
        exact hst.frz hlive hF (Ex.stay hst.rel hnm hlive hc hF))
      rw [D.frzs_length] at this
      exact this
    · rw [Rp] at hv
      obtain ⟨b', f', e1, rfl⟩ := hv
      have e1' : ρ.nm i = some (b', f') := e1
      rw [hnm] at e1'; cases e1'
      rw [Rp]
      exact ⟨b, ents, clock, rfl, by simp [Rho.stay], hh, RpL.grow g _ _ h1, RpL.grow g _ _ h2⟩
/-- a slice of the call's own is written no more -/
theorem frzOx (hR : Rel G ρ w H) {i : Nat} {sz : Nat} {els : List D} (hi : H i = .row sz els) {x : D} (hx : ∀ ρ', FrzOK ρ' w .ow i (.slice els .any) → FrzOK ρ' w .ow i x) : ∃ ρ', FrzOK ρ' w .ow i x ∧ Grow ρ w ρ' w ∧ Rel G ρ' w (frzH .ow i x H) ∧ Ex ρ w H ρ' w (frzH .ow i x H) := by
  have hlive : (H i).live = true := by rw [hi]; rfl
  cases hnm : ρ.nm i with
  | none =>
    have hF : FrzOK ρ w .ow i (.slice els .any) := ⟨rfl, (fun h => by cases h), (fun h => by cases h), fun _ n v hv hn => by
      rw [Rp] at hv
      rcases hv with ⟨rfl, A, rfl⟩ | ⟨b, f, h1, -⟩
      · have : els = [] := by simpa [D.isLen] using hn
        subst this
        rw [Rp]
        exact ⟨A, 0, 0, rfl, Nat.le_refl _, Nat.zero_le _, Nat.zero_le _, (fun _ h => by cases h), trivial, fun h => absurd rfl h⟩
      · rw [hnm] at h1; cases h1⟩
    obtain ⟨r1, r2⟩ := Ex.frz hR (Grow.refl _ _) rfl hR.fresh (fun _ _ _ _ _ _ => rfl) (fun _ _ => rfl) (hx _ hF)
    exact ⟨ρ, hx _ hF, Grow.refl _ _, r1, r2⟩
  | some bf =>
    obtain ⟨b, f⟩ := bf
    have hobj := hR.obj i b f hnm
    rw [hi] at hobj
    obtain ⟨hc, a1, a2, a3, a4, a5, ty, vs, us, hh, h1, h2, h5⟩ := hobj
    have g : Grow ρ w (ρ.stay b) w := Grow.stay hc
    have hF : FrzOK (ρ.stay b) w .ow i (.slice els .any) := ⟨rfl, (fun h => by cases h), (fun h => by cases h), fun _ n v hv hn => ?_⟩
    · obtain ⟨r1, r2⟩ := Ex.stay hR hnm hlive hc (hx _ hF)
      exact ⟨ρ.stay b, hx _ hF, g, r1, r2⟩
    · have hn' : els.length = n := by simpa [D.isLen] using hn
      subst hn'
      rw [Rp] at hv
      rcases hv with ⟨h0, A, rfl⟩ | ⟨b', f', h3, rfl, h4⟩
      · have : els = [] := List.eq_nil_of_length_eq_zero h0
        subst this
        rw [Rp]
        exact ⟨A, 0, 0, rfl, Nat.le_refl _, Nat.zero_le _, Nat.zero_le _, (fun _ h => by cases h), trivial, fun h => absurd rfl h⟩
      · have h3' : ρ.nm i = some (b', f') := h3
        rw [hnm] at h3'; cases h3'
        rw [Rp]
        refine ⟨_, f, sz, rfl, a3, a4, a5, a2, trivial, fun _ => ⟨b, 0, rfl, RpE.of a2 fun k d hk => ?_⟩⟩
        have hr := RpL.elem h1 a2 hk
        have hdl : d.cells.length = sz := by rw [← a2 d (List.mem_of_getElem? hk)]; cases d <;> rfl
        have hcell : ∀ (j : Nat) (d' : D), d.cells[j]? = some d' → ∃ u, cellAt (ρ.stay b) w b (0 + k * sz + j) u ∧ Rp (ρ.stay b) w d' u := fun j d' hj => by
          obtain ⟨u, e1, e2⟩ := hr.get hj
          have e3 := Rp.grow g _ _ e2
          have hjl : j < sz := by have := (List.getElem?_eq_some_iff.1 hj).1; omega
          rw [List.getElem?_take_of_lt hjl, List.getElem?_drop] at e1
          refine ⟨u, ⟨fun k hk => by simp [Rho.stay] at hk, ?_, h5 u (List.mem_of_getElem? e1)⟩, e3⟩
          have e1l := (List.getElem?_eq_some_iff.1 e1).1
          simp only [Nat.zero_add, World.cell?, hh, Option.isSome_none, Bool.false_eq_true, if_false]
          rw [List.getElem?_toArray, List.getElem?_append_left e1l]; exact e1
        cases hd : d.isAggD with
        | true =>
          cases d <;> first | (cases hd; done) | skip
          rename_i cs
          exact RpC.of hcell
        | false =>
          obtain ⟨u, e1, e2⟩ := hcell 0 d (by rw [cells_of_one hd]; rfl)
          exact RpAt_of hd e1 e2
theorem frzO (hR : Rel G ρ w H) {i : Nat} {sz : Nat} {els : List D} (hi : H i = .row sz els) : ∃ ρ', FrzOK ρ' w .ow i (.slice els .any) ∧ Grow ρ w ρ' w ∧ Rel G ρ' w (frzH .ow i (.slice els .any) H) ∧ Ex ρ w H ρ' w (frzH .ow i (.slice els .any) H) := frzOx hR hi fun _ h => h
theorem FrzOK.lent {ρ : Rho} {w : World} {i : Nat} {els : List D} (h : FrzOK ρ w .ow i (.slice els .any)) (hne : els ≠ []) : FrzOK ρ w .ow i (.lent els []) :=
  ⟨rfl, (fun h => by cases h), (fun h => by cases h), fun hb n v hv hn => by
    have := h.o hb n v hv hn
    rw [Rp] at this
    rw [Rp]
    obtain ⟨A, cap, sz, h1, h2, h3, h4, h5, h6, h7⟩ := this
    obtain ⟨b, o, rfl, h8⟩ := h7 hne
    exact ⟨b, o, cap, sz, h1, by simpa using h2, h3, by simpa using h4, h5, (fun _ h => by cases h), h8, RpE_nil⟩⟩
theorem wpD_stayO {c : Code} (i : Nat) {sz : Nat} {els : List D} (hi : hOf hl i = .row sz els)
    (h : wpD P G M c Q (D.frzs .ow i (.slice els .any) tl) ((hl.set i .dead).map (HO.frz .ow i (.slice els .any))) (dfFrz .ow i (.slice els .any) df)) : wpD P G M c Q tl hl df := fun ρ0 w0 H0 ρ w a hbs hst => by
  obtain ⟨ρ', hF, -, r1, r2⟩ := frzO hst.rel hi
  have := h ρ0 w0 H0 ρ' w a hbs (by
    rw [D.frzs_length]
    exact hst.frz (by rw [hi]; rfl) hF ⟨r1, r2⟩)
  rw [D.frzs_length] at this
  exact this
end
end Go.Proofs.YtgloldepdhgfaaaDoor
namespace Go.Proofs.YtgloldepdhgfaaaDoor
set_option linter.unusedSimpArgs false
set_option linter.unusedVariables false
open Go.RowKit
def Cp.low (m : Nat) : Cp → Bool
  | .tok i => decide (i < m)
  | _ => true
mutual
/-- does it name objects below m alone? -/
def D.low (m : Nat) : D → Bool
  | .box i _ => decide (i < m)
  | .map i => decide (i < m)
  | .own i _ => decide (i < m)
  | .ebox i _ _ _ => decide (i < m)
  | .fn _ a b => D.lows m a && D.lows m b
  | .iface _ d => D.low m d
  | .tuple ds => D.lows m ds
  | .agg ds => D.lows m ds
  | .slice els c => D.lows m els && c.low m
  | .ref d => D.low m d
  | .mapc ks vs => D.lows m ks && D.lows m vs
  | .lent els sp => D.lows m els && D.lows m sp
  | _ => true
def D.lows (m : Nat) : List D → Bool
  | [] => true
  | d :: r => D.low m d && D.lows m r
end
mutual
theorem Rp_bl {ρ ρ' : Rho} {w : World} {m : Nat} (hn : ∀ i, i < m → ρ'.nm i = ρ.nm i) (hc : ρ'.c = ρ.c) : ∀ (d : D) (v : Value), d.low m = true → Rp ρ w d v → Rp ρ' w d v
  | .junk, v, _, h => by rw [Rp]; trivial
  | .int k n, v, _, h => by rw [Rp] at h ⊢; exact h
  | .bool b, v, _, h => by rw [Rp] at h ⊢; exact h
  | .str s, v, _, h => by rw [Rp] at h ⊢; exact h
  | .nilp, v, _, h => by rw [Rp] at h ⊢; exact h
  | .nilf, v, _, h => by rw [Rp] at h ⊢; exact h
  | .nili, v, _, h => by rw [Rp] at h ⊢; exact h
  | .nilm, v, _, h => by rw [Rp] at h ⊢; exact h
  | .fn f a b, v, p, h => by
    rw [D.low, Bool.and_eq_true] at p
    rw [Rp] at h ⊢
    obtain ⟨us, vs, h1, h2, h3⟩ := h
    exact ⟨us, vs, h1, RpL_bl hn hc a us p.1 h2, RpL_bl hn hc b vs p.2 h3⟩
  | .iface t d, v, p, h => by
    rw [D.low] at p
    rw [Rp] at h ⊢
    obtain ⟨u, h1, h2⟩ := h
    exact ⟨u, h1, Rp_bl hn hc d u p h2⟩
  | .tuple ds, v, p, h => by
    rw [D.low] at p
    rw [Rp] at h ⊢
    obtain ⟨u, h1, h2⟩ := h
    exact ⟨u, h1, RpL_bl hn hc ds u p h2⟩
  | .agg ds, v, p, h => by
    rw [D.low] at p
    rw [Rp] at h ⊢
    obtain ⟨u, h1, h2⟩ := h
    exact ⟨u, h1, RpL_bl hn hc ds u p h2⟩
  | .slice els c, v, p, h => by
    rw [D.low, Bool.and_eq_true] at p
    rw [Rp] at h ⊢
    obtain ⟨A, cap, sz, h1, h2, h3, h4, h5, h6, h7⟩ := h
    refine ⟨A, cap, sz, h1, h2, h3, h4, h5, ?_, fun hne => let ⟨b, o, h8, h9⟩ := h7 hne; ⟨b, o, h8, RpE_bl hn hc els b o p.1 h9⟩⟩
    cases c with
    | any => trivial
    | full => exact h6
    | tok i =>
      have hi : i < m := by simpa [Cp.low] using p.2
      rcases h6 with h6 | ⟨b, o, f, vs, ty, g1, g2, g3, g4⟩
      · exact .inl h6
      · exact .inr ⟨b, o, f, vs, ty, g1, g2, (hn i hi).trans g3, g4⟩
  | .box i off, v, p, h => by
    have hi : i < m := by simpa [D.low] using p
    rw [Rp] at h ⊢
    obtain ⟨b, f, h1, h2⟩ := h
    exact ⟨b, f, (hn i hi).trans h1, h2⟩
  | .map i, v, p, h => by
    have hi : i < m := by simpa [D.low] using p
    rw [Rp] at h ⊢
    obtain ⟨b, f, h1, h2⟩ := h
    exact ⟨b, f, (hn i hi).trans h1, h2⟩
  | .own i n, v, p, h => by
    have hi : i < m := by simpa [D.low] using p
    rw [Rp] at h ⊢
    rcases h with h | ⟨b, f, h1, h2⟩
    · exact .inl h
    · exact .inr ⟨b, f, (hn i hi).trans h1, h2⟩
  | .ebox i sz k off, v, p, h => by
    have hi : i < m := by simpa [D.low] using p
    rw [Rp] at h ⊢
    obtain ⟨b, f, h1, h2⟩ := h
    exact ⟨b, f, (hn i hi).trans h1, h2⟩
  | .mapc ks vs, v, p, h => by
    rw [D.low, Bool.and_eq_true] at p
    rw [Rp] at h ⊢
    obtain ⟨b, ents, clock, h1, h2, h3, h4, h5⟩ := h
    exact ⟨b, ents, clock, h1, by rw [hc]; exact h2, h3, RpL_bl hn hc ks _ p.1 h4, RpL_bl hn hc vs _ p.2 h5⟩
  | .lent els sp, v, p, h => by
    rw [D.low, Bool.and_eq_true] at p
    rw [Rp] at h ⊢
    obtain ⟨b, o, cap, sz, h1, h2, h3, h4, h5, h6, h7, h8⟩ := h
    exact ⟨b, o, cap, sz, h1, h2, h3, h4, h5, h6, RpE_bl hn hc els b o p.1 h7, RpE_bl hn hc sp b _ p.2 h8⟩
  | .ref d, v, p, h => by
    rw [D.low] at p
    obtain ⟨b, o, h1, h2⟩ := Rp_ref.1 h
    refine Rp_ref.2 ⟨b, o, h1, ?_⟩
    cases d
    case agg cs =>
      rw [D.low] at p
      exact RpC_bl hn hc cs b o p h2
    all_goals
      obtain ⟨u, h3, h4⟩ := h2
      exact ⟨u, cellAt_nm hc h3, Rp_bl hn hc _ u p h4⟩
theorem RpL_bl {ρ ρ' : Rho} {w : World} {m : Nat} (hn : ∀ i, i < m → ρ'.nm i = ρ.nm i) (hc : ρ'.c = ρ.c) : ∀ (ds : List D) (vs : List Value), D.lows m ds = true → RpL ρ w ds vs → RpL ρ' w ds vs
  | [], vs, _, h => by rw [RpL_nil] at h ⊢; exact h
  | d :: r, vs, p, h => by
    rw [D.lows, Bool.and_eq_true] at p
    rw [RpL_cons] at h
    obtain ⟨v, us, rfl, h2, h3⟩ := h
    exact RpL_cons'.2 ⟨Rp_bl hn hc d v p.1 h2, RpL_bl hn hc r us p.2 h3⟩
theorem RpC_bl {ρ ρ' : Rho} {w : World} {m : Nat} (hn : ∀ i, i < m → ρ'.nm i = ρ.nm i) (hc : ρ'.c = ρ.c) : ∀ (ds : List D) (b o : Nat), D.lows m ds = true → RpC ρ w ds b o → RpC ρ' w ds b o
  | [], b, o, _, h => RpC_nil
  | d :: r, b, o, p, h => by
    rw [D.lows, Bool.and_eq_true] at p
    rw [RpC_cons] at h
    obtain ⟨⟨v, h1, h2⟩, h3⟩ := h
    exact RpC_cons.2 ⟨⟨v, cellAt_nm hc h1, Rp_bl hn hc d v p.1 h2⟩, RpC_bl hn hc r b (o + 1) p.2 h3⟩
theorem RpE_bl {ρ ρ' : Rho} {w : World} {m : Nat} (hn : ∀ i, i < m → ρ'.nm i = ρ.nm i) (hc : ρ'.c = ρ.c) : ∀ (ds : List D) (b o : Nat), D.lows m ds = true → RpE ρ w ds b o → RpE ρ' w ds b o
  | [], b, o, _, h => RpE_nil
  | d :: r, b, o, p, h => by
    rw [D.lows, Bool.and_eq_true] at p
    rw [RpE_cons] at h
    refine RpE_cons.2 ⟨?_, RpE_bl hn hc r b _ p.2 h.2⟩
    have h2 := h.1
    cases d
    case agg cs =>
      have p1 := p.1
      rw [D.low] at p1
      exact RpC_bl hn hc cs b o p1 h2
    all_goals
      obtain ⟨u, h3, h4⟩ := h2
      exact ⟨u, cellAt_nm hc h3, Rp_bl hn hc _ u p.1 h4⟩
end
mutual
theorem D.low_pure (m : Nat) : ∀ d : D, d.pure = true → d.low m = true
  | .junk, _ => rfl
  | .int _ _, _ => rfl
  | .bool _, _ => rfl
  | .str _, _ => rfl
  | .nilp, _ => rfl
  | .nilf, _ => rfl
  | .nili, _ => rfl
  | .nilm, _ => rfl
  | .box _ _, h => by simp [D.pure] at h
  | .map _, h => by simp [D.pure] at h
  | .own _ _, h => by simp [D.pure] at h
  | .ebox _ _ _ _, h => by simp [D.pure] at h
  | .fn f a b, h => by
    rw [D.pure, Bool.and_eq_true] at h
    rw [D.low, D.lows_pure m a h.1, D.lows_pure m b h.2]; rfl
  | .iface t d, h => by rw [D.pure] at h; rw [D.low, D.low_pure m d h]
  | .tuple ds, h => by rw [D.pure] at h; rw [D.low, D.lows_pure m ds h]
  | .agg ds, h => by rw [D.pure] at h; rw [D.low, D.lows_pure m ds h]
  | .slice els c, h => by
    rw [D.pure, Bool.and_eq_true] at h
    rw [D.low, D.lows_pure m els h.1]
    cases c <;> first | rfl | simp [Cp.free] at h
  | .ref d, h => by rw [D.pure] at h; rw [D.low, D.low_pure m d h]
  | .mapc ks vs, h => by
    rw [D.pure, Bool.and_eq_true] at h
    rw [D.low, D.lows_pure m ks h.1, D.lows_pure m vs h.2]; rfl
  | .lent els sp, h => by
    rw [D.pure, Bool.and_eq_true] at h
    rw [D.low, D.lows_pure m els h.1, D.lows_pure m sp h.2]; rfl
theorem D.lows_pure (m : Nat) : ∀ ds : List D, D.pures ds = true → D.lows m ds = true
  | [], _ => rfl
  | d :: r, h => by
    rw [D.pures, Bool.and_eq_true] at h
    rw [D.lows, D.low_pure m d h.1, D.lows_pure m r h.2]; rfl
end
section
variable {G : Nat → Option D} {ρ0 ρ : Rho} {w0 w : World} {H0 : Nat → HO} {nt : Nat} {a : Act} {tl : List D} {hl : List HO}
variable {P : Program} {Q : DQ} {M : Nat}
end
end Go.Proofs.YtgloldepdhgfaaaDoor
namespace Go.Proofs.YtgloldepdhgfaaaDoor
set_option linter.unusedSimpArgs false
set_option linter.unusedVariables false
open Go.RowKit
def Cp.okN (p : Nat → Bool) : Cp → Bool
  | .tok i => p i
  | _ => true
def Cp.ren (σ : Nat → Nat) : Cp → Cp
  | .tok i => .tok (σ i)
  | c => c
mutual
/-- does it name such objects alone? -/
def D.okN (p : Nat → Bool) : D → Bool
  | .box i _ => p i
  | .map i => p i
  | .own i _ => p i
  | .ebox i _ _ _ => p i
  | .fn _ a b => D.okNs p a && D.okNs p b
  | .iface _ d => D.okN p d
  | .tuple ds => D.okNs p ds
  | .agg ds => D.okNs p ds
  | .slice els c => D.okNs p els && c.okN p
  | .ref d => D.okN p d
  | .mapc ks vs => D.okNs p ks && D.okNs p vs
  | .lent els sp => D.okNs p els && D.okNs p sp
  | _ => true
def D.okNs (p : Nat → Bool) : List D → Bool
  | [] => true
  | d :: r => D.okN p d && D.okNs p r
end
mutual
/-- other names -/
def D.ren (σ : Nat → Nat) : D → D
  | .box i o => .box (σ i) o
  | .map i => .map (σ i)
  | .own i n => .own (σ i) n
  | .ebox i sz k off => .ebox (σ i) sz k off
  | .fn f a b => .fn f (D.rens σ a) (D.rens σ b)
  | .iface t d => .iface t (D.ren σ d)
  | .tuple ds => .tuple (D.rens σ ds)
  | .agg ds => .agg (D.rens σ ds)
  | .slice els c => .slice (D.rens σ els) (c.ren σ)
  | .ref d => .ref (D.ren σ d)
  | .mapc ks vs => .mapc (D.rens σ ks) (D.rens σ vs)
  | .lent els sp => .lent (D.rens σ els) (D.rens σ sp)
  | .junk => .junk
  | .int k n => .int k n
  | .bool b => .bool b
  | .str s => .str s
  | .nilp => .nilp
  | .nilf => .nilf
  | .nili => .nili
  | .nilm => .nilm
def D.rens (σ : Nat → Nat) : List D → List D
  | [] => []
  | d :: r => D.ren σ d :: D.rens σ r
end
theorem D.rens_map (σ : Nat → Nat) : ∀ ds : List D, D.rens σ ds = ds.map (D.ren σ)
  | [] => rfl
  | d :: r => by rw [D.rens, D.rens_map σ r]; rfl
theorem D.rens_length (σ : Nat → Nat) (ds : List D) : (D.rens σ ds).length = ds.length := by rw [D.rens_map, List.length_map]
theorem D.ren_size (σ : Nat → Nat) (d : D) : (D.ren σ d).size = d.size := by
  cases d <;> simp [D.ren, D.size, D.rens_length]
section
variable {ρ ρ' : Rho} {w : World} {p : Nat → Bool} {σ : Nat → Nat}
mutual
theorem Rp_ren (hn : ∀ i, p i = true → ∀ x, ρ.nm i = some x → ρ'.nm (σ i) = some x) (hc : ρ'.c = ρ.c) : ∀ (d : D) (v : Value), d.okN p = true → Rp ρ w d v → Rp ρ' w (d.ren σ) v
  | .junk, v, _, h => by rw [D.ren, Rp]; trivial
  | .int k n, v, _, h => by rw [D.ren]; rw [Rp] at h ⊢; exact h
  | .bool b, v, _, h => by rw [D.ren]; rw [Rp] at h ⊢; exact h
  | .str s, v, _, h => by rw [D.ren]; rw [Rp] at h ⊢; exact h
  | .nilp, v, _, h => by rw [D.ren]; rw [Rp] at h ⊢; exact h
  | .nilf, v, _, h => by rw [D.ren]; rw [Rp] at h ⊢; exact h
  | .nili, v, _, h => by rw [D.ren]; rw [Rp] at h ⊢; exact h
  | .nilm, v, _, h => by rw [D.ren]; rw [Rp] at h ⊢; exact h
  | .fn f a b, v, q, h => by
    rw [D.okN, Bool.and_eq_true] at q
    rw [D.ren]
    rw [Rp] at h ⊢
    obtain ⟨us, vs, h1, h2, h3⟩ := h
    exact ⟨us, vs, h1, RpL_ren hn hc a us q.1 h2, RpL_ren hn hc b vs q.2 h3⟩
  | .iface t d, v, q, h => by
    rw [D.okN] at q
    rw [D.ren]
    rw [Rp] at h ⊢
    obtain ⟨u, h1, h2⟩ := h
    exact ⟨u, h1, Rp_ren hn hc d u q h2⟩
  | .tuple ds, v, q, h => by
    rw [D.okN] at q
    rw [D.ren]
    rw [Rp] at h ⊢
    obtain ⟨u, h1, h2⟩ := h
    exact ⟨u, h1, RpL_ren hn hc ds u q h2⟩
  | .agg ds, v, q, h => by
    rw [D.okN] at q
    rw [D.ren]
    rw [Rp] at h ⊢
    obtain ⟨u, h1, h2⟩ := h
    exact ⟨u, h1, RpL_ren hn hc ds u q h2⟩
  | .slice els c, v, q, h => by
    rw [D.okN, Bool.and_eq_true] at q
    rw [D.ren]
    rw [Rp] at h ⊢
    obtain ⟨A, cap, sz, h1, h2, h3, h4, h5, h6, h7⟩ := h
    refine ⟨A, cap, sz, by rw [D.rens_length]; exact h1, by rw [D.rens_length]; exact h2, h3, by rw [D.rens_length]; exact h4, fun e he => ?_, ?_, fun hne => ?_⟩
    · rw [D.rens_map] at he
      obtain ⟨e', he', rfl⟩ := List.mem_map.1 he
      rw [D.ren_size]; exact h5 e' he'
    · rw [D.rens_length]
      cases c with
      | any => trivial
      | full => exact h6
      | tok i =>
        have hi : p i = true := by simpa [Cp.okN] using q.2
        rcases h6 with h6 | ⟨b, o, f, vs, ty, g1, g2, g3, g4⟩
        · exact .inl h6
        · exact .inr ⟨b, o, f, vs, ty, g1, g2, hn i hi _ g3, g4⟩
    · have hne' : els ≠ [] := fun h0 => hne (by subst h0; rfl)
      obtain ⟨b, o, h8, h9⟩ := h7 hne'
      exact ⟨b, o, h8, RpE_ren hn hc els b o q.1 h9⟩
  | .box i off, v, q, h => by
    have hi : p i = true := by simpa [D.okN] using q
    rw [D.ren]
    rw [Rp] at h ⊢
    obtain ⟨b, f, h1, h2⟩ := h
    exact ⟨b, f, hn i hi _ h1, h2⟩
  | .map i, v, q, h => by
    have hi : p i = true := by simpa [D.okN] using q
    rw [D.ren]
    rw [Rp] at h ⊢
    obtain ⟨b, f, h1, h2⟩ := h
    exact ⟨b, f, hn i hi _ h1, h2⟩
  | .own i n, v, q, h => by
    have hi : p i = true := by simpa [D.okN] using q
    rw [D.ren]
    rw [Rp] at h ⊢
    rcases h with h | ⟨b, f, h1, h2⟩
    · exact .inl h
    · exact .inr ⟨b, f, hn i hi _ h1, h2⟩
  | .ebox i sz k off, v, q, h => by
    have hi : p i = true := by simpa [D.okN] using q
    rw [D.ren]
    rw [Rp] at h ⊢
    obtain ⟨b, f, h1, h2⟩ := h
    exact ⟨b, f, hn i hi _ h1, h2⟩
  | .mapc ks vs, v, q, h => by
    rw [D.okN, Bool.and_eq_true] at q
    rw [D.ren]
    rw [Rp] at h ⊢
    obtain ⟨b, ents, clock, h1, h2, h3, h4, h5⟩ := h
    exact ⟨b, ents, clock, h1, by rw [hc]; exact h2, h3, RpL_ren hn hc ks _ q.1 h4, RpL_ren hn hc vs _ q.2 h5⟩
  | .lent els sp, v, q, h => by
    rw [D.okN, Bool.and_eq_true] at q
    rw [D.ren]
    rw [Rp] at h ⊢
    obtain ⟨b, o, cap, sz, h1, h2, h3, h4, h5, h6, h7, h8⟩ := h
    have hsz : ∀ l : List D, (∀ e, e ∈ l → e.size = sz) → ∀ e, e ∈ D.rens σ l → e.size = sz := fun l hl e he => by
      rw [D.rens_map] at he
      obtain ⟨d, hd, rfl⟩ := List.mem_map.1 he
      rw [D.ren_size]; exact hl d hd
    rw [D.rens_length, D.rens_length]
    exact ⟨b, o, cap, sz, h1, h2, h3, h4, hsz els h5, hsz sp h6, RpE_ren hn hc els b o q.1 h7, RpE_ren hn hc sp b _ q.2 h8⟩
  | .ref d, v, q, h => by
    rw [D.okN] at q
    rw [D.ren]
    obtain ⟨b, o, h1, h2⟩ := Rp_ref.1 h
    refine Rp_ref.2 ⟨b, o, h1, ?_⟩
    cases d
    case agg cs =>
      rw [D.okN] at q
      rw [D.ren]
      exact RpC_ren hn hc cs b o q h2
    all_goals
      obtain ⟨u, h3, h4⟩ := h2
      have h5 := Rp_ren hn hc _ u q h4
      exact ⟨u, cellAt_nm hc h3, h5⟩
theorem RpL_ren (hn : ∀ i, p i = true → ∀ x, ρ.nm i = some x → ρ'.nm (σ i) = some x) (hc : ρ'.c = ρ.c) : ∀ (ds : List D) (vs : List Value), D.okNs p ds = true → RpL ρ w ds vs → RpL ρ' w (D.rens σ ds) vs
  | [], vs, _, h => by rw [D.rens]; rw [RpL_nil] at h ⊢; exact h
  | d :: r, vs, q, h => by
    rw [D.okNs, Bool.and_eq_true] at q
    rw [D.rens]
    rw [RpL_cons] at h
    obtain ⟨v, us, rfl, h2, h3⟩ := h
    exact RpL_cons'.2 ⟨Rp_ren hn hc d v q.1 h2, RpL_ren hn hc r us q.2 h3⟩
theorem RpC_ren (hn : ∀ i, p i = true → ∀ x, ρ.nm i = some x → ρ'.nm (σ i) = some x) (hc : ρ'.c = ρ.c) : ∀ (ds : List D) (b o : Nat), D.okNs p ds = true → RpC ρ w ds b o → RpC ρ' w (D.rens σ ds) b o
  | [], b, o, _, h => RpC_nil
  | d :: r, b, o, q, h => by
    rw [D.okNs, Bool.and_eq_true] at q
    rw [D.rens]
    rw [RpC_cons] at h
    obtain ⟨⟨v, h1, h2⟩, h3⟩ := h
    exact RpC_cons.2 ⟨⟨v, cellAt_nm hc h1, Rp_ren hn hc d v q.1 h2⟩, RpC_ren hn hc r b (o + 1) q.2 h3⟩
theorem RpE_ren (hn : ∀ i, p i = true → ∀ x, ρ.nm i = some x → ρ'.nm (σ i) = some x) (hc : ρ'.c = ρ.c) : ∀ (ds : List D) (b o : Nat), D.okNs p ds = true → RpE ρ w ds b o → RpE ρ' w (D.rens σ ds) b o
  | [], b, o, _, h => RpE_nil
  | d :: r, b, o, q, h => by
    rw [D.okNs, Bool.and_eq_true] at q
    rw [D.rens]
    rw [RpE_cons] at h
    refine RpE_cons.2 ⟨?_, by rw [D.ren_size]; exact RpE_ren hn hc r b _ q.2 h.2⟩
    have h2 := h.1
    cases d
    case agg cs =>
      have q1 := q.1
      rw [D.okN] at q1
      rw [D.ren]
      exact RpC_ren hn hc cs b o q1 h2
    all_goals
      obtain ⟨u, h3, h4⟩ := h2
      have h5 := Rp_ren hn hc _ u q.1 h4
      exact ⟨u, cellAt_nm hc h3, h5⟩
end
end
mutual
theorem D.ren_pure (σ : Nat → Nat) : ∀ d : D, d.pure = true → D.ren σ d = d
  | .junk, _ => rfl
  | .int _ _, _ => rfl
  | .bool _, _ => rfl
  | .str _, _ => rfl
  | .nilp, _ => rfl
  | .nilf, _ => rfl
  | .nili, _ => rfl
  | .nilm, _ => rfl
  | .box _ _, h => by simp [D.pure] at h
  | .map _, h => by simp [D.pure] at h
  | .own _ _, h => by simp [D.pure] at h
  | .ebox _ _ _ _, h => by simp [D.pure] at h
  | .fn f a b, h => by
    rw [D.pure, Bool.and_eq_true] at h
    rw [D.ren, D.rens_pure σ a h.1, D.rens_pure σ b h.2]
  | .iface t d, h => by rw [D.pure] at h; rw [D.ren, D.ren_pure σ d h]
  | .tuple ds, h => by rw [D.pure] at h; rw [D.ren, D.rens_pure σ ds h]
  | .agg ds, h => by rw [D.pure] at h; rw [D.ren, D.rens_pure σ ds h]
  | .slice els c, h => by
    rw [D.pure, Bool.and_eq_true] at h
    rw [D.ren, D.rens_pure σ els h.1]
    cases c <;> first | rfl | simp [Cp.free] at h
  | .ref d, h => by rw [D.pure] at h; rw [D.ren, D.ren_pure σ d h]
  | .mapc ks vs, h => by
    rw [D.pure, Bool.and_eq_true] at h
    rw [D.ren, D.rens_pure σ ks h.1, D.rens_pure σ vs h.2]
  | .lent els sp, h => by
    rw [D.pure, Bool.and_eq_true] at h
    rw [D.ren, D.rens_pure σ els h.1, D.rens_pure σ sp h.2]
theorem D.rens_pure (σ : Nat → Nat) : ∀ ds : List D, D.pures ds = true → D.rens σ ds = ds
  | [], _ => rfl
  | d :: r, h => by
    rw [D.pures, Bool.and_eq_true] at h
    rw [D.rens, D.ren_pure σ d h.1, D.rens_pure σ r h.2]
end
mutual
theorem D.okN_pure (p : Nat → Bool) : ∀ d : D, d.pure = true → d.okN p = true
  | .junk, _ => rfl
  | .int _ _, _ => rfl
  | .bool _, _ => rfl
  | .str _, _ => rfl
  | .nilp, _ => rfl
  | .nilf, _ => rfl
  | .nili, _ => rfl
  | .nilm, _ => rfl
  | .box _ _, h => by simp [D.pure] at h
  | .map _, h => by simp [D.pure] at h
  | .own _ _, h => by simp [D.pure] at h
  | .ebox _ _ _ _, h => by simp [D.pure] at h
  | .fn f a b, h => by
    rw [D.pure, Bool.and_eq_true] at h
    rw [D.okN, D.okNs_pure p a h.1, D.okNs_pure p b h.2]; rfl
  | .iface t d, h => by rw [D.pure] at h; rw [D.okN, D.okN_pure p d h]
  | .tuple ds, h => by rw [D.pure] at h; rw [D.okN, D.okNs_pure p ds h]
  | .agg ds, h => by rw [D.pure] at h; rw [D.okN, D.okNs_pure p ds h]
  | .slice els c, h => by
    rw [D.pure, Bool.and_eq_true] at h
    rw [D.okN, D.okNs_pure p els h.1]
    cases c <;> first | rfl | simp [Cp.free] at h
  | .ref d, h => by rw [D.pure] at h; rw [D.okN, D.okN_pure p d h]
  | .mapc ks vs, h => by
    rw [D.pure, Bool.and_eq_true] at h
    rw [D.okN, D.okNs_pure p ks h.1, D.okNs_pure p vs h.2]; rfl
  | .lent els sp, h => by
    rw [D.pure, Bool.and_eq_true] at h
    rw [D.okN, D.okNs_pure p els h.1, D.okNs_pure p sp h.2]; rfl
theorem D.okNs_pure (p : Nat → Bool) : ∀ ds : List D, D.pures ds = true → D.okNs p ds = true
  | [], _ => rfl
  | d :: r, h => by
    rw [D.pures, Bool.and_eq_true] at h
    rw [D.okNs, D.okN_pure p d h.1, D.okNs_pure p r h.2]; rfl
end
mutual
theorem okN_all : ∀ d : D, d.okN (fun _ => true) = true
  | .junk => rfl
  | .int _ _ => rfl
  | .bool _ => rfl
  | .str _ => rfl
  | .nilp => rfl
  | .nilf => rfl
  | .nili => rfl
  | .nilm => rfl
  | .box _ _ => rfl
  | .map _ => rfl
  | .own _ _ => rfl
  | .ebox _ _ _ _ => rfl
  | .fn f a b => by rw [D.okN, okNs_all a, okNs_all b]; rfl
  | .iface t d => by rw [D.okN, okN_all d]
  | .tuple ds => by rw [D.okN, okNs_all ds]
  | .agg ds => by rw [D.okN, okNs_all ds]
  | .slice els c => by rw [D.okN, okNs_all els]; cases c <;> rfl
  | .ref d => by rw [D.okN, okN_all d]
  | .mapc ks vs => by rw [D.okN, okNs_all ks, okNs_all vs]; rfl
  | .lent els sp => by rw [D.okN, okNs_all els, okNs_all sp]; rfl
theorem okNs_all : ∀ ds : List D, D.okNs (fun _ => true) ds = true
  | [] => rfl
  | d :: r => by rw [D.okNs, okN_all d, okNs_all r]; rfl
end
def HO.ren (σ : Nat → Nat) : HO → HO
  | .cells ty ds => .cells ty (D.rens σ ds)
  | .mp es => .mp (es.map fun e => (D.ren σ e.1, D.ren σ e.2))
  | .row sz els => .row sz (els.map (D.ren σ))
  | .tok => .tok
  | .dead => .dead
  | .free => .free
def HO.okN (p : Nat → Bool) : HO → Bool
  | .cells _ ds => D.okNs p ds
  | .mp es => D.okNs p (es.map (·.1)) && D.okNs p (es.map (·.2))
  | .row _ els => D.okNs p (els.flatMap D.cells)
  | _ => true
theorem HO.ren_live (σ : Nat → Nat) (h : HO) : (h.ren σ).live = h.live := by cases h <;> rfl
theorem HO.ren_free {σ : Nat → Nat} {h : HO} (e : h.ren σ = .free) : h = .free := by cases h <;> first | rfl | cases e
theorem cells_ren (σ : Nat → Nat) : ∀ els : List D, (els.map (D.ren σ)).flatMap D.cells = D.rens σ (els.flatMap D.cells)
  | [] => rfl
  | e :: r => by
    rw [List.map_cons, List.flatMap_cons, List.flatMap_cons, cells_ren σ r]
    rw [D.rens_map, D.rens_map, List.map_append]
    congr 1
    cases e <;> simp [D.ren, D.cells, D.rens_map]
theorem ObjAt.ren {ρ ρ' : Rho} {w : World} {p : Nat → Bool} {σ : Nat → Nat} (hn : ∀ i, p i = true → ∀ x, ρ.nm i = some x → ρ'.nm (σ i) = some x) (hc : ρ'.c = ρ.c) {b f : Nat} {ho : HO} (q : ho.okN p = true) (h : ObjAt ρ w b f ho) : ObjAt ρ' w b f (ho.ren σ) := by
  cases ho with
  | cells ty ds => obtain ⟨h0, vs, h1, h2⟩ := h; exact ⟨by rw [hc]; exact h0, vs, h1, RpL_ren hn hc ds vs q h2⟩
  | mp es =>
    simp only [HO.okN, Bool.and_eq_true] at q
    obtain ⟨h0, e, c, h1, h2, h3, h4⟩ := h
    refine ⟨by rw [hc]; exact h0, e, c, h1, ?_, ?_, h4.1, by rw [List.length_map]; exact h4.2⟩
    · have := RpL_ren hn hc _ _ q.1 h2
      rw [D.rens_map, List.map_map] at this
      rw [List.map_map]; exact this
    · have := RpL_ren hn hc _ _ q.2 h3
      rw [D.rens_map, List.map_map] at this
      rw [List.map_map]; exact this
  | row sz els =>
    obtain ⟨h0, a1, a2, a3, a4, a5, ty, vs, us, h1, h2, h3⟩ := h
    refine ⟨by rw [hc]; exact h0, a1, fun e he => ?_, by rw [List.length_map]; exact a3, a4, by rw [List.length_map]; exact a5, ty, vs, us, h1, ?_, h3⟩
    · obtain ⟨e', he', rfl⟩ := List.mem_map.1 he
      rw [D.ren_size]; exact a2 e' he'
    · have := RpL_ren hn hc _ _ q h2
      rw [cells_ren]; exact this
  | tok => exact ⟨by rw [hc]; exact h.1, h.2⟩
  | dead => trivial
  | free => trivial
/-- names of a call's objects: those handed to it, then new ones -/
def renO (σl : List Nat) (nx : Nat) (j : Nat) : Nat := if j < σl.length then σl.getD j 0 else nx + (j - σl.length)
def upO (σl : List Nat) (nx : Nat) (hc : List HO) : List (Nat × HO) := (List.range hc.length).map fun j => (renO σl nx j, (hOf hc j).ren (renO σl nx))
theorem updL_not {H : Nat → HO} : ∀ {up : List (Nat × HO)} {i : Nat}, (∀ p, p ∈ up → p.1 ≠ i) → updL H up i = H i
  | [], i, _ => rfl
  | (n, x) :: r, i, h => by
    rw [updL, updL_not fun p hp => h p (List.mem_cons_of_mem _ hp), setH_ne]
    exact fun e => h (n, x) (List.mem_cons_self ..) e.symm
theorem updL_in {H : Nat → HO} : ∀ {up : List (Nat × HO)} {p : Nat × HO}, p ∈ up → (up.map (·.1)).Nodup → updL H up p.1 = p.2
  | (n, x) :: r, p, h, hn => by
    rw [List.map_cons, List.nodup_cons] at hn
    rw [updL]
    rcases List.mem_cons.1 h with rfl | h
    · rw [updL_not (fun q hq e => hn.1 (List.mem_map.2 ⟨q, hq, e⟩)), setH_same]
    · exact updL_in h hn.2
theorem renO_inj {σl : List Nat} {nx : Nat} (hnd : σl.Nodup) (hlt : ∀ i, i ∈ σl → i < nx) {j k : Nat} (h : renO σl nx j = renO σl nx k) : j = k := by
  have hg : ∀ j (hj : j < σl.length), σl.getD j 0 = σl[j] := fun j hj => by rw [List.getD_eq_getElem?_getD, List.getElem?_eq_getElem hj]; rfl
  unfold renO at h
  by_cases h1 : j < σl.length
  · rw [if_pos h1, hg j h1] at h
    by_cases h2 : k < σl.length
    · rw [if_pos h2, hg k h2] at h
      exact (List.getElem_inj hnd).1 h
    · rw [if_neg h2] at h
      have := hlt _ (List.getElem_mem h1)
      omega
  · rw [if_neg h1] at h
    by_cases h2 : k < σl.length
    · rw [if_pos h2, hg k h2] at h
      have := hlt _ (List.getElem_mem h2)
      omega
    · rw [if_neg h2] at h
      omega
section
variable {G : Nat → Option D} {ρ ρ' : Rho} {w w' : World} {H : Nat → HO} {σl : List Nat} {nx : Nat} {objs hc : List HO}
/-- what the called one sees -/
def Rho.lent (ρ : Rho) (σl : List Nat) : Rho := ⟨ρ.c, fun j => (σl[j]?).bind ρ.nm⟩
def okA (σl : List Nat) (i : Nat) : Bool := σl.contains i
def renA (σl : List Nat) (i : Nat) : Nat := σl.idxOf i
theorem lent_nm (i : Nat) (hi : okA σl i = true) (x : Nat × Nat) (h : ρ.nm i = some x) : (ρ.lent σl).nm (renA σl i) = some x := by
  have hm : i ∈ σl := by simpa [okA] using hi
  have hlt := List.idxOf_lt_length_iff.2 hm
  show (σl[σl.idxOf i]?).bind ρ.nm = some x
  rw [List.getElem?_eq_getElem hlt, List.getElem_idxOf hlt]
  exact h
theorem lent_rel (hG : ∀ g d, G g = some d → d.pure = true) (hR : Rel G ρ w H) (hnd : σl.Nodup) (hobj : σl.map (fun i => (H i).ren (renA σl)) = objs) (hok : (σl.all fun i => (H i).okN (okA σl)) = true) : Rel G (ρ.lent σl) w (hOf objs) := by
  have hlen : objs.length = σl.length := by rw [← hobj, List.length_map]
  have hget : ∀ j (hj : j < σl.length), hOf objs j = (H σl[j]).ren (renA σl) := fun j hj => by
    subst hobj
    unfold hOf
    rw [List.getD_eq_getElem?_getD, List.getElem?_map, List.getElem?_eq_getElem hj]; rfl
  have hnm : ∀ j x, (ρ.lent σl).nm j = some x → ∃ hj : j < σl.length, ρ.nm σl[j] = some x := fun j x h => by
    have h' : (σl[j]?).bind ρ.nm = some x := h
    rcases Nat.lt_or_ge j σl.length with hj | hj
    · rw [List.getElem?_eq_getElem hj] at h'; exact ⟨hj, h'⟩
    · rw [List.getElem?_eq_none hj] at h'; cases h'
  refine ⟨fun j hj => ?_, hR.fresh, fun j b f h1 => ?_, fun i j b f g h1 h2 h3 h4 => ?_, fun g d hd => RpAt_nm (ρ := ρ) (ρ' := ρ.lent σl) rfl (hG g d hd) (hR.glob g d hd)⟩
  · cases hq : (ρ.lent σl).nm j with
    | none => rfl
    | some x =>
      obtain ⟨hlt, h2⟩ := hnm j x hq
      rw [hget j hlt] at hj
      rw [hR.free _ (HO.ren_free hj)] at h2; cases h2
  · obtain ⟨hlt, h2⟩ := hnm j _ h1
    rw [hget j hlt]
    refine ObjAt.ren (p := okA σl) lent_nm rfl ?_ (hR.obj _ _ _ h2)
    exact List.all_eq_true.1 hok _ (List.getElem_mem hlt)
  · obtain ⟨hl1, g1⟩ := hnm i _ h1
    obtain ⟨hl2, g2⟩ := hnm j _ h2
    rw [hget i hl1, HO.ren_live] at h3
    rw [hget j hl2, HO.ren_live] at h4
    exact (List.getElem_inj hnd).1 (hR.inj _ _ _ _ _ g1 g2 h3 h4)
/-- what the caller sees behind the call -/
def Rho.back (ρ ρ' : Rho) (σl : List Nat) (nx n : Nat) : Rho :=
  ⟨ρ'.c, fun i => if σl.contains i then ρ'.nm (σl.idxOf i) else if nx ≤ i ∧ i < nx + (n - σl.length) then ρ'.nm (σl.length + (i - nx)) else ρ.nm i⟩
theorem back_ren (hR' : Rel G ρ' w' (hOf hc)) (hnd : σl.Nodup) (hlt : ∀ i, i ∈ σl → i < nx) (j : Nat) (x : Nat × Nat) (h : ρ'.nm j = some x) : (ρ.back ρ' σl nx hc.length).nm (renO σl nx j) = some x := by
  have hjl : j < hc.length := by
    rcases Nat.lt_or_ge j hc.length with hj | hj
    · exact hj
    · have := hR'.free j (by unfold hOf; rw [List.getD_eq_getElem?_getD, List.getElem?_eq_none hj]; rfl)
      rw [this] at h; cases h
  show (if σl.contains (renO σl nx j) then _ else _) = _
  unfold renO
  by_cases h1 : j < σl.length
  · have hg : σl.getD j 0 = σl[j] := by rw [List.getD_eq_getElem?_getD, List.getElem?_eq_getElem h1]; rfl
    rw [if_pos h1, hg, if_pos (by simp)]
    rw [hnd.idxOf_getElem j h1]
    exact h
  · have hno : ¬ (nx + (j - σl.length)) ∈ σl := fun hm => by have := hlt _ hm; omega
    rw [if_neg h1, if_neg (by simpa using hno), if_pos (by omega)]
    rw [show σl.length + (nx + (j - σl.length) - nx) = j by omega]
    exact h
theorem back (hG : ∀ g d, G g = some d → d.pure = true) (hR : Rel G ρ w H) (hnd : σl.Nodup) (hlt : ∀ i, i ∈ σl → i < nx) (hobj : σl.map (fun i => (H i).ren (renA σl)) = objs) (hfree : ∀ i, nx ≤ i → i < nx + (hc.length - σl.length) → H i = .free)
    (hk : σl.length ≤ hc.length) (hR' : Rel G ρ' w' (hOf hc)) (hE : Ex (ρ.lent σl) w (hOf objs) ρ' w' (hOf hc)) :
    Rel G (ρ.back ρ' σl nx hc.length) w' (updL H (upO σl nx hc)) ∧ Ex ρ w H (ρ.back ρ' σl nx hc.length) w' (updL H (upO σl nx hc)) ∧ ∀ d u, Rp ρ' w' d u → Rp (ρ.back ρ' σl nx hc.length) w' (d.ren (renO σl nx)) u := by
  generalize hρ : ρ.back ρ' σl nx hc.length = ρb
  generalize hH : updL H (upO σl nx hc) = Hb
  have hren : ∀ j x, ρ'.nm j = some x → ρb.nm (renO σl nx j) = some x := fun j x h => by subst hρ; exact back_ren hR' hnd hlt j x h
  have hcb : ρb.c = ρ'.c := by subst hρ; rfl
  have hlen : objs.length = σl.length := by rw [← hobj, List.length_map]
  have hget : ∀ j (hj : j < σl.length), hOf objs j = (H σl[j]).ren (renA σl) := fun j hj => by
    subst hobj
    unfold hOf
    rw [List.getD_eq_getElem?_getD, List.getElem?_map, List.getElem?_eq_getElem hj]; rfl
  have hrj : ∀ j (hj : j < σl.length), renO σl nx j = σl[j] := fun j hj => by
    unfold renO; rw [if_pos hj, List.getD_eq_getElem?_getD, List.getElem?_eq_getElem hj]; rfl
  -- where a name comes from
  have hsrc : ∀ i, (∃ j, j < hc.length ∧ i = renO σl nx j ∧ ρb.nm i = ρ'.nm j ∧ Hb i = (hOf hc j).ren (renO σl nx)) ∨ (¬ i ∈ σl ∧ ρb.nm i = ρ.nm i ∧ Hb i = H i) := fun i => by
    have hndu : ((upO σl nx hc).map (·.1)).Nodup := by
      unfold upO
      rw [List.map_map]
      show List.Pairwise (· ≠ ·) _
      rw [List.pairwise_map]
      exact List.Pairwise.imp (fun h e => h (renO_inj hnd hlt e)) List.nodup_range
    have hin : ∀ j, j < hc.length → Hb (renO σl nx j) = (hOf hc j).ren (renO σl nx) := fun j hj => by
      subst hH
      exact updL_in (p := (renO σl nx j, (hOf hc j).ren (renO σl nx))) (List.mem_map.2 ⟨j, List.mem_range.2 hj, rfl⟩) hndu
    by_cases hm : i ∈ σl
    · left
      have hidx := List.idxOf_lt_length_iff.2 hm
      refine ⟨σl.idxOf i, by omega, ?_, ?_, ?_⟩
      · rw [hrj _ hidx, List.getElem_idxOf hidx]
      · subst hρ
        show (if σl.contains i then _ else _) = _
        rw [if_pos (by simpa using hm)]
      · have := hin (σl.idxOf i) (by omega)
        rw [hrj _ hidx, List.getElem_idxOf hidx] at this
        exact this
    · by_cases hb : nx ≤ i ∧ i < nx + (hc.length - σl.length)
      · left
        have he : renO σl nx (σl.length + (i - nx)) = i := by
          unfold renO; rw [if_neg (by omega)]; omega
        refine ⟨σl.length + (i - nx), by omega, he.symm, ?_, ?_⟩
        · subst hρ
          show (if σl.contains i then _ else _) = _
          rw [if_neg (by simpa using hm), if_pos hb]
        · have := hin (σl.length + (i - nx)) (by omega)
          rw [he] at this
          exact this
      · right
        refine ⟨hm, ?_, ?_⟩
        · subst hρ
          show (if σl.contains i then _ else _) = _
          rw [if_neg (by simpa using hm), if_neg hb]
        · subst hH
          refine updL_not fun q hq e => ?_
          obtain ⟨j, hj, rfl⟩ := List.mem_map.1 hq
          rw [List.mem_range] at hj
          dsimp only at e
          by_cases hjl : j < σl.length
          · rw [hrj j hjl] at e; exact hm (e ▸ List.getElem_mem hjl)
          · apply hb
            unfold renO at e
            rw [if_neg hjl] at e
            omega
  -- what is live here was, or is the called one's
  have hlentL : ∀ b, Live (ρ.lent σl) (hOf objs) b → ∃ i f, i ∈ σl ∧ ρ.nm i = some (b, f) ∧ (H i).live = true := fun b ⟨j, f, h1, h2⟩ => by
    have h' : (σl[j]?).bind ρ.nm = some (b, f) := h1
    rcases Nat.lt_or_ge j σl.length with hj | hj
    · rw [List.getElem?_eq_getElem hj] at h'
      rw [hget j hj, HO.ren_live] at h2
      exact ⟨σl[j], f, List.getElem_mem hj, h', h2⟩
    · rw [List.getElem?_eq_none hj] at h'; cases h'
  have hL : ∀ b, Live (ρ.lent σl) (hOf objs) b → Live ρ H b := fun b h => by
    obtain ⟨i, f, -, h1, h2⟩ := hlentL b h
    exact ⟨i, f, h1, h2⟩
  have hgrow : Grow ρ w ρb w' := by
    have g := hE.grow
    refine ⟨g.os, g.tape, g.output, g.size, fun b hb hcn => ?_, fun b k hb hck => ?_, fun i x hx => ?_⟩
    · rw [hcb]; exact g.whole b hb hcn
    · rw [hcb]; exact g.part b k hb hck
    · by_cases hm : i ∈ σl
      · have hidx := List.idxOf_lt_length_iff.2 hm
        have h1 : (ρ.lent σl).nm (σl.idxOf i) = some x := by
          show (σl[σl.idxOf i]?).bind ρ.nm = some x
          rw [List.getElem?_eq_getElem hidx, List.getElem_idxOf hidx]; exact hx
        have := hren _ _ (g.nm _ _ h1)
        rw [hrj _ hidx, List.getElem_idxOf hidx] at this
        exact this
      · rcases hsrc i with ⟨j, hj, he, -, -⟩ | ⟨-, h1, -⟩
        · by_cases hjl : j < σl.length
          · rw [hrj j hjl] at he; exact absurd (he ▸ List.getElem_mem hjl) hm
          · unfold renO at he
            rw [if_neg hjl] at he
            rw [hR.free i (hfree i (by omega) (by omega))] at hx; cases hx
        · rw [h1]; exact hx
  refine ⟨⟨fun i hi => ?_, fun b hb => by rw [hcb]; exact hR'.fresh b hb, fun i b f h1 => ?_, fun i j b f g h1 h2 h3 h4 => ?_, fun g d hd => RpAt_nm (ρ := ρ') (ρ' := ρb) hcb (hG g d hd) (hR'.glob g d hd)⟩, ⟨hgrow, fun b hb hl => ?_, fun b hl hb => ?_⟩, fun d u h => Rp_ren (p := fun _ => true) (fun i _ x hx => hren i x hx) hcb d u ?_ h⟩
  · rcases hsrc i with ⟨j, hj, he, h1, h2⟩ | ⟨-, h1, h2⟩
    · rw [h1]; rw [h2] at hi; exact hR'.free j (HO.ren_free hi)
    · rw [h1]; rw [h2] at hi; exact hR.free i hi
  · rcases hsrc i with ⟨j, hj, he, g1, g2⟩ | ⟨hm, g1, g2⟩
    · rw [g1] at h1
      rw [g2]
      refine ObjAt.ren (p := fun _ => true) (fun i _ x hx => hren i x hx) hcb ?_ (hR'.obj j b f h1)
      cases hOf hc j <;> simp [HO.okN, okN_all, okNs_all]
    · rw [g1] at h1
      rw [g2]
      have h3 := hR.obj i b f h1
      cases hlv : (H i).live with
      | false =>
        revert hlv h3; generalize H i = ho; intro h3 hlv
        cases ho <;> first | exact trivial | cases hlv
      | true =>
        have hnl : ¬ Live (ρ.lent σl) (hOf objs) b := fun hl => by
          obtain ⟨i2, f2, hi2, k1, k2⟩ := hlentL b hl
          exact hm (hR.inj _ _ _ _ _ k1 h1 k2 hlv ▸ hi2)
        obtain ⟨e1, e2⟩ := hE.frame b (h3.lt hlv) hnl
        exact h3.keep hgrow e1 (by rw [hcb]; exact e2)
  · have hcross : ∀ {i1 i2 j1 : Nat} {f1 f2 : Nat}, j1 < hc.length → ρ'.nm j1 = some (b, f1) → (hOf hc j1).live = true → ¬ i2 ∈ σl → ρ.nm i2 = some (b, f2) → (H i2).live = true → i1 = i2 := fun {i1 i2 j1 f1 f2} _ k1 k2 k3 k4 k5 => by
      have hb : b < w.heap.size := (hR.obj i2 b f2 k4).lt k5
      have hl := hE.live b ⟨j1, f1, k1, k2⟩ hb
      obtain ⟨i3, f3, hi3, q1, q2⟩ := hlentL b hl
      exact absurd (hR.inj _ _ _ _ _ q1 k4 q2 k5 ▸ hi3) k3
    rcases hsrc i with ⟨j1, hj1, he1, g1, g2⟩ | ⟨hm1, g1, g2⟩ <;> rcases hsrc j with ⟨j2, hj2, he2, k1, k2⟩ | ⟨hm2, k1, k2⟩
    · rw [g1] at h1; rw [g2, HO.ren_live] at h3
      rw [k1] at h2; rw [k2, HO.ren_live] at h4
      rw [he1, he2, hR'.inj _ _ _ _ _ h1 h2 h3 h4]
    · rw [g1] at h1; rw [g2, HO.ren_live] at h3
      rw [k1] at h2; rw [k2] at h4
      exact hcross hj1 h1 h3 hm2 h2 h4
    · rw [g1] at h1; rw [g2] at h3
      rw [k1] at h2; rw [k2, HO.ren_live] at h4
      exact (hcross hj2 h2 h4 hm1 h1 h3).symm
    · rw [g1] at h1; rw [g2] at h3
      rw [k1] at h2; rw [k2] at h4
      exact hR.inj _ _ _ _ _ h1 h2 h3 h4
  · have hnl : ¬ Live (ρ.lent σl) (hOf objs) b := fun h => hl (hL b h)
    obtain ⟨e1, e2⟩ := hE.frame b hb hnl
    exact ⟨e1, by rw [hcb]; exact e2⟩
  · obtain ⟨i, f, h1, h2⟩ := hl
    rcases hsrc i with ⟨j, hj, he, g1, g2⟩ | ⟨hm, g1, g2⟩
    · rw [g1] at h1; rw [g2, HO.ren_live] at h2
      exact hL b (hE.live b ⟨j, f, h1, h2⟩ hb)
    · rw [g1] at h1; rw [g2] at h2
      exact ⟨i, f, h1, h2⟩
  · exact okN_all d
end
end Go.Proofs.YtgloldepdhgfaaaDoor
namespace Go.Proofs.YtgloldepdhgfaaaDoor
set_option linter.unusedSimpArgs false
set_option linter.unusedVariables false
open Go.RowKit
def Out.ren (σ : Nat → Nat) : Out → Out
  | .ret d => .ret (d.ren σ)
  | .pan d => .pan (d.ren σ)
theorem OutM.map {ρ ρ' : Rho} {w : World} {σ : Nat → Nat} (h : ∀ d u, Rp ρ w d u → Rp ρ' w (d.ren σ) u) {out : Out} {e : Ending} (ho : OutM ρ w out e) : OutM ρ' w (out.ren σ) e := by
  cases out with
  | ret d => obtain ⟨u, h1, h2⟩ := ho; exact ⟨u, h1, h d u h2⟩
  | pan d => obtain ⟨u, h1, h2⟩ := ho; exact ⟨u, h1, h d u h2⟩
/-- what is handed on, as it is or read alone -/
def handed (f : Bool) (ds : List D) : List D := if f then D.fgts ds else ds
theorem RpL_handed {ρ : Rho} {w : World} (f : Bool) {ds : List D} {vs : List Value} (h : RpL ρ w ds vs) : RpL ρ w (handed f ds) vs := by
  cases f
  · exact h
  · exact RpL_fgt _ _ h
def told (f : Bool) (o : Out) : Out := if f then o.fgt else o
theorem OutM.told {ρ : Rho} {w : World} (f : Bool) {o : Out} {e : Ending} (h : OutM ρ w o e) : OutM ρ w (told f o) e := by
  cases f
  · exact h
  · exact h.fgt
mutual
/-- no room is known, however deep -/
def D.deep : D → D
  | .slice els _ => .slice (D.deeps els) .any
  | .agg ds => .agg (D.deeps ds)
  | .tuple ds => .tuple (D.deeps ds)
  | .iface t d => .iface t (D.deep d)
  | .fn f a b => .fn f (D.deeps a) (D.deeps b)
  | .ref d => .ref (D.deep d)
  | .mapc ks vs => .mapc (D.deeps ks) (D.deeps vs)
  | .lent els _ => .slice (D.deeps els) .any
  | .junk => .junk
  | .int k n => .int k n
  | .bool b => .bool b
  | .str s => .str s
  | .nilp => .nilp
  | .nilf => .nilf
  | .nili => .nili
  | .nilm => .nilm
  | .box i o => .box i o
  | .map i => .map i
  | .own i n => .own i n
  | .ebox i sz k o => .ebox i sz k o
def D.deeps : List D → List D
  | [] => []
  | d :: r => D.deep d :: D.deeps r
end
theorem D.deeps_map : ∀ ds : List D, D.deeps ds = ds.map D.deep
  | [] => rfl
  | d :: r => by rw [D.deeps, D.deeps_map r]; rfl
theorem D.deeps_length (ds : List D) : (D.deeps ds).length = ds.length := by rw [D.deeps_map, List.length_map]
theorem D.deep_size (d : D) : d.deep.size = d.size := by cases d <;> simp [D.deep, D.size, D.deeps_length]
section
variable {ρ : Rho} {w : World}
mutual
theorem Rp_deep : ∀ (d : D) (v : Value), Rp ρ w d v → Rp ρ w d.deep v
  | .junk, v, h => h
  | .int _ _, v, h => h
  | .bool _, v, h => h
  | .str _, v, h => h
  | .nilp, v, h => h
  | .nilf, v, h => h
  | .nili, v, h => h
  | .nilm, v, h => h
  | .box _ _, v, h => h
  | .map _, v, h => h
  | .own _ _, v, h => h
  | .ebox _ _ _ _, v, h => h
  | .fn f a b, v, h => by
    rw [D.deep]
    rw [Rp] at h ⊢
    obtain ⟨us, vs, h1, h2, h3⟩ := h
    exact ⟨us, vs, h1, RpL_deep a us h2, RpL_deep b vs h3⟩
  | .iface t d, v, h => by
    rw [D.deep]
    rw [Rp] at h ⊢
    obtain ⟨u, h1, h2⟩ := h
    exact ⟨u, h1, Rp_deep d u h2⟩
  | .tuple ds, v, h => by
    rw [D.deep]
    rw [Rp] at h ⊢
    obtain ⟨u, h1, h2⟩ := h
    exact ⟨u, h1, RpL_deep ds u h2⟩
  | .agg ds, v, h => by
    rw [D.deep]
    rw [Rp] at h ⊢
    obtain ⟨u, h1, h2⟩ := h
    exact ⟨u, h1, RpL_deep ds u h2⟩
  | .mapc ks vs, v, h => by
    rw [D.deep]
    rw [Rp] at h ⊢
    obtain ⟨b, ents, clock, h1, h2, h3, h4, h5⟩ := h
    exact ⟨b, ents, clock, h1, h2, h3, RpL_deep ks _ h4, RpL_deep vs _ h5⟩
  | .slice els c, v, h => by
    rw [D.deep]
    rw [Rp] at h ⊢
    obtain ⟨A, cap, sz, h1, h2, h3, h4, h5, h6, h7⟩ := h
    refine ⟨A, cap, sz, by rw [D.deeps_length]; exact h1, by rw [D.deeps_length]; exact h2, h3, by rw [D.deeps_length]; exact h4, fun e he => ?_, trivial, fun hne => ?_⟩
    · rw [D.deeps_map] at he
      obtain ⟨e', he', rfl⟩ := List.mem_map.1 he
      rw [D.deep_size]; exact h5 e' he'
    · have hne' : els ≠ [] := fun h0 => hne (by subst h0; rfl)
      obtain ⟨b, o, h8, h9⟩ := h7 hne'
      exact ⟨b, o, h8, RpE_deep els b o h9⟩
  | .lent els sp, v, h => by
    rw [D.deep]
    rw [Rp] at h
    rw [Rp]
    obtain ⟨b, o, cap, sz, h1, h2, h3, h4, h5, h6, h7, h8⟩ := h
    refine ⟨_, cap, sz, by rw [D.deeps_length]; exact h1, by rw [D.deeps_length]; omega, h3, by rw [D.deeps_length]; omega, fun e he => ?_, trivial, fun hne => ⟨b, o, rfl, RpE_deep els b o h7⟩⟩
    rw [D.deeps_map] at he
    obtain ⟨e', he', rfl⟩ := List.mem_map.1 he
    rw [D.deep_size]; exact h5 e' he'
  | .ref d, v, h => by
    rw [D.deep]
    obtain ⟨b, o, h1, h2⟩ := Rp_ref.1 h
    refine Rp_ref.2 ⟨b, o, h1, ?_⟩
    cases d
    case agg cs => rw [D.deep]; exact RpC_deep cs b o h2
    all_goals
      obtain ⟨u, h3, h4⟩ := h2
      have h5 := Rp_deep _ u h4
      exact ⟨u, h3, h5⟩
theorem RpL_deep : ∀ (ds : List D) (vs : List Value), RpL ρ w ds vs → RpL ρ w (D.deeps ds) vs
  | [], vs, h => by rw [D.deeps]; exact h
  | d :: r, vs, h => by
    rw [D.deeps]
    rw [RpL_cons] at h
    obtain ⟨v, us, rfl, h2, h3⟩ := h
    exact RpL_cons'.2 ⟨Rp_deep d v h2, RpL_deep r us h3⟩
theorem RpC_deep : ∀ (ds : List D) (b o : Nat), RpC ρ w ds b o → RpC ρ w (D.deeps ds) b o
  | [], b, o, h => RpC_nil
  | d :: r, b, o, h => by
    rw [D.deeps]
    rw [RpC_cons] at h
    obtain ⟨⟨v, h1, h2⟩, h3⟩ := h
    exact RpC_cons.2 ⟨⟨v, h1, Rp_deep d v h2⟩, RpC_deep r b (o + 1) h3⟩
theorem RpE_deep : ∀ (ds : List D) (b o : Nat), RpE ρ w ds b o → RpE ρ w (D.deeps ds) b o
  | [], b, o, h => RpE_nil
  | d :: r, b, o, h => by
    rw [D.deeps]
    rw [RpE_cons] at h
    refine RpE_cons.2 ⟨?_, by rw [D.deep_size]; exact RpE_deep r b _ h.2⟩
    have h2 := h.1
    cases d
    case agg cs => rw [D.deep]; exact RpC_deep cs b o h2
    all_goals
      obtain ⟨u, h3, h4⟩ := h2
      have h5 := Rp_deep _ u h4
      exact ⟨u, h3, h5⟩
end
end
section
variable {P : Program} {G : Nat → Option D}
theorem CallX.deep {f : FuncId} {args : List D} {hl : List HO} {K : Out → List HO → Prop} (h : CallX P G f (D.deeps args) hl K) : CallX P G f args hl K := by
  obtain ⟨Φ, h1, h2⟩ := h
  exact ⟨Φ, fun ρ w vs hR hvs => h1 ρ w vs hR (RpL_deep _ _ hvs), h2⟩
theorem CallX.objs (hG : ∀ g d, G g = some d → d.pure = true) {f : FuncId} {args args' : List D} {objs : List HO} {Post : Out → List HO → Prop} {hl : List HO} {K : Out → List HO → Prop} (σl : List Nat) (fa : Bool) (h : Spec P G f args objs Post)
    (hK : ∀ out hc, Post out hc → ∃ fr : Bool, K ((told fr out).ren (renO σl hl.length)) (updS hl (upO σl hl.length hc)))
    (hk : ∀ out hc, Post out hc → σl.length ≤ hc.length) (hnd : σl.Nodup) (hlt : (σl.all fun i => decide (i < hl.length)) = true) (hobj : σl.map (fun i => (hOf hl i).ren (renA σl)) = objs) (hok : (σl.all fun i => (hOf hl i).okN (okA σl)) = true)
    (ha : D.rens (renA σl) (handed fa args') = args) (hoka : D.okNs (okA σl) (handed fa args') = true) : CallX P G f args' hl K := by
  have hlt' : ∀ i, i ∈ σl → i < hl.length := fun i hi => by simpa using List.all_eq_true.1 hlt i hi
  refine ⟨fun o up => ∃ out hc fr, Post out hc ∧ K ((told fr out).ren (renO σl hl.length)) (updS hl (upO σl hl.length hc)) ∧ o = (told fr out).ren (renO σl hl.length) ∧ up = upO σl hl.length hc, ?_, ?_⟩
  · intro ρ w vs hR hvs
    have hR' := lent_rel hG hR hnd hobj hok
    have hvs' : RpL (ρ.lent σl) w args vs := by
      rw [← ha]
      exact RpL_ren (p := okA σl) lent_nm rfl _ _ hoka (RpL_handed fa hvs)
    obtain ⟨h1, h2⟩ := h _ w vs hR' hvs'
    refine ⟨h1, h2.mono ?_⟩
    rintro e w' ⟨ρ', out, hc, hp, hout, g1, g2⟩
    obtain ⟨fr, hKK⟩ := hK out hc hp
    obtain ⟨b1, b2, b3⟩ := back (nx := hl.length) hG hR hnd hlt' hobj (fun i hi _ => by unfold hOf; rw [List.getD_eq_getElem?_getD, List.getElem?_eq_none hi]; rfl) (hk _ _ hp) g1 g2
    exact ⟨_, _, _, ⟨out, hc, fr, hp, hKK, rfl, rfl⟩, b1, b2, (hout.told fr).map b3⟩
  · rintro o up ⟨out, hc, fr, hp, hKK, rfl, rfl⟩
    exact hKK
/-- what such a call looks at -/
def rdO (σl : List Nat) (nx : Nat) (hc : List HO) : List Nat := (List.range hc.length).map (renO σl nx)
theorem CallY.objs (hG : ∀ g d, G g = some d → d.pure = true) {f : FuncId} {args args' : List D} {objs : List HO} {Post : Out → List HO → Prop} {hl : List HO} {K : Out → List Nat → List (Nat × HO) → Prop} (σl : List Nat) (fa fr : Bool) {out : Out} {hc : List HO} (h : Spec P G f args objs Post)
    (hP : ∀ o h', Post o h' → told fr o = out ∧ h' = hc) (hK : K (out.ren (renO σl hl.length)) (rdO σl hl.length hc) (upO σl hl.length hc))
    (hk : σl.length ≤ hc.length) (hnd : σl.Nodup) (hlt : (σl.all fun i => decide (i < hl.length)) = true) (hobj : σl.map (fun i => (hOf hl i).ren (renA σl)) = objs) (hok : (σl.all fun i => (hOf hl i).okN (okA σl)) = true)
    (ha : D.rens (renA σl) (handed fa args') = args) (hoka : D.okNs (okA σl) (handed fa args') = true) : CallY P G f args' hl K := by
  have hlt' : ∀ i, i ∈ σl → i < hl.length := fun i hi => by simpa using List.all_eq_true.1 hlt i hi
  refine ⟨out.ren (renO σl hl.length), rdO σl hl.length hc, upO σl hl.length hc, ?_, hK⟩
  intro ρ w H vs hR hH hvs
  have hrd : ∀ i, i ∈ σl → H i = hOf hl i := fun i hi => hH i (by
    unfold rdO
    have hidx := List.idxOf_lt_length_iff.2 hi
    refine List.mem_map.2 ⟨σl.idxOf i, List.mem_range.2 (by omega), ?_⟩
    unfold renO
    rw [if_pos hidx, List.getD_eq_getElem?_getD, List.getElem?_eq_getElem hidx, List.getElem_idxOf hidx]; rfl)
  have hobj' : σl.map (fun i => (H i).ren (renA σl)) = objs := by
    rw [← hobj]
    exact List.map_congr_left fun i hi => by rw [hrd i hi]
  have hok' : (σl.all fun i => (H i).okN (okA σl)) = true := by
    rw [List.all_eq_true] at hok ⊢
    exact fun i hi => by rw [hrd i hi]; exact hok i hi
  have hR' := lent_rel hG hR hnd hobj' hok'
  have hvs' : RpL (ρ.lent σl) w args vs := by
    rw [← ha]
    exact RpL_ren (p := okA σl) lent_nm rfl _ _ hoka (RpL_handed fa hvs)
  obtain ⟨h1, h2⟩ := h _ w vs hR' hvs'
  refine ⟨h1, h2.mono ?_⟩
  rintro e w' ⟨ρ', o, h', hp, hout, g1, g2⟩
  obtain ⟨rfl, rfl⟩ := hP _ _ hp
  obtain ⟨b1, b2, b3⟩ := back (nx := hl.length) hG hR hnd hlt' hobj' (fun i hi hi2 => by
    rw [hH i (by
      unfold rdO
      refine List.mem_map.2 ⟨σl.length + (i - hl.length), List.mem_range.2 (by omega), ?_⟩
      unfold renO; rw [if_neg (by omega)]; omega)]
    unfold hOf; rw [List.getD_eq_getElem?_getD, List.getElem?_eq_none hi]; rfl) hk g1 g2
  exact ⟨_, b1, b2, (hout.told fr).map b3⟩
end
/-- names below m stay; those of κ are m, m + 1, ..; the rest is forgotten -/
def okM (m : Nat) (κ : List Nat) (i : Nat) : Bool := decide (i < m) || κ.contains i
def renM (m : Nat) (κ : List Nat) (i : Nat) : Nat := if i < m then i else m + κ.idxOf i
def D.mov (m : Nat) (κ : List Nat) (d : D) : D := if d.okN (okM m κ) then d.ren (renM m κ) else .junk
def HO.mov (m : Nat) (κ : List Nat) (h : HO) : HO := if h.okN (okM m κ) then h.ren (renM m κ) else .dead
def movH (m : Nat) (κ : List Nat) (hl : List HO) : List HO := ((List.range m).map (hOf hl) ++ κ.map (hOf hl)).map (HO.mov m κ)
def movT (m : Nat) (κ : List Nat) (tl : List D) : List D := tl.map (D.mov m κ)
def movD (m : Nat) (κ : List Nat) (df : Df) : Df := df.map fun p => (p.1, D.rens (renM m κ) p.2)
def okD (m : Nat) (κ : List Nat) (df : Df) : Bool := df.all fun p => D.okNs (okM m κ) p.2
def Rho.mov (ρ : Rho) (m : Nat) (κ : List Nat) : Rho := ⟨ρ.c, fun j => if j < m then ρ.nm j else (κ[j - m]?).bind ρ.nm⟩
theorem HO.mov_live {m : Nat} {κ : List Nat} {h : HO} (hl : (h.mov m κ).live = true) : h.live = true := by
  unfold HO.mov at hl
  split at hl
  · rw [HO.ren_live] at hl; exact hl
  · cases hl
theorem HO.mov_free {m : Nat} {κ : List Nat} {h : HO} (e : h.mov m κ = .free) : h = .free := by
  unfold HO.mov at e
  split at e
  · exact HO.ren_free e
  · cases e
section
variable {G : Nat → Option D} {ρ0 ρ : Rho} {w0 w : World} {H0 : Nat → HO} {nt : Nat} {a : Act} {tl : List D} {hl : List HO} {df : Df} {m : Nat} {κ : List Nat}
theorem mov_nm (i : Nat) (hi : okM m κ i = true) (x : Nat × Nat) (h : ρ.nm i = some x) : (ρ.mov m κ).nm (renM m κ i) = some x := by
  unfold renM
  show (if _ then _ else _) = _
  by_cases h1 : i < m
  · rw [if_pos h1, if_pos h1]; exact h
  · have hm : i ∈ κ := by simpa [okM, h1] using hi
    have hidx := List.idxOf_lt_length_iff.2 hm
    rw [if_neg h1, if_neg (by omega)]
    rw [show m + κ.idxOf i - m = κ.idxOf i by omega, List.getElem?_eq_getElem hidx, List.getElem_idxOf hidx]
    exact h
theorem DfM.ren {ρ' : Rho} {p : Nat → Bool} {σ : Nat → Nat} (hn : ∀ i, p i = true → ∀ x, ρ.nm i = some x → ρ'.nm (σ i) = some x) (hc : ρ'.c = ρ.c) : ∀ {df : Df} {ds : List Deferred}, (df.all fun q => D.okNs p q.2) = true → DfM ρ w ds df → DfM ρ' w ds (df.map fun q => (q.1, D.rens σ q.2))
  | [], ds, _, h => h
  | (f, cap) :: r, ds, hp, h => by
    rw [List.all_cons, Bool.and_eq_true] at hp
    obtain ⟨vs, ds', h1, h2, h3⟩ := h
    exact ⟨vs, ds', h1, RpL_ren hn hc _ _ hp.1 h2, DfM.ren hn hc hp.2 h3⟩
theorem InSt.mov (hG : ∀ g d, G g = some d → d.pure = true) (h0 : ∀ i, m ≤ i → ρ0.nm i = none) (hnd : κ.Nodup) (hge : ∀ i, i ∈ κ → m ≤ i) (hdf : okD m κ df = true) (h : InSt G ρ0 w0 H0 nt ρ w a (tmOf tl) (hOf hl) df) :
    InSt G ρ0 w0 H0 nt (ρ.mov m κ) w a (tmOf (movT m κ tl)) (hOf (movH m κ hl)) (movD m κ df) := by
  have hR := h.rel
  -- a name's source
  have hsrc : ∀ j x, (ρ.mov m κ).nm j = some x → ∃ i, ρ.nm i = some x ∧ hOf (movH m κ hl) j = (hOf hl i).mov m κ ∧ ((j < m ∧ i = j) ∨ (m ≤ j ∧ ∃ hj : j - m < κ.length, i = κ[j - m])) := fun j x hx => by
    have hx' : (if j < m then ρ.nm j else (κ[j - m]?).bind ρ.nm) = some x := hx
    by_cases hj : j < m
    · rw [if_pos hj] at hx'
      refine ⟨j, hx', ?_, .inl ⟨hj, rfl⟩⟩
      unfold movH
      show List.getD (α := HO) _ j HO.free = _
      rw [List.getD_eq_getElem?_getD, List.getElem?_map, List.getElem?_append_left (by simpa using hj), List.getElem?_map, List.getElem?_range hj]; rfl
    · rw [if_neg hj] at hx'
      rcases Nat.lt_or_ge (j - m) κ.length with hk | hk
      · rw [List.getElem?_eq_getElem hk] at hx'
        refine ⟨κ[j - m], hx', ?_, .inr ⟨by omega, hk, rfl⟩⟩
        unfold movH
        show List.getD (α := HO) _ j HO.free = _
        rw [List.getD_eq_getElem?_getD, List.getElem?_map, List.getElem?_append_right (by simp; omega), List.getElem?_map]
        simp only [List.length_map, List.length_range]
        rw [List.getElem?_eq_getElem hk]; rfl
      · rw [List.getElem?_eq_none hk] at hx'; cases hx'
  have hinj : ∀ j1 j2 i, ((j1 < m ∧ i = j1) ∨ (m ≤ j1 ∧ ∃ hj : j1 - m < κ.length, i = κ[j1 - m])) → ((j2 < m ∧ i = j2) ∨ (m ≤ j2 ∧ ∃ hj : j2 - m < κ.length, i = κ[j2 - m])) → j1 = j2 := fun j1 j2 i h1 h2 => by
    rcases h1 with ⟨h1, rfl⟩ | ⟨h1, h3, rfl⟩
    · rcases h2 with ⟨h2, h4⟩ | ⟨h2, h5, h4⟩
      · exact h4
      · have := hge _ (List.getElem_mem h5); omega
    · rcases h2 with ⟨h2, h4⟩ | ⟨h2, h5, h4⟩
      · have := hge _ (List.getElem_mem h3); omega
      · have := (List.getElem_inj hnd).1 h4; omega
  have hL : ∀ b, Live (ρ.mov m κ) (hOf (movH m κ hl)) b → Live ρ (hOf hl) b := fun b ⟨j, f, h1, h2⟩ => by
    obtain ⟨i, g1, g2, -⟩ := hsrc j _ h1
    rw [g2] at h2
    exact ⟨i, f, g1, HO.mov_live h2⟩
  refine ⟨⟨fun j hj => ?_, hR.fresh, fun j b f h1 => ?_, fun i j b f g h1 h2 h3 h4 => ?_, fun g d hd => RpAt_nm (ρ := ρ) (ρ' := ρ.mov m κ) rfl (hG g d hd) (hR.glob g d hd)⟩, ⟨?_, h.ex.frame, fun b hb hlt => h.ex.live b (hL b hb) hlt⟩, fun k => ?_, h.size, ?_⟩
  · cases hq : (ρ.mov m κ).nm j with
    | none => rfl
    | some x =>
      obtain ⟨i, g1, g2, -⟩ := hsrc j x hq
      rw [g2] at hj
      rw [hR.free i (HO.mov_free hj)] at g1; cases g1
  · obtain ⟨i, g1, g2, -⟩ := hsrc j _ h1
    rw [g2]
    unfold HO.mov
    split
    · rename_i hok
      exact ObjAt.ren mov_nm rfl hok (hR.obj i b f g1)
    · trivial
  · obtain ⟨i1, g1, g2, g3⟩ := hsrc i _ h1
    obtain ⟨i2, k1, k2, k3⟩ := hsrc j _ h2
    rw [g2] at h3
    rw [k2] at h4
    have := hR.inj _ _ _ _ _ g1 k1 (HO.mov_live h3) (HO.mov_live h4)
    subst this
    exact hinj _ _ _ g3 k3
  · have g := h.ex.grow
    refine ⟨g.os, g.tape, g.output, g.size, g.whole, g.part, fun i x hx => ?_⟩
    have hi : i < m := by
      rcases Nat.lt_or_ge i m with hi | hi
      · exact hi
      · rw [h0 i hi] at hx; cases hx
    show (if i < m then _ else _) = _
    rw [if_pos hi]; exact g.nm i x hx
  · have e : tmOf (movT m κ tl) k = (tmOf tl k).mov m κ := by
      unfold tmOf movT
      rw [List.getD_eq_getElem?_getD, List.getElem?_map, List.getD_eq_getElem?_getD]
      cases tl[k]? <;> rfl
    rw [e]
    unfold D.mov
    split
    · rename_i hok
      exact Rp_ren mov_nm rfl _ _ hok (h.tmp k)
    · rw [Rp]; trivial
  · exact DfM.ren mov_nm rfl hdf h.df
variable {P : Program} {Q : DQ} {M : Nat}
/-- some objects are kept, under names behind the caller's; the rest is forgotten -/
theorem wpD_mov {c : Code} (κ : List Nat) (hG : ∀ g d, G g = some d → d.pure = true) (hnd : κ.Nodup) (hge : (κ.all fun i => decide (M ≤ i)) = true) (hdf : okD M κ df = true) (h : wpD P G M c Q (movT M κ tl) (movH M κ hl) (movD M κ df)) : wpD P G M c Q tl hl df :=
  fun ρ0 w0 H0 ρ w a hbs hst => by
    have h1 := hst.mov hG hbs hnd (fun i hi => by simpa using List.all_eq_true.1 hge i hi) hdf
    have hlen : (movT M κ tl).length = tl.length := by unfold movT; rw [List.length_map]
    have := h ρ0 w0 H0 _ w a hbs (by rw [hlen]; exact h1)
    rw [hlen] at this
    exact this
/-- a slice without room, as one whose right to grow is an object of its own -/
def D.tokd (i : Nat) : D → D
  | .slice els .full => .slice els (.tok i)
  | d => d
theorem Rp_tokd {i : Nat} {d : D} {v : Value} (h : Rp ρ w d v) : Rp ρ w (d.tokd i) v := by
  unfold D.tokd
  split
  · rw [Rp] at h ⊢
    obtain ⟨A, cap, sz, h1, h2, h3, h4, h5, h6, h7⟩ := h
    exact ⟨A, cap, sz, h1, h2, h3, h4, h5, .inl h6, h7⟩
  · exact h
theorem RpL_tokd {i j : Nat} {ds : List D} {vs : List Value} (h : RpL ρ w ds vs) : RpL ρ w (ds.modify j (D.tokd i)) vs := by
  refine RpL.of (by rw [List.length_modify]; exact h.length) fun k d v hd hv => ?_
  rw [List.getElem?_modify] at hd
  cases hk : ds[k]? with
  | none => rw [hk] at hd; cases hd
  | some x =>
    rw [hk] at hd
    obtain ⟨u, e1, e2⟩ := h.get hk
    rw [hv] at e1; cases e1
    simp only [Option.map_eq_map, Option.map_some, Option.some.injEq] at hd
    subst hd
    split
    · exact Rp_tokd e2
    · exact e2
theorem InSt.name (h : InSt G ρ0 w0 H0 nt ρ w a (tmOf tl) (hOf hl) df) : InSt G ρ0 w0 H0 nt ρ w a (tmOf tl) (hOf (hl ++ [.tok])) df := by
  have e : hOf (hl ++ [.tok]) = setH (hOf hl) hl.length .tok := by
    rw [← hOf_set]
    simp [setS]
  have hf : hOf hl hl.length = .free := by unfold hOf; rw [List.getD_eq_getElem?_getD, List.getElem?_eq_none (Nat.le_refl _)]; rfl
  obtain ⟨g1, g2⟩ := Ex.name h.rel hf
  rw [e]
  exact ⟨g1, h.ex.trans g2, h.tmp, h.size, h.df⟩
theorem wpD_tokT {c : Code} (t : Nat) (h : wpD P G M c Q (tl.modify t (D.tokd hl.length)) (hl ++ [.tok]) df) : wpD P G M c Q tl hl df := fun ρ0 w0 H0 ρ w a hbs hst => by
  have h1 := hst.name
  have hlen : (tl.modify t (D.tokd hl.length)).length = tl.length := List.length_modify ..
  have := h ρ0 w0 H0 ρ w a hbs (by
    rw [hlen]
    refine ⟨h1.rel, h1.ex, fun k => ?_, h1.size, h1.df⟩
    have h2 := h1.tmp k
    unfold tmOf at h2 ⊢
    rw [List.getD_eq_getElem?_getD] at h2 ⊢
    rw [List.getElem?_modify]
    cases hk : tl[k]? with
    | none => show Rp ρ w .junk _; rw [Rp]; trivial
    | some x =>
      rw [hk] at h2
      show Rp ρ w (if t = k then D.tokd hl.length x else x) _
      split
      · exact Rp_tokd h2
      · exact h2)
  rw [hlen] at this
  exact this
/-- the same for what stands in a box -/
theorem wpD_tokO {c : Code} (i j : Nat) {ty : TypeId} {ds : List D} (hi : hOf hl i = .cells ty ds) (h : wpD P G M c Q tl (hl.set i (.cells ty (ds.modify j (D.tokd hl.length))) ++ [.tok]) df) : wpD P G M c Q tl hl df := fun ρ0 w0 H0 ρ w a hbs hst => by
  have hlt : i < hl.length := by
    rcases Nat.lt_or_ge i hl.length with h | h
    · exact h
    · unfold hOf at hi; rw [List.getD_eq_getElem?_getD, List.getElem?_eq_none h] at hi; cases hi
  have h1 := hst.name
  refine h ρ0 w0 H0 ρ w a hbs ?_
  have hH : ∀ k, hOf (hl.set i (.cells ty (ds.modify j (D.tokd hl.length))) ++ [.tok]) k = if k = i then .cells ty (ds.modify j (D.tokd hl.length)) else hOf (hl ++ [.tok]) k := fun k => by
    unfold hOf
    rw [List.getD_eq_getElem?_getD, List.getD_eq_getElem?_getD]
    by_cases hk : k = i
    · subst hk
      rw [if_pos rfl, List.getElem?_append_left (by rw [List.length_set]; exact hlt), List.getElem?_set_self hlt]; rfl
    · rw [if_neg hk, ← List.set_append_left _ _ hlt, List.getElem?_set_ne (fun e => hk e.symm)]
  have hi' : hOf (hl ++ [.tok]) i = .cells ty ds := by
    rw [← hi]; unfold hOf
    rw [List.getD_eq_getElem?_getD, List.getD_eq_getElem?_getD, List.getElem?_append_left hlt]
  have hlv : ∀ k, (hOf (hl.set i (.cells ty (ds.modify j (D.tokd hl.length))) ++ [.tok]) k).live = (hOf (hl ++ [.tok]) k).live := fun k => by
    rw [hH k]
    split
    · rename_i hk; subst hk; rw [hi']; rfl
    · rfl
  have hL : ∀ b, Live ρ (hOf (hl.set i (.cells ty (ds.modify j (D.tokd hl.length))) ++ [.tok])) b → Live ρ (hOf (hl ++ [.tok])) b := fun b ⟨k, f, q1, q2⟩ => ⟨k, f, q1, by rw [← hlv k]; exact q2⟩
  have hR := h1.rel
  refine ⟨⟨fun k hk => hR.free k ?_, hR.fresh, fun k b f hk => ?_, fun k l b f g e1 e2 e3 e4 => hR.inj k l b f g e1 e2 (by rw [← hlv k]; exact e3) (by rw [← hlv l]; exact e4), hR.glob⟩, ⟨h1.ex.grow, h1.ex.frame, fun b hb hlt => h1.ex.live b (hL b hb) hlt⟩, h1.tmp, h1.size, h1.df⟩
  · rw [hH k] at hk
    split at hk
    · cases hk
    · exact hk
  · rw [hH k]
    have h2 := hR.obj k b f hk
    split
    · rename_i hki
      subst hki
      rw [hi'] at h2
      obtain ⟨c0, vs, q1, q2⟩ := h2
      exact ⟨c0, vs, q1, RpL_tokd q2⟩
    · exact h2
end
section
variable {G : Nat → Option D} {ρ0 ρ : Rho} {w0 w : World} {H0 : Nat → HO} {nt : Nat} {a : Act} {tl : List D} {hl : List HO} {df : Df} {P : Program} {Q : DQ} {M : Nat}
end
end Go.Proofs.YtgloldepdhgfaaaDoor
namespace Go.Proofs.YtgloldepdhgfaaaDoor
set_option linter.unusedSimpArgs false
set_option linter.unusedVariables false
open Go.RowKit
section
variable {G : Nat → Option D} {ρ0 ρ : Rho} {w0 w : World} {H0 : Nat → HO} {nt : Nat} {a : Act} {tl : List D} {hl : List HO} {df : Df} {P : Program} {Q : DQ} {M : Nat}
/-- an empty slice, as one of the call's own -/
def D.ownd (i : Nat) : D → D
  | .slice [] .full => .own i 0
  | d => d
theorem Rp_ownd {i : Nat} {d : D} {v : Value} (h : Rp ρ w d v) : Rp ρ w (d.ownd i) v := by
  unfold D.ownd
  split
  · rw [Rp] at h
    obtain ⟨A, cap, sz, h1, h2, h3, h4, h5, h6, h7⟩ := h
    have h6' : cap = 0 := h6
    subst h6'
    rw [show Rp ρ w (.own i 0) v = _ from Rp.eq_def ..]
    exact .inl ⟨rfl, A, h1⟩
  · exact h
theorem RpL_ownd {i j : Nat} {ds : List D} {vs : List Value} (h : RpL ρ w ds vs) : RpL ρ w (ds.modify j (D.ownd i)) vs := by
  refine RpL.of (by rw [List.length_modify]; exact h.length) fun k d v hd hv => ?_
  rw [List.getElem?_modify] at hd
  cases hk : ds[k]? with
  | none => rw [hk] at hd; cases hd
  | some x =>
    rw [hk] at hd
    obtain ⟨u, e1, e2⟩ := h.get hk
    rw [hv] at e1; cases e1
    simp only [Option.map_eq_map, Option.map_some, Option.some.injEq] at hd
    subst hd
    split
    · exact Rp_ownd e2
    · exact e2
theorem InSt.nameX {x : HO} (hx : x.live = true) (h : InSt G ρ0 w0 H0 nt ρ w a (tmOf tl) (hOf hl) df) : InSt G ρ0 w0 H0 nt ρ w a (tmOf tl) (hOf (hl ++ [x])) df := by
  have e : hOf (hl ++ [x]) = setH (hOf hl) hl.length x := by
    rw [← hOf_set]
    simp [setS]
  have hf : hOf hl hl.length = .free := by unfold hOf; rw [List.getD_eq_getElem?_getD, List.getElem?_eq_none (Nat.le_refl _)]; rfl
  obtain ⟨g1, g2⟩ := Ex.nameX h.rel hf hx
  rw [e]
  exact ⟨g1, h.ex.trans g2, h.tmp, h.size, h.df⟩
/-- the same for what stands in a box -/
theorem wpD_ownO {c : Code} (i j sz : Nat) {ty : TypeId} {ds : List D} (hi : hOf hl i = .cells ty ds) (h : wpD P G M c Q tl (hl.set i (.cells ty (ds.modify j (D.ownd hl.length))) ++ [.row sz []]) df) : wpD P G M c Q tl hl df := fun ρ0 w0 H0 ρ w a hbs hst => by
  have hlt : i < hl.length := by
    rcases Nat.lt_or_ge i hl.length with h | h
    · exact h
    · unfold hOf at hi; rw [List.getD_eq_getElem?_getD, List.getElem?_eq_none h] at hi; cases hi
  have h1 := hst.nameX (x := .row sz []) rfl
  refine h ρ0 w0 H0 ρ w a hbs ?_
  have hH : ∀ k, hOf (hl.set i (.cells ty (ds.modify j (D.ownd hl.length))) ++ [.row sz []]) k = if k = i then .cells ty (ds.modify j (D.ownd hl.length)) else hOf (hl ++ [.row sz []]) k := fun k => by
    unfold hOf
    rw [List.getD_eq_getElem?_getD, List.getD_eq_getElem?_getD]
    by_cases hk : k = i
    · subst hk
      rw [if_pos rfl, List.getElem?_append_left (by rw [List.length_set]; exact hlt), List.getElem?_set_self hlt]; rfl
    · rw [if_neg hk, ← List.set_append_left _ _ hlt, List.getElem?_set_ne (fun e => hk e.symm)]
  have hi' : hOf (hl ++ [.row sz []]) i = .cells ty ds := by
    rw [← hi]; unfold hOf
    rw [List.getD_eq_getElem?_getD, List.getD_eq_getElem?_getD, List.getElem?_append_left hlt]
  have hlv : ∀ k, (hOf (hl.set i (.cells ty (ds.modify j (D.ownd hl.length))) ++ [.row sz []]) k).live = (hOf (hl ++ [.row sz []]) k).live := fun k => by
    rw [hH k]
    split
    · rename_i hk; subst hk; rw [hi']; rfl
    · rfl
  have hL : ∀ b, Live ρ (hOf (hl.set i (.cells ty (ds.modify j (D.ownd hl.length))) ++ [.row sz []])) b → Live ρ (hOf (hl ++ [.row sz []])) b := fun b ⟨k, f, q1, q2⟩ => ⟨k, f, q1, by rw [← hlv k]; exact q2⟩
  have hR := h1.rel
  refine ⟨⟨fun k hk => hR.free k ?_, hR.fresh, fun k b f hk => ?_, fun k l b f g e1 e2 e3 e4 => hR.inj k l b f g e1 e2 (by rw [← hlv k]; exact e3) (by rw [← hlv l]; exact e4), hR.glob⟩, ⟨h1.ex.grow, h1.ex.frame, fun b hb hlt => h1.ex.live b (hL b hb) hlt⟩, h1.tmp, h1.size, h1.df⟩
  · rw [hH k] at hk
    split at hk
    · cases hk
    · exact hk
  · rw [hH k]
    have h2 := hR.obj k b f hk
    split
    · rename_i hki
      subst hki
      rw [hi'] at h2
      obtain ⟨c0, vs, q1, q2⟩ := h2
      exact ⟨c0, vs, q1, RpL_ownd q2⟩
    · exact h2
end
/-- what is thrown while a deferred closure is called, if anything -/
def ModeM (ρ : Rho) (w : World) : Option D → FrameMode → Prop
  | none, u => u = .returning
  | some d, u => ∃ x, u = .panicking (thrown x) ∧ Rp ρ w d x
section
variable (P : Program) (G : Nat → Option D)
/-- a deferred closure returns, what was thrown is recovered -/
def SpecD (f : FuncId) (args : List D) (objs : List HO) (rc : Option D) (Post : List HO → Prop) : Prop :=
  ∀ (ρ : Rho) (w : World) (vs : List Value) (u : FrameMode), Rel G ρ w (hOf objs) → RpL ρ w args vs → ModeM ρ w rc u → (invoke (.fn (.func f) vs.toArray) #[]).run P w = .ok (.enter f vs.toArray) w ∧
    CallsD P f vs.toArray u w fun e u' w' => ∃ z, e = .returned z ∧ settle u' = .returning ∧ ∃ ρ' hc', Post hc' ∧ Rel G ρ' w' (hOf hc') ∧ Ex ρ w (hOf objs) ρ' w' (hOf hc')
def CallRD (f : FuncId) (args : List D) (H : Nat → HO) (rc : Option D) (Φ : List (Nat × HO) → Prop) : Prop :=
  ∀ (ρ : Rho) (w : World) (vs : List Value) (u : FrameMode), Rel G ρ w H → RpL ρ w args vs → ModeM ρ w rc u → (invoke (.fn (.func f) vs.toArray) #[]).run P w = .ok (.enter f vs.toArray) w ∧
    CallsD P f vs.toArray u w fun e u' w' => ∃ z, e = .returned z ∧ settle u' = .returning ∧ ∃ ρ' up, Φ up ∧ Rel G ρ' w' (updL H up) ∧ Ex ρ w H ρ' w' (updL H up)
def DefX (f : FuncId) (args : List D) (hl : List HO) (rc : Option D) (K : List HO → Prop) : Prop := ∃ Φ : List (Nat × HO) → Prop, CallRD P G f args (hOf hl) rc Φ ∧ ∀ up, Φ up → K (updS hl up)
end
section
variable {P : Program} {G : Nat → Option D}
theorem DefX.objs (hG : ∀ g d, G g = some d → d.pure = true) {f : FuncId} {args args' : List D} {objs : List HO} {rc : Option D} {Post : List HO → Prop} {hl : List HO} {K : List HO → Prop} (σl : List Nat) (h : SpecD P G f args objs rc Post)
    (hK : ∀ hc, Post hc → K (updS hl (upO σl hl.length hc))) (hk : ∀ hc, Post hc → σl.length ≤ hc.length) (hrc : ∀ d, rc = some d → d.pure = true) (hnd : σl.Nodup) (hlt : (σl.all fun i => decide (i < hl.length)) = true)
    (hobj : σl.map (fun i => (hOf hl i).ren (renA σl)) = objs) (hok : (σl.all fun i => (hOf hl i).okN (okA σl)) = true) (ha : D.rens (renA σl) args' = args) (hoka : D.okNs (okA σl) args' = true) : DefX P G f args' hl rc K := by
  have hlt' : ∀ i, i ∈ σl → i < hl.length := fun i hi => by simpa using List.all_eq_true.1 hlt i hi
  refine ⟨fun up => ∃ hc, Post hc ∧ up = upO σl hl.length hc, ?_, ?_⟩
  · intro ρ w vs u hR hvs hm
    have hR' := lent_rel hG hR hnd hobj hok
    have hvs' : RpL (ρ.lent σl) w args vs := by
      rw [← ha]
      exact RpL_ren (p := okA σl) lent_nm rfl _ _ hoka hvs
    have hm' : ModeM (ρ.lent σl) w rc u := by
      cases rc with
      | none => exact hm
      | some d =>
        obtain ⟨x, h1, h2⟩ := hm
        exact ⟨x, h1, Rp_nm (ρ := ρ) (ρ' := ρ.lent σl) rfl d x (hrc d rfl) h2⟩
    obtain ⟨h1, h2⟩ := h _ w vs u hR' hvs' hm'
    refine ⟨h1, h2.mono ?_⟩
    rintro e u' w' ⟨z, he, hs, ρ', hc, hp, g1, g2⟩
    obtain ⟨b1, b2, -⟩ := back (nx := hl.length) hG hR hnd hlt' hobj (fun i hi _ => by unfold hOf; rw [List.getD_eq_getElem?_getD, List.getElem?_eq_none hi]; rfl) (hk _ hp) g1 g2
    exact ⟨z, he, hs, _, _, ⟨hc, hp, rfl⟩, b1, b2⟩
  · rintro up ⟨hc, hp, rfl⟩
    exact hK hc hp
/-- a statement's operations, in a deferred closure -/
theorem opsS_of_list {ops : Array Oper} {Q : Exit → Act → List Frame → World → Prop} {cs : List Frame} (hno : ∀ a w, ¬ Q .outgrown a cs w) : ∀ (lo : List Oper) (k : Nat), (∀ j, j < lo.length → ops[k + j]? = lo[j]?) → ∀ (a : Act) (w : World), wpList P ops (fun e a w => Q e a cs w) lo a w → wpOpsS P ops Q (List.range' k lo.length) a cs w
  | [], k, _, a, w, h => h
  | o :: r, k, hj, a, w, h => by
    have h0 : ops[k]? = some o := by have := hj 0 (by simp); simpa using this
    have ih := opsS_of_list hno r (k + 1) (fun j hjl => by
      have := hj (j + 1) (by simpa using hjl)
      rw [show k + 1 + j = k + (j + 1) by omega, this]; rfl)
    rw [List.length_cons, List.range'_succ, wpOpsS]
    rw [h0]
    dsimp only
    rw [wpList] at h
    split
    · rename_i hw
      rw [if_pos hw] at h
      rcases h with h | ⟨-, ⟨a', w', hq⟩⟩
      · have h' := Oper.wp_mono (K' := fun a' w' => wpOpsS P ops Q (List.range' (k + 1) r.length) a' cs w') (fun a w h => ih a w h) h
        unfold Oper.wp at h'
        split
        · rename_i w' hr
          rw [hr] at h'
          exact h'.elim
        · exact h'
      · exact absurd hq (hno a' w')
    · rename_i hw
      rw [if_neg hw] at h
      exact ih _ _ h
theorem invoke_cap {f : FuncId} (hcf : ∀ (vs : Array Value) (w : World), (callFunc f vs).run P w = .ok (.enter f vs) w) (vs : Array Value) (w : World) : (invoke (.fn (.func f) vs) #[]).run P w = .ok (.enter f vs) w := by
  simp [invoke, hcf]
variable {T : TypeId → Ty}
theorem wpD_specd (hT : ∀ t, TyOK P t (T t)) {f : FuncId} {fn : Func} {id : Nat} {ops : Array Oper} {o0 : Oper} {r : List Oper} {rest : Code} {args : List D} {hc : List HO} {rc : Option D} {Post : List HO → Prop} (hf : P.funcs[f]? = some fn) (hb : fn.body = some (.seq (.region id ops false) rest))
    (hops : ops.toList = o0 :: r) (hrec : ∀ (a : Act) (w : World), (execOp a.eval o0).run P w = .ok .recover w) (hgd : o0.guard = none) (hcf : ∀ (vs : Array Value) (w : World), (callFunc f vs).run P w = .ok (.enter f vs) w) {n : Nat} {rs : List ResultVar} (hn : fn.ntmps = n) (hrs : fn.results.toList = rs)
    (h : wpS P G T ops r (putS (args ++ List.replicate (n - args.length) (D.tuple [])) o0.dst (rc.getD .nili)) hc [] (fun tl hl df => wpD P G hc.length rest (EndQ T rs (fun o hl => (∃ d, o = .ret d) ∧ Post hl)) tl hl df) (fun _ _ _ _ => False)) : SpecD P G f args hc rc Post := by
  intro ρ w vs u hR hvs hm
  refine ⟨invoke_cap hcf _ _, ?_⟩
  have hlen := hvs.length
  subst hrs
  refine callsD_of_wpS hf hb fun c₀ cs hu => ?_
  have htl : (vs.toArray ++ Array.replicate (fn.ntmps - vs.toArray.size) undef) = (vs ++ List.replicate (n - args.length) undef).toArray := by
    apply Array.ext'
    simp [hn, hlen]
  rw [htl]
  have hrp : RpL ρ w (args ++ List.replicate (n - args.length) (.tuple [])) (vs ++ List.replicate (n - args.length) undef) := by
    refine hvs.append ?_
    generalize n - args.length = m
    induction m with
    | zero => exact RpL_nil.2 rfl
    | succ m ih => rw [List.replicate_succ, List.replicate_succ]; exact RpL_cons'.2 ⟨by rw [Rp]; exact ⟨[], rfl, RpL_nil.2 rfl⟩, ih⟩
  have hst0 : InSt G ρ w (hOf hc) (args ++ List.replicate (n - args.length) (D.tuple [])).length ρ w { tmps := (vs ++ List.replicate (n - args.length) undef).toArray, defers := [] } (tmOf (args ++ List.replicate (n - args.length) (D.tuple []))) (hOf hc) [] := by
    refine ⟨hR, Ex.refl _ _ _, fun k => ?_, ?_, rfl⟩
    · unfold tmOf
      rw [Array.getD_eq_getD_getElem?, List.getElem?_toArray]
      cases hk : (args ++ List.replicate (n - args.length) (D.tuple []))[k]? with
      | none => rw [List.getD_eq_getElem?_getD, hk]; show Rp ρ w .junk _; rw [Rp]; trivial
      | some d =>
        obtain ⟨u, h1, h2⟩ := hrp.get hk
        rw [List.getD_eq_getElem?_getD, hk, h1]
        exact h2
    · simpa using hrp.length
  have hbs : ∀ i, hc.length ≤ i → ρ.nm i = none := fun i hi => hR.free i (by unfold hOf; rw [List.getD_eq_getElem?_getD, List.getElem?_eq_none hi]; rfl)
  have h0 : ops[0]? = some o0 := by rw [← Array.getElem?_toList, hops]; rfl
  have hsz : ops.size = r.length + 1 := by rw [← Array.length_toList, hops]; rfl
  apply wpS_seq
  apply wpS_region
  rw [hsz, List.range_eq_range', List.range'_succ, wpOpsS]
  rw [h0]
  dsimp only
  have hwant : Region.wanted o0 (yielded ops (vs ++ List.replicate (n - args.length) undef).toArray) = true := by unfold Region.wanted; rw [hgd]
  rw [if_pos hwant, hrec]
  dsimp only
  -- behind the recovery
  have key : ∀ (x : Value) (u' : FrameMode), Rp ρ w (rc.getD .nili) x → settle u' = .returning →
      wpOpsS P ops (Exit.thenS (rest.wpS P (bodyPostS P fn c₀ cs (fun e u' w' => ∃ z, e = .returned z ∧ settle u' = .returning ∧ ∃ ρ' hc', Post hc' ∧ Rel G ρ' w' (hOf hc') ∧ Ex ρ w (hOf hc) ρ' w' (hOf hc')))) (bodyPostS P fn c₀ cs (fun e u' w' => ∃ z, e = .returned z ∧ settle u' = .returning ∧ ∃ ρ' hc', Post hc' ∧ Rel G ρ' w' (hOf hc') ∧ Ex ρ w (hOf hc) ρ' w' (hOf hc'))))
        (List.range' (0 + 1) r.length) (({ tmps := (vs ++ List.replicate (n - args.length) undef).toArray, defers := [] } : Act).put o0.dst x) ({ c₀ with mode := u' } :: cs) w := fun x u' hx hs => by
    have hst1 : InSt G ρ w (hOf hc) (putS (args ++ List.replicate (n - args.length) (D.tuple [])) o0.dst (rc.getD .nili)).length ρ w (({ tmps := (vs ++ List.replicate (n - args.length) undef).toArray, defers := [] } : Act).put o0.dst x) (tmOf (putS (args ++ List.replicate (n - args.length) (D.tuple [])) o0.dst (rc.getD .nili))) (hOf (updS hc [])) [] :=
      hst0.put (up := []) o0.dst hx hst0.rel (Ex.refl _ _ _)
    refine opsS_of_list (lo := r) ?_ (0 + 1) (fun j hj => by
      rw [Nat.zero_add, ← Array.getElem?_toList, hops, Nat.add_comm]; rfl) _ _ ?_
    · rintro a w ⟨u', z, he, -⟩
      cases he
    · refine wpS_sound hT r _ _ _ _ _ h ?_ (fun d u tl' hl' df' ρ w a hF => hF.elim) ρ w _ hst1
      intro tl' hl' df' ρ1 w1 a1 k1 k2 k3
      refine wpS_of_wp ?_
      have k4 := k1 ρ w (hOf hc) ρ1 w1 a1 hbs (by rw [k2]; exact k3)
      refine wp_mono k4 ?_
      rintro e a2 w2 ⟨x2, tl2, hl2, df2, ρ2, ⟨hdf, hq⟩, hx2, htl2, hst2⟩
      subst hdf
      have hd : a2.defers = [] := hst2.df
      have fin : (match tellsD T hl2 tl2 fn.results.toList with | some d => (∃ d_1, Out.ret d = .ret d_1) ∧ Post hl2 | none => False) → ∃ v, (results fn a2.tmps).run P w2 = .ok v w2 ∧ Post hl2 := fun hq => by
        cases ht : tellsD T hl2 tl2 fn.results.toList with
        | none => rw [ht] at hq; exact hq.elim
        | some d =>
          rw [ht] at hq
          obtain ⟨v, q1, q2⟩ := tellsD_run (P := P) hT hst2 ht
          exact ⟨v, q1, hq.2⟩
      cases x2 with
      | nrm =>
        cases hx2
        obtain ⟨v, q1, q2⟩ := fin hq
        exact ⟨hd, u', rfl, v, q1, v, rfl, hs, ρ2, hl2, q2, hst2.rel, hst2.ex⟩
      | ret =>
        cases hx2
        obtain ⟨v, q1, q2⟩ := fin hq
        exact ⟨hd, u', rfl, v, q1, v, rfl, hs, ρ2, hl2, q2, hst2.rel, hst2.ex⟩
      | ext i => exact hq.elim
      | pan d => obtain ⟨⟨d', h'⟩, -⟩ := hq; cases h'
  cases rc with
  | none =>
    have hm' : u = .returning := hm
    subst hm'
    have hr : recoverD (c₀ :: cs) = none := by simp [recoverD, hu]
    rw [hr]
    dsimp only
    have := key .nilIface .returning (by show Rp ρ w .nili _; rw [Rp]) rfl
    have e : ({ c₀ with mode := .returning } : Frame) = c₀ := by cases c₀; cases hu; rfl
    rw [e] at this
    exact this
  | some d =>
    obtain ⟨x, rfl, hx⟩ := hm
    have hr : recoverD (c₀ :: cs) = some (x, { c₀ with mode := .panicking [{ v := x, recovered := true }] } :: cs) := by simp [recoverD, hu, thrown]
    rw [hr]
    dsimp only
    exact key x (.panicking [{ v := x, recovered := true }]) hx (by simp [settle])
/-- the end of a body that may have deferred one closure -/
def endD (T : TypeId → Ty) (rs : List ResultVar) (Post : Out → List HO → Prop) (tl : List D) (hl : List HO) : Prop := match tellsD T hl tl rs with
  | some d => Post (.ret d) hl
  | none => False
theorem endD.intro {T : TypeId → Ty} {rs : List ResultVar} {Post : Out → List HO → Prop} {tl : List D} {hl : List HO} {d : D} (h : tellsD T hl tl rs = some d) (hp : Post (.ret d) hl) : endD T rs Post tl hl := by unfold endD; rw [h]; exact hp
def EndQD (P : Program) (G : Nat → Option D) (T : TypeId → Ty) (rs : List ResultVar) (Post : Out → List HO → Prop) : DQ := fun x tl hl df => match df with
  | [] => match x with
    | .nrm | .ret => endD T rs Post tl hl
    | .pan d => Post (.pan d) hl
    | .ext _ => False
  | [(f, cap)] => match x with
    | .nrm | .ret => DefX P G f cap hl none (endD T rs Post tl)
    | .pan d => DefX P G f cap hl (some d) (endD T rs Post tl)
    | .ext _ => False
  | _ => False
theorem wpD_specD (hT : ∀ t, TyOK P t (T t)) {f : FuncId} {fn : Func} {c : Code} {args : List D} {hc : List HO} {Post : Out → List HO → Prop} (hf : P.funcs[f]? = some fn) (hb : fn.body = some c) (hcf : ∀ (vs : Array Value) (w : World), (callFunc f vs).run P w = .ok (.enter f vs) w) {n : Nat} {rs : List ResultVar} (hn : fn.ntmps = n) (hrs : fn.results.toList = rs)
    (h : wpD P G hc.length c (EndQD P G T rs Post) (args ++ List.replicate (n - args.length) (.tuple [])) hc []) : Spec P G f args hc Post := by
  intro ρ w vs hR hvs
  refine ⟨hcf _ _, ?_⟩
  have hlen := hvs.length
  refine calls_of_wp_defers hf hb ?_
  subst hrs
  have htl : (vs.toArray ++ Array.replicate (fn.ntmps - vs.toArray.size) undef) = (vs ++ List.replicate (n - args.length) undef).toArray := by
    apply Array.ext'
    simp [hn, hlen]
  rw [htl]
  have hrp : RpL ρ w (args ++ List.replicate (n - args.length) (.tuple [])) (vs ++ List.replicate (n - args.length) undef) := by
    refine hvs.append ?_
    generalize n - args.length = m
    induction m with
    | zero => exact RpL_nil.2 rfl
    | succ m ih => rw [List.replicate_succ, List.replicate_succ]; exact RpL_cons'.2 ⟨by rw [Rp]; exact ⟨[], rfl, RpL_nil.2 rfl⟩, ih⟩
  have hbs : ∀ i, hc.length ≤ i → ρ.nm i = none := fun i hi => hR.free i (by unfold hOf; rw [List.getD_eq_getElem?_getD, List.getElem?_eq_none hi]; rfl)
  refine wp_mono (h ρ w (hOf hc) ρ w { tmps := (vs ++ List.replicate (n - args.length) undef).toArray, defers := [] } hbs ⟨hR, Ex.refl _ _ _, fun k => ?_, ?_, rfl⟩) ?_
  · unfold tmOf
    rw [Array.getD_eq_getD_getElem?, List.getElem?_toArray]
    cases hk : (args ++ List.replicate (n - args.length) (D.tuple []))[k]? with
    | none => rw [List.getD_eq_getElem?_getD, hk]; show Rp ρ w .junk _; rw [Rp]; trivial
    | some d =>
      obtain ⟨u, h1, h2⟩ := hrp.get hk
      rw [List.getD_eq_getElem?_getD, hk, h1]
      exact h2
  · simpa using hrp.length
  · rintro e a w' ⟨x, tl, hl, df, ρ', hq, hx, htl, hst⟩
    -- what is told
    have fin : ∀ (hl2 : List HO) (ρ2 : Rho) (w2 : World), InSt G ρ w (hOf hc) (args ++ List.replicate (n - args.length) (D.tuple [])).length ρ2 w2 a (tmOf tl) (hOf hl2) df → endD T fn.results.toList Post tl hl2 → ∃ v, (results fn a.tmps).run P w2 = .ok v w2 ∧ ∃ ρ' out hc', Post out hc' ∧ OutM ρ' w2 out (.returned v) ∧ Rel G ρ' w2 (hOf hc') ∧ Ex ρ w (hOf hc) ρ' w2 (hOf hc') := fun hl2 ρ2 w2 hst2 hq => by
      unfold endD at hq
      cases ht : tellsD T hl2 tl fn.results.toList with
      | none => rw [ht] at hq; exact hq.elim
      | some d =>
        rw [ht] at hq
        obtain ⟨u, h1, h2⟩ := tellsD_run (P := P) hT hst2 ht
        exact ⟨u, h1, ρ2, .ret d, hl2, hq, ⟨u, rfl, h2⟩, hst2.rel, hst2.ex⟩
    have dfr : ∀ {f' : FuncId} {cap : List D} {rc : Option D} {m : FrameMode}, df = [(f', cap)] → ModeM ρ' w' rc m → m ≠ .run → DefX P G f' cap hl rc (endD T fn.results.toList Post tl) → Leaves P fn a.tmps (fun e w' => ∃ ρ' out hc', Post out hc' ∧ OutM ρ' w' out e ∧ Rel G ρ' w' (hOf hc') ∧ Ex ρ w (hOf hc) ρ' w' (hOf hc')) a.defers m w' := fun {f' cap rc m} hdf hm hrun hd => by
      subst hdf
      obtain ⟨us, ds', hds, hus, hnil⟩ := hst.df
      have hnil' : ds' = [] := hnil
      subst hnil'
      rw [hds]
      obtain ⟨Φ, hcall, hK⟩ := hd
      obtain ⟨q1, q2⟩ := hcall ρ' w' us m hst.rel hus hm
      refine leaves_cons hrun q1 (q2.mono ?_)
      rintro e2 u2 w2 ⟨z, rfl, hs, ρ2, up, hphi, g1, g2⟩
      dsimp only
      rw [hs]
      have hst2 : InSt G ρ w (hOf hc) (args ++ List.replicate (n - args.length) (D.tuple [])).length ρ2 w2 a (tmOf tl) (hOf (updS hl up)) [(f', cap)] := by
        rw [hOf_upd]
        exact ⟨g1, hst.ex.trans g2, fun k => Rp.grow g2.grow _ _ (hst.tmp k), hst.size, hst.df.grow g2.grow⟩
      obtain ⟨v, r1, r2⟩ := fin _ _ _ hst2 (hK up hphi)
      exact ⟨v, r1, r2⟩
    match df, hq with
    | [], hq =>
      have hd : a.defers = [] := hst.df
      cases x with
      | nrm =>
        cases hx
        obtain ⟨v, r1, r2⟩ := fin _ _ _ hst hq
        show Leaves P fn a.tmps _ a.defers .returning w'
        rw [hd]
        exact ⟨v, r1, r2⟩
      | ret =>
        cases hx
        obtain ⟨v, r1, r2⟩ := fin _ _ _ hst hq
        show Leaves P fn a.tmps _ a.defers .returning w'
        rw [hd]
        exact ⟨v, r1, r2⟩
      | ext i => exact hq.elim
      | pan d =>
        obtain ⟨u, rfl, hu⟩ := hx
        show Leaves P fn a.tmps _ a.defers (.panicking (thrown u)) w'
        rw [hd]
        exact ⟨ρ', .pan d, hl, hq, ⟨u, rfl, hu⟩, hst.rel, hst.ex⟩
    | [(f', cap)], hq =>
      cases x with
      | nrm => cases hx; exact dfr (rc := none) rfl rfl (by simp) hq
      | ret => cases hx; exact dfr (rc := none) rfl rfl (by simp) hq
      | ext i => exact hq.elim
      | pan d =>
        obtain ⟨u, rfl, hu⟩ := hx
        exact dfr (rc := some d) rfl ⟨u, rfl, hu⟩ (by simp) hq
    | _ :: _ :: _, hq => exact hq.elim
end
end Go.Proofs.YtgloldepdhgfaaaDoor
namespace Go.Proofs.YtgloldepdhgfaaaDoor
set_option linter.unusedSimpArgs false
set_option linter.unusedVariables false
open Go.RowKit
/-- the second list knows as much at least -/
def leT : List D → List D → Prop
  | [], [] => True
  | a :: r, b :: s => (a = .junk ∨ a = b) ∧ leT r s
  | _, _ => False
theorem leT_len : ∀ {l m : List D}, leT l m → l.length = m.length
  | [], [], _ => rfl
  | a :: r, b :: s, h => by rw [List.length_cons, List.length_cons, leT_len h.2]
  | [], _ :: _, h => h.elim
  | _ :: _, [], h => h.elim
theorem leT_tm : ∀ {l m : List D}, leT l m → ∀ k, tmOf l k = .junk ∨ tmOf l k = tmOf m k
  | [], [], _, k => .inr rfl
  | a :: r, b :: s, h, 0 => h.1
  | a :: r, b :: s, h, k + 1 => leT_tm h.2 k
  | [], _ :: _, h, _ => h.elim
  | _ :: _, [], h, _ => h.elim
theorem leT_refl : ∀ l : List D, leT l l
  | [] => trivial
  | a :: r => ⟨.inr rfl, leT_refl r⟩
theorem leT_trans : ∀ {l m n : List D}, leT l m → leT m n → leT l n
  | [], [], [], _, _ => trivial
  | a :: r, b :: s, c :: t, h, k => ⟨h.1.elim .inl (fun e => by rw [e]; exact k.1), leT_trans h.2 k.2⟩
  | [], _ :: _, _, h, _ => h.elim
  | _ :: _, [], _, h, _ => h.elim
  | [], [], _ :: _, _, k => k.elim
  | _ :: _, _ :: _, [], _, k => k.elim
theorem leT_map {f : D → D} (hf : f .junk = .junk) : ∀ {l m : List D}, leT l m → leT (l.map f) (m.map f)
  | [], [], _ => trivial
  | a :: r, b :: s, h => ⟨h.1.elim (fun e => .inl (by rw [e]; exact hf)) (fun e => .inr (by rw [e])), leT_map hf h.2⟩
  | [], _ :: _, h => h.elim
  | _ :: _, [], h => h.elim
theorem leT_set2 : ∀ (i : Nat) (x : D) {l m : List D}, leT l m → leT (l.set i x) (m.set i x)
  | i, x, [], [], h => by cases i <;> trivial
  | 0, x, a :: r, b :: s, h => ⟨.inr rfl, h.2⟩
  | i + 1, x, a :: r, b :: s, h => ⟨h.1, leT_set2 i x h.2⟩
  | _, _, [], _ :: _, h => h.elim
  | _, _, _ :: _, [], h => h.elim
theorem leT_set3 : ∀ (i : Nat) (x : D) {l m : List D}, leT l m → leT (l.set i .junk) (m.set i x)
  | i, x, [], [], h => by cases i <;> trivial
  | 0, x, a :: r, b :: s, h => ⟨.inl rfl, h.2⟩
  | i + 1, x, a :: r, b :: s, h => ⟨h.1, leT_set3 i x h.2⟩
  | _, _, [], _ :: _, h => h.elim
  | _, _, _ :: _, [], h => h.elim
theorem leT_all : ∀ (S : List Nat) (ds : List D) {l m : List D}, leT l m → leT (putAll l S ds) (putAll m S ds)
  | [], ds, l, m, h => by cases ds <;> exact h
  | i :: r, [], l, m, h => h
  | i :: r, d :: ds, l, m, h => leT_all r ds (leT_set2 i d h)
theorem leT_pp : ∀ (J S : List Nat) (js ds : List D) {l m : List D}, js.length = J.length → leT l m → leT (putAll l (J ++ S) (J.map (fun _ => .junk) ++ ds)) (putAll m (J ++ S) (js ++ ds))
  | [], S, [], ds, l, m, _, h => leT_all S ds h
  | i :: r, S, j :: js, ds, l, m, hl, h => leT_pp r S js ds (by simpa using hl) (leT_set3 i j h)
  | [], S, _ :: _, ds, l, m, hl, h => by simp at hl
  | i :: r, S, [], ds, l, m, hl, h => by simp at hl
theorem getW_app (J S : List Nat) (tl : List D) : getW (J ++ S) tl = getW J tl ++ getW S tl := List.map_append ..
theorem getW_len (J : List Nat) (tl : List D) : (getW J tl).length = J.length := List.length_map ..
/-- what is in the shape of a loop's beginning, the temporaries J forgotten -/
theorem leT_shape {J S : List Nat} {tl tl2 : List D} (h : tl2 = putAll tl (J ++ S) (getW (J ++ S) tl2)) : leT (putAll tl (J ++ S) (J.map (fun _ => .junk) ++ getW S tl2)) tl2 := by
  have := leT_pp J S (getW J tl2) (getW S tl2) (getW_len J tl2) (leT_refl tl)
  rw [← getW_app, ← h] at this
  exact this
section
variable {P : Program} {G : Nat → Option D} {M : Nat} {Q : DQ} {tl tl' : List D} {hl : List HO} {df : Df}
theorem wpD_weak {c : Code} (h : leT tl tl') (hw : wpD P G M c Q tl hl df) : wpD P G M c Q tl' hl df := fun ρ0 w0 H0 ρ w a hbs hst => by
  have hlen := leT_len h
  have := hw ρ0 w0 H0 ρ w a hbs ⟨hst.rel, hst.ex, fun k => by
    rcases leT_tm h k with e | e
    · rw [e, Rp]; trivial
    · rw [e]; exact hst.tmp k, hst.size.trans hlen.symm, hst.df⟩
  rw [hlen] at this
  exact this
end
end Go.Proofs.YtgloldepdhgfaaaDoor
namespace Go.Proofs.YtgloldepdhgfaaaDoor
set_option linter.unusedSimpArgs false
set_option linter.unusedVariables false
open Go.RowKit
section
variable {G : Nat → Option D} {tl : List D} {hl : List HO} {P : Program} {Q : DQ} {M : Nat}
def Out.mov (m : Nat) (κ : List Nat) : Out → Out
  | .ret d => .ret (d.mov m κ)
  | .pan d => .pan (d.mov m κ)
/-- what is told, some objects under other names -/
def PostM (m : Nat) (Post : Out → List HO → Prop) (o : Out) (hl : List HO) : Prop := Post o hl ∨ ∃ κ : List Nat, κ.Nodup ∧ (κ.all fun i => decide (m ≤ i)) = true ∧ Post (o.mov m κ) (movH m κ hl)
theorem Spec.movd (hG : ∀ g d, G g = some d → d.pure = true) {f : FuncId} {args : List D} {hc : List HO} {Post : Out → List HO → Prop} (h : Spec P G f args hc (PostM hc.length Post)) : Spec P G f args hc Post := by
  intro ρ w vs hR hvs
  obtain ⟨h1, h2⟩ := h ρ w vs hR hvs
  refine ⟨h1, h2.mono ?_⟩
  rintro e w' ⟨ρ', out, hc', hp | ⟨κ, hnd, hge, hp⟩, ho, g1, g2⟩
  · exact ⟨ρ', out, hc', hp, ho, g1, g2⟩
  · have hbs : ∀ i, hc.length ≤ i → ρ.nm i = none := fun i hi => hR.free i (by unfold hOf; rw [List.getD_eq_getElem?_getD, List.getElem?_eq_none hi]; rfl)
    have hst : InSt G ρ w (hOf hc) 0 ρ' w' { tmps := #[], defers := [] } (tmOf []) (hOf hc') [] := ⟨g1, g2, fun k => by show Rp ρ' w' .junk _; rw [Rp]; trivial, rfl, rfl⟩
    have hst2 := hst.mov (κ := κ) hG hbs hnd (fun i hi => by simpa using List.all_eq_true.1 hge i hi) rfl
    refine ⟨ρ'.mov hc.length κ, out.mov hc.length κ, movH hc.length κ hc', hp, ?_, hst2.rel, hst2.ex⟩
    have hm : ∀ d u, Rp ρ' w' d u → Rp (ρ'.mov hc.length κ) w' (d.mov hc.length κ) u := fun d u hu => by
      unfold D.mov
      split
      · rename_i hok; exact Rp_ren mov_nm rfl _ _ hok hu
      · rw [Rp]; trivial
    cases out with
    | ret d => obtain ⟨u, e1, e2⟩ := ho; exact ⟨u, e1, hm d u e2⟩
    | pan d => obtain ⟨u, e1, e2⟩ := ho; exact ⟨u, e1, hm d u e2⟩
/-- a loop: at a round's end some objects may be kept under other names -/
theorem wpD_loopG {c : Code} (hG : ∀ g d, G g = some d → d.pure = true) (I : Nat → List D → List HO → Prop) (n0 : Nat) (hI : I n0 tl hl)
    (hr : ∀ n tl' hl' (A : List D → List HO → Df → Prop), tl'.length = tl.length → (∀ k tl2 hl2, k < n → I k tl2 hl2 → A tl2 hl2 []) →
      (∀ (κ : List Nat) k tl2 hl2, κ.Nodup → (κ.all fun i => decide (M ≤ i)) = true → k < n → I k (movT M κ tl2) (movH M κ hl2) → A tl2 hl2 []) → I n tl' hl' → wpD P G M c (thenD A Q) tl' hl' []) : wpD P G M (.loop c) Q tl hl [] := fun ρ0 w0 H0 ρ w a hbs hst => by
  intro b k cs
  have key : ∀ n tl' hl' ρ w a, tl'.length = tl.length → I n tl' hl' → InSt G ρ0 w0 H0 tl.length ρ w a (tmOf tl') (hOf hl') [] →
      ∃ e a' w', LiftQ G ρ0 w0 H0 tl.length Q e a' w' ∧ Arrives P (lone (b.at a (.code c :: .inLoop c :: k)) cs w) b k cs e a' w' := by
    intro n
    induction n using Nat.strongRecOn with
    | _ n ih =>
      intro tl' hl' ρ w a hl1 hI hst
      obtain ⟨e, a₁, w₁, hq, harr⟩ := hr n tl' hl' (fun tl2 hl2 df2 => df2 = [] ∧ ((∃ k, k < n ∧ I k tl2 hl2) ∨ ∃ (κ : List Nat) (k : Nat), κ.Nodup ∧ (κ.all fun i => decide (M ≤ i)) = true ∧ k < n ∧ I k (movT M κ tl2) (movH M κ hl2))) hl1
        (fun k tl2 hl2 h1 h3 => ⟨rfl, .inl ⟨k, h1, h3⟩⟩) (fun κ k tl2 hl2 h1 h2 h3 h5 => ⟨rfl, .inr ⟨κ, k, h1, h2, h3, h5⟩⟩) hI ρ0 w0 H0 ρ w a hbs (hl1 ▸ hst) b (.inLoop c :: k) cs
      rw [hl1] at hq
      obtain ⟨x, tl2, hl2, df2, ρ2, h1, h2, h3, h4⟩ := hq
      cases x with
      | nrm =>
        cases h2
        obtain ⟨rfl, ⟨k', hk', hI2⟩ | ⟨κ, k', hnd, hge, hk', hI2⟩⟩ := h1
        · obtain ⟨e₂, a₂, w₂, hq₂, harr₂⟩ := ih k' hk' _ _ ρ2 w₁ a₁ h3 hI2 h4
          exact ⟨e₂, a₂, w₂, hq₂, .of_steps (Steps.trans harr (.one step_inLoop)) harr₂⟩
        · have h5 := h4.mov hG hbs hnd (fun i hi => by simpa using List.all_eq_true.1 hge i hi) rfl
          obtain ⟨e₂, a₂, w₂, hq₂, harr₂⟩ := ih k' hk' _ _ (ρ2.mov M κ) w₁ a₁ (by unfold movT; rw [List.length_map]; exact h3) hI2 h5
          exact ⟨e₂, a₂, w₂, hq₂, .of_steps (Steps.trans harr (.one step_inLoop)) harr₂⟩
      | ret => cases h2; exact ⟨_, a₁, w₁, ⟨.ret, tl2, hl2, df2, ρ2, h1, rfl, h3, h4⟩, .pass (x := .inLoop c) rfl (fun _ _ => .inl (by simp)) harr⟩
      | ext i => cases h2; exact ⟨_, a₁, w₁, ⟨.ext i, tl2, hl2, df2, ρ2, h1, rfl, h3, h4⟩, .pass (x := .inLoop c) rfl (fun _ _ => .inl (by simp)) harr⟩
      | pan d =>
        obtain ⟨u, rfl, hu⟩ := h2
        exact ⟨_, a₁, w₁, ⟨.pan d, tl2, hl2, df2, ρ2, h1, ⟨u, rfl, hu⟩, h3, h4⟩, .pass (x := .inLoop c) rfl (fun _ _ => .inl (by simp)) harr⟩
  obtain ⟨e, a', w', hq, harr⟩ := key n0 _ _ ρ w a rfl hI hst
  exact ⟨e, a', w', hq, .of_steps (.one step_loop) harr⟩
variable {T : TypeId → Ty}
theorem putAll_getD {n : Nat} : ∀ (W : List Nat) (tl ys : List D), ¬ n ∈ W → (putAll tl W ys).getD n .junk = tl.getD n .junk
  | [], tl, ys, _ => by cases ys <;> rfl
  | i :: r, tl, [], _ => rfl
  | i :: r, tl, y :: ys, h => by
    rw [putAll, putAll_getD r _ _ (fun hm => h (List.mem_cons_of_mem _ hm)), List.getD_eq_getElem?_getD, List.getElem?_set_ne (fun e => h (by rw [← e]; exact List.mem_cons_self ..)), ← List.getD_eq_getElem?_getD]
/-- A loop over a slice's places: I k: so many rounds are done. -/
theorem wpD_rangeA (hT : ∀ t, TyOK P t (T t)) (hG : ∀ g d, G g = some d → d.pure = true) {b0 b1 r1 r2 : Nat} {ops1 ops2 : Array Oper} {o1 o2 o3 : Oper} {body : Code} {ti tk tn td ts : Nat} (W : List Nat) (n : Nat) (I : Nat → List D → List HO → Prop)
    (h1 : ops1.toList = [o1]) (e1 : o1.op = .binOp .lss ti (.tmp tk) (.tmp tn) ti) (g1 : o1.guard = none) (d1 : o1.dst = some td) (h2 : ops2.toList = [o2, o3]) (e2 : o2.op = .binOp .add ti (.tmp tk) (.const (.int .i64 1)) ti) (g2 : o2.guard = none) (d2 : o2.dst = some ts)
    (e3 : o3.op = .move (.tmp ts)) (g3 : o3.guard = none) (d3 : o3.dst = some tk) (hti : (T ti).k = .int .i64) (hlen : tk < tl.length ∧ td < tl.length ∧ ts < tl.length) (hne : td ≠ tk ∧ td ≠ tn ∧ ts ≠ tk ∧ ts ≠ tn ∧ tk ≠ tn) (hn : tl.getD tn .junk = .int .i64 n) (hnl : n ≤ LMax) (hk0 : tl.getD tk .junk = .int .i64 0)
    (hw : tl = (putAll tl W (getW W tl)).set tk (.int .i64 0)) (htn : ¬ tn ∈ W)
    (hI : I 0 (getW W tl) hl)
    (hr : ∀ k ys hl' (A : List D → List HO → Df → Prop), k < n → I k ys hl' →
      (∀ tl2 hl2, (tl2.set ts (.int .i64 (k + 1))).set tk (.int .i64 (k + 1)) = (putAll tl W (getW W ((tl2.set ts (.int .i64 (k + 1))).set tk (.int .i64 (k + 1))))).set tk (.int .i64 (k + 1)) → I (k + 1) (getW W ((tl2.set ts (.int .i64 (k + 1))).set tk (.int .i64 (k + 1)))) hl2 → tl2.getD tk .junk = .int .i64 k → A tl2 hl2 []) →
      (∀ (κ : List Nat) tl2 hl2, κ.Nodup → (κ.all fun i => decide (M ≤ i)) = true → movT M κ ((tl2.set ts (.int .i64 (k + 1))).set tk (.int .i64 (k + 1))) = (putAll tl W (getW W (movT M κ ((tl2.set ts (.int .i64 (k + 1))).set tk (.int .i64 (k + 1)))))).set tk (.int .i64 (k + 1)) →
        I (k + 1) (getW W (movT M κ ((tl2.set ts (.int .i64 (k + 1))).set tk (.int .i64 (k + 1))))) (movH M κ hl2) → tl2.getD tk .junk = .int .i64 k → A tl2 hl2 []) →
      (∀ tl3 tl2 hl2, leT tl3 tl2 → A tl3 hl2 [] → A tl2 hl2 []) →
      wpD P G M body (blockD b1 (thenD A (blockD b0 Q))) (((putAll tl W ys).set tk (.int .i64 k)).set td (.bool true)) hl' [])
    (he : ∀ ys hl', I n ys hl' → Q .nrm (((putAll tl W ys).set tk (.int .i64 n)).set td (.bool false)) hl' []) :
    wpD P G M (.block b0 (.loop (.seq (.region r1 ops1 false) (.seq (.cond (.tmp td) .skip (.exit b0)) (.seq (.block b1 body) (.region r2 ops2 false)))))) Q tl hl [] := by
  have hnl' := hnl
  unfold LMax at hnl'
  refine wpD_block ?_
  refine wpD_loopG hG (fun m tl' hl' => ∃ k ys, m + k = n ∧ tl' = (putAll tl W ys).set tk (.int .i64 k) ∧ I k ys hl') n ⟨0, _, rfl, hw, hI⟩ ?_
  rintro m tl' hl' A hlen' hA hA' ⟨k, ys, hm, rfl, hIk⟩
  have hpl : (putAll tl W ys).length = tl.length := putAll_length _ _ _
  have hgn : ((putAll tl W ys).set tk (.int .i64 k)).getD tn .junk = .int .i64 n := by
    rw [List.getD_eq_getElem?_getD, List.getElem?_set_ne hne.2.2.2.2, ← List.getD_eq_getElem?_getD, putAll_getD _ _ _ htn, hn]
  have hgk : ((putAll tl W ys).set tk (.int .i64 k)).getD tk .junk = .int .i64 k := by
    rw [List.getD_eq_getElem?_getD, List.getElem?_set_self (by rw [hpl]; exact hlen.1)]; rfl
  refine wpD_seq (wpD_region hT ?_)
  rw [h1, wpS_cons, wpS_nil]
  have hev : evOp T (opD G (tmOf ((putAll tl W ys).set tk (.int .i64 k)))) (hOf hl') hl'.length o1 = some (.val (.bool (decide ((k : Int) < n))) [] []) := by
    unfold evOp
    rw [e1]
    simp only [opD, tmOf, hgn, hgk, nilTest_lss, Bool.false_eq_true, if_false, pairX_int, binX, binD, isCst, hti]
    rfl
  have hwt : wantD ops1 (tmOf ((putAll tl W ys).set tk (.int .i64 k))) o1 = some true := by unfold wantD; rw [g1]
  rw [hwt, hev]
  simp only [if_true, d1, putS, updS, thenD]
  have hset : ((((putAll tl W ys).set tk (.int .i64 k)).set td (.bool (decide ((k : Int) < n))))).getD td .junk = .bool (decide ((k : Int) < n)) := by
    rw [List.getD_eq_getElem?_getD, List.getElem?_set_self (by rw [List.length_set, hpl]; exact hlen.2.1)]; rfl
  refine wpD_seq (wpD_part (b := decide ((k : Int) < n)) hset (fun hk => ?_) (fun hk => ?_))
  · have hkn : k < n := by simpa using hk
    refine wpD_skip ?_
    refine wpD_seq (wpD_block ?_)
    rw [hk]
    -- behind the body
    have hinc : ∀ tl2 hl2, tl2.getD tk .junk = .int .i64 k → A ((tl2.set ts (.int .i64 (k + 1))).set tk (.int .i64 (k + 1))) hl2 [] → tl2.length = tl.length → wpD P G M (.region r2 ops2 false) (thenD A (blockD b0 Q)) tl2 hl2 [] := fun tl2 hl2 hq hAA hl2l => by
      refine wpD_region hT ?_
      have hev2 : evOp T (opD G (tmOf tl2)) (hOf hl2) hl2.length o2 = some (.val (.int .i64 (k + 1)) [] []) := by
        unfold evOp
        rw [e2]
        have hw1 : IntKind.i64.wrap ((k : Int) + 1) = (k : Int) + 1 := i64w (by omega) (by omega)
        have hc1 : D.ofV (.int .i64 1) = .int .i64 1 := by kernel_rfl
        simp only [opD, tmOf, hq, nilTest_add, Bool.false_eq_true, if_false, pairX_int, binX, binD, isCst, hti, hc1, if_true, hw1]
        rfl
      rw [h2, wpS_cons]
      have hwt2 : wantD ops2 (tmOf tl2) o2 = some true := by unfold wantD; rw [g2]
      rw [hwt2, hev2]
      simp only [if_true, d2, putS, updS]
      rw [wpS_cons]
      have hwt3 : wantD ops2 (tmOf (tl2.set ts (.int .i64 (k + 1)))) o3 = some true := by unfold wantD; rw [g3]
      have hev3 : evOp T (opD G (tmOf (tl2.set ts (.int .i64 (k + 1))))) (hOf hl2) hl2.length o3 = some (.val (.int .i64 (k + 1)) [] []) := by
        unfold evOp
        rw [e3]
        simp only [opD, tmOf]
        rw [List.getD_eq_getElem?_getD, List.getElem?_set_self (by rw [hl2l]; exact hlen.2.2)]; rfl
      rw [hwt3, hev3]
      simp only [if_true, d3, putS, updS, wpS_nil, thenD]
      exact hAA
    have hcast : ((k + 1 : Nat) : Int) = (k : Int) + 1 := by omega
    refine wpD_mono (hr k ys hl' (fun tl hl df => wpD P G M (.region r2 ops2 false) (thenD A (blockD b0 Q)) tl hl df) hkn hIk (fun tl2 hl2 heq hI1 hq => ?_) (fun κ tl2 hl2 hnd hge heq hI1 hq => ?_) (fun tl3 tl2 hl2 hle h => wpD_weak hle h)) (fun x tl hl df hx => ?_)
    · have hl2l : tl2.length = tl.length := by
        have := congrArg List.length heq
        simpa [putAll_length] using this
      refine hinc tl2 hl2 hq (hA (m - 1) _ _ (by omega) ⟨k + 1, _, by omega, ?_, hI1⟩) hl2l
      rw [hcast]; exact heq
    · have hl2l : tl2.length = tl.length := by
        have := congrArg List.length heq
        simpa [putAll_length, movT] using this
      refine hinc tl2 hl2 hq (hA' κ (m - 1) _ _ hnd hge (by omega) ⟨k + 1, _, by omega, ?_, hI1⟩) hl2l
      rw [hcast]; exact heq
    · cases x with
      | nrm => exact hx
      | ret => exact hx
      | pan d => exact hx
      | ext i =>
        show (if i = b1 then _ else _)
        have hx' : (if i = b1 then wpD P G M (.region r2 ops2 false) (thenD A (blockD b0 Q)) tl hl df else blockD b0 Q (.ext i) tl hl df) := hx
        split
        · rename_i hi; rw [if_pos hi] at hx'; exact hx'
        · rename_i hi; rw [if_neg hi] at hx'; exact hx'
  · have hkn : k = n := by have : ¬ ((k : Int) < n) := (by simpa using hk); omega
    subst hkn
    refine wpD_exit ?_
    rw [hk]
    show (if b0 = b0 then _ else _)
    rw [if_pos rfl]
    exact he ys hl' hIk
end
end Go.Proofs.YtgloldepdhgfaaaDoor
