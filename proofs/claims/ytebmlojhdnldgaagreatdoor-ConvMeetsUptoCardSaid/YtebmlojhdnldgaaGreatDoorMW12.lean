/-
  MW12: the texts Dla, one behind the other.
-/
import Derived.Lib.LaidTab
import Derived.Test.YtebmlojhdnldgaaGreatDoorMW11
namespace Go.Proofs.YtebmlojhdnldgaaGreatDoor
set_option linter.unusedSimpArgs false
set_option linter.unusedVariables false
open Go.RowKit
def flat0 : DataW Unit -> List Value
 | .lit (.bool b) => [.bool b]
 | .lit (.int k n) => [.int k n]
 | _ => []
def flat1 : DataW Unit -> List Value
 | .agg l => l.flatMap flat0
 | _ => []
def flat2 : DataW Unit -> List Value
 | .agg l => l.flatMap flat1
 | _ => []
theorem chunks (m : Nat) : ∀ (n : Nat) (cs : List Value), cs.length = n * m -> cs = (List.range n).flatMap fun i => (cs.drop (i * m)).take m
 | 0, cs, h => by have : cs = [] := List.eq_nil_of_length_eq_zero (by simpa using h); subst this; rfl
 | n + 1, cs, h => by
  have h' : cs.length = n * m + m := by rw [h, Nat.add_mul, Nat.one_mul]
  have ih := chunks m n (cs.take (n * m)) (by rw [List.length_take]; omega)
  rw [List.range_succ, List.flatMap_append]
  have h1 : ((List.range n).flatMap fun i => (cs.drop (i * m)).take m) = cs.take (n * m) := by
   rw [ih]
   rw [List.flatMap_def, List.flatMap_def]
   congr 1
   apply List.map_congr_left
   intro i hi
   have hi := List.mem_range.1 hi
   have hle : i * m + m <= n * m := by
    have := Nat.mul_le_mul_right m (show i + 1 <= n by omega)
    rwa [Nat.add_mul, Nat.one_mul] at this
   rw [List.drop_take, List.take_take, Nat.min_eq_left (by omega)]
  rw [h1]
  simp only [List.flatMap_cons, List.flatMap_nil, List.append_nil]
  rw [List.take_of_length_le (l := cs.drop (n * m)) (by rw [List.length_drop]; omega), List.take_append_drop]
section
variable {enc : TypeId × Value -> Unit} {P : Program} {w : World} {base : Nat} {sp : Nat -> Bool} {held : Bool}
theorem flat_int {fuel : Nat} {t : TypeId} {cs : List Value} {d : DataW Unit} {ps : List MemPlace} (ht : P.underlying t = some (.int .i64)) (h : DataW.trod enc P w base sp held fuel t cs = some (d, ps)) : cs = flat0 d := by
 cases fuel with
 | zero => simp [DataW.trod] at h
 | succ fuel =>
  unfold DataW.trod at h
  rw [ht] at h
  rcases cs with _ | ⟨v, _ | ⟨v2, r⟩⟩
  ·simp at h
  ·cases v <;> simp at h
   obtain ⟨⟨rfl, -⟩, rfl, -⟩ := h
   rfl
  ·simp at h
theorem flat_bool {fuel : Nat} {t : TypeId} {cs : List Value} {d : DataW Unit} {ps : List MemPlace} (ht : P.underlying t = some .bool) (h : DataW.trod enc P w base sp held fuel t cs = some (d, ps)) : cs = flat0 d := by
 cases fuel with
 | zero => simp [DataW.trod] at h
 | succ fuel =>
  unfold DataW.trod at h
  rw [ht] at h
  rcases cs with _ | ⟨v, _ | ⟨v2, r⟩⟩
  ·simp at h
  ·cases v <;> simp at h
   obtain ⟨rfl, -⟩ := h
   rfl
  ·simp at h
theorem trod_array {fuel n : Nat} {t e : TypeId} {cs : List Value} {d : DataW Unit} {ps : List MemPlace} (ht : P.underlying t = some (.array n e)) (h : DataW.trod enc P w base sp held fuel t cs = some (d, ps)) :
  ∃ fuel' xs, cs.length = P.cellsOf t /\ d = .agg (xs.map (·.1)) /\ (List.range n).mapM (fun i => DataW.trod enc P w base sp held fuel' e ((cs.drop (i * P.cellsOf e)).take (P.cellsOf e))) = some xs := by
 cases fuel with
 | zero => simp [DataW.trod] at h
 | succ fuel =>
  unfold DataW.trod at h
  rw [ht] at h
  dsimp only at h
  split at h
  ·rename_i hl
   rw [Option.map_eq_some_iff] at h
   obtain ⟨xs, hm, h4⟩ := h
   simp only [Prod.mk.injEq] at h4
   exact ⟨fuel, xs, hl, h4.1.symm, hm⟩
  ·cases h
end
theorem flat_has {enc : TypeId × Value -> Unit} {w : World} {base : Nat} {sp : Nat -> Bool} {held : Bool} {fuel : Nat} {cs : List Value} {d : DataW Unit} {ps : List MemPlace} (h : DataW.trod enc Tryz.prog w base sp held fuel 153 cs = some (d, ps)) : cs = flat1 d := by
 obtain ⟨f, ds, rfl, h1, rfl, h3, h4⟩ := trod_struct (show Tryz.prog.underlying 153 = some (.struct (Tryz.prog.fieldsOf 153)) by kernel_rfl) h
 have hf : (Tryz.prog.fieldsOf 153).toList.map (fun f => (f.type, f.offset)) = [(4, 0), (4, 1), (3, 2), (3, 3), (3, 4)] := by kernel_rfl
 rw [show Tryz.prog.cellsOf 153 = 5 from by kernel_rfl] at h1
 obtain ⟨c0, c1, c2, c3, c4, rfl⟩ := len5 h1
 generalize (Tryz.prog.fieldsOf 153).toList = fs at hf h3 h4
 have hlen : fs.length = 5 := by simpa using congrArg List.length hf
 have key : ∀ i (hi : i < 5), ∃ p, DataW.trod enc Tryz.prog w base sp held f ([(4, 0), (4, 1), (3, 2), (3, 3), (3, 4)][i]).1 ((([c0, c1, c2, c3, c4] : List Value).drop ([(4, 0), (4, 1), (3, 2), (3, 3), (3, 4)][i]).2).take (Tryz.prog.cellsOf ([(4, 0), (4, 1), (3, 2), (3, 3), (3, 4)][i]).1)) = some (ds[i]'(by omega), p) := fun i hi => by
  obtain ⟨p, hp⟩ := h4 i (by omega) (by omega)
  have := List.getElem_of_eq hf (i := i) (by simpa using (by omega : i < fs.length))
  simp only [List.getElem_map] at this
  rw [<- this]
  exact ⟨p, hp⟩
 obtain ⟨p0, e0⟩ := key 0 (by omega)
 obtain ⟨p1, e1⟩ := key 1 (by omega)
 obtain ⟨p2, e2⟩ := key 2 (by omega)
 obtain ⟨p3, e3⟩ := key 3 (by omega)
 obtain ⟨p4, e4⟩ := key 4 (by omega)
 simp only [List.getElem_cons_zero, List.getElem_cons_succ] at e0 e1 e2 e3 e4
 rw [show Tryz.prog.cellsOf 3 = 1 from by kernel_rfl] at e2 e3 e4
 rw [show Tryz.prog.cellsOf 4 = 1 from by kernel_rfl] at e0 e1
 have g0 := flat_bool (show Tryz.prog.underlying 4 = some .bool by kernel_rfl) e0
 have g1 := flat_bool (show Tryz.prog.underlying 4 = some .bool by kernel_rfl) e1
 have g2 := flat_int Tryz.underlying3 e2
 have g3 := flat_int Tryz.underlying3 e3
 have g4 := flat_int Tryz.underlying3 e4
 simp only [List.drop_zero, List.drop_succ_cons, List.take_succ_cons, List.take_zero] at g0 g1 g2 g3 g4
 obtain ⟨x0, r0, rfl⟩ := List.exists_cons_of_ne_nil (l := ds) (by rintro rfl; simp at h3; omega)
 obtain ⟨x1, r1, rfl⟩ := List.exists_cons_of_ne_nil (l := r0) (by rintro rfl; simp at h3; omega)
 obtain ⟨x2, r2, rfl⟩ := List.exists_cons_of_ne_nil (l := r1) (by rintro rfl; simp at h3; omega)
 obtain ⟨x3, r3, rfl⟩ := List.exists_cons_of_ne_nil (l := r2) (by rintro rfl; simp at h3; omega)
 obtain ⟨x4, r4, rfl⟩ := List.exists_cons_of_ne_nil (l := r3) (by rintro rfl; simp at h3; omega)
 have hr : r4 = [] := List.eq_nil_of_length_eq_zero (by simp at h3; omega)
 subst hr
 simp only [List.getElem_cons_zero, List.getElem_cons_succ] at g0 g1 g2 g3 g4
 simp [flat1, <- g0, <- g1, <- g2, <- g3, <- g4]
def kindVals : List Value := kindRowsD.flatMap fun r => [.bool r.1, .bool r.2.1, .int .i64 r.2.2.1, .int .i64 r.2.2.2.1, .int .i64 r.2.2.2.2]
theorem kinds_lie {W : World} (h : laidMet Tryz.prog [("spandrel/term.kinds", Rows.laid_spandrel_term_kinds)] W) : ∀ i u, kindVals[i]? = some u -> W.cell? ⟨0, 0 + i, none⟩ = some u := by
 obtain ⟨ps, ⟨g', t', cs, fuel, p, q, hg', ht', hvar, hd, _, _⟩, _⟩ := h
 obtain rfl := Option.some.inj ((show Tryz.prog.globalNamed "spandrel/term.kinds" = some 0 by kernel_rfl).symm.trans hg')
 obtain rfl := Option.some.inj ((show (Tryz.prog.globals[0]?).map (·.type) = some 154 by kernel_rfl).symm.trans ht')
 obtain ⟨f, xs, h1, h2, h3⟩ := trod_array Tryz.underlying154 hd
 rw [show Tryz.prog.cellsOf 154 = 25 * 5 from by kernel_rfl] at h1
 rw [show Tryz.prog.cellsOf 153 = 5 from by kernel_rfl] at h3
 obtain ⟨h4, h5⟩ := mapM_some h3
 simp only [List.length_range] at h4
 have hcs : cs.toList = flat2 Rows.laid_spandrel_term_kinds := by
  rw [chunks 5 25 cs.toList h1, h2]
  show _ = (xs.map (·.1)).flatMap flat1
  rw [show (List.range 25).flatMap (fun i => (cs.toList.drop (i * 5)).take 5) = ((List.range 25).map fun i => (cs.toList.drop (i * 5)).take 5).flatten from by rw [List.flatMap_def]]
  rw [List.flatMap_def, List.map_map]
  congr 1
  apply List.ext_getElem (by simp [h4])
  intro i hi hi'
  simp only [List.length_map, List.length_range] at hi
  simp only [List.getElem_map, List.getElem_range, Function.comp_apply]
  have := h5 i (by simpa using hi) (by omega)
  simp only [List.getElem_range] at this
  exact flat_has this
 have hkc : flat2 Rows.laid_spandrel_term_kinds = kindVals := by kernel_rfl
 rw [hkc] at hcs
 have hcell := World.var?_cell (show Tryz.prog.globalNamed "spandrel/term.kinds" = some 0 by kernel_rfl) hvar
 intro i u hu
 have := hcell i
 rw [Nat.zero_add, this, <- hu, <- hcs, Array.getElem?_toList]
def litV : D -> Option Value
 | .bool b => some (.bool b)
 | .int k n => if k.min <= n /\ n <= k.max then some (.int k n) else none
 | _ => none
theorem RpL_lit {w : World} : ∀ {ds : List D} {vs : List Value}, ds.map litV = vs.map some -> RpL rho0 w ds vs
 | [], [], _ => by rw [RpL]
 | [], _ :: _, h => by simp at h
 | _ :: _, [], h => by simp at h
 | d :: r, v :: s, h => by
  simp only [List.map_cons, List.cons.injEq] at h
  refine Wf.2 ⟨?_, RpL_lit h.2⟩
  have h1 := h.1
  cases d <;> simp [litV] at h1
  ·rw [Rp]; exact ⟨h1.2.symm, h1.1⟩
  ·rw [Rp]; exact h1.symm
theorem rel_kinds {W : World} (h : laidMet Tryz.prog [("spandrel/term.kinds", Rows.laid_spandrel_term_kinds)] W) : Rel glob rho0 W (hOf []) := by
 refine ⟨fun _ _ => rfl, fun _ _ => rfl, (fun _ _ _ h => nomatch h), (fun _ _ _ _ _ h => nomatch h), fun g d hd => ?_⟩
 unfold glob at hd
 split at hd
 ·rename_i hg
  subst hg
  cases hd
  exact RpC_mk (RpL_lit (vs := kindVals) (by kernel_rfl)) (by kernel_rfl) (kinds_lie h)
 ·cases hd
theorem calls_trueK {f : FuncId} {args : List D} {vs : List Value} {w : World} (hR : Rel glob rho0 w (hOf [])) (h : Qu Tryz.prog glob f args [] (fun o _ => o.fgt = .ret (.bool true))) (hv : RpL rho0 w args vs) :
  Calls Tryz.prog f vs.toArray w fun e w' => e = .returned (.bool true) /\ Below w.heap.size w w' := by
 refine (h rho0 w vs hR hv).2.mono ?_
 rintro e w' ⟨ρ', out, hc', ho, hm, -, hx⟩
 refine ⟨?_, ex_below hx⟩
 cases out with
 | pan d => cases ho
 | ret d =>
  obtain ⟨u, rfl, hu⟩ := hm
  have hd : d = .bool true := by
   cases d <;> simp [Out.fgt, D.fgt] at ho
   subst ho; rfl
  subst hd
  rw [Rp] at hu
  rw [hu]
noncomputable def laidWorld (os : Os) : World :=
 { World.holding Tryz.prog os ⟨#[], #[], []⟩ with heap := (World.holding Tryz.prog os ⟨#[], #[], []⟩).heap.modify 0 fun
   | .cells _ t frozen => .cells kindVals.toArray t frozen
   | o => o }
end Go.Proofs.YtebmlojhdnldgaaGreatDoor
