/-
  LevelOrders answers true: whatever levels come in (no condition but the given bound on the bulk).
-/
import Derived.Test.YtlepjegkcmphoaaDcard
import Derived.Test.YtlepjegkcmphoaaLo
import Derived.JoinedCond
namespace Go.Proofs.Ytlepjegkcmphoaa.levelOrders
open Go.ChangeShapes Go.WideShapes Go.ChangeAt Go.RowKit
set_option linter.unusedVariables false

theorem own : ownKnob Try.prog.godebug = none := by kernel_rfl

set_option maxRecDepth 100000 in
theorem contract (H : Type) (enc : TypeId × Value → H) (W : World) (base : Nat) (args : Array Value) (ds gs : List (DataW H)) (before : List MemPlace)
    (hval : ∀ (j : Nat) t v, Try.f4.params[j]? = some t → args[j]? = some v → Value.okWide Try.prog W .any base t v)
    (hW : DataW.Whole enc Try.prog Try.f4.params.toList Rows.levelOrdersSpec.vars false W args.toList ds gs before) (hk : Rows.uptoSmall H (ds ++ gs) = true) :
    Calls Try.prog 4 args W fun e W' => ∃ v, e = .returned v ∧ Rows.levelOrdersSpec.post enc Try.prog Try.f4 false true false false W args v W' := by
  have hW' := hW
  obtain ⟨p, q, hA0, hV, rfl, hfz, hnd⟩ := hW
  have hA : DataW.TrodAll enc Try.prog W 0 (fun _ => true) true Try.f4.params.toList args.toList ds p := hA0
  rw [Try.params4] at hA hval
  obtain ⟨v0, vs0, d0, ds0, p0, q0, hargs, rfl, rfl, h0, r0⟩ := trodAll_cons hA
  obtain ⟨v1, vs1, d1, ds1, p1, q1, rfl, rfl, rfl, h1, r1⟩ := trodAll_cons r0
  obtain ⟨v2, vs2, d2, ds2, p2, q2, rfl, rfl, rfl, h2, r2⟩ := trodAll_cons r1
  obtain ⟨v3, vs3, d3, ds3, p3, q3, rfl, rfl, rfl, h3, r3⟩ := trodAll_cons r2
  obtain ⟨rfl, rfl, rfl⟩ := trodAll_nil r3
  obtain rfl : args = #[v0, v1, v2, v3] := by cases args; simp_all
  obtain ⟨rfl, rfl⟩ := trodVars_none hV
  have hb : Rows.uptoBulkAll [d0, d1, d2, d3] ≤ 1048576 := by have := of_decide_eq_true hk; simpa using this
  simp only [Rows.uptoBulkAll] at hb
  obtain ⟨a, ha, la⟩ := arg_level (by omega) (hval 0 _ v0 rfl rfl) h0
  obtain ⟨b, hbb, lb⟩ := arg_level (by omega) (hval 1 _ v1 rfl rfl) h1
  obtain ⟨c, hc, lc⟩ := arg_level (by omega) (hval 2 _ v2 rfl rfl) h2
  obtain ⟨bys, hby, lby, lbys⟩ := arg_levels (by omega) (hval 3 _ v3 rfl rfl) h3
  refine (calls_true (vs := [v0, v1, v2, v3]) (orders_spec a b c bys (by unfold LMax; omega) (by unfold LMax; omega) (by unfold LMax; omega) (by unfold LMax; omega) (fun x hx => by have := lbys x hx; unfold LMax; omega) (by unfold LMax; omega)) ?_).mono ?_
  · rw [RpL_cons', RpL_cons', RpL_cons', RpL_cons', RpL_nil]
    exact ⟨ha, hbb, hc, hby, rfl⟩
  · rintro e W' ⟨rfl, hbel⟩
    refine ⟨_, rfl, post_law (tb := 4) laidOut (by kernel_rfl) rfl rfl (fun t ht => ?_) hW' (fun _ => rfl) hbel⟩
    rw [Try.params4] at ht
    have hall : (#[24, 24, 24, 32] : Array Nat).toList.all (fun t => Try.prog.readableRec t && decide (t < Try.prog.types.size)) = true := by kernel_rfl
    have := List.all_eq_true.1 hall t ht
    simpa using this

def zeroL : Value := .agg #[.slice none 0 0]
set_option maxRecDepth 100000 in
theorem lifted (os : Os) (started : os.Started) (H : Type) (enc : TypeId × Value → H) (F : Stop.Interp) :
    ReturnsInHanded {} Try.checked os 4 .any ((Rows.OpenSpec.upto Rows.levelOrdersSpec).pre6 enc Try.prog Try.f4 Rows.levelOrdersUptoRow.domain false) (((Rows.OpenSpec.upto Rows.levelOrdersSpec).at F).post enc Try.prog Try.f4 false true false false) := by
  refine returnsInHanded_of_cond (C := Try.checked) (s := Rows.OpenSpec.upto Rows.levelOrdersSpec) (k := Rows.uptoSmall) rfl own started (by kernel_rfl) Try.func4
    (OpenSpec.witness (enc := enc) (C := Try.checked) (s := Rows.OpenSpec.upto Rows.levelOrdersSpec) (k := Rows.uptoSmall) rfl false ⟨#[], #[zeroL, zeroL, zeroL, .slice none 0 0], []⟩ 8 (by kernel_rfl) (by kernel_rfl) (by kernel_rfl)
      (x := ([.agg [.nil], .agg [.nil], .agg [.nil], .nil], [], [])) (by kernel_rfl) rfl (by kernel_rfl)) ?_
  intro W base args ds gs before hval hW _ hk _
  exact contract H enc W base args ds gs before hval hW hk

theorem proved : Rows.LevelOrdersUptoSaid :=
  OpenClaim.holds_of_cond 4 Try.f4 rfl rfl rfl rfl rfl rfl rfl ⟨rfl, rfl, rfl, rfl, rfl⟩ rfl rfl rfl rfl rfl (by kernel_rfl) Try.func4 (by kernel_rfl)
    (of_decide_eq_true (by kernel_rfl)) (by unfold Func.isWrapper; first | (rw [if_pos (by decide +kernel)]; kernel_rfl) | (rw [if_neg (by decide +kernel)]; exact ⟨rfl, rfl⟩))
    (fun os started H enc _ F => lifted os started H enc F)
end Go.Proofs.Ytlepjegkcmphoaa.levelOrders
