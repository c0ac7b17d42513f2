/-
  term.depth.means, term.walk.below.
-/
import Derived.Test.YtmghkfiepcomgaaDoorTbinds
import Derived.Test.YtmghkfiepcomgaaDoorAcc
import Derived.Laws.EntriesVeiled
set_option linter.unusedSimpArgs false
set_option linter.unusedVariables false
namespace Go.Proofs.YtmghkfiepcomgaaDoor
open Go.RowKit

set_option maxHeartbeats 400000 in
theorem depth_means (d num : Int) (w : World) :
    Calls Tryd.prog 31 #[.agg #[.int .i64 d], .int .i64 num] w fun e w' => e = .returned (.tuple #[.int .i64 (wrap64 (num - d)), .bool (decide (d ≤ num))]) ∧ ∃ n, w' = (w.alloc (.cells #[.int .i64 d] 47)).drewN n := by
  go_enter Tryd.func31, Tryd.ntmps31
  go_wp2_with fail
  go_quiet (fail)
  go_wp2
  go_ret2
  exact ⟨rfl, _, rfl⟩

/-- the walk at a kid: so deep -/
def belowZ (d k : Int) (i : Nat) : Int := if bindsZ k i then wrap64 (d + 1) else d

set_option maxHeartbeats 400000 in
theorem walk_below (d k : Int) (i : Nat) (fn : Fn) (caps : Array Value) (w : World) (hL : Lk w) :
    Calls Tryd.prog 55 #[.agg #[.int .i64 d, .func fn #[] caps], .int .i64 k, .int .i64 i] w fun e w' => e = .returned (.agg #[.int .i64 (belowZ d k i), .func fn #[] caps]) ∧ w' = (w.alloc (.cells #[.int .i64 (belowZ d k i), .func fn #[] caps] 50)).alloc (.cells #[.int .i64 (belowZ d k i), .func fn #[] caps] 50) := by
  have hL1 := hid hL
  clear hL
  by_cases hb : bindsZ k i = true
  · have hr : belowZ d k i = wrap64 (d + 1) := by simp [belowZ, hb]
    have HB := hid hb
    rw [hr]; clear hr hb
    go_enter Tryd.func55, Tryd.ntmps55
    go_wp2_with (go_at_call 21; refine (term_binds _ _ _ (hL1.out.grow (by repeat (first | exact Below.refl _ _ | assumption | refine Below.alloc ?_ (by simp <;> omega) _ | refine Below.setCell ?_ (by simp <;> omega) _ | refine Below.drew ?_ | refine below_drewN ?_ _)))).mono ?_; rintro e w' ⟨rfl, rfl⟩; rw [HB.out])
    refine bodyPost_ret (v := .agg #[.int .i64 (wrap64 (d + 1)), .func fn #[] caps]) (by simp [results, Tryd.f55, go_sem]) rfl ?_
    exact ⟨rfl, rfl⟩
  · have hr : belowZ d k i = d := by simp [belowZ, hb]
    have HB := hid (show bindsZ k i = false by simpa using hb)
    rw [hr]; clear hr hb
    go_enter Tryd.func55, Tryd.ntmps55
    go_wp2_with (go_at_call 21; refine (term_binds _ _ _ (hL1.out.grow (by repeat (first | exact Below.refl _ _ | assumption | refine Below.alloc ?_ (by simp <;> omega) _ | refine Below.setCell ?_ (by simp <;> omega) _ | refine Below.drew ?_ | refine below_drewN ?_ _)))).mono ?_; rintro e w' ⟨rfl, rfl⟩; rw [HB.out])
    refine bodyPost_ret (v := .agg #[.int .i64 d, .func fn #[] caps]) (by simp [results, Tryd.f55, go_sem]) rfl ?_
    exact ⟨rfl, rfl⟩
end Go.Proofs.YtmghkfiepcomgaaDoor
