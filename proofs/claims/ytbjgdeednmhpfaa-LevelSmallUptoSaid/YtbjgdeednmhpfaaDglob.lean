/-
  No package-level variables here.
-/
import Derived.Test.YtbjgdeednmhpfaaDty
import Derived.Test.YtbjgdeednmhpfaaDenc
set_option linter.unusedSimpArgs false
namespace Go.Proofs.Ytbjgdeednmhpfaa
open Go.RowKit

def glob : Nat → Option D := fun _ => none
theorem globPure : ∀ g d, glob g = some d → d.pure = true := fun g d h => by cases h

theorem enters (f : FuncId) (fn : Func) (hf : Try.prog.funcs[f]? = some fn) (hb : fn.body.isSome = true) (hn : fn.name ≠ "runtime.NumGoroutine") (vs : Array Value) (w : World) : (callFunc f vs).run Try.prog w = .ok (.enter f vs) w := by
  simp [callFunc, hf, hn]
  cases hq : fn.body with
  | none => rw [hq] at hb; cases hb
  | some c => simp

end Go.Proofs.Ytbjgdeednmhpfaa
