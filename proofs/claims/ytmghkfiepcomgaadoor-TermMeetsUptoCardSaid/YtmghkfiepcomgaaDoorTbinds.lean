/-
  The table of kinds; term.Binds, walk.below, depth.means.
-/
import Derived.Test.YtmghkfiepcomgaaDoorProg
import Derived.Test.YtmghkfiepcomgaaDoorBase
import Derived.WalkLawsBesides
import Derived.Deep.QuietTactic
import Derived.BigQuiet
namespace Go.Proofs.YtmghkfiepcomgaaDoor
open Go.RowKit

/-- what a kind has: Num, At, levels, kids, the kid below its binder -/
def kindRows : List (Bool × Bool × Int × Int × Int) := [(false, false, 0, 0, 0), (true, false, 0, 0, -1), (false, false, 1, 0, -1), (true, false, -1, 0, -1), (false, false, 0, 2, 1), (false, false, 0, 2, 1), (false, false, 0, 2, -1),
  (false, false, 0, 3, 2), (true, true, -1, 0, -1), (true, true, -1, 0, -1), (true, true, -1, 0, -1), (false, true, 0, 0, -1), (false, false, 0, 2, 1), (false, false, 0, 2, -1), (false, false, 0, 1, -1), (false, false, 0, 1, -1),
  (false, false, 0, 2, 1), (false, false, 0, 2, -1), (false, false, 0, 5, 1), (false, false, 0, 3, -1), (false, false, 0, 0, -1), (false, false, 0, 6, -1), (true, false, 0, 0, -1), (true, true, 0, 0, -1), (false, true, 0, 2, -1)]
def kindCells : List Value := kindRows.flatMap fun r => [.bool r.1, .bool r.2.1, .int .i64 r.2.2.1, .int .i64 r.2.2.2.1, .int .i64 r.2.2.2.2]
def kindRow (k : Nat) : Bool × Bool × Int × Int × Int := kindRows.getD k (false, false, 0, 0, 0)

theorem flatMap5 {α β : Type} (f : α → List β) (hf : ∀ x, (f x).length = 5) (l : List α) (j : Nat) (hj : j < 5) : ∀ i, (l.flatMap f)[i * 5 + j]? = (l[i]?).bind fun x => (f x)[j]? := by
  induction l with
  | nil => intro i; simp
  | cons x r ih =>
    intro i
    rw [List.flatMap_cons]
    cases i with
    | zero => rw [List.getElem?_append_left (by rw [hf]; omega)]; simp
    | succ i =>
      rw [List.getElem?_append_right (by rw [hf]; omega), hf, show (i + 1) * 5 + j - 5 = i * 5 + j by omega, ih]
      simp

/-- the table of kinds lies in its variable -/
def Lk (w : World) : Prop := At w 0 0 kindCells ∧ 0 < w.heap.size

theorem Lk.below {B : Nat} {w w' : World} (h : Lk w) (hb : Below B w w') (hB : 0 < B) : Lk w' :=
  ⟨h.1.keep (F := (· < B)) (Keep.below hb) hB, Nat.lt_of_lt_of_le h.2 hb.size⟩
theorem Lk.grow {w w' : World} (h : Lk w) (hb : Below w.heap.size w w') : Lk w' := h.below hb h.2

theorem Lk.cells {w : World} (h : Lk w) (k : Nat) (hk : k < 25) : w.cell? ⟨0, k * 5, none⟩ = some (.bool (kindRow k).1) ∧ w.cell? ⟨0, k * 5 + 1, none⟩ = some (.bool (kindRow k).2.1) ∧
    w.cell? ⟨0, k * 5 + 2, none⟩ = some (.int .i64 (kindRow k).2.2.1) ∧ w.cell? ⟨0, k * 5 + 3, none⟩ = some (.int .i64 (kindRow k).2.2.2.1) ∧ w.cell? ⟨0, k * 5 + 4, none⟩ = some (.int .i64 (kindRow k).2.2.2.2) := by
  have hr : kindRows[k]? = some (kindRow k) := by
    rw [kindRow, List.getD_eq_getElem?_getD]
    have hl : k < kindRows.length := hk
    rw [List.getElem?_eq_getElem hl]; rfl
  have key : ∀ j, j < 5 → kindCells[k * 5 + j]? = ([Value.bool (kindRow k).1, .bool (kindRow k).2.1, .int .i64 (kindRow k).2.2.1, .int .i64 (kindRow k).2.2.2.1, .int .i64 (kindRow k).2.2.2.2])[j]? := by
    intro j hj
    rw [kindCells, flatMap5 _ (fun _ => rfl) _ j hj, hr]; rfl
  have g : ∀ j u, j < 5 → ([Value.bool (kindRow k).1, .bool (kindRow k).2.1, .int .i64 (kindRow k).2.2.1, .int .i64 (kindRow k).2.2.2.1, .int .i64 (kindRow k).2.2.2.2])[j]? = some u → w.cell? ⟨0, k * 5 + j, none⟩ = some u := by
    intro j u hj hu
    have := h.1 (k * 5 + j) u (by rw [key j hj]; exact hu)
    rwa [Nat.zero_add] at this
  exact ⟨g 0 _ (by omega) rfl, g 1 _ (by omega) rfl, g 2 _ (by omega) rfl, g 3 _ (by omega) rfl, g 4 _ (by omega) rfl⟩

/-- does the kid stand below the binder of a term of that kind? -/
def bindsZ (k kid : Int) : Bool := decide (0 < k) && decide (k < 25) && decide (0 ≤ kid) && ((kindRow k.toNat).2.2.2.2 == kid)

set_option maxHeartbeats 400000 in
theorem term_binds (k kid : Int) (w : World) (hL : Lk w) :
    Calls Tryd.prog 21 #[.int .i64 k, .int .i64 kid] w fun e w' => e = .returned (.bool (bindsZ k kid)) ∧ w' = w := by
  by_cases h1 : 0 < k
  · obtain ⟨n, rfl⟩ := Int.eq_ofNat_of_zero_le (Int.le_of_lt h1)
    by_cases h2 : n < 25
    · obtain ⟨-, -, -, -, hc⟩ := hL.cells n h2
      clear hL
      by_cases h3 : 0 ≤ kid
      · have hb : bindsZ n kid = ((kindRow n).2.2.2.2 == kid) := by simp [bindsZ, h3]; omega
        rw [hb]; clear hb
        generalize (kindRow n).2.2.2.2 = q at hc ⊢
        go_enter Tryd.func21, Tryd.ntmps21
        go_wp2
        go_ret
        exact ⟨rfl, rfl⟩
      · have hb : bindsZ n kid = false := by simp [bindsZ, h3]
        rw [hb]; clear hb
        go_enter Tryd.func21, Tryd.ntmps21
        go_wp2
        go_ret
        exact ⟨rfl, rfl⟩
    · have hb : bindsZ n kid = false := by simp [bindsZ]; omega
      rw [hb]; clear hb hL
      go_enter Tryd.func21, Tryd.ntmps21
      go_wp2
      go_ret
      exact ⟨rfl, rfl⟩
  · have hb : bindsZ k kid = false := by simp [bindsZ, h1]
    rw [hb]; clear hb hL
    go_enter Tryd.func21, Tryd.ntmps21
    go_wp2
    go_ret
    exact ⟨rfl, rfl⟩
end Go.Proofs.YtmghkfiepcomgaaDoor
