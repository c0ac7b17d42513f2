/-
  term.Size: how many nodes a term has (as a number of 64 bits).
-/
import Derived.Test.YtmghkfiepcomgaaDoorProg
import Derived.Test.YtmghkfiepcomgaaDoorBase
namespace Go.Proofs.YtmghkfiepcomgaaDoor
open Go.RowKit

mutual
def T.size : T → Nat
  | .mk _ _ _ _ ks => 1 + T.sizes ks
def T.sizes : List T → Nat
  | [] => 0
  | t :: r => T.size t + T.sizes r
end

theorem T.size_eq (t : T) : t.size = 1 + T.sizes t.ks := by cases t; rfl
theorem T.sizes_append (a b : List T) : T.sizes (a ++ b) = T.sizes a + T.sizes b := by
  induction a with
  | nil => simp [T.sizes]
  | cons x r ih => simp [T.sizes, ih]; omega
theorem T.sizes_snoc (ks : List T) (j : Nat) (h : j < ks.length) : T.sizes (ks.take (j + 1)) = T.sizes (ks.take j) + (ks[j]).size := by
  rw [List.take_succ_eq_append_getElem h, T.sizes_append]; simp [T.sizes]

theorem wrap64_add (a b : Int) : wrap64 (wrap64 a + wrap64 b) = wrap64 (a + b) := by unfold wrap64; omega

set_option maxHeartbeats 400000 in
theorem term_size (t : T) : ∀ (F : Nat → Prop) (w : World) (v : Value), (∀ b, F b → b < w.heap.size) → RTv F w t v →
    Calls Tryd.prog 27 #[v] w fun e w' => e = .returned (.int .i64 (wrap64 t.size)) ∧ Below w.heap.size w w' := by
  induction t using T.ind with
  | h k n a ls ks ih =>
    intro F w v hF hv
    obtain ⟨Al, cl, Ak, ck, rfl, -, -, -, -, hks⟩ := hv
    obtain ⟨-, hc, hm, -⟩ := hks.len
    simp only [T.ks, T.k, T.n, T.a, T.ls] at hks hc ⊢
    have hl : ks.length ≤ 9223372036854775807 := by unfold maxLen at hm; omega
    have IH := hid ih
    have HKS := hid hks
    have HF := hid hF
    clear ih hks hm hF
    have hsz : T.size (.mk k n a ls ks) = 1 + T.sizes (ks.take ks.length) := by rw [List.take_length]; rfl
    rw [hsz]; clear hsz
    go_enter Tryd.func27, Tryd.ntmps27
    go_wp2_with fail
    go_loopw [3, 9] (fun s i wr => ∃ (j : Nat), j ≤ ks.length ∧ i = .int .i64 j ∧ s = .int .i64 (wrap64 ((1 + T.sizes (ks.take j) : Nat) : Int)) ∧ Below (w.heap.size) w wr) (fun _ i wr => ks.length - (intOf i).toNat)
    case atStart => exact ⟨0, by omega, rfl, by simp [T.sizes, wrap64], (Below.refl _ _).alloc (Nat.le_refl _) _⟩
    case round =>
      obtain ⟨j, hj, rfl, rfl, hb⟩ := hrel
      by_cases hlt : j < ks.length
      · have hks' := HKS.out.mono (keepF hb HF.out) (fun _ h => h)
        obtain ⟨b, o, rfl, hFb, hrow⟩ := hks'.at (by omega)
        obtain ⟨Bl, dl, Bk, dk, c0, c1, c2, c3, c4, hx⟩ := RTs.get hrow hlt
        have hx' := hid hx
        clear hx hrow hks'
        have HB := hid hb
        clear hb
        go_wp2_with (go_at_call 27; refine (IH.out ks[j] (List.getElem_mem _) F _ _ (fun b hb => by have := HF.out b hb; have := HB.out.size; simp; omega) (hx'.out.mono (Keep.below ((Below.refl _ _).alloc (Nat.le_refl _) _) |>.sub (fun b hb => by have := HF.out b hb; have := HB.out.size; simp; omega)) (fun _ h => h))).mono ?_; rintro e w' ⟨rfl, hb'⟩)
        go_roundw
        case rel => exact ⟨j+1, by omega, by go_num, by rw [wrap64_add, T.sizes_snoc ks j hlt]; congr 2; omega, (HB.out.alloc HB.out.size _).trans (hb'.mono (by have := HB.out.size; simp; omega))⟩
        case measure => simp [intOf]; omega
      · obtain rfl : j = ks.length := by omega
        go_wp2
        go_ret
        exact ⟨rfl, hb⟩
end Go.Proofs.YtmghkfiepcomgaaDoor
