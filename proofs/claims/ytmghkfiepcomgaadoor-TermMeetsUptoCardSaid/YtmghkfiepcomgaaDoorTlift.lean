/-
  term.Lift's closure.
-/
import Derived.Test.YtmghkfiepcomgaaDoorTown2
set_option linter.unusedSimpArgs false
set_option linter.unusedVariables false
namespace Go.Proofs.YtmghkfiepcomgaaDoor
open Go.RowKit

/-- a variable's number, lifted at a depth -/
def liftNum (n fr d k m : Int) : Int := if k = 1 ∧ d ≤ m ∧ fr ≤ wrap64 (m - d) then wrap64 (m + n) else m

/-- what a closure of a walk leaves of a node: other numbers, levels of its own, the same kids -/
def Turned (w : World) (k m a : Int) (ls : List LV) (sk : Value) (e : Ending) (w' : World) : Prop :=
  ∃ Bl dl, e = .returned (.tuple #[.agg #[.int .i64 k, .int .i64 m, .int .i64 a, .slice Bl ls.length dl, sk], .bool false]) ∧ Below w.heap.size w w' ∧ RLs (fun b => w.heap.size ≤ b ∧ b < w'.heap.size) w' (.slice Bl ls.length dl) ls

theorem turned_end {w W w2 : World} {k m a : Int} {ls : List LV} {Ak : Option Addr} {nk ck : Nat} (Bl : Option Addr) (dl : Nat) (hb : Below w.heap.size w W) (hb2 : Below W.heap.size W w2)
    (hls : RLs (fun b => W.heap.size ≤ b ∧ b < w2.heap.size) w2 (.slice Bl ls.length dl) ls) {c0 c1 c2 c3 c4 : Value} {q : Nat} (hq : w.heap.size ≤ q ∧ q < W.heap.size) :
    Turned w k m a ls (.slice Ak nk ck) (.returned (.tuple #[.agg #[.int .i64 k, .int .i64 m, .int .i64 a, .slice Bl ls.length dl, .slice Ak nk ck], .bool false]))
      (((((w2.setCell ⟨q, 0, none⟩ c0).setCell ⟨q, 1, none⟩ c1).setCell ⟨q, 2, none⟩ c2).setCell ⟨q, 3, none⟩ c3).setCell ⟨q, 4, none⟩ c4) := by
  have hb3 : Below w.heap.size w w2 := hb.trans (hb2.mono hb.size)
  refine ⟨Bl, dl, rfl, ((((hb3.setCell hq.1 _).setCell hq.1 _).setCell hq.1 _).setCell hq.1 _).setCell hq.1 _, hls.mono ?_ ?_⟩
  · intro b hb
    repeat rw [Below.heap_setCell _ _ _ b (by show b ≠ q; omega)]
  · intro b hb'
    have := hb.size
    simp only [World.setCell, Array.size_modify]
    omega

set_option maxRecDepth 10000 in
set_option maxHeartbeats 1000000 in
theorem lift_turn (n fr d k m a : Int) (fv : Value) (bf bn : Nat) (Al : Option Addr) (nl cl : Nat) (Ak : Option Addr) (nk ck : Nat) (ls : List LV) (F : Nat → Prop) (w : World) (hF : ∀ b, F b → b < w.heap.size) (h : RLs F w (.slice Al nl cl) ls)
    (hfr : w.cell? ⟨bf, 0, none⟩ = some (.int .i64 fr)) (hn : w.cell? ⟨bn, 0, none⟩ = some (.int .i64 n)) (fn : Fn) (caps : Array Value) (hfv : fv = .func fn #[] caps) :
    Calls Tryd.prog 34 #[.agg #[.int .i64 d, fv], .agg #[.int .i64 k, .int .i64 m, .int .i64 a, .slice Al nl cl, .slice Ak nk ck], .pointer (some ⟨bf, 0, none⟩), .pointer (some ⟨bn, 0, none⟩)] w
      (Turned w k (liftNum n fr d k m) a ls (.slice Ak nk ck)) := by
  subst hfv
  have HF := hid hF
  have HL := hid h
  have hbf : bf < w.heap.size := World.block_lt_of_cell? w _ hfr
  have hbn : bn < w.heap.size := World.block_lt_of_cell? w _ hn
  have hbf1 : bf < w.heap.size + 1 := by omega
  have hbf2 : bf < w.heap.size + 1 + 1 := by omega
  have hbf3 : bf < w.heap.size + 1 + 1 + 1 := by omega
  have hbn1 : bn < w.heap.size + 1 := by omega
  have hbn2 : bn < w.heap.size + 1 + 1 := by omega
  have hbn3 : bn < w.heap.size + 1 + 1 + 1 := by omega
  clear h hF
  have hend : ∀ (m' : Int) (W : World), Below w.heap.size w W → w.heap.size + 3 ≤ W.heap.size → Calls Tryd.prog 32 #[.agg #[.int .i64 k, .int .i64 m', .int .i64 a, .slice Al nl cl, .slice Ak nk ck]] W (fun e w' =>
      ∃ Bl dl, e = .returned (.agg #[.int .i64 k, .int .i64 m', .int .i64 a, .slice Bl ls.length dl, .slice Ak nk ck]) ∧ Below W.heap.size W w' ∧ RLs (fun b => W.heap.size ≤ b ∧ b < w'.heap.size) w' (.slice Bl ls.length dl) ls) := fun m' W hb hz =>
    term_own k m' a Al nl cl Ak nk ck ls F W (fun b hb => by have := HF.out b hb; omega) (HL.out.mono (keepF hb HF.out) (fun _ h => h))
  have HE := hid hend
  clear hend
  by_cases h1 : k = 1
  · by_cases h2 : d ≤ m
    · have hx : liftNum n fr d k m = if fr ≤ wrap64 (m - d) then wrap64 (m + n) else m := by simp [liftNum, h1, h2]
      rw [hx]; clear hx
      have HK := hid h1
      have hk1 : (k == 1) = true := by simp [h1]
      clear h1
      by_cases h3 : fr ≤ wrap64 (m - d)
      · rw [if_pos h3]
        go_enter Tryd.func34, Tryd.ntmps34
        go_wp2_with (first | (go_at_call 31; refine (depth_means _ _ _).mono ?_; rintro e w1 ⟨rfl, nq, rfl⟩) | (go_at_call 32; refine (HE.out (wrap64 (m + n)) _ (by repeat (first | exact Below.refl _ _ | assumption | refine Below.alloc ?_ (by simp <;> omega) _ | refine Below.setCell ?_ (by simp <;> omega) _ | refine Below.drew ?_ | refine below_drewN ?_ _)) (by simp <;> omega)).mono ?_; rintro e w2 ⟨Bl, dl, rfl, hb2, hls⟩; have hq := Blk.grow (Blk.far (p := ⟨w.heap.size + 1, 1, none⟩) (Blk.drewN (Blk.alloc (Blk.new ((w.alloc _).alloc _) 26 [_, _, _, _, _]) _) nq) (by simp) _) hb2; simp only [World.size_alloc] at hq; obtain ⟨⟨q0, q1, q2, q3, q4⟩, ⟨g0, g1, g2, g3, g4⟩⟩ := hq.five; have HQ := hid hq; have HB := hid hb2; have HLS := hid hls; clear hq hb2 hls))
        obtain ⟨⟨z0, z1, z2, z3, z4⟩, -⟩ := (((((HQ.out.set_ 0 (.int .i64 k)).set_ 1 (.int .i64 (wrap64 (m + n)))).set_ 2 (.int .i64 a)).set_ 3 (.slice Bl ls.length dl)).set_ 4 (.slice Ak nk ck)).five
        refine bodyPost_ret (v := .tuple #[.agg #[.int .i64 k, .int .i64 (wrap64 (m + n)), .int .i64 a, .slice Bl ls.length dl, .slice Ak nk ck], .bool false]) (by simp [results, Tryd.f34, go_sem, z0, z1, z2, z3, z4]) rfl ?_
        exact turned_end Bl dl (by repeat (first | exact Below.refl _ _ | assumption | refine Below.alloc ?_ (by simp <;> omega) _ | refine Below.setCell ?_ (by simp <;> omega) _ | refine Below.drew ?_ | refine below_drewN ?_ _)) HB.out HLS.out (by simp <;> omega)
      · rw [if_neg h3]
        go_enter Tryd.func34, Tryd.ntmps34
        go_wp2_with (first | (go_at_call 31; refine (depth_means _ _ _).mono ?_; rintro e w1 ⟨rfl, nq, rfl⟩) | (go_at_call 32; refine (HE.out m _ (by repeat (first | exact Below.refl _ _ | assumption | refine Below.alloc ?_ (by simp <;> omega) _ | refine Below.setCell ?_ (by simp <;> omega) _ | refine Below.drew ?_ | refine below_drewN ?_ _)) (by simp <;> omega)).mono ?_; rintro e w2 ⟨Bl, dl, rfl, hb2, hls⟩; have hq := Blk.grow (Blk.drewN (Blk.alloc (Blk.new ((w.alloc _).alloc _) 26 [_, _, _, _, _]) _) nq) hb2; simp only [World.size_alloc] at hq; obtain ⟨⟨q0, q1, q2, q3, q4⟩, ⟨g0, g1, g2, g3, g4⟩⟩ := hq.five; have HQ := hid hq; have HB := hid hb2; have HLS := hid hls; clear hq hb2 hls))
        obtain ⟨⟨z0, z1, z2, z3, z4⟩, -⟩ := (((((HQ.out.set_ 0 (.int .i64 k)).set_ 1 (.int .i64 m)).set_ 2 (.int .i64 a)).set_ 3 (.slice Bl ls.length dl)).set_ 4 (.slice Ak nk ck)).five
        refine bodyPost_ret (v := .tuple #[.agg #[.int .i64 k, .int .i64 m, .int .i64 a, .slice Bl ls.length dl, .slice Ak nk ck], .bool false]) (by simp [results, Tryd.f34, go_sem, z0, z1, z2, z3, z4]) rfl ?_
        exact turned_end Bl dl (by repeat (first | exact Below.refl _ _ | assumption | refine Below.alloc ?_ (by simp <;> omega) _ | refine Below.setCell ?_ (by simp <;> omega) _ | refine Below.drew ?_ | refine below_drewN ?_ _)) HB.out HLS.out (by simp <;> omega)
    · have hx : liftNum n fr d k m = m := by simp [liftNum, h2]
      rw [hx]; clear hx
      have HK := hid h1
      have hk1 : (k == 1) = true := by simp [h1]
      clear h1
      go_enter Tryd.func34, Tryd.ntmps34
      go_wp2_with (first | (go_at_call 31; refine (depth_means _ _ _).mono ?_; rintro e w1 ⟨rfl, nq, rfl⟩) | (go_at_call 32; refine (HE.out m _ (by repeat (first | exact Below.refl _ _ | assumption | refine Below.alloc ?_ (by simp <;> omega) _ | refine Below.setCell ?_ (by simp <;> omega) _ | refine Below.drew ?_ | refine below_drewN ?_ _)) (by simp <;> omega)).mono ?_; rintro e w2 ⟨Bl, dl, rfl, hb2, hls⟩; have hq := Blk.grow (Blk.drewN (Blk.alloc (Blk.new ((w.alloc _).alloc _) 26 [_, _, _, _, _]) _) nq) hb2; simp only [World.size_alloc] at hq; obtain ⟨⟨q0, q1, q2, q3, q4⟩, ⟨g0, g1, g2, g3, g4⟩⟩ := hq.five; have HQ := hid hq; have HB := hid hb2; have HLS := hid hls; clear hq hb2 hls))
      obtain ⟨⟨z0, z1, z2, z3, z4⟩, -⟩ := (((((HQ.out.set_ 0 (.int .i64 k)).set_ 1 (.int .i64 m)).set_ 2 (.int .i64 a)).set_ 3 (.slice Bl ls.length dl)).set_ 4 (.slice Ak nk ck)).five
      refine bodyPost_ret (v := .tuple #[.agg #[.int .i64 k, .int .i64 m, .int .i64 a, .slice Bl ls.length dl, .slice Ak nk ck], .bool false]) (by simp [results, Tryd.f34, go_sem, z0, z1, z2, z3, z4]) rfl ?_
      exact turned_end Bl dl (by repeat (first | exact Below.refl _ _ | assumption | refine Below.alloc ?_ (by simp <;> omega) _ | refine Below.setCell ?_ (by simp <;> omega) _ | refine Below.drew ?_ | refine below_drewN ?_ _)) HB.out HLS.out (by simp <;> omega)
  · have hx : liftNum n fr d k m = m := by simp [liftNum, h1]
    rw [hx]; clear hx
    have hk1 : (k == 1) = false := by simp [h1]
    clear h1
    go_enter Tryd.func34, Tryd.ntmps34
    go_wp2_with (first | (go_at_call 31; refine (depth_means _ _ _).mono ?_; rintro e w1 ⟨rfl, nq, rfl⟩) | (go_at_call 32; refine (HE.out m _ (by repeat (first | exact Below.refl _ _ | assumption | refine Below.alloc ?_ (by simp <;> omega) _ | refine Below.setCell ?_ (by simp <;> omega) _ | refine Below.drew ?_ | refine below_drewN ?_ _)) (by simp <;> omega)).mono ?_; rintro e w2 ⟨Bl, dl, rfl, hb2, hls⟩; have hq := Blk.grow (Blk.drewN (Blk.alloc (Blk.new ((w.alloc _).alloc _) 26 [_, _, _, _, _]) _) nq) hb2; simp only [World.size_alloc] at hq; obtain ⟨⟨q0, q1, q2, q3, q4⟩, ⟨g0, g1, g2, g3, g4⟩⟩ := hq.five; have HQ := hid hq; have HB := hid hb2; have HLS := hid hls; clear hq hb2 hls))
    obtain ⟨⟨z0, z1, z2, z3, z4⟩, -⟩ := (((((HQ.out.set_ 0 (.int .i64 k)).set_ 1 (.int .i64 m)).set_ 2 (.int .i64 a)).set_ 3 (.slice Bl ls.length dl)).set_ 4 (.slice Ak nk ck)).five
    refine bodyPost_ret (v := .tuple #[.agg #[.int .i64 k, .int .i64 m, .int .i64 a, .slice Bl ls.length dl, .slice Ak nk ck], .bool false]) (by simp [results, Tryd.f34, go_sem, z0, z1, z2, z3, z4]) rfl ?_
    exact turned_end Bl dl (by repeat (first | exact Below.refl _ _ | assumption | refine Below.alloc ?_ (by simp <;> omega) _ | refine Below.setCell ?_ (by simp <;> omega) _ | refine Below.drew ?_ | refine below_drewN ?_ _)) HB.out HLS.out (by simp <;> omega)
end Go.Proofs.YtmghkfiepcomgaaDoor
