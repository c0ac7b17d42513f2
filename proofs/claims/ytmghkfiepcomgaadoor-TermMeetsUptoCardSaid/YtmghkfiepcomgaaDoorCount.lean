/-
  spandrelkit: levels and terms are counted (how far does not matter here).
-/
import Derived.Test.YtmghkfiepcomgaaDoorSame
set_option linter.unusedSimpArgs false
set_option linter.unusedVariables false
namespace Go.Proofs.YtmghkfiepcomgaaDoor
open Go.RowKit

/-- some number is told -/
def Counts (w : World) (e : Ending) (w' : World) : Prop := ∃ m : Int, e = .returned (.int .i64 m) ∧ Below w.heap.size w w'

set_option maxRecDepth 10000 in
set_option maxHeartbeats 1000000 in
theorem level_of (most : Int) (A : Option Addr) (n c : Nat) (w : World) : Calls Tryd.prog 91 #[.agg #[.slice A n c], .int .i64 most] w (Counts w) := by
  go_enter Tryd.func91, Tryd.ntmps91
  go_wp2_with fail
  all_goals go_ret
  all_goals exact ⟨_, rfl, (by repeat (first | exact Below.refl _ _ | assumption | refine Below.alloc ?_ (by simp <;> omega) _ | refine Below.setCell ?_ (by simp <;> omega) _ | refine Below.drew ?_ | refine below_drewN ?_ _))⟩

set_option maxRecDepth 10000 in
set_option maxHeartbeats 1000000 in
theorem levels_of (F : Nat → Prop) (most : Int) (w : World) (va : Value) (xs : List LV) (hF : ∀ b, F b → b < w.heap.size) (hx : RLs F w va xs) : Calls Tryd.prog 79 #[va, .int .i64 most] w (Counts w) := by
  obtain ⟨A, ca, rfl, -⟩ := id hx
  have hc1 : xs.length ≤ ca := hx.len.2.1
  have hn1 : xs.length ≤ 9223372036854775807 := by have := hx.len.2.2.2; unfold LM at this; omega
  have HX := hid hx
  have HF := hid hF
  clear hx hF
  go_enter Tryd.func79, Tryd.ntmps79
  go_wp2_with fail
  go_loopw [5, 6] (fun s i wr => ∃ (j : Nat) (m : Int), j ≤ xs.length ∧ s = .int .i64 m ∧ i = .int .i64 j ∧ Below w.heap.size w wr) (fun _ i wr => xs.length - (intOf i).toNat)
  case atStart => exact ⟨0, 0, Nat.zero_le _, rfl, rfl, Below.refl _ _⟩
  case round =>
    obtain ⟨j, m, hj, rfl, rfl, hb⟩ := hrel
    by_cases hlt : j < xs.length
    · by_cases hm : m ≤ most
      · obtain ⟨b1, o1, rfl, -, hr1⟩ := (HX.out.mono (keepF hb HF.out) (fun _ h => h)).at (by omega)
        obtain ⟨A1, c1, x0, x1⟩ := levels_get hr1 hlt
        have HB := hid hb
        clear hb hr1 x1
        go_wp2_with (go_at_call 91; refine (level_of most A1 _ c1 _).mono ?_; rintro e w1 ⟨q, rfl, hq⟩)
        go_roundw
        case rel => exact ⟨j + 1, _, by omega, rfl, by go_num, HB.out.trans (hq.mono HB.out.size)⟩
        case measure => simp [intOf]; omega
      · go_wp2
        go_ret
        exact ⟨_, rfl, hb⟩
    · obtain rfl : j = xs.length := by omega
      go_wp2
      go_ret
      exact ⟨_, rfl, hb⟩

/-- TermOf at a term -/
def CountOk (t : T) : Prop := ∀ (F : Nat → Prop) (most : Int) (w : World) (v : Value), (∀ b, F b → b < w.heap.size) → RTv F w t v → Calls Tryd.prog 50 #[v, .int .i64 most] w (Counts w)

set_option maxRecDepth 10000 in
set_option maxHeartbeats 1000000 in
theorem terms_of_of (F : Nat → Prop) (most : Int) (w : World) (va : Value) (xs : List T) (ih : ∀ t, t ∈ xs → CountOk t) (hF : ∀ b, F b → b < w.heap.size) (hx : RTs F w va xs) : Calls Tryd.prog 28 #[va, .int .i64 most] w (Counts w) := by
  obtain ⟨A, ca, rfl, -⟩ := id hx
  have hc1 : xs.length ≤ ca := hx.len.2.1
  have hn1 : xs.length ≤ 9223372036854775807 := by have := hx.len.2.2.2; unfold LM at this; omega
  have HX := hid hx
  have HF := hid hF
  have IH := hid ih
  clear hx hF ih
  go_enter Tryd.func28, Tryd.ntmps28
  go_wp2_with fail
  go_loopw [5, 6] (fun s i wr => ∃ (j : Nat) (m : Int), j ≤ xs.length ∧ s = .int .i64 m ∧ i = .int .i64 j ∧ Below w.heap.size w wr) (fun _ i wr => xs.length - (intOf i).toNat)
  case atStart => exact ⟨0, 0, Nat.zero_le _, rfl, rfl, Below.refl _ _⟩
  case round =>
    obtain ⟨j, m, hj, rfl, rfl, hb⟩ := hrel
    by_cases hlt : j < xs.length
    · by_cases hm : m ≤ most
      · obtain ⟨b1, o1, rfl, -, hr1⟩ := (HX.out.mono (keepF hb HF.out) (fun _ h => h)).at (by omega)
        obtain ⟨A1, c1, D1, d1, x0, x1, x2, x3, x4, hx⟩ := RTs.get hr1 hlt
        have HB := hid hb
        have HX1 := hid hx
        clear hb hr1 hx
        go_wp2_with (go_at_call 50; refine (IH.out xs[j] (List.getElem_mem _) F _ _ _ (fun b hb => by have := HF.out b hb; have := HB.out.size; omega) HX1.out).mono ?_; rintro e w1 ⟨q, rfl, hq⟩)
        go_roundw
        case rel => exact ⟨j + 1, _, by omega, rfl, by go_num, HB.out.trans (hq.mono HB.out.size)⟩
        case measure => simp [intOf]; omega
      · go_wp2
        go_ret
        exact ⟨_, rfl, hb⟩
    · obtain rfl : j = xs.length := by omega
      go_wp2
      go_ret
      exact ⟨_, rfl, hb⟩

set_option maxRecDepth 10000 in
set_option maxHeartbeats 1000000 in
theorem term_of (t : T) : CountOk t := by
  induction t using T.ind with
  | h k n a ls ks ih =>
    intro F most w v hF hv
    obtain ⟨Al, cl, Ak, ck, rfl, -, -, -, hls, hks⟩ := hv
    simp only [T.ks, T.k, T.n, T.a, T.ls] at hks hls ⊢
    have HLS := hid hls
    have HKS := hid hks
    have HF := hid hF
    have IH := hid ih
    clear hls hks hF ih
    go_enter Tryd.func50, Tryd.ntmps50
    go_wp2_with fail
    refine startJ (fun j => j == 10) (fun W : World => Below (w.heap.size + 1) (w.alloc (.cells #[.int .i64 k, .int .i64 n, .int .i64 a, .slice Al ls.length cl, .slice Ak ks.length ck] 26)) W ∧ W.cell? ⟨w.heap.size, 3, none⟩ = some (.slice Al ls.length cl) ∧ W.cell? ⟨w.heap.size, 4, none⟩ = some (.slice Ak ks.length ck)) (by kernel_rfl) ?_ (fun hS => ?_)
    · exact ⟨Below.drew (Below.refl _ _), by simp [go_sem], by simp [go_sem]⟩
    refine pureJ (i := 0) (v := ?_) rfl (by kernel_rfl) (by kernel_rfl) (by kernel_rfl) (by kernel_rfl) (fun _ _ _ h => h) (.inl ⟨by rfl, ?_⟩) hS ?_
    rotate_left
    · intro w hSw
      obtain ⟨hbS, s3, s4⟩ := hSw
      go_simp
      try with_reducible rfl
    try simp only [Act.put, List.setIfInBounds_toArray, List.set_cons_zero, List.set_cons_succ]
    refine takeJ (i := 1) (v := ?_) rfl (by kernel_rfl) (by kernel_rfl) (by kernel_rfl) (by kernel_rfl) (fun _ _ _ h => h) (.inl ⟨by rfl, ?_⟩) hS ?_
    rotate_left
    · intro w hSw
      obtain ⟨hbS, s3, s4⟩ := hSw
      go_simp
      try with_reducible rfl
    try simp only [Act.put, List.setIfInBounds_toArray, List.set_cons_zero, List.set_cons_succ]
    refine pureJ (i := 2) (v := ?_) rfl (by kernel_rfl) (by kernel_rfl) (by kernel_rfl) (by kernel_rfl) (fun _ _ _ h => h) (.inl ⟨by rfl, ?_⟩) hS ?_
    rotate_left
    · intro w hSw
      obtain ⟨hbS, s3, s4⟩ := hSw
      go_simp
      try with_reducible rfl
    try simp only [Act.put, List.setIfInBounds_toArray, List.set_cons_zero, List.set_cons_succ]
    refine pureJ (i := 5) (v := ?_) rfl (by kernel_rfl) (by kernel_rfl) (by kernel_rfl) (by kernel_rfl) (fun _ _ _ h => h) (.inl ⟨by rfl, ?_⟩) hS ?_
    rotate_left
    · intro w hSw
      obtain ⟨hbS, s3, s4⟩ := hSw
      go_simp
      try with_reducible rfl
    try simp only [Act.put, List.setIfInBounds_toArray, List.set_cons_zero, List.set_cons_succ]
    refine takeJ (i := 6) (v := ?_) rfl (by kernel_rfl) (by kernel_rfl) (by kernel_rfl) (by kernel_rfl) (fun _ _ _ h => h) (.inl ⟨by rfl, ?_⟩) hS ?_
    rotate_left
    · intro w hSw
      obtain ⟨hbS, s3, s4⟩ := hSw
      go_simp
      try with_reducible rfl
    try simp only [Act.put, List.setIfInBounds_toArray, List.set_cons_zero, List.set_cons_succ]
    refine pureJ (i := 7) (v := ?_) rfl (by kernel_rfl) (by kernel_rfl) (by kernel_rfl) (by kernel_rfl) (fun _ _ _ h => h) (.inl ⟨by rfl, ?_⟩) hS ?_
    rotate_left
    · intro w hSw
      obtain ⟨hbS, s3, s4⟩ := hSw
      go_simp
      try with_reducible rfl
    try simp only [Act.put, List.setIfInBounds_toArray, List.set_cons_zero, List.set_cons_succ]
    refine soloJ (i := 3) (by kernel_rfl) rfl rfl (fun K hK => ?_)
    go_simp
    (refine (levels_of F most _ _ ls (fun b hb => by have := HF.out b hb; have := hS.1.size; simp at this; (try simp); omega) (HLS.out.mono (keepF (B := w.heap.size) (Below.trans (b := w.alloc _) (by repeat (first | exact Below.refl _ _ | assumption | refine Below.alloc ?_ (by simp <;> omega) _ | refine Below.setCell ?_ (by simp <;> omega) _ | refine Below.drew ?_ | refine below_drewN ?_ _)) (hS.1.mono (by omega))) HF.out) (fun _ h => h))).mono ?_; rintro e w1 ⟨q, rfl, hq⟩)
    try dsimp only
    try simp only [Act.put, List.setIfInBounds_toArray, List.set_cons_zero, List.set_cons_succ]
    refine hK _ _ ?hs (fun hS2 => ?_)
    case hs => exact ⟨hS.1.trans (hq.mono (by simp)), cell_later hq hS.2.1, cell_later hq hS.2.2⟩
    clear hK K hS
    have hS := hS2
    clear hS2
    refine pureJ (i := 4) (v := ?_) rfl (by kernel_rfl) (by kernel_rfl) (by kernel_rfl) (by kernel_rfl) (fun _ _ _ h => h) (.inl ⟨by rfl, ?_⟩) hS ?_
    rotate_left
    · intro w hSw
      obtain ⟨hbS, s3, s4⟩ := hSw
      go_simp
      try with_reducible rfl
    try simp only [Act.put, List.setIfInBounds_toArray, List.set_cons_zero, List.set_cons_succ]
    refine soloJ (i := 8) (by kernel_rfl) rfl rfl (fun K hK => ?_)
    go_simp
    (refine (terms_of_of F most _ _ ks IH.out (fun b hb => by have := HF.out b hb; have := hS.1.size; simp at this; (try simp); omega) (HKS.out.mono (keepF (B := w.heap.size) (Below.trans (b := w.alloc _) (by repeat (first | exact Below.refl _ _ | assumption | refine Below.alloc ?_ (by simp <;> omega) _ | refine Below.setCell ?_ (by simp <;> omega) _ | refine Below.drew ?_ | refine below_drewN ?_ _)) (hS.1.mono (by omega))) HF.out) (fun _ h => h))).mono ?_; rintro e w2 ⟨r, rfl, hr⟩)
    try dsimp only
    try simp only [Act.put, List.setIfInBounds_toArray, List.set_cons_zero, List.set_cons_succ]
    refine hK _ _ ?hs (fun hS2 => ?_)
    case hs => exact ⟨hS.1.trans (hr.mono (by have := hS.1.size; simp at this; omega)), cell_later hr hS.2.1, cell_later hr hS.2.2⟩
    clear hK K hS
    have hS := hS2
    clear hS2
    refine pureJ (i := 9) (v := ?_) rfl (by kernel_rfl) (by kernel_rfl) (by kernel_rfl) (by kernel_rfl) (fun _ _ _ h => h) (.inl ⟨by rfl, ?_⟩) hS ?_
    rotate_left
    · intro w hSw
      obtain ⟨hbS, s3, s4⟩ := hSw
      go_simp
      try with_reducible rfl
    try simp only [Act.put, List.setIfInBounds_toArray, List.set_cons_zero, List.set_cons_succ]
    refine lastJ (i := 10) (by kernel_rfl) rfl rfl (by kernel_rfl) (by kernel_rfl) (fun K hK => ?_)
    go_simp
    try simp only [Act.put, List.setIfInBounds_toArray, List.set_cons_zero, List.set_cons_succ]
    refine hK _ _ ?_
    clear hK K
    go_wp2
    go_ret
    exact ⟨_, rfl, Below.trans (b := w.alloc _) (by repeat (first | exact Below.refl _ _ | assumption | refine Below.alloc ?_ (by simp <;> omega) _ | refine Below.setCell ?_ (by simp <;> omega) _ | refine Below.drew ?_ | refine below_drewN ?_ _)) (hS.1.mono (by omega))⟩

theorem terms_of (F : Nat → Prop) (most : Int) (w : World) (va : Value) (xs : List T) (hF : ∀ b, F b → b < w.heap.size) (hx : RTs F w va xs) : Calls Tryd.prog 28 #[va, .int .i64 most] w (Counts w) :=
  terms_of_of F most w va xs (fun t _ => term_of t) hF hx
end Go.Proofs.YtmghkfiepcomgaaDoor
