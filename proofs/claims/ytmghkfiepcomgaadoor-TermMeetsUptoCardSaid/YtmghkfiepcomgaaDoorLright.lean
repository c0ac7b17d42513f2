/-
  level.Right: is a level right among some variables?
-/
import Derived.Test.YtmghkfiepcomgaaDoorFuncs
set_option linter.unusedSimpArgs false
set_option linter.unusedVariables false
namespace Go.Proofs.YtmghkfiepcomgaaDoor
open Go.RowKit

/-- the variables rise -/
def Rising (l : LV) : Prop := ∀ i (h : i + 1 < l.length), (l[i]'(by omega)).1 < l[i + 1].1

/-- a level is right among the variables up to n -/
def LevelOk (l : LV) (n : Int) : Prop := Rising l ∧ l.length ≤ 9 ∧ ∀ p, p ∈ l → ¬ (p.1 < 0 ∨ n < p.1 ∨ p.2 < 0 ∨ 1000 < p.2)

set_option maxHeartbeats 400000 in
theorem cmp_nan (x : Int) (w : World) : Calls Tryd.prog 103 #[.int .i64 x] w fun e w' => e = .returned (.bool false) ∧ w' = w := by
  go_enter Tryd.func103, Tryd.ntmps103
  go_wp2_with fail
  go_ret
  simp

set_option maxHeartbeats 400000 in
theorem cmp_compare (x y : Int) (w : World) : Calls Tryd.prog 99 #[.int .i64 x, .int .i64 y] w fun e w' => e = .returned (.int .i64 (if x < y then -1 else if y < x then 1 else 0)) ∧ w' = w := by
  by_cases h1 : x < y
  · rw [if_pos h1]
    go_enter Tryd.func99, Tryd.ntmps99
    go_wp2_with (go_at_call 103; refine (cmp_nan _ _).mono ?_; rintro e w1 ⟨rfl, rfl⟩)
    go_ret
    simp
  · by_cases h2 : y < x
    · rw [if_neg h1, if_pos h2]
      go_enter Tryd.func99, Tryd.ntmps99
      go_wp2_with (go_at_call 103; refine (cmp_nan _ _).mono ?_; rintro e w1 ⟨rfl, rfl⟩)
      go_ret
      simp
    · rw [if_neg h1, if_neg h2]
      go_enter Tryd.func99, Tryd.ntmps99
      go_wp2_with (go_at_call 103; refine (cmp_nan _ _).mono ?_; rintro e w1 ⟨rfl, rfl⟩)
      go_ret
      simp

/-- cmp.Or at two numbers -/
theorem cmp_or (x y : Int) (b o c : Nat) (w : World) (h0 : w.cell? ⟨b, o, none⟩ = some (.int .i64 x)) (h1 : w.cell? ⟨b, o + 1, none⟩ = some (.int .i64 y)) (hc : 2 ≤ c) :
    Calls Tryd.prog 98 #[.slice (some ⟨b, o, none⟩) 2 c] w fun e w' => e = .returned (.int .i64 (if x = 0 then y else x)) ∧ w' = w := by
  by_cases hx : x = 0
  · rw [if_pos hx]
    by_cases hy : y = 0
    · go_enter Tryd.func98, Tryd.ntmps98
      go_wp2_with fail
      go_loopw [8, 5] (fun i v wr => ∃ (j : Nat), j ≤ 2 ∧ i = .int .i64 j ∧ wr = w) (fun i v wr => 2 - (intOf i).toNat)
      case atStart => exact ⟨0, by omega, rfl, rfl⟩
      case round =>
        obtain ⟨j, hj, rfl, rfl⟩ := hrel
        rcases (by omega : j = 0 ∨ j = 1 ∨ j = 2) with rfl | rfl | rfl
        · go_wp2_with fail
          go_roundw
          case rel => exact ⟨1, by omega, by go_num, by first | rfl | trivial⟩
          case measure => simp [intOf]
        · go_wp2_with fail
          go_roundw
          case rel => exact ⟨2, by omega, by go_num, by first | rfl | trivial⟩
          case measure => simp [intOf]
        · go_wp2_with fail
          go_ret
          simp [hy]
    · go_enter Tryd.func98, Tryd.ntmps98
      go_wp2_with fail
      go_loopw [8, 5] (fun i v wr => ∃ (j : Nat), j ≤ 1 ∧ i = .int .i64 j ∧ wr = w) (fun i v wr => 2 - (intOf i).toNat)
      case atStart => exact ⟨0, by omega, rfl, rfl⟩
      case round =>
        obtain ⟨j, hj, rfl, rfl⟩ := hrel
        rcases (by omega : j = 0 ∨ j = 1) with rfl | rfl
        · go_wp2_with fail
          go_roundw
          case rel => exact ⟨1, by omega, by go_num, by first | rfl | trivial⟩
          case measure => simp [intOf]
        · go_wp2_with fail
          go_ret
          simp
  · rw [if_neg hx]
    go_enter Tryd.func98, Tryd.ntmps98
    go_wp2_with fail
    go_loopw [8, 5] (fun i v wr => i = .int .i64 0 ∧ wr = w) (fun i v wr => 2 - (intOf i).toNat)
    case atStart => exact ⟨rfl, rfl⟩
    case round =>
      obtain ⟨rfl, rfl⟩ := hrel
      go_wp2_with fail
      go_ret
      simp

/-- level.Right's comparison: below 0 just if the first one's variable is not the greater one -/
def cmpPart (p q : Int × Int) : Int := if p.1 = q.1 then -1 else if p.1 < q.1 then -1 else 1

set_option maxRecDepth 10000 in
set_option maxHeartbeats 1000000 in
theorem right_cmp (p q : Int × Int) (w : World) : Calls Tryd.prog 97 #[.agg #[.int .i64 p.1, .int .i64 p.2], .agg #[.int .i64 q.1, .int .i64 q.2]] w fun e w' => e = .returned (.int .i64 (cmpPart p q)) ∧ Below w.heap.size w w' := by
  have hres : (if (if p.1 < q.1 then (-1 : Int) else if q.1 < p.1 then 1 else 0) = 0 then (-1 : Int) else (if p.1 < q.1 then -1 else if q.1 < p.1 then 1 else 0)) = cmpPart p q := by
    unfold cmpPart
    by_cases h1 : p.1 < q.1
    · have h2 : p.1 ≠ q.1 := by omega
      simp [h1, h2]
    · by_cases h2 : q.1 < p.1
      · have h3 : p.1 ≠ q.1 := by omega
        simp [h1, h2, h3]
      · have h3 : p.1 = q.1 := by omega
        simp [h3]
  rw [← hres]
  generalize hcv : (if p.1 < q.1 then (-1 : Int) else if q.1 < p.1 then 1 else 0) = cv
  have HCV := hid hcv
  clear hres hcv
  go_enter Tryd.func97, Tryd.ntmps97
  go_wp2_with (first | (go_at_call 99; refine (cmp_compare _ _ _).mono ?_; rintro e w1 ⟨rfl, rfl⟩; rw [HCV.out]) | (go_at_call 98; refine (cmp_or cv (-1) _ _ _ _ (by simp [go_sem]) (by simp [go_sem]) (by omega)).mono ?_; rintro e w1 ⟨rfl, rfl⟩; dsimp only))
  all_goals go_ret
  all_goals exact ⟨by first | rfl | (have := HCV.out; simp_all), (by repeat (first | exact Below.refl _ _ | assumption | refine Below.alloc ?_ (by simp <;> omega) _ | refine Below.setCell ?_ (by simp <;> omega) _ | refine Below.drew ?_ | refine below_drewN ?_ _))⟩

theorem rising_next {l : LV} {i : Nat} (h1 : 0 < i) (h2 : i < l.length) (h : ∀ j (hj : j + 1 < l.length), i ≤ j → (l[j]'(by omega)).1 < l[j + 1].1) (hlt : l[i - 1].1 < l[i].1) : ∀ j (hj : j + 1 < l.length), i - 1 ≤ j → (l[j]'(by omega)).1 < l[j + 1].1 := by
  intro j hj hij
  by_cases hji : j = i - 1
  · subst hji
    have : i - 1 + 1 = i := by omega
    simp only [this]
    exact hlt
  · exact h j hj (by omega)

set_option maxRecDepth 10000 in
set_option maxHeartbeats 1000000 in
theorem is_rising (F : Nat → Prop) (w : World) (v : Value) (l : LV) (hF : ∀ b, F b → b < w.heap.size) (h : Sl F w 2 RP v l) :
    Calls Tryd.prog 96 #[v, .func (.func 97) #[] #[]] w (TB (Rising l) w) := by
  obtain ⟨A, ca, rfl, -⟩ := id h
  have hc1 : l.length ≤ ca := h.len.2.1
  have hn1 : l.length ≤ 1000000000000 := by have := h.len.2.2.2; unfold LM at this; omega
  have HX := hid h
  have HF := hid hF
  clear h hF
  have hwr : IntKind.i64.wrap ((l.length : Int) - 1) = (l.length : Int) - 1 := IntWalk.i64_in _ (by omega)
  go_enter Tryd.func96, Tryd.ntmps96
  go_wp2_with fail
  go_loopw [5] (fun i wr => ∃ (m : Int), m ≤ (l.length : Int) - 1 ∧ -1 ≤ m ∧ i = .int .i64 m ∧ (∀ j (hj : j + 1 < l.length), m ≤ (j : Int) → (l[j]'(by omega)).1 < l[j + 1].1) ∧ Below w.heap.size w wr) (fun i wr => (intOf i).toNat)
  case atStart => exact ⟨(l.length : Int) - 1, by omega, by omega, rfl, (fun j hj hm => by omega), Below.refl _ _⟩
  case round =>
    obtain ⟨m, hm, hm1, rfl, hup, hb⟩ := hrel
    have HUP := hid hup
    clear hup
    by_cases hpos : 0 < m
    · obtain ⟨i, rfl⟩ := Int.eq_ofNat_of_zero_le (Int.le_of_lt hpos)
      have hi0 : 0 < i := by omega
      have hlt : i < l.length := by omega
      have hlt1 : i - 1 < l.length := by omega
      obtain ⟨b1, o1, rfl, -, hr1⟩ := (Sl.mono HX.out (keepF hb HF.out) (fun _ h => h) (fun _ _ _ h => h)).at (by omega)
      obtain ⟨x0, x1, -⟩ := parts_get hr1 hlt
      obtain ⟨y0, y1, -⟩ := parts_get hr1 hlt1
      have HB := hid hb
      clear hb hr1
      have hj1 : (i : Int) < (l.length : Int) := by omega
      have hj2 : IntKind.i64.wrap ((i : Int) - 1) = (i : Int) - 1 := IntWalk.i64_in _ (by omega)
      have hj3 : (0 : Int) ≤ (i : Int) - 1 := by omega
      have hj6 : (1 : Int) ≤ (i : Int) := by omega
      have hj4 : ((i : Int) - 1).toNat = i - 1 := by omega
      have hj5 : (i : Int) - 1 < (l.length : Int) := by omega
      go_wp2_with fail
      refine startJ (fun j => j == 10) (fun W : World => W.cell? ⟨b1, o1 + i * 2, none⟩ = some (.int .i64 l[i].1) ∧ W.cell? ⟨b1, o1 + i * 2 + 1, none⟩ = some (.int .i64 l[i].2) ∧ W.cell? ⟨b1, o1 + (i - 1) * 2, none⟩ = some (.int .i64 l[i - 1].1) ∧ W.cell? ⟨b1, o1 + (i - 1) * 2 + 1, none⟩ = some (.int .i64 l[i - 1].2)) (by kernel_rfl) ?_ (fun hS => ?_)
      · exact ⟨x0, x1, y0, y1⟩
      refine pureJ (i := 0) (v := ?_) rfl (by kernel_rfl) (by kernel_rfl) (by kernel_rfl) (by kernel_rfl) (fun _ _ _ h => h) (.inl ⟨by rfl, ?_⟩) hS ?_
      rotate_left
      · intro w hSw
        obtain ⟨s0, s1, s2, s3⟩ := hSw
        go_simp
        try with_reducible rfl
      try simp only [Act.put, List.setIfInBounds_toArray, List.set_cons_zero, List.set_cons_succ]
      refine pureJ (i := 1) (v := ?_) rfl (by kernel_rfl) (by kernel_rfl) (by kernel_rfl) (by kernel_rfl) (fun _ _ _ h => h) (.inl ⟨by rfl, ?_⟩) hS ?_
      rotate_left
      · intro w hSw
        obtain ⟨s0, s1, s2, s3⟩ := hSw
        go_simp
        try with_reducible rfl
      try simp only [Act.put, List.setIfInBounds_toArray, List.set_cons_zero, List.set_cons_succ]
      refine pureJ (i := 2) (v := ?_) rfl (by kernel_rfl) (by kernel_rfl) (by kernel_rfl) (by kernel_rfl) (fun _ _ _ h => h) (.inl ⟨by rfl, ?_⟩) hS ?_
      rotate_left
      · intro w hSw
        obtain ⟨s0, s1, s2, s3⟩ := hSw
        go_simp
        try with_reducible rfl
      try simp only [Act.put, List.setIfInBounds_toArray, List.set_cons_zero, List.set_cons_succ]
      refine pureJ (i := 3) (v := ?_) rfl (by kernel_rfl) (by kernel_rfl) (by kernel_rfl) (by kernel_rfl) (fun _ _ _ h => h) (.inl ⟨by rfl, ?_⟩) hS ?_
      rotate_left
      · intro w hSw
        obtain ⟨s0, s1, s2, s3⟩ := hSw
        go_simp
        try with_reducible rfl
      try simp only [Act.put, List.setIfInBounds_toArray, List.set_cons_zero, List.set_cons_succ]
      refine takeJ (i := 4) (v := ?_) rfl (by kernel_rfl) (by kernel_rfl) (by kernel_rfl) (by kernel_rfl) (fun _ _ _ h => h) (.inl ⟨by rfl, ?_⟩) hS ?_
      rotate_left
      · intro w hSw
        obtain ⟨s0, s1, s2, s3⟩ := hSw
        go_simp
        try with_reducible rfl
      try simp only [Act.put, List.setIfInBounds_toArray, List.set_cons_zero, List.set_cons_succ]
      refine pureJ (i := 5) (v := ?_) rfl (by kernel_rfl) (by kernel_rfl) (by kernel_rfl) (by kernel_rfl) (fun _ _ _ h => h) (.inl ⟨by rfl, ?_⟩) hS ?_
      rotate_left
      · intro w hSw
        obtain ⟨s0, s1, s2, s3⟩ := hSw
        go_simp
        try with_reducible rfl
      try simp only [Act.put, List.setIfInBounds_toArray, List.set_cons_zero, List.set_cons_succ]
      refine pureJ (i := 6) (v := ?_) rfl (by kernel_rfl) (by kernel_rfl) (by kernel_rfl) (by kernel_rfl) (fun _ _ _ h => h) (.inl ⟨by rfl, ?_⟩) hS ?_
      rotate_left
      · intro w hSw
        obtain ⟨s0, s1, s2, s3⟩ := hSw
        go_simp
        try with_reducible rfl
      try simp only [Act.put, List.setIfInBounds_toArray, List.set_cons_zero, List.set_cons_succ]
      refine pureJ (i := 7) (v := ?_) rfl (by kernel_rfl) (by kernel_rfl) (by kernel_rfl) (by kernel_rfl) (fun _ _ _ h => h) (.inl ⟨by rfl, ?_⟩) hS ?_
      rotate_left
      · intro w hSw
        obtain ⟨s0, s1, s2, s3⟩ := hSw
        go_simp
        try with_reducible rfl
      try simp only [Act.put, List.setIfInBounds_toArray, List.set_cons_zero, List.set_cons_succ]
      refine pureJ (i := 8) (v := ?_) rfl (by kernel_rfl) (by kernel_rfl) (by kernel_rfl) (by kernel_rfl) (fun _ _ _ h => h) (.inl ⟨by rfl, ?_⟩) hS ?_
      rotate_left
      · intro w hSw
        obtain ⟨s0, s1, s2, s3⟩ := hSw
        go_simp
        try with_reducible rfl
      try simp only [Act.put, List.setIfInBounds_toArray, List.set_cons_zero, List.set_cons_succ]
      refine takeJ (i := 9) (v := ?_) rfl (by kernel_rfl) (by kernel_rfl) (by kernel_rfl) (by kernel_rfl) (fun _ _ _ h => h) (.inl ⟨by rfl, ?_⟩) hS ?_
      rotate_left
      · intro w hSw
        obtain ⟨s0, s1, s2, s3⟩ := hSw
        go_simp
        try with_reducible rfl
      try simp only [Act.put, List.setIfInBounds_toArray, List.set_cons_zero, List.set_cons_succ]
      refine soloJ (i := 10) (by kernel_rfl) rfl rfl (fun K hK => ?_)
      go_simp
      (refine (right_cmp l[i] l[i - 1] _).mono ?_; rintro e w1 ⟨rfl, hq2⟩)
      try dsimp only
      try simp only [Act.put, List.setIfInBounds_toArray, List.set_cons_zero, List.set_cons_succ]
      refine hK _ _ ?hs (fun hS2 => ?_)
      case hs => exact ⟨cell_later hq2 hS.1, cell_later hq2 hS.2.1, cell_later hq2 hS.2.2.1, cell_later hq2 hS.2.2.2⟩
      clear hK K hS
      have hS := hS2
      clear hS2
      refine pureJ (i := 11) (v := ?_) rfl (by kernel_rfl) (by kernel_rfl) (by kernel_rfl) (by kernel_rfl) (fun _ _ _ h => h) (.inl ⟨by rfl, ?_⟩) hS ?_
      rotate_left
      · intro w hSw
        obtain ⟨s0, s1, s2, s3⟩ := hSw
        go_simp
        try with_reducible rfl
      try simp only [Act.put, List.setIfInBounds_toArray, List.set_cons_zero, List.set_cons_succ]
      refine doneJ (by kernel_rfl) ?_ _
      try simp only [List.getElem_toArray, List.getElem_cons_succ, List.getElem_cons_zero, Act.put, List.setIfInBounds_toArray, List.set_cons_zero, List.set_cons_succ]
      have HB2 := hid (Below.trans (a := w) (b := wr.drew) (B := w.heap.size) HB.out.drew (hq2.mono (by have := HB.out.size; simp; omega)))
      clear hq2 hS
      by_cases hlt2 : l[i - 1].1 < l[i].1
      · have hd : decide (cmpPart l[i] l[i - 1] < 0) = false := by
          unfold cmpPart
          rw [if_neg (by omega), if_neg (by omega)]
          rfl
        rw [hd]
        have HLT := hid hlt2
        clear hd hlt2
        go_wp2
        go_roundw
        case rel => exact ⟨(i : Int) - 1, by omega, by omega, by go_num, (fun j hj hm => rising_next hi0 hlt (fun j hj hij => HUP.out j hj (by omega)) HLT.out j hj (by omega)), HB2.out⟩
        case measure => simp [intOf]; omega
      · have hd : decide (cmpPart l[i] l[i - 1] < 0) = true := by
          unfold cmpPart
          by_cases h1 : l[i].1 = l[i - 1].1
          · rw [if_pos h1]; rfl
          · rw [if_neg h1, if_pos (by omega)]; rfl
        rw [hd]
        have HLT := hid hlt2
        clear hd hlt2
        go_wp2
        go_ret
        refine TB.mk ⟨fun h => absurd h (by simp), fun h => ?_⟩ HB2.out
        have := h (i - 1) (by omega)
        have e : i - 1 + 1 = i := by omega
        simp only [e] at this
        have h2 := HLT.out
        omega
    · go_wp2
      go_ret
      exact TB.mk ⟨fun _ j hj => HUP.out j hj (by omega), fun _ => rfl⟩ hb

set_option maxHeartbeats 1000000 in
theorem part_out (p : Int × Int) (n : Int) (bn : Nat) (w : World) (hn : w.cell? ⟨bn, 0, none⟩ = some (.int .i64 n)) :
    Calls Tryd.prog 101 (#[.agg #[.int .i64 p.1, .int .i64 p.2]] ++ #[.pointer (some ⟨bn, 0, none⟩)]) w (TB (p.1 < 0 ∨ n < p.1 ∨ p.2 < 0 ∨ 1000 < p.2) w) := by
  have hbn : bn < w.heap.size := World.block_lt_of_cell? w _ hn
  have hbn1 : bn < w.heap.size + 1 := by omega
  by_cases h1 : p.1 < 0
  · show Calls Tryd.prog 101 #[.agg #[.int .i64 p.1, .int .i64 p.2], .pointer (some ⟨bn, 0, none⟩)] w _
    go_enter Tryd.func101, Tryd.ntmps101
    go_wp2_with fail
    go_ret
    exact TB.mk (by simp [h1]) (by repeat (first | exact Below.refl _ _ | assumption | refine Below.alloc ?_ (by simp <;> omega) _ | refine Below.setCell ?_ (by simp <;> omega) _ | refine Below.drew ?_ | refine below_drewN ?_ _))
  · by_cases h2 : n < p.1
    · show Calls Tryd.prog 101 #[.agg #[.int .i64 p.1, .int .i64 p.2], .pointer (some ⟨bn, 0, none⟩)] w _
      go_enter Tryd.func101, Tryd.ntmps101
      go_wp2_with fail
      go_ret
      exact TB.mk (by simp [h2]) (by repeat (first | exact Below.refl _ _ | assumption | refine Below.alloc ?_ (by simp <;> omega) _ | refine Below.setCell ?_ (by simp <;> omega) _ | refine Below.drew ?_ | refine below_drewN ?_ _))
    · by_cases h3 : p.2 < 0
      · show Calls Tryd.prog 101 #[.agg #[.int .i64 p.1, .int .i64 p.2], .pointer (some ⟨bn, 0, none⟩)] w _
        go_enter Tryd.func101, Tryd.ntmps101
        go_wp2_with fail
        go_ret
        exact TB.mk (by simp [h3]) (by repeat (first | exact Below.refl _ _ | assumption | refine Below.alloc ?_ (by simp <;> omega) _ | refine Below.setCell ?_ (by simp <;> omega) _ | refine Below.drew ?_ | refine below_drewN ?_ _))
      · show Calls Tryd.prog 101 #[.agg #[.int .i64 p.1, .int .i64 p.2], .pointer (some ⟨bn, 0, none⟩)] w _
        go_enter Tryd.func101, Tryd.ntmps101
        go_wp2_with fail
        go_ret
        exact TB.mk (by simp; omega) (by repeat (first | exact Below.refl _ _ | assumption | refine Below.alloc ?_ (by simp <;> omega) _ | refine Below.setCell ?_ (by simp <;> omega) _ | refine Below.drew ?_ | refine below_drewN ?_ _))

theorem part_out_cf (args : Array Value) (w : World) : (callFunc 101 args).run Tryd.prog w = .ok (.enter 101 args) w := by kernel_rfl

set_option maxRecDepth 10000 in
set_option maxHeartbeats 1000000 in
theorem level_right (l : LV) (n : Int) (F : Nat → Prop) (A : Option Addr) (c : Nat) (w : World) (hF : ∀ b, F b → b < w.heap.size) (h : Sl F w 2 RP (.slice A l.length c) l) :
    Calls Tryd.prog 89 #[.agg #[.slice A l.length c], .int .i64 n] w (TB (LevelOk l n) w) := by
  have hl9 : (l.length : Int) ≤ 9 ↔ l.length ≤ 9 := by omega
  have HX := hid h
  have HF := hid hF
  clear h hF
  go_enter Tryd.func89, Tryd.ntmps89
  go_wp2_with (first | (go_at_call 96; refine (is_rising F _ _ l (fun b hb => by have := HF.out b hb; simp; omega) (Sl.mono HX.out (keepF (B := w.heap.size) (by repeat (first | exact Below.refl _ _ | assumption | refine Below.alloc ?_ (by simp <;> omega) _ | refine Below.setCell ?_ (by simp <;> omega) _ | refine Below.drew ?_ | refine below_drewN ?_ _)) HF.out) (fun _ h => h) (fun _ _ _ h => h))).mono ?_; rintro e w1 ⟨q, rfl, hq1, hq2⟩; have hq := Blk.grow (Blk.alloc (Blk.new w 78 [_]) _) hq2; have hp := Blk.grow (Blk.new (w.alloc _) 3 [_]) hq2; obtain ⟨q0, -⟩ := hq.one; obtain ⟨p0, -⟩ := hp.one; simp only [World.size_alloc] at p0; have HQ1 := hid hq1; have HQ2 := hid (Below.trans (a := w) (B := w.heap.size) (by repeat (first | exact Below.refl _ _ | assumption | refine Below.alloc ?_ (by simp <;> omega) _ | refine Below.setCell ?_ (by simp <;> omega) _ | refine Below.drew ?_ | refine below_drewN ?_ _)) (hq2.mono (by simp; omega))); have HP0 := hid p0; clear hq1 hq2 hq hp; cases q) | (go_at_call 100; refine (contains_part (fun p => p.1 < 0 ∨ n < p.1 ∨ p.2 < 0 ∨ 1000 < p.2) _ _ F _ _ l part_out_cf (fun b hb => by have := HF.out b hb; have := HQ2.out.size; omega) (Sl.mono HX.out (keepF HQ2.out HF.out) (fun _ h => h) (fun _ _ _ h => h)) (fun x W _ hW _ => part_out x n _ W (cell_later hW HP0.out))).mono ?_; rintro e w2 ⟨r, rfl, hr1, hr2⟩; have HR1 := hid hr1; have HR2 := hid hr2; clear hr1 hr2))
  · go_ret
    refine TB.mk ⟨fun h => absurd h (by simp), fun h => ?_⟩ HQ2.out
    have := HQ1.out
    simp at this
    exact absurd h.1 this
  · go_ret
    refine TB.mk ?_ (HQ2.out.trans (HR2.out.mono HQ2.out.size))
    have h1 := HQ1.out
    have h2 := HR1.out
    have h9 := ‹l.length ≤ 9›
    simp at h1
    cases r with
    | true =>
      have hx := h2.1 rfl
      refine ⟨fun h => absurd h (by simp), fun h => ?_⟩
      obtain ⟨x, hx, hp⟩ := hx
      exact absurd hp (h.2.2 x hx)
    | false =>
      refine ⟨fun _ => ⟨h1, h9, fun p hp hn => ?_⟩, fun _ => rfl⟩
      have := h2.2 ⟨p, hp, hn⟩
      cases this
  · go_ret
    exact TB.mk ⟨fun h => absurd h (by simp), fun h => absurd h.2.1 ‹_›⟩ HQ2.out
end Go.Proofs.YtmghkfiepcomgaaDoor
