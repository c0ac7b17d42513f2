/-
  slices.ContainsFunc, IndexFunc with closures that change nothing.
-/
import Derived.Test.YtmghkfiepcomgaaDoorTame
set_option linter.unusedSimpArgs false
set_option linter.unusedVariables false
namespace Go.Proofs.YtmghkfiepcomgaaDoor
open Go.RowKit

/-- a truth value is told: that of P -/
def TB (P : Prop) (w : World) (e : Ending) (w' : World) : Prop := ∃ b, e = .returned (.bool b) ∧ (b = true ↔ P) ∧ Below w.heap.size w w'
/-- a place is told, from 0 just if P -/
def TI (P : Prop) (w : World) (e : Ending) (w' : World) : Prop := ∃ i : Int, e = .returned (.int .i64 i) ∧ (0 ≤ i ↔ P) ∧ Below w.heap.size w w'

theorem TB.mk {P : Prop} {w w' : World} {b : Bool} (h : b = true ↔ P) (hb : Below w.heap.size w w') : TB P w (.returned (.bool b)) w' := ⟨b, rfl, h, hb⟩
theorem TI.mk {P : Prop} {w w' : World} {i : Int} (h : 0 ≤ i ↔ P) (hb : Below w.heap.size w w') : TI P w (.returned (.int .i64 i)) w' := ⟨i, rfl, h, hb⟩

def RI (cs : List Value) (x : Int) : Prop := cs = [.int .i64 x] ∧ I64 x

theorem ints_get {w : World} {b o : Nat} {xs : List Int} (h : ∀ i x, xs[i]? = some x → ∃ cs, cs.length = 1 ∧ At w b (o + i * 1) cs ∧ RI cs x) {i : Nat} (hi : i < xs.length) :
    w.cell? ⟨b, o + i, none⟩ = some (.int .i64 xs[i]) ∧ I64 xs[i] := by
  obtain ⟨cs, h1, h2, rfl, h4⟩ := Sl.get h hi
  have := h2 0 _ rfl
  rw [Nat.mul_one] at this
  exact ⟨this, h4⟩

theorem none_next {α : Type} {p : α → Prop} {xs : List α} {j : Nat} (hj : j < xs.length) (h : ∀ x, x ∈ xs.take j → ¬ p x) (hn : ¬ p xs[j]) : ∀ x, x ∈ xs.take (j + 1) → ¬ p x := by
  rw [List.take_succ_eq_append_getElem hj]
  intro x hx
  rcases List.mem_append.1 hx with h1 | h1
  · exact h x h1
  · simp at h1; subst h1; exact hn

set_option maxRecDepth 10000 in
set_option maxHeartbeats 1000000 in
theorem index_level (p : LV → Prop) (f : FuncId) (caps : Array Value) (F : Nat → Prop) (w : World) (v : Value) (xs : List LV) (hcf : ∀ args w, (callFunc f args).run Tryd.prog w = .ok (.enter f args) w) (hF : ∀ b, F b → b < w.heap.size) (h : RLs F w v xs)
    (hT : ∀ (x : LV) (A : Option Addr) (c : Nat) (W : World), x ∈ xs → Below w.heap.size w W → Sl F W 2 RP (.slice A x.length c) x → Calls Tryd.prog f (#[.agg #[.slice A x.length c]] ++ caps) W (TB (p x) W)) :
    Calls Tryd.prog 95 #[v, .func (.func f) #[] caps] w (TI (∃ x, x ∈ xs ∧ p x) w) := by
  obtain ⟨A, ca, rfl, -⟩ := id h
  have hc1 : xs.length ≤ ca := h.len.2.1
  have hn1 : xs.length ≤ 9223372036854775807 := by have := h.len.2.2.2; unfold LM at this; omega
  have HX := hid h
  have HF := hid hF
  have HT := hid hT
  clear h hF hT
  go_enter Tryd.func95, Tryd.ntmps95
  go_wp2_with fail
  go_loopw [8] (fun i wr => ∃ (j : Nat), j ≤ xs.length ∧ i = .int .i64 j ∧ (∀ x, x ∈ xs.take j → ¬ p x) ∧ Below w.heap.size w wr) (fun i wr => xs.length - (intOf i).toNat)
  case atStart => exact ⟨0, Nat.zero_le _, rfl, (fun x hx => by simp at hx), Below.refl _ _⟩
  case round =>
    obtain ⟨j, hj, rfl, hno, hb⟩ := hrel
    have HNO := hid hno
    clear hno
    by_cases hlt : j < xs.length
    · have hmem : xs[j] ∈ xs := List.getElem_mem _
      obtain ⟨b1, o1, rfl, -, hr1⟩ := (HX.out.mono (keepF hb HF.out) (fun _ h => h)).at (by omega)
      obtain ⟨A1, c1, x0, hx⟩ := levels_get hr1 hlt
      have HCALL := hid (HT.out xs[j] A1 c1 wr hmem hb hx)
      have HB := hid hb
      have HM := hid hmem
      have hj0 : (0 : Int) ≤ (j : Int) := Int.natCast_nonneg _
      have hj1 : (j : Int) < (xs.length : Int) := by omega
      clear hb hr1 hx HT HX hmem
      go_wp2_with fail
      rw [show ((#[.agg #[.slice A1 xs[j].length c1]] : Array Value) ++ caps) = _ from rfl]
      refine HCALL.out.mono ?_
      rintro e w1 ⟨q, rfl, hq1, hq2⟩
      have HQ1 := hid hq1
      clear hq1
      cases q with
      | true =>
        have HP := hid (HQ1.out.1 rfl)
        clear HQ1
        dsimp only
        go_wp2
        go_ret
        exact TI.mk ⟨fun _ => ⟨_, HM.out, HP.out⟩, fun _ => Int.natCast_nonneg _⟩ (HB.out.trans (hq2.mono HB.out.size))
      | false =>
        have HP := hid (show ¬ p xs[j] from fun h => by cases HQ1.out.2 h)
        clear HQ1
        dsimp only
        go_wp2
        go_roundw
        case rel => exact ⟨j + 1, by omega, by go_num, none_next hlt HNO.out HP.out, HB.out.trans (hq2.mono HB.out.size)⟩
        case measure => simp [intOf]; omega
    · obtain rfl : j = xs.length := by omega
      go_wp2
      go_ret
      refine TI.mk ⟨fun h => absurd h (by omega), ?_⟩ hb
      rintro ⟨x, hx, hp⟩
      exact absurd hp (HNO.out x (by rwa [List.take_length]))

set_option maxHeartbeats 400000 in
theorem contains_level (p : LV → Prop) (f : FuncId) (caps : Array Value) (F : Nat → Prop) (w : World) (v : Value) (xs : List LV) (hcf : ∀ args w, (callFunc f args).run Tryd.prog w = .ok (.enter f args) w) (hF : ∀ b, F b → b < w.heap.size) (h : RLs F w v xs)
    (hT : ∀ (x : LV) (A : Option Addr) (c : Nat) (W : World), x ∈ xs → Below w.heap.size w W → Sl F W 2 RP (.slice A x.length c) x → Calls Tryd.prog f (#[.agg #[.slice A x.length c]] ++ caps) W (TB (p x) W)) :
    Calls Tryd.prog 87 #[v, .func (.func f) #[] caps] w (TB (∃ x, x ∈ xs ∧ p x) w) := by
  have HH := hid (index_level p f caps F w v xs hcf hF h hT)
  clear h hF hT
  go_enter Tryd.func87, Tryd.ntmps87
  go_wp2_with (go_at_call 95; refine HH.out.mono ?_; rintro e w1 ⟨q, rfl, hq1, hq2⟩; have HQ1 := hid hq1; clear hq1)
  go_ret
  refine TB.mk ?_ hq2
  rw [← HQ1.out]
  simp

set_option maxRecDepth 10000 in
set_option maxHeartbeats 1000000 in
theorem index_int (p : Int → Prop) (f : FuncId) (caps : Array Value) (F : Nat → Prop) (w : World) (v : Value) (xs : List Int) (hcf : ∀ args w, (callFunc f args).run Tryd.prog w = .ok (.enter f args) w) (hF : ∀ b, F b → b < w.heap.size) (h : Sl F w 1 RI v xs)
    (hT : ∀ (x : Int) (W : World), x ∈ xs → Below w.heap.size w W → I64 x → Calls Tryd.prog f (#[.int .i64 x] ++ caps) W (TB (p x) W)) :
    Calls Tryd.prog 102 #[v, .func (.func f) #[] caps] w (TI (∃ x, x ∈ xs ∧ p x) w) := by
  obtain ⟨A, ca, rfl, -⟩ := id h
  have hc1 : xs.length ≤ ca := h.len.2.1
  have hn1 : xs.length ≤ 9223372036854775807 := by have := h.len.2.2.2; unfold LM at this; omega
  have HX := hid h
  have HF := hid hF
  have HT := hid hT
  clear h hF hT
  go_enter Tryd.func102, Tryd.ntmps102
  go_wp2_with fail
  go_loopw [8] (fun i wr => ∃ (j : Nat), j ≤ xs.length ∧ i = .int .i64 j ∧ (∀ x, x ∈ xs.take j → ¬ p x) ∧ Below w.heap.size w wr) (fun i wr => xs.length - (intOf i).toNat)
  case atStart => exact ⟨0, Nat.zero_le _, rfl, (fun x hx => by simp at hx), Below.refl _ _⟩
  case round =>
    obtain ⟨j, hj, rfl, hno, hb⟩ := hrel
    have HNO := hid hno
    clear hno
    by_cases hlt : j < xs.length
    · have hmem : xs[j] ∈ xs := List.getElem_mem _
      obtain ⟨b1, o1, rfl, -, hr1⟩ := (Sl.mono HX.out (keepF hb HF.out) (fun _ h => h) (fun _ _ _ h => h)).at (by omega)
      obtain ⟨x0, hx⟩ := ints_get hr1 hlt
      have HCALL := hid (HT.out xs[j] wr hmem hb hx)
      have HB := hid hb
      have HM := hid hmem
      have hj0 : (0 : Int) ≤ (j : Int) := Int.natCast_nonneg _
      have hj1 : (j : Int) < (xs.length : Int) := by omega
      clear hb hr1 hx HT HX hmem
      go_wp2_with fail
      rw [show ((#[.int .i64 xs[j]] : Array Value) ++ caps) = _ from rfl]
      refine HCALL.out.mono ?_
      rintro e w1 ⟨q, rfl, hq1, hq2⟩
      have HQ1 := hid hq1
      clear hq1
      cases q with
      | true =>
        have HP := hid (HQ1.out.1 rfl)
        clear HQ1
        dsimp only
        go_wp2
        go_ret
        exact TI.mk ⟨fun _ => ⟨_, HM.out, HP.out⟩, fun _ => Int.natCast_nonneg _⟩ (HB.out.trans (hq2.mono HB.out.size))
      | false =>
        have HP := hid (show ¬ p xs[j] from fun h => by cases HQ1.out.2 h)
        clear HQ1
        dsimp only
        go_wp2
        go_roundw
        case rel => exact ⟨j + 1, by omega, by go_num, none_next hlt HNO.out HP.out, HB.out.trans (hq2.mono HB.out.size)⟩
        case measure => simp [intOf]; omega
    · obtain rfl : j = xs.length := by omega
      go_wp2
      go_ret
      refine TI.mk ⟨fun h => absurd h (by omega), ?_⟩ hb
      rintro ⟨x, hx, hp⟩
      exact absurd hp (HNO.out x (by rwa [List.take_length]))

set_option maxHeartbeats 400000 in
theorem contains_int (p : Int → Prop) (f : FuncId) (caps : Array Value) (F : Nat → Prop) (w : World) (v : Value) (xs : List Int) (hcf : ∀ args w, (callFunc f args).run Tryd.prog w = .ok (.enter f args) w) (hF : ∀ b, F b → b < w.heap.size) (h : Sl F w 1 RI v xs)
    (hT : ∀ (x : Int) (W : World), x ∈ xs → Below w.heap.size w W → I64 x → Calls Tryd.prog f (#[.int .i64 x] ++ caps) W (TB (p x) W)) :
    Calls Tryd.prog 93 #[v, .func (.func f) #[] caps] w (TB (∃ x, x ∈ xs ∧ p x) w) := by
  have HH := hid (index_int p f caps F w v xs hcf hF h hT)
  clear h hF hT
  go_enter Tryd.func93, Tryd.ntmps93
  go_wp2_with (go_at_call 102; refine HH.out.mono ?_; rintro e w1 ⟨q, rfl, hq1, hq2⟩; have HQ1 := hid hq1; clear hq1)
  go_ret
  refine TB.mk ?_ hq2
  rw [← HQ1.out]
  simp

set_option maxRecDepth 10000 in
set_option maxHeartbeats 1000000 in
theorem index_part (p : (Int × Int) → Prop) (f : FuncId) (caps : Array Value) (F : Nat → Prop) (w : World) (v : Value) (xs : List (Int × Int)) (hcf : ∀ args w, (callFunc f args).run Tryd.prog w = .ok (.enter f args) w) (hF : ∀ b, F b → b < w.heap.size) (h : Sl F w 2 RP v xs)
    (hT : ∀ (x : (Int × Int)) (W : World), x ∈ xs → Below w.heap.size w W → I64 x.1 ∧ I64 x.2 → Calls Tryd.prog f (#[.agg #[.int .i64 x.1, .int .i64 x.2]] ++ caps) W (TB (p x) W)) :
    Calls Tryd.prog 104 #[v, .func (.func f) #[] caps] w (TI (∃ x, x ∈ xs ∧ p x) w) := by
  obtain ⟨A, ca, rfl, -⟩ := id h
  have hc1 : xs.length ≤ ca := h.len.2.1
  have hn1 : xs.length ≤ 9223372036854775807 := by have := h.len.2.2.2; unfold LM at this; omega
  have HX := hid h
  have HF := hid hF
  have HT := hid hT
  clear h hF hT
  go_enter Tryd.func104, Tryd.ntmps104
  go_wp2_with fail
  go_loopw [8] (fun i wr => ∃ (j : Nat), j ≤ xs.length ∧ i = .int .i64 j ∧ (∀ x, x ∈ xs.take j → ¬ p x) ∧ Below w.heap.size w wr) (fun i wr => xs.length - (intOf i).toNat)
  case atStart => exact ⟨0, Nat.zero_le _, rfl, (fun x hx => by simp at hx), Below.refl _ _⟩
  case round =>
    obtain ⟨j, hj, rfl, hno, hb⟩ := hrel
    have HNO := hid hno
    clear hno
    by_cases hlt : j < xs.length
    · have hmem : xs[j] ∈ xs := List.getElem_mem _
      obtain ⟨b1, o1, rfl, -, hr1⟩ := (Sl.mono HX.out (keepF hb HF.out) (fun _ h => h) (fun _ _ _ h => h)).at (by omega)
      obtain ⟨x0, x1, hx⟩ := parts_get hr1 hlt
      have HCALL := hid (HT.out xs[j] wr hmem hb hx)
      have HB := hid hb
      have HM := hid hmem
      have hj0 : (0 : Int) ≤ (j : Int) := Int.natCast_nonneg _
      have hj1 : (j : Int) < (xs.length : Int) := by omega
      clear hb hr1 hx HT HX hmem
      go_wp2_with fail
      rw [show ((#[.agg #[.int .i64 xs[j].1, .int .i64 xs[j].2]] : Array Value) ++ caps) = _ from rfl]
      refine HCALL.out.mono ?_
      rintro e w1 ⟨q, rfl, hq1, hq2⟩
      have HQ1 := hid hq1
      clear hq1
      cases q with
      | true =>
        have HP := hid (HQ1.out.1 rfl)
        clear HQ1
        dsimp only
        go_wp2
        go_ret
        exact TI.mk ⟨fun _ => ⟨_, HM.out, HP.out⟩, fun _ => Int.natCast_nonneg _⟩ (HB.out.trans (hq2.mono HB.out.size))
      | false =>
        have HP := hid (show ¬ p xs[j] from fun h => by cases HQ1.out.2 h)
        clear HQ1
        dsimp only
        go_wp2
        go_roundw
        case rel => exact ⟨j + 1, by omega, by go_num, none_next hlt HNO.out HP.out, HB.out.trans (hq2.mono HB.out.size)⟩
        case measure => simp [intOf]; omega
    · obtain rfl : j = xs.length := by omega
      go_wp2
      go_ret
      refine TI.mk ⟨fun h => absurd h (by omega), ?_⟩ hb
      rintro ⟨x, hx, hp⟩
      exact absurd hp (HNO.out x (by rwa [List.take_length]))

set_option maxHeartbeats 400000 in
theorem contains_part (p : (Int × Int) → Prop) (f : FuncId) (caps : Array Value) (F : Nat → Prop) (w : World) (v : Value) (xs : List (Int × Int)) (hcf : ∀ args w, (callFunc f args).run Tryd.prog w = .ok (.enter f args) w) (hF : ∀ b, F b → b < w.heap.size) (h : Sl F w 2 RP v xs)
    (hT : ∀ (x : (Int × Int)) (W : World), x ∈ xs → Below w.heap.size w W → I64 x.1 ∧ I64 x.2 → Calls Tryd.prog f (#[.agg #[.int .i64 x.1, .int .i64 x.2]] ++ caps) W (TB (p x) W)) :
    Calls Tryd.prog 100 #[v, .func (.func f) #[] caps] w (TB (∃ x, x ∈ xs ∧ p x) w) := by
  have HH := hid (index_part p f caps F w v xs hcf hF h hT)
  clear h hF hT
  go_enter Tryd.func100, Tryd.ntmps100
  go_wp2_with (go_at_call 104; refine HH.out.mono ?_; rintro e w1 ⟨q, rfl, hq1, hq2⟩; have HQ1 := hid hq1; clear hq1)
  go_ret
  refine TB.mk ?_ hq2
  rw [← HQ1.out]
  simp

end Go.Proofs.YtmghkfiepcomgaaDoor
