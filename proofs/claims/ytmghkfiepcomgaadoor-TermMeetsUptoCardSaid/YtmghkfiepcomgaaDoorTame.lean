/-
  spandrellaw02: tame, times, great, same.
-/
import Derived.Test.YtmghkfiepcomgaaDoorCount
import Derived.Test.YtmghkfiepcomgaaDoorTsize
set_option linter.unusedSimpArgs false
set_option linter.unusedVariables false
namespace Go.Proofs.YtmghkfiepcomgaaDoor
open Go.RowKit

mutual
/-- all variables are from 0 to 1000 -/
def T.Tame : T → Prop
  | .mk k n _ _ ks => (k = 1 → 0 ≤ n ∧ n ≤ 1000) ∧ T.Tames ks
def T.Tames : List T → Prop
  | [] => True
  | t :: r => T.Tame t ∧ T.Tames r
end

theorem T.Tame_eq (t : T) : t.Tame ↔ (t.k = 1 → 0 ≤ t.n ∧ t.n ≤ 1000) ∧ T.Tames t.ks := by cases t; rw [T.Tame]; rfl
theorem T.Tames_snoc (ks : List T) (j : Nat) (h : j < ks.length) (h1 : T.Tames (ks.take j)) (h2 : (ks[j]).Tame) : T.Tames (ks.take (j + 1)) := by
  rw [List.take_succ_eq_append_getElem h]
  generalize ks.take j = l at h1
  induction l with
  | nil => exact ⟨h2, trivial⟩
  | cons x r ih => exact ⟨h1.1, ih h1.2⟩
theorem T.Tames_mem {ks : List T} (h : T.Tames ks) {t : T} (ht : t ∈ ks) : t.Tame := by
  induction ks with
  | nil => cases ht
  | cons x r ih =>
    cases ht with
    | head => exact h.1
    | tail _ hm => exact ih h.2 hm

theorem RTv.kids {F : Nat → Prop} {w : World} {t : T} {c0 c1 c2 c3 c4 : Value} (h : RTv F w t (.agg #[c0, c1, c2, c3, c4])) : RTs F w c4 t.ks := by
  obtain ⟨Al, cl, Ak, ck, h1, h2, h3, h4, h5, h6⟩ := h
  simp only [Value.agg.injEq, Array.mk.injEq, List.cons.injEq] at h1
  rw [h1.2.2.2.2.1]; exact h6
theorem RTv.lvls {F : Nat → Prop} {w : World} {t : T} {c0 c1 c2 c3 c4 : Value} (h : RTv F w t (.agg #[c0, c1, c2, c3, c4])) : RLs F w c3 t.ls := by
  obtain ⟨Al, cl, Ak, ck, h1, h2, h3, h4, h5, h6⟩ := h
  simp only [Value.agg.injEq, Array.mk.injEq, List.cons.injEq] at h1
  rw [h1.2.2.2.1]; exact h5

/-- tame at the kids of a term -/
def TameOk (t : T) : Prop := ∀ (F : Nat → Prop) (w : World) (v : Value), (∀ b, F b → b < w.heap.size) → RTs F w v t.ks →
  Calls Tryd.prog 8 #[v] w fun e w' => ∃ b, e = .returned (.bool b) ∧ (b = true → T.Tames t.ks) ∧ Below w.heap.size w w'

set_option maxRecDepth 10000 in
set_option maxHeartbeats 2000000 in
theorem tame_of (F : Nat → Prop) (w : World) (va : Value) (xs : List T) (ih : ∀ t, t ∈ xs → TameOk t) (hF : ∀ b, F b → b < w.heap.size) (hx : RTs F w va xs) :
    Calls Tryd.prog 8 #[va] w fun e w' => ∃ b, e = .returned (.bool b) ∧ (b = true → T.Tames xs) ∧ Below w.heap.size w w' := by
  obtain ⟨A, ca, rfl, -⟩ := id hx
  have hc1 : xs.length ≤ ca := hx.len.2.1
  have hn1 : xs.length ≤ 9223372036854775807 := by have := hx.len.2.2.2; unfold LM at this; omega
  have HX := hid hx
  have HF := hid hF
  have IH := hid ih
  clear hx hF ih
  go_enter Tryd.func8, Tryd.ntmps8
  go_wp2_with fail
  go_loopw [3] (fun i wr => ∃ (j : Nat), j ≤ xs.length ∧ i = .int .i64 j ∧ T.Tames (xs.take j) ∧ Below w.heap.size w wr) (fun i wr => xs.length - (intOf i).toNat)
  case atStart => exact ⟨0, Nat.zero_le _, rfl, trivial, Below.refl _ _⟩
  case round =>
    obtain ⟨j, hj, rfl, ht, hb⟩ := hrel
    by_cases hlt : j < xs.length
    · obtain ⟨b1, o1, rfl, -, hr1⟩ := (HX.out.mono (keepF hb HF.out) (fun _ h => h)).at (by omega)
      obtain ⟨A1, c1, D1, d1, x0, x1, x2, x3, x4, hx⟩ := RTs.get hr1 hlt
      have HB := hid hb
      have HX1 := hid hx.kids
      have HT := hid ht
      have hj1 : (j : Int) < (xs.length : Int) := by omega
      have htame : ∃ P : Prop, P = (xs[j].Tame ↔ (xs[j].k = 1 → 0 ≤ xs[j].n ∧ xs[j].n ≤ 1000) ∧ T.Tames xs[j].ks) ∧ P := ⟨_, rfl, T.Tame_eq _⟩
      have HTE := hid (T.Tame_eq xs[j])
      have hrec : ∀ W : World, Below wr.heap.size wr W → Calls Tryd.prog 8 #[.slice D1 xs[j].ks.length d1] W (fun e w' => ∃ b, e = .returned (.bool b) ∧ (b = true → T.Tames xs[j].ks) ∧ Below W.heap.size W w') := fun W hW =>
        IH.out xs[j] (List.getElem_mem _) F W _ (fun b hb => by have := HF.out b hb; have := HB.out.size; have := hW.size; omega) (HX1.out.mono (keepF hW (fun b hb => by have := HF.out b hb; have := HB.out.size; omega)) (fun _ h => h))
      have HREC := hid hrec
      clear hb hr1 hx ht htame hrec
      by_cases h1 : xs[j].k = 1
      · by_cases h2 : xs[j].n < 0
        · go_wp2
          go_ret
          first | exact ⟨_, rfl, (fun h => by cases h), HB.out⟩ | exact .inl ⟨rfl, HB.out⟩
        · by_cases h3 : 1000 < xs[j].n
          · go_wp2
            go_ret
            first | exact ⟨_, rfl, (fun h => by cases h), HB.out⟩ | exact .inl ⟨rfl, HB.out⟩
          · have HC := hid (show xs[j].k = 1 → 0 ≤ xs[j].n ∧ xs[j].n ≤ 1000 from fun _ => ⟨by omega, by omega⟩)
            go_wp2_with (go_at_call 8; refine (HREC.out _ (Below.refl _ _)).mono ?_; rintro e w1 ⟨q, rfl, hq1, hq2⟩; have HQ := hid hq1; clear hq1; cases q)
            · go_ret
              exact ⟨_, rfl, (fun h => by cases h), HB.out.trans (hq2.mono HB.out.size)⟩
            · go_roundw
              case rel => exact ⟨j + 1, by omega, by go_num, T.Tames_snoc _ _ hlt HT.out (HTE.out.2 ⟨HC.out, by simpa using HQ.out⟩), HB.out.trans (hq2.mono HB.out.size)⟩
              case measure => simp [intOf]; omega
      · have HC := hid (show xs[j].k = 1 → 0 ≤ xs[j].n ∧ xs[j].n ≤ 1000 from fun h => absurd h h1)
        go_wp2_with (go_at_call 8; refine (HREC.out _ (Below.refl _ _)).mono ?_; rintro e w1 ⟨q, rfl, hq1, hq2⟩; have HQ := hid hq1; clear hq1; cases q)
        · go_ret
          exact ⟨_, rfl, (fun h => by cases h), HB.out.trans (hq2.mono HB.out.size)⟩
        · go_roundw
          case rel => exact ⟨j + 1, by omega, by go_num, T.Tames_snoc _ _ hlt HT.out (HTE.out.2 ⟨HC.out, by simpa using HQ.out⟩), HB.out.trans (hq2.mono HB.out.size)⟩
          case measure => simp [intOf]; omega
    · obtain rfl : j = xs.length := by omega
      have HT := hid ht
      clear ht
      go_wp2
      go_ret
      exact ⟨_, rfl, fun _ => by have := HT.out; rwa [List.take_length] at this, hb⟩

theorem tame_ok (t : T) : TameOk t := by
  induction t using T.ind with
  | h k n a ls ks ih => exact fun F w v hF hv => tame_of F w v ks ih hF hv

theorem tame_all (F : Nat → Prop) (w : World) (va : Value) (xs : List T) (hF : ∀ b, F b → b < w.heap.size) (hx : RTs F w va xs) :
    Calls Tryd.prog 8 #[va] w fun e w' => ∃ b, e = .returned (.bool b) ∧ (b = true → T.Tames xs) ∧ Below w.heap.size w w' := tame_of F w va xs (fun t _ => tame_ok t) hF hx

set_option maxRecDepth 10000 in
set_option maxHeartbeats 1000000 in
theorem great_some (F : Nat → Prop) (w : World) (va : Value) (xs : List T) (hF : ∀ b, F b → b < w.heap.size) (hx : RTs F w va xs) :
    Calls Tryd.prog 7 #[va] w fun e w' => ∃ b, e = .returned (.bool b) ∧ Below w.heap.size w w' := by
  have HX := hid hx
  have HF := hid hF
  clear hx hF
  go_enter Tryd.func7, Tryd.ntmps7
  go_wp2_with (go_at_call 28; refine (terms_of F _ _ _ xs HF.out HX.out).mono ?_; rintro e w1 ⟨q, rfl, hq⟩)
  go_ret
  exact ⟨_, rfl, hq⟩

set_option maxRecDepth 10000 in
set_option maxHeartbeats 1000000 in
theorem same_ok (t u : T) (F G : Nat → Prop) (w : World) (va vb : Value) (hF : ∀ b, F b → b < w.heap.size) (hG : ∀ b, G b → b < w.heap.size) (ht : RTv F w t va) (hu : RTv G w u vb) :
    Calls Tryd.prog 10 #[va, vb] w fun e w' => ∃ b, e = .returned (.bool b) ∧ (b = true ↔ t = u) ∧ Below w.heap.size w w' := by
  obtain ⟨Al, cl, Ak, ck, rfl, -⟩ := id ht
  obtain ⟨Bl, dl, Bk, dk, rfl, -⟩ := id hu
  have HX := hid ht
  have HY := hid hu
  have HF := hid hF
  have HG := hid hG
  clear ht hu hF hG
  go_enter Tryd.func10, Tryd.ntmps10
  go_wp2_with (go_at_call 29; refine (same_term t u F G _ _ _ (fun b hb => by have := HF.out b hb; simp; omega) (fun b hb => by have := HG.out b hb; simp; omega) (HX.out.mono (keepF (B := w.heap.size) (by repeat (first | exact Below.refl _ _ | assumption | refine Below.alloc ?_ (by simp <;> omega) _ | refine Below.setCell ?_ (by simp <;> omega) _ | refine Below.drew ?_ | refine below_drewN ?_ _)) HF.out) (fun _ h => h)) (HY.out.mono (keepF (B := w.heap.size) (by repeat (first | exact Below.refl _ _ | assumption | refine Below.alloc ?_ (by simp <;> omega) _ | refine Below.setCell ?_ (by simp <;> omega) _ | refine Below.drew ?_ | refine below_drewN ?_ _)) HG.out) (fun _ h => h))).mono ?_; rintro e w1 ⟨b, rfl, hb1, hb2⟩)
  go_ret
  exact ⟨_, rfl, hb1, Below.trans (b := (w.alloc _).alloc _) (by repeat (first | exact Below.refl _ _ | assumption | refine Below.alloc ?_ (by simp <;> omega) _ | refine Below.setCell ?_ (by simp <;> omega) _ | refine Below.drew ?_ | refine below_drewN ?_ _)) (hb2.mono (by simp; omega))⟩
end Go.Proofs.YtmghkfiepcomgaaDoor
