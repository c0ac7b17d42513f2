/-
  term.node: is a node of its kind?
-/
import Derived.Test.YtmghkfiepcomgaaDoorLright
set_option linter.unusedSimpArgs false
set_option linter.unusedVariables false
namespace Go.Proofs.YtmghkfiepcomgaaDoor
open Go.RowKit

set_option maxHeartbeats 400000 in
theorem out_one (x : Int) (w : World) : Calls Tryd.prog 94 (#[.int .i64 x] ++ #[]) w (TB (¬ (0 ≤ x ∧ x ≤ 1048576)) w) := by
  show Calls Tryd.prog 94 #[.int .i64 x] w _
  by_cases h1 : x < 0
  · go_enter Tryd.func94, Tryd.ntmps94
    go_wp2_with fail
    go_ret
    exact TB.mk (by simp <;> omega) (by repeat (first | exact Below.refl _ _ | assumption | refine Below.alloc ?_ (by simp <;> omega) _ | refine Below.setCell ?_ (by simp <;> omega) _ | refine Below.drew ?_ | refine below_drewN ?_ _))
  · go_enter Tryd.func94, Tryd.ntmps94
    go_wp2_with fail
    go_ret
    exact TB.mk (by simp <;> omega) (by repeat (first | exact Below.refl _ _ | assumption | refine Below.alloc ?_ (by simp <;> omega) _ | refine Below.setCell ?_ (by simp <;> omega) _ | refine Below.drew ?_ | refine below_drewN ?_ _))

theorem out_one_cf (args : Array Value) (w : World) : (callFunc 94 args).run Tryd.prog w = .ok (.enter 94 args) w := by kernel_rfl

set_option maxHeartbeats 400000 in
theorem within_ok (F : Nat → Prop) (w : World) (v : Value) (xs : List Int) (hF : ∀ b, F b → b < w.heap.size) (h : Sl F w 1 RI v xs) : Calls Tryd.prog 86 #[v] w (TB (∀ x, x ∈ xs → 0 ≤ x ∧ x ≤ 1048576) w) := by
  have HH := hid (contains_int (fun x => ¬ (0 ≤ x ∧ x ≤ 1048576)) 94 #[] F w v xs out_one_cf hF h (fun x W _ _ _ => out_one x W))
  clear h hF
  go_enter Tryd.func86, Tryd.ntmps86
  go_wp2_with (go_at_call 93; refine HH.out.mono ?_; rintro e w1 ⟨q, rfl, hq1, hq2⟩; have HQ1 := hid hq1; clear hq1)
  go_ret
  refine TB.mk ?_ hq2
  have h1 := HQ1.out
  cases q with
  | true =>
    obtain ⟨x, hx, hp⟩ := h1.1 rfl
    exact ⟨fun h => absurd h (by simp), fun h => absurd (h x hx) hp⟩
  | false =>
    refine ⟨fun _ x hx => ?_, fun _ => rfl⟩
    by_cases hp : 0 ≤ x ∧ x ≤ 1048576
    · exact hp
    · have := h1.2 ⟨x, hx, hp⟩
      cases this

set_option maxHeartbeats 400000 in
theorem level_out (l : LV) (F : Nat → Prop) (A : Option Addr) (c : Nat) (w : World) (hF : ∀ b, F b → b < w.heap.size) (h : Sl F w 2 RP (.slice A l.length c) l) : Calls Tryd.prog 88 (#[.agg #[.slice A l.length c]] ++ #[]) w (TB (¬ LevelOk l 9) w) := by
  show Calls Tryd.prog 88 #[.agg #[.slice A l.length c]] w _
  have HX := hid h
  have HF := hid hF
  clear h hF
  go_enter Tryd.func88, Tryd.ntmps88
  go_wp2_with (go_at_call 89; refine (level_right l 9 F A c _ (fun b hb => by have := HF.out b hb; simp; omega) (Sl.mono HX.out (keepF (B := w.heap.size) (by repeat (first | exact Below.refl _ _ | assumption | refine Below.alloc ?_ (by simp <;> omega) _ | refine Below.setCell ?_ (by simp <;> omega) _ | refine Below.drew ?_ | refine below_drewN ?_ _)) HF.out) (fun _ h => h) (fun _ _ _ h => h))).mono ?_; rintro e w1 ⟨q, rfl, hq1, hq2⟩; have HQ1 := hid hq1; clear hq1)
  go_ret
  refine TB.mk ?_ (Below.trans (b := w.alloc _) (by repeat (first | exact Below.refl _ _ | assumption | refine Below.alloc ?_ (by simp <;> omega) _ | refine Below.setCell ?_ (by simp <;> omega) _ | refine Below.drew ?_ | refine below_drewN ?_ _)) (hq2.mono (by simp)))
  rw [← HQ1.out]
  simp

theorem level_out_cf (args : Array Value) (w : World) : (callFunc 88 args).run Tryd.prog w = .ok (.enter 88 args) w := by kernel_rfl

/-- a node is of its kind -/
def NodeOk (t : T) : Prop := 1 ≤ t.k ∧ t.k ≤ 24 ∧ (0 ≤ t.n ∧ t.n ≤ 1048576) ∧ (0 ≤ t.a ∧ t.a ≤ 1048576) ∧
  (t.ks.length : Int) = (kindRow t.k.toNat).2.2.2.1 + (if t.k = 24 then t.a else 0) ∧ (t.n = 0 ∨ (kindRow t.k.toNat).1 = true) ∧ (t.a = 0 ∨ (kindRow t.k.toNat).2.1 = true) ∧
  ((kindRow t.k.toNat).2.2.1 < 0 ∨ (t.ls.length : Int) = (kindRow t.k.toNat).2.2.1) ∧ (t.ls.length : Int) ≤ (if t.k = 10 then 10 else 8) ∧ ∀ l, l ∈ t.ls → LevelOk l 9

theorem use1 {a b c : Prop} (h : a → b) (ha : a) (hc : b → c) : c := hc (h ha)
theorem use2 {a a2 b c : Prop} (h : a → a2 → b) (ha : a) (ha2 : a2) (hc : b → c) : c := hc (h ha ha2)
theorem not_iff_of {q : Bool} {ls : List LV} (h : q = true ↔ ∃ l, l ∈ ls ∧ ¬ LevelOk l 9) : (!q) = true ↔ ∀ l, l ∈ ls → LevelOk l 9 := by
  cases q with
  | true =>
    obtain ⟨l, h1, h2⟩ := h.1 rfl
    exact ⟨fun h => absurd h (by simp), fun h => absurd (h l h1) h2⟩
  | false =>
    refine ⟨fun _ l hl => ?_, fun _ => rfl⟩
    by_cases hp : LevelOk l 9
    · exact hp
    · have := h.2 ⟨l, hl, hp⟩
      cases this

theorem kind_bounds (m : Nat) : 0 ≤ (kindRow m).2.2.2.1 ∧ (kindRow m).2.2.2.1 ≤ 6 := by
  rcases Nat.lt_or_ge m 25 with h | h
  · have : ∀ m, m < 25 → 0 ≤ (kindRow m).2.2.2.1 ∧ (kindRow m).2.2.2.1 ≤ 6 := by decide
    exact this m h
  · have : kindRow m = (false, false, 0, 0, 0) := by
      unfold kindRow
      rw [List.getD_eq_getElem?_getD, List.getElem?_eq_none (by show 25 ≤ m; exact h)]; rfl
    rw [this]; decide

theorem ints_two {F : Nat → Prop} {w : World} {b : Nat} {x y : Int} (hF : F b) (h0 : w.cell? ⟨b, 0, none⟩ = some (.int .i64 x)) (h1 : w.cell? ⟨b, 1, none⟩ = some (.int .i64 y)) (hx : I64 x) (hy : I64 y) : Sl F w 1 RI (.slice (some ⟨b, 0, none⟩) 2 2) [x, y] := by
  refine ⟨some ⟨b, 0, none⟩, 2, rfl, by simp, by decide, by simp [LM], fun _ => ⟨b, 0, rfl, hF, fun i z hz => ?_⟩⟩
  match i, hz with
  | 0, hz => simp at hz; subst hz; exact ⟨[.int .i64 x], rfl, fun j u hj => by cases j <;> simp at hj; subst hj; simpa using h0, rfl, hx⟩
  | 1, hz => simp at hz; subst hz; exact ⟨[.int .i64 y], rfl, fun j u hj => by cases j <;> simp at hj; subst hj; simpa using h1, rfl, hy⟩

set_option maxRecDepth 10000 in
set_option maxHeartbeats 4000000 in
theorem node_ok (t : T) (F : Nat → Prop) (w : World) (v : Value) (hF : ∀ b, F b → b < w.heap.size) (hL : Lk w) (hv : RTv F w t v) : Calls Tryd.prog 76 #[v] w (TB (NodeOk t) w) := by
  obtain ⟨Al, cl, Ak, ck, rfl, ik, im, ia, hls, hks⟩ := hv
  have hkn : t.ks.length ≤ 1000000000000 := by have := hks.len.2.2.2; unfold LM at this; omega
  have hln : t.ls.length ≤ 1000000000000 := by have := hls.len.2.2.2; unfold LM at this; omega
  have HLS := hid hls
  have HF := hid hF
  have HI := hid (And.intro im ia)
  clear hls hks hF ik im ia
  unfold NodeOk
  generalize t.n = n at *
  generalize t.a = a at *
  generalize t.ks = ks at *
  generalize t.ls = ls at *
  generalize t.k = k at *
  generalize hP : (1 ≤ k ∧ _) = P
  have HP := hid (iff_of_eq hP.symm)
  clear hP
  by_cases h1 : k < 1
  · clear hL
    go_enter Tryd.func76, Tryd.ntmps76
    go_wp2_with fail
    go_ret
    exact TB.mk ⟨fun h => absurd h (by simp), fun h => absurd (HP.out.1 h).1 (by omega)⟩ (by repeat (first | exact Below.refl _ _ | assumption | refine Below.alloc ?_ (by simp <;> omega) _ | refine Below.setCell ?_ (by simp <;> omega) _ | refine Below.drew ?_ | refine below_drewN ?_ _))
  · by_cases h2 : 24 < k
    · clear hL
      go_enter Tryd.func76, Tryd.ntmps76
      go_wp2_with fail
      go_ret
      exact TB.mk ⟨fun h => absurd h (by simp), fun h => absurd (HP.out.1 h).2.1 (by omega)⟩ (by repeat (first | exact Below.refl _ _ | assumption | refine Below.alloc ?_ (by simp <;> omega) _ | refine Below.setCell ?_ (by simp <;> omega) _ | refine Below.drew ?_ | refine below_drewN ?_ _))
    · obtain ⟨m, rfl⟩ := Int.eq_ofNat_of_zero_le (show 0 ≤ k by omega)
      obtain ⟨k0, k1, k2, k3, k4⟩ := hL.cells m (by omega)
      obtain ⟨kb1, kb2⟩ := kind_bounds m
      have hmk : (0 : Int) ≤ (m : Int) := Int.natCast_nonneg _
      have hm25 : (m : Int) < 25 := by omega
      have hm25' : m < 25 := by omega
      have hg := hL.2
      have hg1 : 0 < w.heap.size + 1 := by omega
      have hp' := HP.out
      simp only [Int.toNat_natCast] at hp'
      clear HP
      generalize kindRow m = row at *
      obtain ⟨r0, r1, r2, r3, r4⟩ := row
      dsimp only at k0 k1 k2 k3 k4 kb1 kb2
      dsimp only at hp'
      have HP := hid hp'
      clear hp'
      go_enter Tryd.func76, Tryd.ntmps76
      go_wp2_with fail
      refine (within_ok (fun b => b = w.heap.size + 1) _ _ [n, a] (fun b hb => by subst hb; simp) (ints_two rfl (by simp [go_sem]) (by simp [go_sem]) HI.out.1 HI.out.2)).mono ?_
      rintro e w1 ⟨q, rfl, hq1, hq2⟩
      have hq := Blk.grow (Blk.alloc (Blk.new w 26 [_, _, _, _, _]) _) hq2
      obtain ⟨⟨q0, q1, q2, q3, q4⟩, -⟩ := hq.five
      have hbw : Below w.heap.size w w1 := Below.trans (b := (w.alloc _).alloc _) (by repeat (first | exact Below.refl _ _ | assumption | refine Below.alloc ?_ (by simp <;> omega) _ | refine Below.setCell ?_ (by simp <;> omega) _ | refine Below.drew ?_ | refine below_drewN ?_ _)) (hq2.mono (by simp; omega))
      have l0 := cell_later hbw k0
      have l1 := cell_later hbw k1
      have l2 := cell_later hbw k2
      have l3 := cell_later hbw k3
      have l4 := cell_later hbw k4
      have hz1 : w.heap.size + 2 ≤ w1.heap.size := by have := hq2.size; simp at this; omega
      have hz2 : w.heap.size < w1.heap.size := by omega
      have hg2 : 0 < w1.heap.size := by omega
      have hne1 : ¬ w.heap.size = w1.heap.size := by omega
      have hne2 : ¬ 0 = w1.heap.size := by omega
      have hne3 : ¬ w1.heap.size = w.heap.size := by omega
      have hne4 : ¬ w1.heap.size = 0 := by omega
      clear k0 k1 k2 k3 k4 hq2 hq hg hg1 hL
      have HBW := hid hbw
      have HQ1 := hid hq1
      clear hq1 hbw
      cases q with
      | false =>
        dsimp only
        go_wp2_with fail
        go_ret
        refine TB.mk ⟨fun h => absurd h (by simp), fun h => ?_⟩ HBW.out
        exact HQ1.out.2 (fun x hx => by
          simp at hx
          rcases hx with rfl | rfl
          · exact (HP.out.1 h).2.2.1
          · exact (HP.out.1 h).2.2.2.1)
      | true =>
        have hin := HQ1.out.1 rfl
        obtain ⟨n0, n1⟩ := hin n (by simp)
        obtain ⟨a0, a1⟩ := hin a (by simp)
        clear HQ1 hin
        dsimp only
        have e24 : ((m : Int) == 24) = true → (if (m : Int) = 24 then a else 0) = a ∧ (if (m : Int) = 10 then (10 : Int) else 8) = 8 := fun h => by
          have := beq_iff_eq.1 h
          exact ⟨if_pos this, if_neg (by omega)⟩
        have e10 : ((m : Int) == 24) = false → ((m : Int) == 10) = true → (if (m : Int) = 24 then a else 0) = 0 ∧ (if (m : Int) = 10 then (10 : Int) else 8) = 10 := fun h h2 => by
          have := beq_iff_eq.1 h2
          exact ⟨if_neg (by omega), if_pos this⟩
        have e8 : ((m : Int) == 24) = false → ((m : Int) == 10) = false → (if (m : Int) = 24 then a else 0) = 0 ∧ (if (m : Int) = 10 then (10 : Int) else 8) = 8 := fun h h2 =>
          ⟨if_neg (fun e => by rw [e] at h; cases h), if_neg (fun e => by rw [e] at h2; cases h2)⟩
        have E24 := hid e24
        have E10 := hid e10
        have E8 := hid e8
        clear e24 e10 e8
        go_wp2_with (go_at_call 87; refine (contains_level (fun l => ¬ LevelOk l 9) _ _ F _ _ ls level_out_cf (fun b hb => by have := HF.out b hb; have := HBW.out.size; simp; omega) (HLS.out.mono (keepF (B := w.heap.size) (HBW.out.alloc (by omega) _) HF.out) (fun _ h => h)) (fun x A c W _ hW hx => level_out x F A c W (fun b hb => by have := HF.out b hb; have := HBW.out.size; have := hW.size; simp at this; omega) hx)).mono ?_; rintro e w2 ⟨q, rfl, r1, r2⟩; have HR1 := hid r1; have HR2 := hid (Below.trans (a := w) (b := w1.alloc _) (HBW.out.alloc (by omega) _) (r2.mono (by simp; omega))); clear r1 r2)
        all_goals go_ret
        all_goals (refine TB.mk ?_ (by first | exact HBW.out.alloc (by omega) _ | exact HR2.out))
        all_goals (have hP := HP.out; clear HP HLS HI HF HBW)
        all_goals first
          | (refine use1 E24.out ?_ ?_; assumption; intro u; clear E24 E10 E8; rw [u.1, u.2] at hP; clear u)
          | (refine use2 E10.out ?_ ?_ ?_; assumption; assumption; intro u; clear E24 E10 E8; rw [u.1, u.2] at hP; clear u)
          | (refine use2 E8.out ?_ ?_ ?_; assumption; assumption; intro u; clear E24 E10 E8; rw [u.1, u.2] at hP; clear u)
        all_goals rw [hP]
        all_goals first
          | (refine ⟨fun h => absurd h (by simp), fun h => ?_⟩; obtain ⟨-, -, -, -, p1, p2, p3, p4, p5, p6⟩ := h; clear hP; (first | omega | (rcases p2 with p2 | p2 <;> first | omega | (simp_all; done)) | (rcases p3 with p3 | p3 <;> first | omega | (simp_all; done)) | (rcases p4 with p4 | p4 <;> first | omega | (simp_all; done))); done)
          | (have hx := HR1.out; clear hP HR1 HR2; rw [not_iff_of hx]; refine ⟨fun h => ⟨by omega, by omega, ⟨by omega, by omega⟩, ⟨by omega, by omega⟩, by omega, ?_, ?_, by omega, by omega, h⟩, fun h => h.2.2.2.2.2.2.2.2.2⟩ <;> first | exact .inl (by assumption) | exact .inr (by assumption))
end Go.Proofs.YtmghkfiepcomgaaDoor
