/-
  term.own: a node whose levels are its own.
-/
import Derived.Test.YtmghkfiepcomgaaDoorTown
set_option linter.unusedSimpArgs false
set_option linter.unusedVariables false
namespace Go.Proofs.YtmghkfiepcomgaaDoor
open Go.RowKit

/-- what the loop of own keeps -/
def OwnAt (F : Nat → Prop) (w : World) (v' : Value) (ls : List LV) (j : Nat) (wr : World) : Prop :=
  AccS levelRep 78 (w.heap.size + 2) wr v' (fun i => if i < j then fun b => w.heap.size + 2 ≤ b ∧ b < wr.heap.size ∧ some b ≠ v'.ownBlock else F) ls

theorem OwnAt.start {F : Nat → Prop} {w w1 : World} {v' : Value} {ls : List LV} {cells : List Value} (hF : ∀ b, F b → b < w.heap.size) (h : w1.ownsRow (w.heap.size + 2) 78 1 v' ls.length cells)
    (hr : ∀ i x, ls[i]? = some x → RL F w1 (chunk 1 cells i) x) (hs : w.heap.size ≤ w1.heap.size) : OwnAt F w v' ls 0 w1 :=
  ⟨cells, h, fun i x hx => ⟨by simp only [Nat.not_lt_zero, if_false]; exact hr i x hx, fun b hb => by
    have hb : F b := by simpa using hb
    refine ⟨fun e => ?_, by have := hF b hb; omega⟩
    have := (h.lt b e.symm).1
    have := hF b hb
    omega⟩⟩

theorem OwnAt.step {F : Nat → Prop} {w wr w1 : World} {v' u : Value} {ls : List LV} {j g cap : Nat} {cells : List Value} (h : OwnAt F w v' ls j wr) (hj : j < ls.length) (hv : v' = .slice (some ⟨g, 0, none⟩) ls.length cap)
    (hg : w.heap.size + 2 ≤ g) (hgl : g < wr.heap.size) (hb : Below wr.heap.size wr w1) (hu : w1.ownsRow wr.heap.size 81 2 u (ls[j]).length cells) (hr : ∀ i x, (ls[j])[i]? = some x → RP (chunk 2 cells i) x) (hl : (ls[j]).length ≤ LM) :
    OwnAt F w v' ls (j + 1) (w1.setCell ⟨g, j, none⟩ u) := by
  have h1 := AccS.below h hb
  have hsl : RL (fun b => wr.heap.size ≤ b ∧ b < w1.heap.size) w1 [u] ls[j] :=
    ⟨u, rfl, Acc.sl (r := partRep) (e := 81) (G := fun _ => False) (B := wr.heap.size) ⟨cells, hu, hr⟩ hl (fun b hb' hlt => ⟨hb'.elim False.elim id, hlt⟩)⟩
  have h2 := AccS.set h1 hv hj (u := u) (H := fun b => wr.heap.size ≤ b ∧ b < w1.heap.size) hsl (fun b hb' => ⟨by omega, hb'.2⟩)
  obtain ⟨cs, c1, c2⟩ := h2
  have hsz : (w1.setCell ⟨g, j, none⟩ u).heap.size = w1.heap.size := by simp [World.setCell]
  refine ⟨cs, c1, fun i x hx => ?_⟩
  obtain ⟨c3, c4⟩ := c2 i x hx
  by_cases hij : i = j
  · subst hij
    simp only [if_true] at c3 c4
    simp only [show i < i + 1 from by omega, if_true]
    refine ⟨levelRep.mono (Keep.refl _ _) (fun b hb' => ⟨by omega, by rw [hsz]; exact hb'.2, (c4 b hb').1⟩) c3, fun b hb' => ⟨hb'.2.2, hb'.2.1⟩⟩
  · simp only [if_neg hij] at c3 c4
    by_cases hlt : i < j
    · simp only [hlt, if_true, show i < j + 1 from by omega] at c3 c4 ⊢
      exact ⟨levelRep.mono (Keep.refl _ _) (fun b hb' => ⟨hb'.1, by rw [hsz]; have := hb.size; omega, hb'.2.2⟩) c3, fun b hb' => ⟨hb'.2.2, hb'.2.1⟩⟩
    · simp only [hlt, if_false, show ¬ i < j + 1 from by omega] at c3 c4 ⊢
      exact ⟨c3, c4⟩

theorem OwnAt.fin {F : Nat → Prop} {w wr : World} {v' : Value} {ls : List LV} (h : OwnAt F w v' ls ls.length wr) (hl : ls.length ≤ LM) : RLs (fun b => w.heap.size + 2 ≤ b ∧ b < wr.heap.size) wr v' ls :=
  AccS.sl (r := levelRep) rfl h hl (fun i b hi hb => by simp only [hi, if_true] at hb; omega) (fun b h1 h2 => by omega)

set_option maxRecDepth 10000 in
set_option maxHeartbeats 1000000 in
theorem term_own (k n a : Int) (Al : Option Addr) (nl cl : Nat) (Ak : Option Addr) (nk ck : Nat) (ls : List LV) (F : Nat → Prop) (w : World) (hF : ∀ b, F b → b < w.heap.size) (h : RLs F w (.slice Al nl cl) ls) :
    Calls Tryd.prog 32 #[.agg #[.int .i64 k, .int .i64 n, .int .i64 a, .slice Al nl cl, .slice Ak nk ck]] w fun e w' =>
      ∃ Bl dl, e = .returned (.agg #[.int .i64 k, .int .i64 n, .int .i64 a, .slice Bl ls.length dl, .slice Ak nk ck]) ∧ Below w.heap.size w w' ∧ RLs (fun b => w.heap.size ≤ b ∧ b < w'.heap.size) w' (.slice Bl ls.length dl) ls := by
  obtain ⟨rfl, -, -, hLM⟩ := h.len
  have hnum : ls.length ≤ 9223372036854775807 := by unfold LM at hLM; omega
  have HLM := hid hLM
  have HL := hid h
  have HF := hid hF
  clear h hF hLM
  go_enter Tryd.func32, Tryd.ntmps32
  go_wp2_with (go_at_call 53; refine (clone_levels _ _ _ ls F _ (fun b hb => by have := HF.out b hb; simp; omega) (HL.out.mono (keepF (w := w) (by repeat (first | exact Below.refl _ _ | assumption | refine Below.alloc ?_ (by simp <;> omega) _ | refine Below.setCell ?_ (by simp <;> omega) _ | refine Below.drew ?_ | refine below_drewN ?_ _)) HF.out) (fun _ h => h))).mono ?_; rintro e w1 ⟨v', cells, rfl, hb1, hown, hrep⟩; obtain ⟨B1, d1, rfl⟩ := ownsRow_form hown; have hp := Blk.grow (Blk.alloc (Blk.new w 26 [_, _, _, _, _]) _) hb1; have hq := Blk.grow (Blk.new (w.alloc _) 26 [_, _, _, _, _]) hb1; rw [World.size_alloc] at hq; obtain ⟨⟨p0, p1, p2, p3, p4⟩, ⟨f0, f1, f2, f3, f4⟩⟩ := hp.five; have HP := hid hp; have HQ := hid hq; have HB1 := hid hb1; have HOWN := hid hown; have HREP := hid hrep; clear hp hq hb1 hown hrep)
  go_loopw [11] (fun i wr => ∃ j : Nat, j ≤ ls.length ∧ i = .int .i64 j ∧ Below w.heap.size w wr ∧ w.heap.size + 2 ≤ wr.heap.size ∧ OwnAt F w (.slice B1 ls.length d1) ls j wr ∧
      Blk wr w.heap.size 26 [.int .i64 k, .int .i64 n, .int .i64 a, .slice B1 ls.length d1, .slice Ak nk ck] ∧ Blk wr (w.heap.size + 1) 26 [.int .i64 0, .int .i64 0, .int .i64 0, .slice none 0 0, .slice none 0 0]) (fun i wr => ls.length - (intOf i).toNat)
  case atStart =>
    have hb2 : Below w.heap.size w w1 := Below.trans (b := (w.alloc _).alloc _) (by repeat (first | exact Below.refl _ _ | assumption | refine Below.alloc ?_ (by simp <;> omega) _ | refine Below.setCell ?_ (by simp <;> omega) _ | refine Below.drew ?_ | refine below_drewN ?_ _)) (HB1.out.mono (by simp; omega))
    have hz : w.heap.size + 2 ≤ w1.heap.size := by have := HB1.out.size; simpa using this
    have how : w1.ownsRow (w.heap.size + 2) 78 1 (.slice B1 ls.length d1) ls.length cells := by simpa [levelRep] using HOWN.out
    refine ⟨0, Nat.zero_le _, rfl, hb2.setCell (Nat.le_refl _) _, by simpa [World.setCell] using hz, ?_, HP.out.set_ 3 _, HQ.out.far (p := ⟨w.heap.size, 3, none⟩) (by simp) _⟩
    have h0 := OwnAt.start (F := F) (w := w) HF.out how HREP.out (by omega)
    obtain ⟨cs, c1, c2⟩ := h0
    have hkeep : Keep (fun b => b ≠ w.heap.size) w1 (w1.setCell ⟨w.heap.size, 3, none⟩ (.slice B1 ls.length d1)) := fun b hb => Below.heap_setCell w1 _ _ b hb
    refine ⟨cs, ⟨c1.1, ?_⟩, fun i x hx => ?_⟩
    · rcases c1.2 with h1 | ⟨g, cap, cur, h1, h2, h3, h4⟩
      · exact .inl h1
      · exact .inr ⟨g, cap, cur, h1, h2, by rw [hkeep g (by omega)]; exact h3, h4⟩
    · obtain ⟨c3, c4⟩ := c2 i x hx
      simp only [Nat.not_lt_zero, if_false] at c3 c4 ⊢
      exact ⟨levelRep.mono (fun b hb => hkeep b (by have := HF.out b hb; omega)) (fun _ h => h) c3, fun b hb => ⟨(c4 b hb).1, by simpa [World.setCell] using (c4 b hb).2⟩⟩
  case round =>
    obtain ⟨j, hj, rfl, hb, hz, ho, hp, hq⟩ := hrel
    by_cases hlt : j < ls.length
    · obtain ⟨g, cap, u, hv, hg, hgl, hcap, hmax, hcell, hfz, hR⟩ := AccS.get ho hlt
      simp only [Value.slice.injEq, true_and] at hv
      obtain ⟨rfl, rfl⟩ := hv
      have hcF : RL (fun b => b < wr.heap.size) wr [u] ls[j] := by
        obtain ⟨cs, c1, c2⟩ := ho
        obtain ⟨c3, c4⟩ := c2 j _ (List.getElem?_eq_getElem hlt)
        exact levelRep.mono (Keep.refl _ _) (fun b hb' => (c4 b hb').2) hR
      obtain ⟨v0, hv0, hsl⟩ := hcF
      simp only [List.cons.injEq, and_true] at hv0
      subst hv0
      obtain ⟨Ap, cp, hu, -, -, hpl, -⟩ := id hsl
      subst hu
      obtain ⟨⟨p0, p1, p2, p3, p4⟩, ⟨f0, f1, f2, f3, f4⟩⟩ := hp.five
      have HB := hid hb
      have HZ := hid hz
      have HO := hid ho
      have HP2 := hid hp
      have HQ2 := hid hq
      have HSL := hid hsl
      have HPL := hid hpl
      have HGL := hid hgl
      have HG := hid hg
      clear hb hz ho hp hq hsl hpl hR hmax p0 p1 p2 p4 f0 f1 f2 f3 f4
      have hj0 : (0 : Int) ≤ (j : Int) := Int.natCast_nonneg _
      have hj1 : (j : Int) < (ls.length : Int) := by omega
      go_wp2_with fail
      refine startJ (fun j => j == 12) (fun w' => w'.cell? ⟨w.heap.size, 3, none⟩ = some (.slice (some ⟨g, 0, none⟩) ls.length d1) ∧ w'.cell? ⟨g, j, none⟩ = some (.slice Ap (ls[j]).length cp)) (by kernel_rfl) ?_ (fun hS => ?_)
      · (first | exact ⟨p3, hcell⟩ | exact ⟨cell_later hb1 p3, cell_later hb1 hcell⟩)
      refine pureJ (i := 0) (v := ?_) rfl (by kernel_rfl) (by kernel_rfl) (by kernel_rfl) (by kernel_rfl) (fun _ _ _ h => h) (.inl ⟨by rfl, ?_⟩) hS ?_
      rotate_left
      · intro w hSw
        (try dsimp only at hSw)
        go_simp
        try with_reducible rfl
      try simp only [Act.put, List.setIfInBounds_toArray, List.set_cons_zero, List.set_cons_succ]
      refine takeJ (i := 1) (v := ?_) rfl (by kernel_rfl) (by kernel_rfl) (by kernel_rfl) (by kernel_rfl) (fun _ _ _ h => h) (.inl ⟨by rfl, ?_⟩) hS ?_
      rotate_left
      · intro w hSw
        (try dsimp only at hSw)
        go_simp
        try with_reducible rfl
      try simp only [Act.put, List.setIfInBounds_toArray, List.set_cons_zero, List.set_cons_succ]
      refine pureJ (i := 2) (v := ?_) rfl (by kernel_rfl) (by kernel_rfl) (by kernel_rfl) (by kernel_rfl) (fun _ _ _ h => h) (.inl ⟨by rfl, ?_⟩) hS ?_
      rotate_left
      · intro w hSw
        (try dsimp only at hSw)
        go_simp
        try with_reducible rfl
      try simp only [Act.put, List.setIfInBounds_toArray, List.set_cons_zero, List.set_cons_succ]
      refine pureJ (i := 3) (v := ?_) rfl (by kernel_rfl) (by kernel_rfl) (by kernel_rfl) (by kernel_rfl) (fun _ _ _ h => h) (.inl ⟨by rfl, ?_⟩) hS ?_
      rotate_left
      · intro w hSw
        (try dsimp only at hSw)
        go_simp
        try with_reducible rfl
      try simp only [Act.put, List.setIfInBounds_toArray, List.set_cons_zero, List.set_cons_succ]
      refine takeJ (i := 4) (v := ?_) rfl (by kernel_rfl) (by kernel_rfl) (by kernel_rfl) (by kernel_rfl) (fun _ _ _ h => h) (.inl ⟨by rfl, ?_⟩) hS ?_
      rotate_left
      · intro w hSw
        (try dsimp only at hSw)
        go_simp
        try with_reducible rfl
      try simp only [Act.put, List.setIfInBounds_toArray, List.set_cons_zero, List.set_cons_succ]
      refine pureJ (i := 5) (v := ?_) rfl (by kernel_rfl) (by kernel_rfl) (by kernel_rfl) (by kernel_rfl) (fun _ _ _ h => h) (.inl ⟨by rfl, ?_⟩) hS ?_
      rotate_left
      · intro w hSw
        (try dsimp only at hSw)
        go_simp
        try with_reducible rfl
      try simp only [Act.put, List.setIfInBounds_toArray, List.set_cons_zero, List.set_cons_succ]
      refine pureJ (i := 6) (v := ?_) rfl (by kernel_rfl) (by kernel_rfl) (by kernel_rfl) (by kernel_rfl) (fun _ _ _ h => h) (.inl ⟨by rfl, ?_⟩) hS ?_
      rotate_left
      · intro w hSw
        (try dsimp only at hSw)
        go_simp
        try with_reducible rfl
      try simp only [Act.put, List.setIfInBounds_toArray, List.set_cons_zero, List.set_cons_succ]
      refine pureJ (i := 7) (v := ?_) rfl (by kernel_rfl) (by kernel_rfl) (by kernel_rfl) (by kernel_rfl) (fun _ _ _ h => h) (.inl ⟨by rfl, ?_⟩) hS ?_
      rotate_left
      · intro w hSw
        (try dsimp only at hSw)
        go_simp
        try with_reducible rfl
      try simp only [Act.put, List.setIfInBounds_toArray, List.set_cons_zero, List.set_cons_succ]
      refine takeJ (i := 8) (v := ?_) rfl (by kernel_rfl) (by kernel_rfl) (by kernel_rfl) (by kernel_rfl) (fun _ _ _ h => h) (.inl ⟨by rfl, ?_⟩) hS ?_
      rotate_left
      · intro w hSw
        (try dsimp only at hSw)
        go_simp
        try with_reducible rfl
      try simp only [Act.put, List.setIfInBounds_toArray, List.set_cons_zero, List.set_cons_succ]
      refine soloJ (i := 9) (by kernel_rfl) rfl rfl (fun K hK => ?_)
      go_simp
      (refine (clone_parts Ap _ cp ls[j] (fun b => b < wr.heap.size) wr.drew (fun b hb => hb) (Rep.Sl.mono (r := partRep) (w := wr) HSL.out (fun _ _ => rfl) (fun _ h => h))).mono ?_; rintro e w1 ⟨u, cells2, rfl, hb1, hown2, hrep2⟩; obtain ⟨B2, d2, rfl⟩ := ownsRow_form hown2; have hb1 : Below wr.heap.size wr w1 := ⟨hb1.os, hb1.tape, hb1.output, hb1.size, hb1.block⟩)
      try dsimp only
      try simp only [Act.put, List.setIfInBounds_toArray, List.set_cons_zero, List.set_cons_succ]
      refine hK _ _ ?hs (fun hS2 => ?_)
      case hs => (first | exact ⟨p3, hcell⟩ | exact ⟨cell_later hb1 p3, cell_later hb1 hcell⟩)
      clear hK K hS
      have hS := hS2
      clear hS2
      refine pureJ (i := 10) (v := ?_) rfl (by kernel_rfl) (by kernel_rfl) (by kernel_rfl) (by kernel_rfl) (fun _ _ _ h => h) (.inl ⟨by rfl, ?_⟩) hS ?_
      rotate_left
      · intro w hSw
        (try dsimp only at hSw)
        go_simp
        try with_reducible rfl
      try simp only [Act.put, List.setIfInBounds_toArray, List.set_cons_zero, List.set_cons_succ]
      refine pureJ (i := 11) (v := ?_) rfl (by kernel_rfl) (by kernel_rfl) (by kernel_rfl) (by kernel_rfl) (fun _ _ _ h => h) (.inl ⟨by rfl, ?_⟩) hS ?_
      rotate_left
      · intro w hSw
        (try dsimp only at hSw)
        go_simp
        try with_reducible rfl
      try simp only [Act.put, List.setIfInBounds_toArray, List.set_cons_zero, List.set_cons_succ]
      refine lastJ (i := 12) (by kernel_rfl) rfl rfl (by kernel_rfl) (by kernel_rfl) (fun K hK => ?_)
      (obtain ⟨s1, s2⟩ := hS; have sf := (hb1.frozen (p := ⟨g, j, none⟩) HGL.out).trans hfz; go_simp)
      try simp only [Act.put, List.setIfInBounds_toArray, List.set_cons_zero, List.set_cons_succ]
      refine hK _ _ ?_
      clear hK K
      have hstep := hid (HO.out.step hlt rfl HG.out HGL.out hb1 (by simpa [partRep] using hown2) hrep2 HPL.out)
      have HB2 := hid hb1
      clear hb1 hown2 hrep2 s1 s2 sf hcell hfz p3
      go_wp2
      go_roundw
      case rel =>
        refine ⟨j + 1, by omega, by go_num, ?_, ?_, hstep.out, ?_, ?_⟩
        · exact (HB.out.trans (HB2.out.mono (by have := HZ.out; omega))).setCell (by have := HG.out; show w.heap.size ≤ g; omega) _
        · have := HB2.out.size; have := HZ.out; simp only [World.setCell, Array.size_modify]; omega
        · exact (HP2.out.grow HB2.out).far (by have := HG.out; show w.heap.size ≠ g; omega) _
        · exact (HQ2.out.grow HB2.out).far (by have := HG.out; show w.heap.size + 1 ≠ g; omega) _
      case measure => simp [intOf]; omega

    · obtain rfl : j = ls.length := by omega
      obtain ⟨⟨p0, p1, p2, p3, p4⟩, ⟨f0, f1, f2, f3, f4⟩⟩ := hp.five
      obtain ⟨⟨q0, q1, q2, q3, q4⟩, ⟨g0, g1, g2, g3, g4⟩⟩ := hq.five
      have HB := hid hb
      have HO := hid ho
      have HQ2 := hid hq
      clear hp hq hb ho
      go_wp2
      obtain ⟨⟨z0, z1, z2, z3, z4⟩, -⟩ := (((((HQ2.out.set_ 0 (.int .i64 k)).set_ 1 (.int .i64 n)).set_ 2 (.int .i64 a)).set_ 3 (.slice B1 ls.length d1)).set_ 4 (.slice Ak nk ck)).five
      refine bodyPost_ret (v := .agg #[.int .i64 k, .int .i64 n, .int .i64 a, .slice B1 ls.length d1, .slice Ak nk ck]) (by simp [results, Tryd.f32, go_sem, z0, z1, z2, z3, z4]) rfl ?_
      refine ⟨B1, d1, rfl, ?_, (HO.out.fin HLM.out).mono ?_ ?_⟩
      · exact ((((HB.out.setCell (by simp) _).setCell (by simp) _).setCell (by simp) _).setCell (by simp) _).setCell (by simp) _
      · intro b hb
        repeat rw [Below.heap_setCell _ _ _ b (by show b ≠ w.heap.size + 1; omega)]
      · intro b hb
        simp only [World.setCell, Array.size_modify]
        omega
end Go.Proofs.YtmghkfiepcomgaaDoor
