/-
  spandrellaw02: the chapter's examples.
-/
import Derived.Test.YtmghkfiepcomgaaDoorRet
set_option linter.unusedSimpArgs false
set_option linter.unusedVariables false
namespace Go.Proofs.YtmghkfiepcomgaaDoor
open Go.RowKit

def vT (n : Int) : T := .mk 1 n 0 [] []
def appT (f a : T) : T := .mk 6 0 0 [] [f, a]
def aT : T := .mk 22 3 0 [] []
def lamT (a b : T) : T := .mk 5 0 0 [] [a, b]

set_option maxHeartbeats 400000 in
theorem v_ok (X : Nat → Prop) (n : Int) (w : World) (hn : I64 n) : Calls Tryd.prog 24 #[.int .i64 n] w (Ret X (isTm (vT n)) w) := by
  go_enter Tryd.func24, Tryd.ntmps24
  go_wp2
  refine bodyPost_ret (v := .agg #[.int .i64 1, .int .i64 n, .int .i64 0, .slice none 0 0, .slice none 0 0]) (by simp [results, Tryd.f24, go_sem]) rfl ?_
  exact ⟨_, rfl, (by repeat (first | exact Below.refl _ _ | assumption | refine Below.alloc ?_ (by simp <;> omega) _ | refine Below.setCell ?_ (by simp <;> omega) _ | refine Below.drew ?_ | refine below_drewN ?_ _)), Tm.mk (i64_ 1) hn (i64_ 0) (Lvs.nil _ _) (Tms.nil _ _)⟩

set_option maxRecDepth 10000 in
set_option maxHeartbeats 1000000 in
theorem app_ok (X : Nat → Prop) (f a : T) (vf va : Value) (w : World) (hX : ∀ b, X b → b < w.heap.size) (hf : Tm X w f vf) (ha : Tm X w a va) : Calls Tryd.prog 25 #[vf, va] w (Ret X (isTm (appT f a)) w) := by
  obtain ⟨f0, f1, f2, f3, f4, rfl, hf'⟩ := hf.cells
  obtain ⟨a0, a1, a2, a3, a4, rfl, ha'⟩ := ha.cells
  have HF := hid hf'
  have HA := hid ha'
  have HX := hid hX
  clear hf ha hf' ha' hX
  go_enter Tryd.func25, Tryd.ntmps25
  go_wp2
  refine bodyPost_ret (v := .agg #[.int .i64 6, .int .i64 0, .int .i64 0, .slice none 0 0, .slice (some ⟨w.heap.size + 3, 0, none⟩) 2 2]) (by simp [results, Tryd.f25, go_sem]) rfl ?_
  have hb : Below w.heap.size w ((((w.alloc (.cells #[f0, f1, f2, f3, f4] 26)).alloc (.cells #[a0, a1, a2, a3, a4] 26)).alloc (.cells #[.int .i64 6, .int .i64 0, .int .i64 0, .slice none 0 0, .slice (some ⟨w.heap.size + 1 + 1 + 1, 0, none⟩) 2 2] 26)).alloc (.cells #[f0, f1, f2, f3, f4, a0, a1, a2, a3, a4] 26)) := (by repeat (first | exact Below.refl _ _ | assumption | refine Below.alloc ?_ (by simp <;> omega) _ | refine Below.setCell ?_ (by simp <;> omega) _ | refine Below.drew ?_ | refine below_drewN ?_ _))
  exact ⟨_, rfl, hb, Tm.mk (i64_ 6) (i64_ 0) (i64_ 0) (Lvs.nil _ _) (Tms.two (Blk.new' _ 26 _ _ (by simp)) (fun h => by have := HX.out _ h; omega) (HF.out.grow (.of hb)) (HA.out.grow (.of hb)))⟩
set_option maxRecDepth 10000 in
set_option maxHeartbeats 1000000 in
theorem lam_ok (X : Nat → Prop) (f a : T) (vf va : Value) (w : World) (hX : ∀ b, X b → b < w.heap.size) (hf : Tm X w f vf) (ha : Tm X w a va) : Calls Tryd.prog 23 #[vf, va] w (Ret X (isTm (lamT f a)) w) := by
  obtain ⟨f0, f1, f2, f3, f4, rfl, hf'⟩ := hf.cells
  obtain ⟨a0, a1, a2, a3, a4, rfl, ha'⟩ := ha.cells
  have HF := hid hf'
  have HA := hid ha'
  have HX := hid hX
  clear hf ha hf' ha' hX
  go_enter Tryd.func23, Tryd.ntmps23
  go_wp2
  refine bodyPost_ret (v := .agg #[.int .i64 5, .int .i64 0, .int .i64 0, .slice none 0 0, .slice (some ⟨w.heap.size + 3, 0, none⟩) 2 2]) (by simp [results, Tryd.f23, go_sem]) rfl ?_
  have hb : Below w.heap.size w ((((w.alloc (.cells #[f0, f1, f2, f3, f4] 26)).alloc (.cells #[a0, a1, a2, a3, a4] 26)).alloc (.cells #[.int .i64 5, .int .i64 0, .int .i64 0, .slice none 0 0, .slice (some ⟨w.heap.size + 1 + 1 + 1, 0, none⟩) 2 2] 26)).alloc (.cells #[f0, f1, f2, f3, f4, a0, a1, a2, a3, a4] 26)) := (by repeat (first | exact Below.refl _ _ | assumption | refine Below.alloc ?_ (by simp <;> omega) _ | refine Below.setCell ?_ (by simp <;> omega) _ | refine Below.drew ?_ | refine below_drewN ?_ _))
  exact ⟨_, rfl, hb, Tm.mk (i64_ 5) (i64_ 0) (i64_ 0) (Lvs.nil _ _) (Tms.two (Blk.new' _ 26 _ _ (by simp)) (fun h => by have := HX.out _ h; omega) (HF.out.grow (.of hb)) (HA.out.grow (.of hb)))⟩

theorem node_v (n : Int) (h : 0 ≤ n ∧ n ≤ 1048576) : NodeOk (vT n) := by
  have h1 := h.1
  have h2 := h.2
  simp [NodeOk, vT, T.k, T.n, T.a, T.ks, T.ls, kindRow, kindRows, h1, h2]
theorem node_app (f a : T) : NodeOk (appT f a) := by simp [NodeOk, appT, T.k, T.n, T.a, T.ks, T.ls, kindRow, kindRows]
theorem node_lam (f a : T) : NodeOk (lamT f a) := by simp [NodeOk, lamT, T.k, T.n, T.a, T.ks, T.ls, kindRow, kindRows]
theorem put_a : T.put (appT (vT 0) (vT 1)) [aT] 0 = appT aT (vT 0) := by kernel_rfl
theorem put_b : T.put (lamT (vT 0) (appT (vT 0) (vT 1))) [vT 7] 0 = lamT (vT 7) (appT (vT 0) (vT 8)) := by kernel_rfl
theorem size_b : wrap64 (lamT (vT 7) (appT (vT 0) (vT 8))).size = 5 := by kernel_rfl
theorem right_b : T.RightAt 1 (lamT (vT 7) (appT (vT 0) (vT 8))) ∧ (lamT (vT 7) (appT (vT 0) (vT 8))).size ≤ 20000 :=
  ⟨⟨by decide, node_lam _ _, ⟨by decide, node_v 7 (by decide), trivial⟩, ⟨by decide, node_app _ _, ⟨by decide, node_v 0 (by decide), trivial⟩, ⟨by decide, node_v 8 (by decide), trivial⟩, trivial⟩, trivial⟩, by decide⟩
theorem right_n : ¬ (T.RightAt 1 (.mk 6 0 0 [] []) ∧ (T.mk 6 0 0 [] []).size ≤ 20000) := fun h => by
  have := h.1.2.1.2.2.2.2.1
  revert this; decide

set_option maxRecDepth 10000 in
set_option maxHeartbeats 4000000 in
theorem awake_ok (X : Nat → Prop) (w : World) (hX : ∀ b, X b → b < w.heap.size) (hL : Lk w) : Calls Tryd.prog 6 #[] w (Ret X (isV (.bool true)) w) := by
  have HL := hid hL
  have HX := hid hX
  clear hL hX
  go_enter Tryd.func6, Tryd.ntmps6
  go_upto_region 2 with (fail)
  have hA := Blk.new w 26 [.int .i64 22, .int .i64 3, .int .i64 0, .slice none 0 0, .slice none 0 0]
  have hbA : Below w.heap.size w (w.alloc (.cells #[.int .i64 22, .int .i64 3, .int .i64 0, .slice none 0 0, .slice none 0 0] 26)) := (by repeat (first | exact Below.refl _ _ | assumption | refine Below.alloc ?_ (by simp <;> omega) _ | refine Below.setCell ?_ (by simp <;> omega) _ | refine Below.drew ?_ | refine below_drewN ?_ _))
  have hzA : (w.alloc (.cells #[.int .i64 22, .int .i64 3, .int .i64 0, .slice none 0 0, .slice none 0 0] 26)).heap.size = w.heap.size + 1 := by simp
  generalize w.alloc (.cells #[.int .i64 22, .int .i64 3, .int .i64 0, .slice none 0 0, .slice none 0 0] 26) = wA at *
  have hX2 : ∀ b, (X b ∨ b = w.heap.size) → b < wA.heap.size := fun b hb => by
    rcases hb with hb | hb
    · have := HX.out b hb; omega
    · omega
  refine seqInv (X := fun b => X b ∨ b = w.heap.size) 10 ((fun x0 x1 x3 x12 x13 x14 x15 x16 x17 x18 x19 x20 x21 x22 x23 x24 x25 x26 x27 x28 x29 x30 x31 x32 x33 x34 x35 x36 x37 x38 x39 x40 x41 x42 x43 x44 (_ : Unit) => fun u => Act.mk #[x0, x1, u 8, x3, u 0, u 1, u 2, u 3, u 4, u 5, u 6, u 7, x12, x13, x14, x15, x16, x17, x18, x19, x20, x21, x22, x23, x24, x25, x26, x27, x28, x29, x30, x31, x32, x33, x34, x35, x36, x37, x38, x39, x40, x41, x42, x43, x44] []) _ _ _ _ _ _ _ _ _ _ _ _ _ _ _ _ _ _ _ _ _ _ _ _ _ _ _ _ _ _ _ _ _ _ _ _ ()) (fun i d => match i with | 0 => isTm (vT 0) | 1 => isTm (vT 0) | 2 => isTm (vT 1) | 3 => isTm (appT (vT 0) (vT 1)) | 4 => isTm (lamT (vT 0) (appT (vT 0) (vT 1))) | 5 => isTm (vT 7) | 6 => isTms [vT 7] | 7 => isTm (T.put (lamT (vT 0) (appT (vT 0) (vT 1))) [vT 7] 0) | 8 => isNew wA.heap.size 26 [.int .i64 0, .int .i64 0, .int .i64 0, .slice none 0 0, .slice none 0 0] | 9 => noV | _ => anyV) ((fun y0 y1 y2 y3 y4 y5 y6 y7 y8 (_ : Unit) => fun k => match k with | 0 => y0 | 1 => y1 | 2 => y2 | 3 => y3 | 4 => y4 | 5 => y5 | 6 => y6 | 7 => y7 | 8 => y8 | _ => undef) _ _ _ _ _ _ _ _ _ ()) rfl rfl (steps_next (steps_next (steps_next (steps_next (steps_next (steps_next (steps_next (steps_next (steps_next (steps_next steps_end ?_) ?_) ?_) ?_) ?_) ?_) ?_) ?_) ?_) ?_) (fun u X w hB h => ((h 9 (by decide) : False)).elim)
  · refine stepCall rfl rfl (fun _ _ => rfl) ?_
    intro u2 X2 W2 hB hd
    clear hd
    go_light
    have hXW := hB.lt hX2
    refine ⟨24, #[(Value.int IntKind.i64 0)], exec_call _ rfl rfl (by first | rfl | (simp only [*]; rfl)) (by kernel_rfl), ?_⟩
    · refine (v_ok X2 0 _ (i64_ 0)).mono ?_
      rintro e w1 ⟨v1, rfl, hb1, hr1⟩
      exact ⟨v1, X2, rfl, .of hb1, hr1⟩
  · refine stepCall rfl rfl (fun _ _ => rfl) ?_
    intro u2 X2 W2 hB hd
    have r2_0 : Tm X2 W2 (vT 0) (u2 0) := hd 0 (by decide)
    clear hd
    go_light
    have hXW := hB.lt hX2
    refine ⟨24, #[(Value.int IntKind.i64 0)], exec_call _ rfl rfl (by first | rfl | (simp only [*]; rfl)) (by kernel_rfl), ?_⟩
    · refine (v_ok X2 0 _ (i64_ 0)).mono ?_
      rintro e w1 ⟨v1, rfl, hb1, hr1⟩
      exact ⟨v1, X2, rfl, .of hb1, hr1⟩
  · refine stepCall rfl rfl (fun _ _ => rfl) ?_
    intro u2 X2 W2 hB hd
    have r2_1 : Tm X2 W2 (vT 0) (u2 1) := hd 1 (by decide)
    clear hd
    go_light
    have hXW := hB.lt hX2
    refine ⟨24, #[(Value.int IntKind.i64 1)], exec_call _ rfl rfl (by first | rfl | (simp only [*]; rfl)) (by kernel_rfl), ?_⟩
    · refine (v_ok X2 1 _ (i64_ 1)).mono ?_
      rintro e w1 ⟨v1, rfl, hb1, hr1⟩
      exact ⟨v1, X2, rfl, .of hb1, hr1⟩
  · refine stepCall rfl rfl (fun _ _ => rfl) ?_
    intro u2 X2 W2 hB hd
    have r2_1 : Tm X2 W2 (vT 0) (u2 1) := hd 1 (by decide)
    have r2_2 : Tm X2 W2 (vT 1) (u2 2) := hd 2 (by decide)
    clear hd
    go_light
    have hXW := hB.lt hX2
    refine ⟨25, #[u2 1, u2 2], exec_call _ rfl rfl (by first | rfl | (simp only [*]; rfl)) (by kernel_rfl), ?_⟩
    · refine (app_ok _ _ _ _ _ _ hXW r2_1 r2_2).mono ?_
      rintro e w1 ⟨v1, rfl, hb1, hr1⟩
      exact ⟨v1, X2, rfl, .of hb1, hr1⟩
  · refine stepCall rfl rfl (fun _ _ => rfl) ?_
    intro u2 X2 W2 hB hd
    have r2_0 : Tm X2 W2 (vT 0) (u2 0) := hd 0 (by decide)
    have r2_3 : Tm X2 W2 (appT (vT 0) (vT 1)) (u2 3) := hd 3 (by decide)
    clear hd
    go_light
    have hXW := hB.lt hX2
    refine ⟨23, #[u2 0, u2 3], exec_call _ rfl rfl (by first | rfl | (simp only [*]; rfl)) (by kernel_rfl), ?_⟩
    · refine (lam_ok _ _ _ _ _ _ hXW r2_0 r2_3).mono ?_
      rintro e w1 ⟨v1, rfl, hb1, hr1⟩
      exact ⟨v1, X2, rfl, .of hb1, hr1⟩
  · refine stepCall rfl rfl (fun _ _ => rfl) ?_
    intro u2 X2 W2 hB hd
    have r2_4 : Tm X2 W2 (lamT (vT 0) (appT (vT 0) (vT 1))) (u2 4) := hd 4 (by decide)
    clear hd
    go_light
    have hXW := hB.lt hX2
    refine ⟨24, #[(Value.int IntKind.i64 7)], exec_call _ rfl rfl (by first | rfl | (simp only [*]; rfl)) (by kernel_rfl), ?_⟩
    · refine (v_ok X2 7 _ (i64_ 7)).mono ?_
      rintro e w1 ⟨v1, rfl, hb1, hr1⟩
      exact ⟨v1, X2, rfl, .of hb1, hr1⟩
  · refine stepRun rfl rfl (fun _ _ => rfl) ?_
    intro u2 X2 W2 hB hd
    have r2_5 : Tm X2 W2 (vT 7) (u2 5) := hd 5 (by decide)
    clear hd
    go_light
    obtain ⟨a0, a1, a2, a3, a4, ea, ha⟩ := r2_5.cells
    have hb1 := Ext.new_ (X := X2) (w := W2) 26 [a0, a1, a2, a3, a4]
    exact ⟨.slice (some ⟨W2.heap.size, 0, none⟩) 1 1, _, _, by go_simp, hb1, Tms.one (Blk.new' _ 26 _ _ rfl) (fun h => by have := hB.lt hX2 _ h; omega) (ha.grow hb1)⟩
  · refine stepCall rfl rfl (fun _ _ => rfl) ?_
    intro u2 X2 W2 hB hd
    have r2_4 : Tm X2 W2 (lamT (vT 0) (appT (vT 0) (vT 1))) (u2 4) := hd 4 (by decide)
    have r2_5 : Tm X2 W2 (vT 7) (u2 5) := hd 5 (by decide)
    have r2_6 : Tms X2 W2 [vT 7] (u2 6) := hd 6 (by decide)
    clear hd
    go_light
    have hXW := hB.lt hX2
    refine ⟨11, #[u2 4, u2 6], exec_call _ rfl rfl (by first | rfl | (simp only [*]; rfl)) (by kernel_rfl), ?_⟩
    · refine (put_ok' hXW ((HL.out.grow hbA).grow hB.bel) _ _ _ _ (by decide) (by decide) r2_4 r2_6).mono ?_
      rintro e w1 ⟨v1, rfl, hb1, hr1⟩
      exact ⟨v1, X2, rfl, .of hb1, hr1⟩
  · refine stepRun rfl rfl (fun _ _ => rfl) ?_
    intro u2 X2 W2 hB hd
    clear hd
    go_light
    exact ⟨_, _, _, by go_simp, Ext.alloc _ _ _, isNew.mk _ _ hB.bel.size⟩
  refine stepLast rfl rfl (by kernel_rfl) ?_
  intro u2 X2 W2 hB hd K hK
  have hXW := hB.lt hX2
  have r2_0 : Tm X2 W2 (vT 0) (u2 0) := hd 0 (by decide)
  have r2_1 : Tm X2 W2 (vT 0) (u2 1) := hd 1 (by decide)
  have r2_2 : Tm X2 W2 (vT 1) (u2 2) := hd 2 (by decide)
  have r2_3 : Tm X2 W2 (appT (vT 0) (vT 1)) (u2 3) := hd 3 (by decide)
  have r2_4 : Tm X2 W2 (lamT (vT 0) (appT (vT 0) (vT 1))) (u2 4) := hd 4 (by decide)
  have r2_5 : Tm X2 W2 (vT 7) (u2 5) := hd 5 (by decide)
  have r2_6 : Tms X2 W2 [vT 7] (u2 6) := hd 6 (by decide)
  have r2_7 : Tm X2 W2 (T.put (lamT (vT 0) (appT (vT 0) (vT 1))) [vT 7] 0) (u2 7) := hd 7 (by decide)
  have r2_8 : Rv.P (isNew wA.heap.size 26 [.int .i64 0, .int .i64 0, .int .i64 0, .slice none 0 0, .slice none 0 0]) (u2 8) X2 W2 := hd 8 (by decide)
  clear hd
  obtain ⟨g2, eg, hg2, hXg2, hblk⟩ := id r2_8
  obtain ⟨Al2, cl2, Ak2, ck2, et, ht⟩ := (id r2_7).form
  obtain ⟨⟨q0, q1, q2, q3, q4⟩, ⟨z0, z1, z2, z3, z4⟩⟩ := hblk.five
  go_simp
  refine hK _ _ ?_
  clear hK K q0 q1 q2 q3 q4 z0 z1 z2 z3 z4 eg et
  have hE2 := hB.fiveSet hg2 (.int .i64 (T.put (lamT (vT 0) (appT (vT 0) (vT 1))) [vT 7] 0).k) (.int .i64 (T.put (lamT (vT 0) (appT (vT 0) (vT 1))) [vT 7] 0).n) (.int .i64 (T.put (lamT (vT 0) (appT (vT 0) (vT 1))) [vT 7] 0).a) (.slice Al2 (T.put (lamT (vT 0) (appT (vT 0) (vT 1))) [vT 7] 0).ls.length cl2) (.slice Ak2 (T.put (lamT (vT 0) (appT (vT 0) (vT 1))) [vT 7] 0).ks.length ck2)
  have hS2 := hblk.fiveSet (.int .i64 (T.put (lamT (vT 0) (appT (vT 0) (vT 1))) [vT 7] 0).k) (.int .i64 (T.put (lamT (vT 0) (appT (vT 0) (vT 1))) [vT 7] 0).n) (.int .i64 (T.put (lamT (vT 0) (appT (vT 0) (vT 1))) [vT 7] 0).a) (.slice Al2 (T.put (lamT (vT 0) (appT (vT 0) (vT 1))) [vT 7] 0).ls.length cl2) (.slice Ak2 (T.put (lamT (vT 0) (appT (vT 0) (vT 1))) [vT 7] 0).ks.length ck2)
  have hT2 := ht.fiveSet hXg2 (.int .i64 (T.put (lamT (vT 0) (appT (vT 0) (vT 1))) [vT 7] 0).k) (.int .i64 (T.put (lamT (vT 0) (appT (vT 0) (vT 1))) [vT 7] 0).n) (.int .i64 (T.put (lamT (vT 0) (appT (vT 0) (vT 1))) [vT 7] 0).a) (.slice Al2 (T.put (lamT (vT 0) (appT (vT 0) (vT 1))) [vT 7] 0).ls.length cl2) (.slice Ak2 (T.put (lamT (vT 0) (appT (vT 0) (vT 1))) [vT 7] 0).ks.length ck2)
  have hXE2 := hE2.lt hX2
  clear ht hblk hB hXW r2_0 r2_1 r2_2 r2_3 r2_4 r2_5 r2_6 r2_7 r2_8
  change Exit.then _ _ _ _ (set5 W2 g2 _ _ _ _ _)
  generalize set5 W2 g2 (.int .i64 (T.put (lamT (vT 0) (appT (vT 0) (vT 1))) [vT 7] 0).k) (.int .i64 (T.put (lamT (vT 0) (appT (vT 0) (vT 1))) [vT 7] 0).n) (.int .i64 (T.put (lamT (vT 0) (appT (vT 0) (vT 1))) [vT 7] 0).a) (.slice Al2 (T.put (lamT (vT 0) (appT (vT 0) (vT 1))) [vT 7] 0).ls.length cl2) (.slice Ak2 (T.put (lamT (vT 0) (appT (vT 0) (vT 1))) [vT 7] 0).ks.length ck2) = V2 at *
  generalize hput : T.put (lamT (vT 0) (appT (vT 0) (vT 1))) [vT 7] 0 = bT at *
  have hX3 := hXE2
  have HPUT := hid (hput.symm.trans put_b)
  clear hput
  go_upto_region 3 with (fail)
  refine anyInv (X := X2) 34 ((fun x1 x2 x3 x4 x5 x6 x7 x8 x9 x10 x11 (_ : Unit) => fun u => Act.mk #[u 33, x1, x2, x3, x4, x5, x6, x7, x8, x9, x10, x11, u 0, u 1, u 2, u 3, u 4, u 5, u 6, u 7, u 8, u 9, u 10, u 11, u 12, u 13, u 14, u 15, u 16, u 17, u 18, u 19, u 20, u 21, u 22, u 23, u 24, u 25, u 26, u 27, u 28, u 29, u 30, u 31, u 32] []) _ _ _ _ _ _ _ _ _ _ _ ()) (fun i d => match i with | 0 => isTm (vT 0) | 1 => isTm (vT 1) | 2 => isTm (appT (vT 0) (vT 1)) | 3 => isTm aT | 4 => isTms [aT] | 5 => isTm (T.put (appT (vT 0) (vT 1)) [aT] 0) | 6 => isTm aT | 7 => isTm (vT 0) | 8 => isTm (appT aT (vT 0)) | 9 => isV (.bool true) | 10 => isV (.bool true) | 11 => isTm bT | 12 => isTm (vT 7) | 13 => isTm (vT 0) | 14 => isTm (vT 8) | 15 => isTm (appT (vT 0) (vT 8)) | 16 => isTm (lamT (vT 7) (appT (vT 0) (vT 8))) | 17 => isV (.bool true) | 18 => isV (.bool true) | 19 => isV (.bool true) | 20 => isTm bT | 21 => isV (.bool true) | 22 => isV (.bool true) | 23 => isV (.bool true) | 24 => isTm (.mk 6 0 0 [] []) | 25 => isV (.bool false) | 26 => isV (.bool true) | 27 => isV (.bool true) | 28 => isV (.bool true) | 29 => isTm bT | 30 => isV (.int .i64 5) | 31 => isV (.bool true) | 32 => isV (.bool true) | 33 => isV (.bool true) | _ => anyV) ((fun y0 y1 y2 y3 y4 y5 y6 y7 y8 y9 y10 y11 y12 y13 y14 y15 y16 y17 y18 y19 y20 y21 y22 y23 y24 y25 y26 y27 y28 y29 y30 y31 y32 y33 (_ : Unit) => fun k => match k with | 0 => y0 | 1 => y1 | 2 => y2 | 3 => y3 | 4 => y4 | 5 => y5 | 6 => y6 | 7 => y7 | 8 => y8 | 9 => y9 | 10 => y10 | 11 => y11 | 12 => y12 | 13 => y13 | 14 => y14 | 15 => y15 | 16 => y16 | 17 => y17 | 18 => y18 | 19 => y19 | 20 => y20 | 21 => y21 | 22 => y22 | 23 => y23 | 24 => y24 | 25 => y25 | 26 => y26 | 27 => y27 | 28 => y28 | 29 => y29 | 30 => y30 | 31 => y31 | 32 => y32 | 33 => y33 | _ => undef) _ _ _ _ _ _ _ _ _ _ _ _ _ _ _ _ _ _ _ _ _ _ _ _ _ _ _ _ _ _ _ _ _ _ ()) (by kernel_rfl) rfl rfl (by kernel_rfl) (steps_next (steps_next (steps_next (steps_next (steps_next (steps_next (steps_next (steps_next (steps_next (steps_next (steps_next (steps_next (steps_next (steps_next (steps_next (steps_next (steps_next (steps_next (steps_next (steps_next (steps_next (steps_next (steps_next (steps_next (steps_next (steps_next (steps_next (steps_next (steps_next (steps_next (steps_next (steps_next (steps_next (steps_next steps_end ?_) ?_) ?_) ?_) ?_) ?_) ?_) ?_) ?_) ?_) ?_) ?_) ?_) ?_) ?_) ?_) ?_) ?_) ?_) ?_) ?_) ?_) ?_) ?_) ?_) ?_) ?_) ?_) ?_) ?_) ?_) ?_) ?_) ?_) ?_
  · refine stepCall rfl rfl (fun _ _ => rfl) ?_
    intro u3 X3 W3 hB hd
    clear hd
    go_light
    have hXW := hB.lt hX3
    have hA3 := (hA.grow hE2.bel).grow hB.bel; have hS3 := hS2.grow hB.bel; obtain ⟨⟨x0, x1, x2, x3, x4⟩, -⟩ := hA3.five; obtain ⟨⟨y0, y1, y2, y3, y4⟩, -⟩ := hS3.five
    refine ⟨24, #[(Value.int IntKind.i64 0)], exec_call _ rfl rfl (by first | rfl | (simp only [*]; rfl)) (by kernel_rfl), ?_⟩
    · refine (v_ok X3 0 _ (i64_ 0)).mono ?_
      rintro e w1 ⟨v1, rfl, hb1, hr1⟩
      exact ⟨v1, X3, rfl, .of hb1, hr1⟩
  · refine stepCall rfl rfl (fun _ _ => rfl) ?_
    intro u3 X3 W3 hB hd
    have r3_0 : Tm X3 W3 (vT 0) (u3 0) := hd 0 (by kernel_rfl)
    clear hd
    go_light
    have hXW := hB.lt hX3
    have hA3 := (hA.grow hE2.bel).grow hB.bel; have hS3 := hS2.grow hB.bel; obtain ⟨⟨x0, x1, x2, x3, x4⟩, -⟩ := hA3.five; obtain ⟨⟨y0, y1, y2, y3, y4⟩, -⟩ := hS3.five
    refine ⟨24, #[(Value.int IntKind.i64 1)], exec_call _ rfl rfl (by first | rfl | (simp only [*]; rfl)) (by kernel_rfl), ?_⟩
    · refine (v_ok X3 1 _ (i64_ 1)).mono ?_
      rintro e w1 ⟨v1, rfl, hb1, hr1⟩
      exact ⟨v1, X3, rfl, .of hb1, hr1⟩
  · refine stepCall rfl rfl (fun _ _ => rfl) ?_
    intro u3 X3 W3 hB hd
    have r3_0 : Tm X3 W3 (vT 0) (u3 0) := hd 0 (by kernel_rfl)
    have r3_1 : Tm X3 W3 (vT 1) (u3 1) := hd 1 (by kernel_rfl)
    clear hd
    go_light
    have hXW := hB.lt hX3
    have hA3 := (hA.grow hE2.bel).grow hB.bel; have hS3 := hS2.grow hB.bel; obtain ⟨⟨x0, x1, x2, x3, x4⟩, -⟩ := hA3.five; obtain ⟨⟨y0, y1, y2, y3, y4⟩, -⟩ := hS3.five
    refine ⟨25, #[u3 0, u3 1], exec_call _ rfl rfl (by first | rfl | (simp only [*]; rfl)) (by kernel_rfl), ?_⟩
    · refine (app_ok _ _ _ _ _ _ hXW r3_0 r3_1).mono ?_
      rintro e w1 ⟨v1, rfl, hb1, hr1⟩
      exact ⟨v1, X3, rfl, .of hb1, hr1⟩
  · refine stepRun rfl rfl (fun _ _ => rfl) ?_
    intro u3 X3 W3 hB hd
    clear hd
    go_light
    have hA3 := (hA.grow hE2.bel).grow hB.bel; have hS3 := hS2.grow hB.bel; obtain ⟨⟨x0, x1, x2, x3, x4⟩, -⟩ := hA3.five; obtain ⟨⟨y0, y1, y2, y3, y4⟩, -⟩ := hS3.five
    exact ⟨_, X3, W3, by go_simp, Ext.refl _ _, Tm.mk (i64_ 22) (i64_ 3) (i64_ 0) (Lvs.nil _ _) (Tms.nil _ _)⟩
  · refine stepRun rfl rfl (fun _ _ => rfl) ?_
    intro u3 X3 W3 hB hd
    have r3_3 : Tm X3 W3 aT (u3 3) := hd 3 (by kernel_rfl)
    clear hd
    go_light
    obtain ⟨a0, a1, a2, a3, a4, ea, ha⟩ := r3_3.cells
    have hb1 := Ext.new_ (X := X3) (w := W3) 26 [a0, a1, a2, a3, a4]
    exact ⟨.slice (some ⟨W3.heap.size, 0, none⟩) 1 1, _, _, by go_simp, hb1, Tms.one (Blk.new' _ 26 _ _ rfl) (fun h => by have := hB.lt hX3 _ h; omega) (ha.grow hb1)⟩
  · refine stepCall rfl rfl (fun _ _ => rfl) ?_
    intro u3 X3 W3 hB hd
    have r3_2 : Tm X3 W3 (appT (vT 0) (vT 1)) (u3 2) := hd 2 (by kernel_rfl)
    have r3_4 : Tms X3 W3 [aT] (u3 4) := hd 4 (by kernel_rfl)
    clear hd
    go_light
    have hXW := hB.lt hX3
    have hA3 := (hA.grow hE2.bel).grow hB.bel; have hS3 := hS2.grow hB.bel; obtain ⟨⟨x0, x1, x2, x3, x4⟩, -⟩ := hA3.five; obtain ⟨⟨y0, y1, y2, y3, y4⟩, -⟩ := hS3.five
    refine ⟨11, #[u3 2, u3 4], exec_call _ rfl rfl (by first | rfl | (simp only [*]; rfl)) (by kernel_rfl), ?_⟩
    · refine (put_ok' hXW (((HL.out.grow hbA).grow hE2.bel).grow hB.bel) _ _ _ _ (by decide) (by decide) r3_2 r3_4).mono ?_
      rintro e w1 ⟨v1, rfl, hb1, hr1⟩
      exact ⟨v1, X3, rfl, .of hb1, hr1⟩
  · refine stepRun rfl rfl (fun _ _ => rfl) ?_
    intro u3 X3 W3 hB hd
    clear hd
    go_light
    have hA3 := (hA.grow hE2.bel).grow hB.bel; have hS3 := hS2.grow hB.bel; obtain ⟨⟨x0, x1, x2, x3, x4⟩, -⟩ := hA3.five; obtain ⟨⟨y0, y1, y2, y3, y4⟩, -⟩ := hS3.five
    exact ⟨_, X3, W3, by go_simp, Ext.refl _ _, Tm.mk (i64_ 22) (i64_ 3) (i64_ 0) (Lvs.nil _ _) (Tms.nil _ _)⟩
  · refine stepCall rfl rfl (fun _ _ => rfl) ?_
    intro u3 X3 W3 hB hd
    have r3_5 : Tm X3 W3 (T.put (appT (vT 0) (vT 1)) [aT] 0) (u3 5) := hd 5 (by kernel_rfl)
    clear hd
    go_light
    have hXW := hB.lt hX3
    have hA3 := (hA.grow hE2.bel).grow hB.bel; have hS3 := hS2.grow hB.bel; obtain ⟨⟨x0, x1, x2, x3, x4⟩, -⟩ := hA3.five; obtain ⟨⟨y0, y1, y2, y3, y4⟩, -⟩ := hS3.five
    refine ⟨24, #[(Value.int IntKind.i64 0)], exec_call _ rfl rfl (by first | rfl | (simp only [*]; rfl)) (by kernel_rfl), ?_⟩
    · refine (v_ok X3 0 _ (i64_ 0)).mono ?_
      rintro e w1 ⟨v1, rfl, hb1, hr1⟩
      exact ⟨v1, X3, rfl, .of hb1, hr1⟩
  · refine stepCall rfl rfl (fun _ _ => rfl) ?_
    intro u3 X3 W3 hB hd
    have r3_6 : Tm X3 W3 aT (u3 6) := hd 6 (by kernel_rfl)
    have r3_7 : Tm X3 W3 (vT 0) (u3 7) := hd 7 (by kernel_rfl)
    clear hd
    go_light
    have hXW := hB.lt hX3
    have hA3 := (hA.grow hE2.bel).grow hB.bel; have hS3 := hS2.grow hB.bel; obtain ⟨⟨x0, x1, x2, x3, x4⟩, -⟩ := hA3.five; obtain ⟨⟨y0, y1, y2, y3, y4⟩, -⟩ := hS3.five
    refine ⟨25, #[u3 6, u3 7], exec_call _ rfl rfl (by first | rfl | (simp only [*]; rfl)) (by kernel_rfl), ?_⟩
    · refine (app_ok _ _ _ _ _ _ hXW r3_6 r3_7).mono ?_
      rintro e w1 ⟨v1, rfl, hb1, hr1⟩
      exact ⟨v1, X3, rfl, .of hb1, hr1⟩
  · refine stepCall rfl rfl (fun _ _ => rfl) ?_
    intro u3 X3 W3 hB hd
    have r3_5 : Tm X3 W3 (T.put (appT (vT 0) (vT 1)) [aT] 0) (u3 5) := hd 5 (by kernel_rfl)
    have r3_8 : Tm X3 W3 (appT aT (vT 0)) (u3 8) := hd 8 (by kernel_rfl)
    clear hd
    go_light
    have hXW := hB.lt hX3
    have hA3 := (hA.grow hE2.bel).grow hB.bel; have hS3 := hS2.grow hB.bel; obtain ⟨⟨x0, x1, x2, x3, x4⟩, -⟩ := hA3.five; obtain ⟨⟨y0, y1, y2, y3, y4⟩, -⟩ := hS3.five
    refine ⟨10, #[u3 5, u3 8], exec_call _ rfl rfl (by first | rfl | (simp only [*]; rfl)) (by kernel_rfl), ?_⟩
    · refine (same_ok' _ _ _ _ r3_5 r3_8).mono ?_
      rintro e w1 ⟨v1, rfl, hb1, hr1⟩
      exact ⟨v1, X3, rfl, .of hb1, isB.yes (X := X3) (w := w1) hr1 put_a⟩
  · refine stepRun rfl rfl (fun _ _ => rfl) ?_
    intro u3 X3 W3 hB hd
    have r3_9 : u3 9 = (.bool true) := hd 9 (by kernel_rfl)
    clear hd
    go_light
    exact ⟨u3 9, X3, W3, rfl, Ext.refl _ _, r3_9⟩
  · refine stepRunG rfl (fun _ _ => rfl) ?_
    intro u3 X3 W3 hB hd
    have r3_10 : u3 10 = (.bool true) := hd 10 (by kernel_rfl)
    clear hd
    go_light
    have hA3 := (hA.grow hE2.bel).grow hB.bel; have hS3 := hS2.grow hB.bel; obtain ⟨⟨x0, x1, x2, x3, x4⟩, -⟩ := hA3.five; obtain ⟨⟨y0, y1, y2, y3, y4⟩, -⟩ := hS3.five
    refine .inl ⟨(by simp only [Region.wanted, yielded]; simp [*]; done), ?_⟩
    exact ⟨_, X3, W3, by go_simp, Ext.refl _ _, hT2.grow hB⟩
  · refine stepCallG rfl (fun _ _ => rfl) ?_
    intro u3 X3 W3 hB hd
    have r3_10 : u3 10 = (.bool true) := hd 10 (by kernel_rfl)
    clear hd
    go_light
    have hXW := hB.lt hX3
    have hA3 := (hA.grow hE2.bel).grow hB.bel; have hS3 := hS2.grow hB.bel; obtain ⟨⟨x0, x1, x2, x3, x4⟩, -⟩ := hA3.five; obtain ⟨⟨y0, y1, y2, y3, y4⟩, -⟩ := hS3.five
    refine .inl ⟨(by simp only [Region.wanted, yielded]; simp [*]; done), ?_⟩
    refine ⟨24, #[(Value.int IntKind.i64 7)], exec_call _ rfl rfl (by first | rfl | (simp only [*]; rfl)) (by kernel_rfl), ?_⟩
    · refine (v_ok X3 7 _ (i64_ 7)).mono ?_
      rintro e w1 ⟨v1, rfl, hb1, hr1⟩
      exact ⟨v1, X3, rfl, .of hb1, hr1⟩
  · refine stepCallG rfl (fun _ _ => rfl) ?_
    intro u3 X3 W3 hB hd
    have r3_10 : u3 10 = (.bool true) := hd 10 (by kernel_rfl)
    have r3_12 : Tm X3 W3 (vT 7) (u3 12) := hd 12 (by kernel_rfl)
    clear hd
    go_light
    have hXW := hB.lt hX3
    have hA3 := (hA.grow hE2.bel).grow hB.bel; have hS3 := hS2.grow hB.bel; obtain ⟨⟨x0, x1, x2, x3, x4⟩, -⟩ := hA3.five; obtain ⟨⟨y0, y1, y2, y3, y4⟩, -⟩ := hS3.five
    refine .inl ⟨(by simp only [Region.wanted, yielded]; simp [*]; done), ?_⟩
    refine ⟨24, #[(Value.int IntKind.i64 0)], exec_call _ rfl rfl (by first | rfl | (simp only [*]; rfl)) (by kernel_rfl), ?_⟩
    · refine (v_ok X3 0 _ (i64_ 0)).mono ?_
      rintro e w1 ⟨v1, rfl, hb1, hr1⟩
      exact ⟨v1, X3, rfl, .of hb1, hr1⟩
  · refine stepCallG rfl (fun _ _ => rfl) ?_
    intro u3 X3 W3 hB hd
    have r3_10 : u3 10 = (.bool true) := hd 10 (by kernel_rfl)
    have r3_13 : Tm X3 W3 (vT 0) (u3 13) := hd 13 (by kernel_rfl)
    clear hd
    go_light
    have hXW := hB.lt hX3
    have hA3 := (hA.grow hE2.bel).grow hB.bel; have hS3 := hS2.grow hB.bel; obtain ⟨⟨x0, x1, x2, x3, x4⟩, -⟩ := hA3.five; obtain ⟨⟨y0, y1, y2, y3, y4⟩, -⟩ := hS3.five
    refine .inl ⟨(by simp only [Region.wanted, yielded]; simp [*]; done), ?_⟩
    refine ⟨24, #[(Value.int IntKind.i64 8)], exec_call _ rfl rfl (by first | rfl | (simp only [*]; rfl)) (by kernel_rfl), ?_⟩
    · refine (v_ok X3 8 _ (i64_ 8)).mono ?_
      rintro e w1 ⟨v1, rfl, hb1, hr1⟩
      exact ⟨v1, X3, rfl, .of hb1, hr1⟩
  · refine stepCallG rfl (fun _ _ => rfl) ?_
    intro u3 X3 W3 hB hd
    have r3_10 : u3 10 = (.bool true) := hd 10 (by kernel_rfl)
    have r3_13 : Tm X3 W3 (vT 0) (u3 13) := hd 13 (by kernel_rfl)
    have r3_14 : Tm X3 W3 (vT 8) (u3 14) := hd 14 (by kernel_rfl)
    clear hd
    go_light
    have hXW := hB.lt hX3
    have hA3 := (hA.grow hE2.bel).grow hB.bel; have hS3 := hS2.grow hB.bel; obtain ⟨⟨x0, x1, x2, x3, x4⟩, -⟩ := hA3.five; obtain ⟨⟨y0, y1, y2, y3, y4⟩, -⟩ := hS3.five
    refine .inl ⟨(by simp only [Region.wanted, yielded]; simp [*]; done), ?_⟩
    refine ⟨25, #[u3 13, u3 14], exec_call _ rfl rfl (by first | rfl | (simp only [*]; rfl)) (by kernel_rfl), ?_⟩
    · refine (app_ok _ _ _ _ _ _ hXW r3_13 r3_14).mono ?_
      rintro e w1 ⟨v1, rfl, hb1, hr1⟩
      exact ⟨v1, X3, rfl, .of hb1, hr1⟩
  · refine stepCallG rfl (fun _ _ => rfl) ?_
    intro u3 X3 W3 hB hd
    have r3_10 : u3 10 = (.bool true) := hd 10 (by kernel_rfl)
    have r3_12 : Tm X3 W3 (vT 7) (u3 12) := hd 12 (by kernel_rfl)
    have r3_15 : Tm X3 W3 (appT (vT 0) (vT 8)) (u3 15) := hd 15 (by kernel_rfl)
    clear hd
    go_light
    have hXW := hB.lt hX3
    have hA3 := (hA.grow hE2.bel).grow hB.bel; have hS3 := hS2.grow hB.bel; obtain ⟨⟨x0, x1, x2, x3, x4⟩, -⟩ := hA3.five; obtain ⟨⟨y0, y1, y2, y3, y4⟩, -⟩ := hS3.five
    refine .inl ⟨(by simp only [Region.wanted, yielded]; simp [*]; done), ?_⟩
    refine ⟨23, #[u3 12, u3 15], exec_call _ rfl rfl (by first | rfl | (simp only [*]; rfl)) (by kernel_rfl), ?_⟩
    · refine (lam_ok _ _ _ _ _ _ hXW r3_12 r3_15).mono ?_
      rintro e w1 ⟨v1, rfl, hb1, hr1⟩
      exact ⟨v1, X3, rfl, .of hb1, hr1⟩
  · refine stepCallG rfl (fun _ _ => rfl) ?_
    intro u3 X3 W3 hB hd
    have r3_10 : u3 10 = (.bool true) := hd 10 (by kernel_rfl)
    have r3_11 : Tm X3 W3 bT (u3 11) := hd 11 (by kernel_rfl)
    have r3_16 : Tm X3 W3 (lamT (vT 7) (appT (vT 0) (vT 8))) (u3 16) := hd 16 (by kernel_rfl)
    clear hd
    go_light
    have hXW := hB.lt hX3
    have hA3 := (hA.grow hE2.bel).grow hB.bel; have hS3 := hS2.grow hB.bel; obtain ⟨⟨x0, x1, x2, x3, x4⟩, -⟩ := hA3.five; obtain ⟨⟨y0, y1, y2, y3, y4⟩, -⟩ := hS3.five
    refine .inl ⟨(by simp only [Region.wanted, yielded]; simp [*]; done), ?_⟩
    refine ⟨10, #[u3 11, u3 16], exec_call _ rfl rfl (by first | rfl | (simp only [*]; rfl)) (by kernel_rfl), ?_⟩
    · refine (same_ok' _ _ _ _ r3_11 r3_16).mono ?_
      rintro e w1 ⟨v1, rfl, hb1, hr1⟩
      exact ⟨v1, X3, rfl, .of hb1, isB.yes (X := X3) (w := w1) hr1 HPUT.out⟩
  · refine stepRun rfl rfl (fun _ _ => rfl) ?_
    intro u3 X3 W3 hB hd
    have r3_10 : u3 10 = (.bool true) := hd 10 (by kernel_rfl)
    have r3_17 : u3 17 = (.bool true) := hd 17 (by kernel_rfl)
    clear hd
    go_light
    refine ⟨(.bool true), X3, W3, ?_, Ext.refl _ _, rfl⟩
    go_simp
  · refine stepRun rfl rfl (fun _ _ => rfl) ?_
    intro u3 X3 W3 hB hd
    have r3_17 : u3 17 = (.bool true) := hd 17 (by kernel_rfl)
    have r3_18 : u3 18 = (.bool true) := hd 18 (by kernel_rfl)
    clear hd
    go_light
    exact ⟨u3 18, X3, W3, rfl, Ext.refl _ _, r3_18⟩
  · refine stepRunG rfl (fun _ _ => rfl) ?_
    intro u3 X3 W3 hB hd
    have r3_19 : u3 19 = (.bool true) := hd 19 (by kernel_rfl)
    clear hd
    go_light
    have hA3 := (hA.grow hE2.bel).grow hB.bel; have hS3 := hS2.grow hB.bel; obtain ⟨⟨x0, x1, x2, x3, x4⟩, -⟩ := hA3.five; obtain ⟨⟨y0, y1, y2, y3, y4⟩, -⟩ := hS3.five
    refine .inl ⟨(by simp only [Region.wanted, yielded]; simp [*]; done), ?_⟩
    exact ⟨_, X3, W3, by go_simp, Ext.refl _ _, hT2.grow hB⟩
  · refine stepCallG rfl (fun _ _ => rfl) ?_
    intro u3 X3 W3 hB hd
    have r3_19 : u3 19 = (.bool true) := hd 19 (by kernel_rfl)
    have r3_20 : Tm X3 W3 bT (u3 20) := hd 20 (by kernel_rfl)
    clear hd
    go_light
    have hXW := hB.lt hX3
    have hA3 := (hA.grow hE2.bel).grow hB.bel; have hS3 := hS2.grow hB.bel; obtain ⟨⟨x0, x1, x2, x3, x4⟩, -⟩ := hA3.five; obtain ⟨⟨y0, y1, y2, y3, y4⟩, -⟩ := hS3.five
    refine .inl ⟨(by simp only [Region.wanted, yielded]; simp [*]; done), ?_⟩
    refine ⟨26, #[u3 20], exec_call _ rfl rfl (by first | rfl | (simp only [*]; rfl)) (by kernel_rfl), ?_⟩
    · refine (right_ok' (((HL.out.grow hbA).grow hE2.bel).grow hB.bel) _ _ r3_20).mono ?_
      rintro e w1 ⟨v1, rfl, hb1, hr1⟩
      exact ⟨v1, X3, rfl, .of hb1, isB.yes (X := X3) (w := w1) hr1 (by rw [HPUT.out]; exact right_b)⟩
  · refine stepRun rfl rfl (fun _ _ => rfl) ?_
    intro u3 X3 W3 hB hd
    have r3_19 : u3 19 = (.bool true) := hd 19 (by kernel_rfl)
    have r3_21 : u3 21 = (.bool true) := hd 21 (by kernel_rfl)
    clear hd
    go_light
    refine ⟨(.bool true), X3, W3, ?_, Ext.refl _ _, rfl⟩
    go_simp
  · refine stepRun rfl rfl (fun _ _ => rfl) ?_
    intro u3 X3 W3 hB hd
    have r3_21 : u3 21 = (.bool true) := hd 21 (by kernel_rfl)
    have r3_22 : u3 22 = (.bool true) := hd 22 (by kernel_rfl)
    clear hd
    go_light
    exact ⟨u3 22, X3, W3, rfl, Ext.refl _ _, r3_22⟩
  · refine stepRunG rfl (fun _ _ => rfl) ?_
    intro u3 X3 W3 hB hd
    have r3_23 : u3 23 = (.bool true) := hd 23 (by kernel_rfl)
    clear hd
    go_light
    refine .inl ⟨(by simp only [Region.wanted, yielded]; simp [*]; done), ?_⟩
    exact ⟨_, X3, W3, by go_simp, Ext.refl _ _, Tm.mk (i64_ 6) (i64_ 0) (i64_ 0) (Lvs.nil _ _) (Tms.nil _ _)⟩
  · refine stepCallG rfl (fun _ _ => rfl) ?_
    intro u3 X3 W3 hB hd
    have r3_23 : u3 23 = (.bool true) := hd 23 (by kernel_rfl)
    have r3_24 : Tm X3 W3 (.mk 6 0 0 [] []) (u3 24) := hd 24 (by kernel_rfl)
    clear hd
    go_light
    have hXW := hB.lt hX3
    have hA3 := (hA.grow hE2.bel).grow hB.bel; have hS3 := hS2.grow hB.bel; obtain ⟨⟨x0, x1, x2, x3, x4⟩, -⟩ := hA3.five; obtain ⟨⟨y0, y1, y2, y3, y4⟩, -⟩ := hS3.five
    refine .inl ⟨(by simp only [Region.wanted, yielded]; simp [*]; done), ?_⟩
    refine ⟨26, #[u3 24], exec_call _ rfl rfl (by first | rfl | (simp only [*]; rfl)) (by kernel_rfl), ?_⟩
    · refine (right_ok' (((HL.out.grow hbA).grow hE2.bel).grow hB.bel) _ _ r3_24).mono ?_
      rintro e w1 ⟨v1, rfl, hb1, hr1⟩
      exact ⟨v1, X3, rfl, .of hb1, isB.no (X := X3) (w := w1) hr1 right_n⟩
  · refine stepRunG rfl (fun _ _ => rfl) ?_
    intro u3 X3 W3 hB hd
    have r3_23 : u3 23 = (.bool true) := hd 23 (by kernel_rfl)
    have r3_25 : u3 25 = (.bool false) := hd 25 (by kernel_rfl)
    clear hd
    go_light
    refine .inl ⟨(by simp only [Region.wanted, yielded]; simp [*]; done), ?_⟩
    refine ⟨(.bool true), X3, W3, ?_, Ext.refl _ _, rfl⟩
    go_simp
  · refine stepRun rfl rfl (fun _ _ => rfl) ?_
    intro u3 X3 W3 hB hd
    have r3_23 : u3 23 = (.bool true) := hd 23 (by kernel_rfl)
    have r3_26 : u3 26 = (.bool true) := hd 26 (by kernel_rfl)
    clear hd
    go_light
    refine ⟨(.bool true), X3, W3, ?_, Ext.refl _ _, rfl⟩
    go_simp
  · refine stepRun rfl rfl (fun _ _ => rfl) ?_
    intro u3 X3 W3 hB hd
    have r3_25 : u3 25 = (.bool false) := hd 25 (by kernel_rfl)
    have r3_27 : u3 27 = (.bool true) := hd 27 (by kernel_rfl)
    clear hd
    go_light
    exact ⟨u3 27, X3, W3, rfl, Ext.refl _ _, r3_27⟩
  · refine stepRunG rfl (fun _ _ => rfl) ?_
    intro u3 X3 W3 hB hd
    have r3_28 : u3 28 = (.bool true) := hd 28 (by kernel_rfl)
    clear hd
    go_light
    have hA3 := (hA.grow hE2.bel).grow hB.bel; have hS3 := hS2.grow hB.bel; obtain ⟨⟨x0, x1, x2, x3, x4⟩, -⟩ := hA3.five; obtain ⟨⟨y0, y1, y2, y3, y4⟩, -⟩ := hS3.five
    refine .inl ⟨(by simp only [Region.wanted, yielded]; simp [*]; done), ?_⟩
    exact ⟨_, X3, W3, by go_simp, Ext.refl _ _, hT2.grow hB⟩
  · refine stepCallG rfl (fun _ _ => rfl) ?_
    intro u3 X3 W3 hB hd
    have r3_28 : u3 28 = (.bool true) := hd 28 (by kernel_rfl)
    have r3_29 : Tm X3 W3 bT (u3 29) := hd 29 (by kernel_rfl)
    clear hd
    go_light
    have hXW := hB.lt hX3
    have hA3 := (hA.grow hE2.bel).grow hB.bel; have hS3 := hS2.grow hB.bel; obtain ⟨⟨x0, x1, x2, x3, x4⟩, -⟩ := hA3.five; obtain ⟨⟨y0, y1, y2, y3, y4⟩, -⟩ := hS3.five
    refine .inl ⟨(by simp only [Region.wanted, yielded]; simp [*]; done), ?_⟩
    refine ⟨27, #[u3 29], exec_call _ rfl rfl (by first | rfl | (simp only [*]; rfl)) (by kernel_rfl), ?_⟩
    · refine (size_ok' _ _ r3_29).mono ?_; rintro e w1 ⟨v1, rfl, hb1, hr1⟩; exact ⟨v1, X3, rfl, .of hb1, by show v1 = _; rw [hr1, HPUT.out, size_b]⟩
  · refine stepRunG rfl (fun _ _ => rfl) ?_
    intro u3 X3 W3 hB hd
    have r3_28 : u3 28 = (.bool true) := hd 28 (by kernel_rfl)
    have r3_30 : u3 30 = (.int .i64 5) := hd 30 (by kernel_rfl)
    clear hd
    go_light
    refine .inl ⟨(by simp only [Region.wanted, yielded]; simp [*]; done), ?_⟩
    refine ⟨(.bool true), X3, W3, ?_, Ext.refl _ _, rfl⟩
    go_simp
  · refine stepRun rfl rfl (fun _ _ => rfl) ?_
    intro u3 X3 W3 hB hd
    have r3_28 : u3 28 = (.bool true) := hd 28 (by kernel_rfl)
    have r3_31 : u3 31 = (.bool true) := hd 31 (by kernel_rfl)
    clear hd
    go_light
    refine ⟨(.bool true), X3, W3, ?_, Ext.refl _ _, rfl⟩
    go_simp
  · refine stepRun rfl rfl (fun _ _ => rfl) ?_
    intro u3 X3 W3 hB hd
    have r3_0 : Tm X3 W3 (vT 0) (u3 0) := hd 0 (by kernel_rfl)
    have r3_1 : Tm X3 W3 (vT 1) (u3 1) := hd 1 (by kernel_rfl)
    have r3_2 : Tm X3 W3 (appT (vT 0) (vT 1)) (u3 2) := hd 2 (by kernel_rfl)
    have r3_3 : Tm X3 W3 aT (u3 3) := hd 3 (by kernel_rfl)
    have r3_4 : Tms X3 W3 [aT] (u3 4) := hd 4 (by kernel_rfl)
    have r3_5 : Tm X3 W3 (T.put (appT (vT 0) (vT 1)) [aT] 0) (u3 5) := hd 5 (by kernel_rfl)
    have r3_6 : Tm X3 W3 aT (u3 6) := hd 6 (by kernel_rfl)
    have r3_7 : Tm X3 W3 (vT 0) (u3 7) := hd 7 (by kernel_rfl)
    have r3_8 : Tm X3 W3 (appT aT (vT 0)) (u3 8) := hd 8 (by kernel_rfl)
    have r3_9 : u3 9 = (.bool true) := hd 9 (by kernel_rfl)
    have r3_10 : u3 10 = (.bool true) := hd 10 (by kernel_rfl)
    have r3_11 : Tm X3 W3 bT (u3 11) := hd 11 (by kernel_rfl)
    have r3_12 : Tm X3 W3 (vT 7) (u3 12) := hd 12 (by kernel_rfl)
    have r3_13 : Tm X3 W3 (vT 0) (u3 13) := hd 13 (by kernel_rfl)
    have r3_14 : Tm X3 W3 (vT 8) (u3 14) := hd 14 (by kernel_rfl)
    have r3_15 : Tm X3 W3 (appT (vT 0) (vT 8)) (u3 15) := hd 15 (by kernel_rfl)
    have r3_16 : Tm X3 W3 (lamT (vT 7) (appT (vT 0) (vT 8))) (u3 16) := hd 16 (by kernel_rfl)
    have r3_17 : u3 17 = (.bool true) := hd 17 (by kernel_rfl)
    have r3_18 : u3 18 = (.bool true) := hd 18 (by kernel_rfl)
    have r3_19 : u3 19 = (.bool true) := hd 19 (by kernel_rfl)
    have r3_20 : Tm X3 W3 bT (u3 20) := hd 20 (by kernel_rfl)
    have r3_21 : u3 21 = (.bool true) := hd 21 (by kernel_rfl)
    have r3_22 : u3 22 = (.bool true) := hd 22 (by kernel_rfl)
    have r3_23 : u3 23 = (.bool true) := hd 23 (by kernel_rfl)
    have r3_24 : Tm X3 W3 (.mk 6 0 0 [] []) (u3 24) := hd 24 (by kernel_rfl)
    have r3_25 : u3 25 = (.bool false) := hd 25 (by kernel_rfl)
    have r3_26 : u3 26 = (.bool true) := hd 26 (by kernel_rfl)
    have r3_27 : u3 27 = (.bool true) := hd 27 (by kernel_rfl)
    have r3_28 : u3 28 = (.bool true) := hd 28 (by kernel_rfl)
    have r3_29 : Tm X3 W3 bT (u3 29) := hd 29 (by kernel_rfl)
    have r3_30 : u3 30 = (.int .i64 5) := hd 30 (by kernel_rfl)
    have r3_31 : u3 31 = (.bool true) := hd 31 (by kernel_rfl)
    have r3_32 : u3 32 = (.bool true) := hd 32 (by kernel_rfl)
    clear hd
    go_light
    exact ⟨u3 32, X3, W3, rfl, Ext.refl _ _, r3_32⟩
  intro u3 X3 W3 hB h
  have hXW := hB.lt hX3
  have r3_0 : Tm X3 W3 (vT 0) (u3 0) := h 0 (by decide)
  have r3_1 : Tm X3 W3 (vT 1) (u3 1) := h 1 (by decide)
  have r3_2 : Tm X3 W3 (appT (vT 0) (vT 1)) (u3 2) := h 2 (by decide)
  have r3_3 : Tm X3 W3 aT (u3 3) := h 3 (by decide)
  have r3_4 : Tms X3 W3 [aT] (u3 4) := h 4 (by decide)
  have r3_5 : Tm X3 W3 (T.put (appT (vT 0) (vT 1)) [aT] 0) (u3 5) := h 5 (by decide)
  have r3_6 : Tm X3 W3 aT (u3 6) := h 6 (by decide)
  have r3_7 : Tm X3 W3 (vT 0) (u3 7) := h 7 (by decide)
  have r3_8 : Tm X3 W3 (appT aT (vT 0)) (u3 8) := h 8 (by decide)
  have r3_9 : u3 9 = (.bool true) := h 9 (by decide)
  have r3_10 : u3 10 = (.bool true) := h 10 (by decide)
  have r3_11 : Tm X3 W3 bT (u3 11) := h 11 (by decide)
  have r3_12 : Tm X3 W3 (vT 7) (u3 12) := h 12 (by decide)
  have r3_13 : Tm X3 W3 (vT 0) (u3 13) := h 13 (by decide)
  have r3_14 : Tm X3 W3 (vT 8) (u3 14) := h 14 (by decide)
  have r3_15 : Tm X3 W3 (appT (vT 0) (vT 8)) (u3 15) := h 15 (by decide)
  have r3_16 : Tm X3 W3 (lamT (vT 7) (appT (vT 0) (vT 8))) (u3 16) := h 16 (by decide)
  have r3_17 : u3 17 = (.bool true) := h 17 (by decide)
  have r3_18 : u3 18 = (.bool true) := h 18 (by decide)
  have r3_19 : u3 19 = (.bool true) := h 19 (by decide)
  have r3_20 : Tm X3 W3 bT (u3 20) := h 20 (by decide)
  have r3_21 : u3 21 = (.bool true) := h 21 (by decide)
  have r3_22 : u3 22 = (.bool true) := h 22 (by decide)
  have r3_23 : u3 23 = (.bool true) := h 23 (by decide)
  have r3_24 : Tm X3 W3 (.mk 6 0 0 [] []) (u3 24) := h 24 (by decide)
  have r3_25 : u3 25 = (.bool false) := h 25 (by decide)
  have r3_26 : u3 26 = (.bool true) := h 26 (by decide)
  have r3_27 : u3 27 = (.bool true) := h 27 (by decide)
  have r3_28 : u3 28 = (.bool true) := h 28 (by decide)
  have r3_29 : Tm X3 W3 bT (u3 29) := h 29 (by decide)
  have r3_30 : u3 30 = (.int .i64 5) := h 30 (by decide)
  have r3_31 : u3 31 = (.bool true) := h 31 (by decide)
  have r3_32 : u3 32 = (.bool true) := h 32 (by decide)
  have r3_33 : u3 33 = (.bool true) := h 33 (by decide)
  clear h
  dsimp only
  go_wp2
  go_ret
  exact ⟨u3 33, rfl, hbA.trans ((hE2.bel.trans (hB.bel.mono hE2.bel.size)).mono hbA.size), r3_33⟩
end Go.Proofs.YtmghkfiepcomgaaDoor
