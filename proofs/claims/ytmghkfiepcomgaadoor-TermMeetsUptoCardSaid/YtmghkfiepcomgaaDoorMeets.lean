/-
  spandrellaw02.TermMeets tells true.
-/
import Derived.Test.YtmghkfiepcomgaaDoorAwake2
import Derived.Test.YtmghkfiepcomgaaDoorFull
import Derived.Test.YtmghkfiepcomgaaDoorTlaw
set_option linter.unusedSimpArgs false
set_option linter.unusedVariables false
namespace Go.Proofs.YtmghkfiepcomgaaDoor
open Go.RowKit

set_option maxHeartbeats 1000000 in
theorem times_ok (X : Nat → Prop) (t a : T) (vt va : Value) (w : World) (hX : ∀ b, X b → b < w.heap.size) (ht : Tm X w t vt) (ha : Tm X w a va) : Calls Tryd.prog 9 #[vt, va] w (Ret X isInt w) := by
  obtain ⟨Al, cl, Ak, ck, rfl, ht⟩ := ht.form
  obtain ⟨Bl, dl, Bk, dk, rfl, ha⟩ := ha.form
  have HT := hid ht
  have HA := hid ha
  have HX := hid hX
  clear ht ha hX
  go_enter Tryd.func9, Tryd.ntmps9
  go_upto_region 1 with (fail)
  have h1 := Blk.alloc (Blk.new w 26 [.int .i64 t.k, .int .i64 t.n, .int .i64 t.a, .slice Al t.ls.length cl, .slice Ak t.ks.length ck]) (.cells #[.int .i64 a.k, .int .i64 a.n, .int .i64 a.a, .slice Bl a.ls.length dl, .slice Bk a.ks.length dk] 26)
  have h2 := Blk.new (w.alloc (.cells #[.int .i64 t.k, .int .i64 t.n, .int .i64 t.a, .slice Al t.ls.length cl, .slice Ak t.ks.length ck] 26)) 26 [.int .i64 a.k, .int .i64 a.n, .int .i64 a.a, .slice Bl a.ls.length dl, .slice Bk a.ks.length dk]
  have hbA : Below w.heap.size w ((w.alloc (.cells #[.int .i64 t.k, .int .i64 t.n, .int .i64 t.a, .slice Al t.ls.length cl, .slice Ak t.ks.length ck] 26)).alloc (.cells #[.int .i64 a.k, .int .i64 a.n, .int .i64 a.a, .slice Bl a.ls.length dl, .slice Bk a.ks.length dk] 26)) := (by repeat (first | exact Below.refl _ _ | assumption | refine Below.alloc ?_ (by simp <;> omega) _ | refine Below.setCell ?_ (by simp <;> omega) _ | refine Below.drew ?_ | refine below_drewN ?_ _))
  simp only [World.size_alloc] at h1 h2
  generalize (w.alloc (.cells #[.int .i64 t.k, .int .i64 t.n, .int .i64 t.a, .slice Al t.ls.length cl, .slice Ak t.ks.length ck] 26)).alloc (.cells #[.int .i64 a.k, .int .i64 a.n, .int .i64 a.a, .slice Bl a.ls.length dl, .slice Bk a.ks.length dk] 26) = wA at *
  have hX1 : ∀ b, X b → b < wA.heap.size := fun b hb => by have := HX.out b hb; have := hbA.size; omega
  have HTA := hid (HT.out.grow (.of hbA : Ext X w X wA))
  have HAA := hid (HA.out.grow (.of hbA : Ext X w X wA))
  refine anyInv (X := X) 8 ((fun x0 x1 x2 x3 (_ : Unit) => fun u => Act.mk #[x0, x1, x2, x3, u 7, u 0, u 1, u 2, u 3, u 4, u 5, u 6] []) _ _ _ _ ()) (fun i d => match i with | 0 => isTm t | 1 => isInt | 2 => isInt | 3 => isTm a | 4 => isInt | 5 => isInt | 6 => isInt | 7 => isInt | _ => anyV) ((fun y0 y1 y2 y3 y4 y5 y6 y7 (_ : Unit) => fun k => match k with | 0 => y0 | 1 => y1 | 2 => y2 | 3 => y3 | 4 => y4 | 5 => y5 | 6 => y6 | 7 => y7 | _ => undef) _ _ _ _ _ _ _ _ ()) (by kernel_rfl) rfl rfl (by kernel_rfl) (steps_next (steps_next (steps_next (steps_next (steps_next (steps_next (steps_next (steps_next steps_end ?_) ?_) ?_) ?_) ?_) ?_) ?_) ?_) ?_
  · refine stepRun rfl rfl (fun _ _ => rfl) ?_
    intro u1 X1 W1 hB hd
    clear hd
    go_light
    obtain ⟨⟨x0, x1, x2, x3, x4⟩, -⟩ := (h1.grow hB.bel).five; obtain ⟨⟨y0, y1, y2, y3, y4⟩, -⟩ := (h2.grow hB.bel).five
    exact ⟨_, X1, W1, by go_simp, Ext.refl _ _, HTA.out.grow hB⟩
  · refine stepCall rfl rfl (fun _ _ => rfl) ?_
    intro u1 X1 W1 hB hd
    have r1_0 : Tm X1 W1 t (u1 0) := hd 0 (by kernel_rfl)
    clear hd
    go_light
    have hXW := hB.lt hX1
    obtain ⟨⟨x0, x1, x2, x3, x4⟩, -⟩ := (h1.grow hB.bel).five; obtain ⟨⟨y0, y1, y2, y3, y4⟩, -⟩ := (h2.grow hB.bel).five
    refine ⟨27, #[u1 0], exec_call _ rfl rfl (by first | rfl | (simp only [*]; rfl)) (by kernel_rfl), ?_⟩
    · refine (size_ok' _ _ r1_0).mono ?_; rintro e w1 ⟨v1, rfl, hb1, hr1⟩; exact ⟨v1, X1, rfl, .of hb1, _, hr1⟩
  · refine stepRun rfl rfl (fun _ _ => rfl) ?_
    intro u1 X1 W1 hB hd
    have r1_1 : Rv.P (isInt) (u1 1) X1 W1 := hd 1 (by kernel_rfl)
    clear hd
    go_light
    obtain ⟨m, hm⟩ := r1_1; exact ⟨.int .i64 (if 600 < m then 600 else m), X1, W1, by go_simp, Ext.refl _ _, _, rfl⟩
  · refine stepRun rfl rfl (fun _ _ => rfl) ?_
    intro u1 X1 W1 hB hd
    clear hd
    go_light
    obtain ⟨⟨x0, x1, x2, x3, x4⟩, -⟩ := (h1.grow hB.bel).five; obtain ⟨⟨y0, y1, y2, y3, y4⟩, -⟩ := (h2.grow hB.bel).five
    exact ⟨_, X1, W1, by go_simp, Ext.refl _ _, HAA.out.grow hB⟩
  · refine stepCall rfl rfl (fun _ _ => rfl) ?_
    intro u1 X1 W1 hB hd
    have r1_1 : Rv.P (isInt) (u1 1) X1 W1 := hd 1 (by kernel_rfl)
    have r1_3 : Tm X1 W1 a (u1 3) := hd 3 (by kernel_rfl)
    clear hd
    go_light
    have hXW := hB.lt hX1
    obtain ⟨⟨x0, x1, x2, x3, x4⟩, -⟩ := (h1.grow hB.bel).five; obtain ⟨⟨y0, y1, y2, y3, y4⟩, -⟩ := (h2.grow hB.bel).five
    refine ⟨27, #[u1 3], exec_call _ rfl rfl (by first | rfl | (simp only [*]; rfl)) (by kernel_rfl), ?_⟩
    · refine (size_ok' _ _ r1_3).mono ?_; rintro e w1 ⟨v1, rfl, hb1, hr1⟩; exact ⟨v1, X1, rfl, .of hb1, _, hr1⟩
  · refine stepRun rfl rfl (fun _ _ => rfl) ?_
    intro u1 X1 W1 hB hd
    have r1_4 : Rv.P (isInt) (u1 4) X1 W1 := hd 4 (by kernel_rfl)
    clear hd
    go_light
    obtain ⟨m, hm⟩ := r1_4; exact ⟨.int .i64 (if 600 < m then 600 else m), X1, W1, by go_simp, Ext.refl _ _, _, rfl⟩
  · refine stepRun rfl rfl (fun _ _ => rfl) ?_
    intro u1 X1 W1 hB hd
    have r1_2 : Rv.P (isInt) (u1 2) X1 W1 := hd 2 (by kernel_rfl)
    have r1_5 : Rv.P (isInt) (u1 5) X1 W1 := hd 5 (by kernel_rfl)
    clear hd
    go_light
    obtain ⟨m, hm⟩ := r1_2; obtain ⟨n, hn⟩ := r1_5; exact ⟨.int .i64 (IntKind.i64.wrap (m + n)), X1, W1, by go_simp, Ext.refl _ _, _, rfl⟩
  · refine stepRun rfl rfl (fun _ _ => rfl) ?_
    intro u1 X1 W1 hB hd
    have r1_0 : Tm X1 W1 t (u1 0) := hd 0 (by kernel_rfl)
    have r1_1 : Rv.P (isInt) (u1 1) X1 W1 := hd 1 (by kernel_rfl)
    have r1_2 : Rv.P (isInt) (u1 2) X1 W1 := hd 2 (by kernel_rfl)
    have r1_3 : Tm X1 W1 a (u1 3) := hd 3 (by kernel_rfl)
    have r1_4 : Rv.P (isInt) (u1 4) X1 W1 := hd 4 (by kernel_rfl)
    have r1_5 : Rv.P (isInt) (u1 5) X1 W1 := hd 5 (by kernel_rfl)
    have r1_6 : Rv.P (isInt) (u1 6) X1 W1 := hd 6 (by kernel_rfl)
    clear hd
    go_light
    exact ⟨u1 6, X1, W1, rfl, Ext.refl _ _, r1_6⟩
  intro u1 X1 W1 hB h
  have hXW := hB.lt hX1
  have r1_0 : Tm X1 W1 t (u1 0) := h 0 (by decide)
  have r1_1 : Rv.P (isInt) (u1 1) X1 W1 := h 1 (by decide)
  have r1_2 : Rv.P (isInt) (u1 2) X1 W1 := h 2 (by decide)
  have r1_3 : Tm X1 W1 a (u1 3) := h 3 (by decide)
  have r1_4 : Rv.P (isInt) (u1 4) X1 W1 := h 4 (by decide)
  have r1_5 : Rv.P (isInt) (u1 5) X1 W1 := h 5 (by decide)
  have r1_6 : Rv.P (isInt) (u1 6) X1 W1 := h 6 (by decide)
  have r1_7 : Rv.P (isInt) (u1 7) X1 W1 := h 7 (by decide)
  clear h
  dsimp only
  go_wp2
  go_ret
  exact ⟨_, rfl, hbA.trans (hB.bel.mono hbA.size), r1_7⟩

theorem exec_append {P : Program} {ρ : Operand → Value} {o : Oper} {w w' : World} {v x v' : Value} {so xo : Operand} {t1 t2 : TypeId} (ho : o.op = .call { callee := .builtin .append, args := #[so, xo], argTypes := #[t1, t2] }) (hs : ρ so = v) (hx : ρ xo = x)
    (h : (Builtin.append_ #[t1, t2] o.type #[v, x]).run P w = .ok v' w') : (execOp ρ o).run P w = .ok (.value v') w' := by
  unfold execOp
  simp only [ho, resolve, invoke, builtin, Sem.run_bind, Sem.run_pure, Result.andThen_ok, List.map_toArray, List.map_cons, List.map_nil, hs, hx, h]

/-- terms in a slice without room -/
def Tmf (X : Nat → Prop) (w : World) (ts : List T) (v : Value) : Prop := (∃ A, v = .slice A ts.length ts.length) ∧ Tms X w ts v
def isTmf (ts : List T) : Rv := ⟨fun v X w => Tmf X w ts v, fun _ _ _ _ _ h hb => ⟨h.1, h.2.grow hb⟩⟩

theorem app_full {X : Nat → Prop} {w : World} (hX : ∀ b, X b → b < w.heap.size) {xs ys : List T} {v1 v2 : Value} (h1 : Tmf X w xs v1) (h2 : Tms X w ys v2) (hl : xs.length + ys.length ≤ LM) :
    ∃ v' w', (Builtin.append_ #[24, 24] 24 #[v1, v2]).run Tryd.prog w = .ok v' w' ∧ Ext X w X w' ∧ Tms X w' (xs ++ ys) v' := by
  obtain ⟨⟨A, rfl⟩, h1⟩ := h1
  obtain ⟨B, c, rfl, -⟩ := id h2
  obtain ⟨i0, hi0, hz0, hz1, hz2⟩ := info_parts info_term
  exact run_full termRep hX _ _ 26 i0 _ 72 Tryd.underlying24 hi0 hz0 hz1 hz2 (by decide) h1 h2 hl

theorem deep_dm {n : Nat} (h : n ≤ 1048576) : n ≤ DM := by unfold DM; omega
theorem deep_dm2 {n : Nat} (h : n ≤ 1048576 + 1048576) : n ≤ DM := by unfold DM; omega

set_option maxRecDepth 10000 in
set_option maxHeartbeats 8000000 in
theorem meets_ok (X : Nat → Prop) (t a b : T) (bys : List T) (vt va vb vy : Value) (w : World) (hX : ∀ b, X b → b < w.heap.size) (hL : Lk w) (ht : Tm X w t vt) (ha : Tm X w a va) (hb : Tm X w b vb) (hy : Tms X w bys vy)
    (dt : t.deep ≤ 1048576) (da : a.deep ≤ 1048576) (db : b.deep ≤ 1048576) (dy : ∀ x, x ∈ bys → x.deep ≤ 1048576) (hn : bys.length + 3 ≤ LM) : Calls Tryd.prog 3 #[vt, va, vb, vy] w (Ret X (isV (.bool true)) w) := by
  obtain ⟨Al, cl, Ak, ck, rfl, ht⟩ := ht.form
  obtain ⟨Bl, dl, Bk, dk, rfl, ha⟩ := ha.form
  obtain ⟨Cl, el, Ck, ek, rfl, hb⟩ := hb.form
  obtain ⟨Y, cy, rfl, -⟩ := id hy
  have HT := hid ht
  have HA := hid ha
  have HB := hid hb
  have HY := hid hy
  have HX := hid hX
  have HL := hid hL
  have HDT := hid dt
  have HDA := hid da
  have HDB := hid db
  have HDY := hid dy
  have HN := hid hn
  clear ht ha hb hy hX hL dt da db dy hn
  go_enter Tryd.func3, Tryd.ntmps3
  go_upto_region 1 with (fail)
  have h1 := Blk.alloc (Blk.alloc (Blk.new w 26 [.int .i64 t.k, .int .i64 t.n, .int .i64 t.a, .slice Al t.ls.length cl, .slice Ak t.ks.length ck]) (.cells #[.int .i64 a.k, .int .i64 a.n, .int .i64 a.a, .slice Bl a.ls.length dl, .slice Bk a.ks.length dk] 26)) (.cells #[.int .i64 b.k, .int .i64 b.n, .int .i64 b.a, .slice Cl b.ls.length el, .slice Ck b.ks.length ek] 26)
  have h2 := Blk.alloc (Blk.new (w.alloc (.cells #[.int .i64 t.k, .int .i64 t.n, .int .i64 t.a, .slice Al t.ls.length cl, .slice Ak t.ks.length ck] 26)) 26 [.int .i64 a.k, .int .i64 a.n, .int .i64 a.a, .slice Bl a.ls.length dl, .slice Bk a.ks.length dk]) (.cells #[.int .i64 b.k, .int .i64 b.n, .int .i64 b.a, .slice Cl b.ls.length el, .slice Ck b.ks.length ek] 26)
  have h3 := Blk.new ((w.alloc (.cells #[.int .i64 t.k, .int .i64 t.n, .int .i64 t.a, .slice Al t.ls.length cl, .slice Ak t.ks.length ck] 26)).alloc (.cells #[.int .i64 a.k, .int .i64 a.n, .int .i64 a.a, .slice Bl a.ls.length dl, .slice Bk a.ks.length dk] 26)) 26 [.int .i64 b.k, .int .i64 b.n, .int .i64 b.a, .slice Cl b.ls.length el, .slice Ck b.ks.length ek]
  have hbA : Below w.heap.size w (((w.alloc (.cells #[.int .i64 t.k, .int .i64 t.n, .int .i64 t.a, .slice Al t.ls.length cl, .slice Ak t.ks.length ck] 26)).alloc (.cells #[.int .i64 a.k, .int .i64 a.n, .int .i64 a.a, .slice Bl a.ls.length dl, .slice Bk a.ks.length dk] 26)).alloc (.cells #[.int .i64 b.k, .int .i64 b.n, .int .i64 b.a, .slice Cl b.ls.length el, .slice Ck b.ks.length ek] 26)) := (by repeat (first | exact Below.refl _ _ | assumption | refine Below.alloc ?_ (by simp <;> omega) _ | refine Below.setCell ?_ (by simp <;> omega) _ | refine Below.drew ?_ | refine below_drewN ?_ _))
  simp only [World.size_alloc] at h1 h2 h3
  generalize ((w.alloc (.cells #[.int .i64 t.k, .int .i64 t.n, .int .i64 t.a, .slice Al t.ls.length cl, .slice Ak t.ks.length ck] 26)).alloc (.cells #[.int .i64 a.k, .int .i64 a.n, .int .i64 a.a, .slice Bl a.ls.length dl, .slice Bk a.ks.length dk] 26)).alloc (.cells #[.int .i64 b.k, .int .i64 b.n, .int .i64 b.a, .slice Cl b.ls.length el, .slice Ck b.ks.length ek] 26) = wA at *
  have hE0 : Ext X w X wA := .of hbA
  have hX1 := hE0.lt HX.out
  refine seqInv (X := X) 2 ((fun x0 x1 x2 x3 x4 x5 x6 x7 x8 x9 x10 x13 x14 x15 x16 x17 x18 x19 x20 x21 x22 x23 x24 x25 x26 x27 x28 x29 x30 x31 x32 x33 x34 x35 x36 x37 x38 x39 x40 x41 x42 x43 x44 x45 x46 x47 x48 x49 x50 x51 x52 x53 x54 x55 x56 x57 x58 x59 x60 x61 x62 x63 x64 x65 x66 x67 (_ : Unit) => fun u => Act.mk #[x0, x1, x2, x3, x4, x5, x6, x7, x8, x9, x10, u 0, u 1, x13, x14, x15, x16, x17, x18, x19, x20, x21, x22, x23, x24, x25, x26, x27, x28, x29, x30, x31, x32, x33, x34, x35, x36, x37, x38, x39, x40, x41, x42, x43, x44, x45, x46, x47, x48, x49, x50, x51, x52, x53, x54, x55, x56, x57, x58, x59, x60, x61, x62, x63, x64, x65, x66, x67] []) _ _ _ _ _ _ _ _ _ _ _ _ _ _ _ _ _ _ _ _ _ _ _ _ _ _ _ _ _ _ _ _ _ _ _ _ _ _ _ _ _ _ _ _ _ _ _ _ _ _ _ _ _ _ _ _ _ _ _ _ _ _ _ _ _ _ ()) (fun i d => match i with | 0 => isV (.bool true) | 1 => isV (.bool false) | _ => anyV) ((fun y0 y1 (_ : Unit) => fun k => match k with | 0 => y0 | 1 => y1 | _ => undef) _ _ ()) rfl rfl (steps_next (steps_next steps_end ?_) ?_) ?_
  · refine stepCall rfl rfl (fun _ _ => rfl) ?_
    intro u1 X1 W1 hB hd
    clear hd
    go_light
    have hXW := hB.lt hX1
    refine ⟨6, #[], exec_call _ rfl rfl (by first | rfl | (simp only [*]; rfl)) (by kernel_rfl), ?_⟩
    · refine (awake_ok X1 _ hXW ((HL.out.grow hbA).grow hB.bel)).mono ?_; rintro e w1 ⟨v1, rfl, hb1, hr1⟩; exact ⟨v1, X1, rfl, .of hb1, hr1⟩
  · refine stepRun rfl rfl (fun _ _ => rfl) ?_
    intro u1 X1 W1 hB hd
    have r1_0 : u1 0 = (.bool true) := hd 0 (by decide)
    clear hd
    go_light
    refine ⟨(.bool false), X1, W1, ?_, Ext.refl _ _, rfl⟩
    go_simp
  intro u1 X1 W1 hB h
  have hXW := hB.lt hX1
  have r1_0 : u1 0 = (.bool true) := h 0 (by decide)
  have r1_1 : u1 1 = (.bool false) := h 1 (by decide)
  clear h
  dsimp only
  have hE1 := hE0.trans hB
  have k1 := h1.grow hB.bel
  have k2 := h2.grow hB.bel
  have k3 := h3.grow hB.bel
  have hX3 := hE1.lt HX.out
  clear hB hXW r1_0 h1 h2 h3 hE0 hX1 hbA
  rw [r1_1]
  go_upto_region 3 with (fail)
  clear r1_1
  refine anyInv (X := X1) 27 ((fun x0 x1 x2 x3 x4 x5 x6 x7 x8 x9 x10 x11 x12 x40 x41 x42 x43 x44 x45 x46 x47 x48 x49 x50 x51 x52 x53 x54 x55 x56 x57 x58 x59 x60 x61 x62 x63 x64 x65 x66 x67 (_ : Unit) => fun u => Act.mk #[x0, x1, x2, x3, x4, x5, x6, x7, x8, x9, x10, x11, x12, u 0, u 1, u 2, u 3, u 4, u 5, u 6, u 7, u 8, u 9, u 10, u 11, u 12, u 13, u 14, u 15, u 16, u 17, u 18, u 19, u 20, u 21, u 22, u 23, u 24, u 25, u 26, x40, x41, x42, x43, x44, x45, x46, x47, x48, x49, x50, x51, x52, x53, x54, x55, x56, x57, x58, x59, x60, x61, x62, x63, x64, x65, x66, x67] []) _ _ _ _ _ _ _ _ _ _ _ _ _ _ _ _ _ _ _ _ _ _ _ _ _ _ _ _ _ _ _ _ _ _ _ _ _ _ _ _ _ ()) (fun i d => match i with | 0 => isTm t | 1 => isTm a | 2 => isTm b | 3 => isTmf [t, a, b] | 4 => isTms bys | 5 => isTms ([t, a, b] ++ bys) | 6 => isBoolIf True | 7 => isBoolIf True | 8 => (isTm t).on (d 7 = .bool false) | 9 => (isTm a).on (d 7 = .bool false) | 10 => (isTm b).on (d 7 = .bool false) | 11 => (isTmf [t, a, b]).on (d 7 = .bool false) | 12 => (isTms bys).on (d 7 = .bool false) | 13 => (isTms ([t, a, b] ++ bys)).on (d 7 = .bool false) | 14 => (isBoolThen (T.Tames ([t, a, b] ++ bys))).on (d 7 = .bool false) | 15 => (isBoolIf (T.Tames ([t, a, b] ++ bys))).on (d 7 = .bool false) | 16 => isBoolIf (T.Tames ([t, a, b] ++ bys)) | 17 => isBoolIf (T.Tames ([t, a, b] ++ bys)) | 18 => (isTm t).on (d 17 = .bool false) | 19 => (isTm a).on (d 17 = .bool false) | 20 => (isInt).on (d 17 = .bool false) | 21 => (isTm b).on (d 17 = .bool false) | 22 => (isTm a).on (d 17 = .bool false) | 23 => (isInt).on (d 17 = .bool false) | 24 => (isInt).on (d 17 = .bool false) | 25 => (isBoolIf True).on (d 17 = .bool false) | 26 => isBoolIf (T.Tames ([t, a, b] ++ bys)) | _ => anyV) ((fun y0 y1 y2 y3 y4 y5 y6 y7 y8 y9 y10 y11 y12 y13 y14 y15 y16 y17 y18 y19 y20 y21 y22 y23 y24 y25 y26 (_ : Unit) => fun k => match k with | 0 => y0 | 1 => y1 | 2 => y2 | 3 => y3 | 4 => y4 | 5 => y5 | 6 => y6 | 7 => y7 | 8 => y8 | 9 => y9 | 10 => y10 | 11 => y11 | 12 => y12 | 13 => y13 | 14 => y14 | 15 => y15 | 16 => y16 | 17 => y17 | 18 => y18 | 19 => y19 | 20 => y20 | 21 => y21 | 22 => y22 | 23 => y23 | 24 => y24 | 25 => y25 | 26 => y26 | _ => undef) _ _ _ _ _ _ _ _ _ _ _ _ _ _ _ _ _ _ _ _ _ _ _ _ _ _ _ ()) (by kernel_rfl) rfl rfl (by kernel_rfl) (steps_next (steps_next (steps_next (steps_next (steps_next (steps_next (steps_next (steps_next (steps_next (steps_next (steps_next (steps_next (steps_next (steps_next (steps_next (steps_next (steps_next (steps_next (steps_next (steps_next (steps_next (steps_next (steps_next (steps_next (steps_next (steps_next (steps_next steps_end ?_) ?_) ?_) ?_) ?_) ?_) ?_) ?_) ?_) ?_) ?_) ?_) ?_) ?_) ?_) ?_) ?_) ?_) ?_) ?_) ?_) ?_) ?_) ?_) ?_) ?_) ?_) ?_
  · refine stepRun rfl rfl (fun _ _ => rfl) ?_
    intro u3 X3 W3 hB hd
    clear hd
    go_light
    obtain ⟨⟨x0, x1, x2, x3, x4⟩, -⟩ := (k1.grow hB.bel).five; obtain ⟨⟨y0, y1, y2, y3, y4⟩, -⟩ := (k2.grow hB.bel).five; obtain ⟨⟨z0, z1, z2, z3, z4⟩, -⟩ := (k3.grow hB.bel).five
    exact ⟨_, X3, W3, by go_simp, Ext.refl _ _, HT.out.grow (hE1.trans hB)⟩
  · refine stepRun rfl rfl (fun _ _ => rfl) ?_
    intro u3 X3 W3 hB hd
    clear hd
    go_light
    obtain ⟨⟨x0, x1, x2, x3, x4⟩, -⟩ := (k1.grow hB.bel).five; obtain ⟨⟨y0, y1, y2, y3, y4⟩, -⟩ := (k2.grow hB.bel).five; obtain ⟨⟨z0, z1, z2, z3, z4⟩, -⟩ := (k3.grow hB.bel).five
    exact ⟨_, X3, W3, by go_simp, Ext.refl _ _, HA.out.grow (hE1.trans hB)⟩
  · refine stepRun rfl rfl (fun _ _ => rfl) ?_
    intro u3 X3 W3 hB hd
    clear hd
    go_light
    obtain ⟨⟨x0, x1, x2, x3, x4⟩, -⟩ := (k1.grow hB.bel).five; obtain ⟨⟨y0, y1, y2, y3, y4⟩, -⟩ := (k2.grow hB.bel).five; obtain ⟨⟨z0, z1, z2, z3, z4⟩, -⟩ := (k3.grow hB.bel).five
    exact ⟨_, X3, W3, by go_simp, Ext.refl _ _, HB.out.grow (hE1.trans hB)⟩
  · refine stepRun rfl rfl (fun _ _ => rfl) ?_
    intro u3 X3 W3 hB hd
    have r3_0 : Tm X3 W3 t (u3 0) := hd 0 (by kernel_rfl)
    have r3_1 : Tm X3 W3 a (u3 1) := hd 1 (by kernel_rfl)
    have r3_2 : Tm X3 W3 b (u3 2) := hd 2 (by kernel_rfl)
    clear hd
    go_light
    obtain ⟨a0, a1, a2, a3, a4, ea, ha⟩ := r3_0.cells
    obtain ⟨b0, b1, b2, b3, b4, eb, hb⟩ := r3_1.cells
    obtain ⟨c0, c1, c2, c3, c4, ec, hc⟩ := r3_2.cells
    have hb1 := Ext.new_ (X := X3) (w := W3) 26 [a0, a1, a2, a3, a4, b0, b1, b2, b3, b4, c0, c1, c2, c3, c4]
    exact ⟨.slice (some ⟨W3.heap.size, 0, none⟩) 3 3, _, _, by go_simp, hb1, ⟨⟨_, rfl⟩, Tms.three (Blk.new' _ 26 _ _ rfl) (fun h => by have := hB.lt hX3 _ h; omega) (ha.grow hb1) (hb.grow hb1) (hc.grow hb1)⟩⟩
  · refine stepRun rfl rfl (fun _ _ => rfl) ?_
    intro u3 X3 W3 hB hd
    clear hd
    go_light
    exact ⟨_, X3, W3, rfl, Ext.refl _ _, HY.out.grow (hE1.trans hB)⟩
  · refine stepRun rfl rfl (fun _ _ => rfl) ?_
    intro u3 X3 W3 hB hd
    have r3_3 : Rv.P (isTmf [t, a, b]) (u3 3) X3 W3 := hd 3 (by kernel_rfl)
    have r3_4 : Tms X3 W3 bys (u3 4) := hd 4 (by kernel_rfl)
    clear hd
    go_light
    obtain ⟨va, wa, ha1, ha2, ha3⟩ := app_full (hB.lt hX3) r3_3 r3_4 (by have := HN.out; simp <;> omega)
    exact ⟨va, _, wa, exec_append rfl rfl rfl ha1, ha2, ha3⟩
  · refine stepCall rfl rfl (fun _ _ => rfl) ?_
    intro u3 X3 W3 hB hd
    have r3_5 : Tms X3 W3 ([t, a, b] ++ bys) (u3 5) := hd 5 (by kernel_rfl)
    clear hd
    go_light
    have hXW := hB.lt hX3
    obtain ⟨⟨x0, x1, x2, x3, x4⟩, -⟩ := (k1.grow hB.bel).five; obtain ⟨⟨y0, y1, y2, y3, y4⟩, -⟩ := (k2.grow hB.bel).five; obtain ⟨⟨z0, z1, z2, z3, z4⟩, -⟩ := (k3.grow hB.bel).five
    refine ⟨7, #[u3 5], exec_call _ rfl rfl (by first | rfl | (simp only [*]; rfl)) (by kernel_rfl), ?_⟩
    · refine (great_ok' _ _ r3_5).mono ?_
      rintro e w1 ⟨v1, rfl, hb1, hr1⟩
      exact ⟨v1, X3, rfl, .of hb1, hr1⟩
  · refine stepRun rfl rfl (fun _ _ => rfl) ?_
    intro u3 X3 W3 hB hd
    have r3_6 : Rv.P (isBoolIf True) (u3 6) X3 W3 := hd 6 (by kernel_rfl)
    clear hd
    go_light
    exact ⟨u3 6, X3, W3, rfl, Ext.refl _ _, r3_6⟩
  · refine stepRunG rfl (fun _ _ => rfl) ?_
    intro u3 X3 W3 hB hd
    have r3_7 : Rv.P (isBoolIf True) (u3 7) X3 W3 := hd 7 (by kernel_rfl)
    clear hd
    go_light
    obtain ⟨⟨x0, x1, x2, x3, x4⟩, -⟩ := (k1.grow hB.bel).five; obtain ⟨⟨y0, y1, y2, y3, y4⟩, -⟩ := (k2.grow hB.bel).five; obtain ⟨⟨z0, z1, z2, z3, z4⟩, -⟩ := (k3.grow hB.bel).five
    obtain ⟨q, hq, hp⟩ := r3_7
    cases q
    skip
    rotate_left
    · exact .inr ⟨by simp only [Region.wanted, yielded]; simp [hq], fun h => by change u3 7 = Value.bool false at h; rw [hq] at h; cases h⟩
    refine .inl ⟨by simp only [Region.wanted, yielded]; simp [hq], ?_⟩
    exact ⟨_, X3, W3, by go_simp, Ext.refl _ _, fun _ => HT.out.grow (hE1.trans hB)⟩
  · refine stepRunG rfl (fun _ _ => rfl) ?_
    intro u3 X3 W3 hB hd
    have r3_7 : Rv.P (isBoolIf True) (u3 7) X3 W3 := hd 7 (by kernel_rfl)
    clear hd
    go_light
    obtain ⟨⟨x0, x1, x2, x3, x4⟩, -⟩ := (k1.grow hB.bel).five; obtain ⟨⟨y0, y1, y2, y3, y4⟩, -⟩ := (k2.grow hB.bel).five; obtain ⟨⟨z0, z1, z2, z3, z4⟩, -⟩ := (k3.grow hB.bel).five
    obtain ⟨q, hq, hp⟩ := r3_7
    cases q
    skip
    rotate_left
    · exact .inr ⟨by simp only [Region.wanted, yielded]; simp [hq], fun h => by change u3 7 = Value.bool false at h; rw [hq] at h; cases h⟩
    refine .inl ⟨by simp only [Region.wanted, yielded]; simp [hq], ?_⟩
    exact ⟨_, X3, W3, by go_simp, Ext.refl _ _, fun _ => HA.out.grow (hE1.trans hB)⟩
  · refine stepRunG rfl (fun _ _ => rfl) ?_
    intro u3 X3 W3 hB hd
    have r3_7 : Rv.P (isBoolIf True) (u3 7) X3 W3 := hd 7 (by kernel_rfl)
    clear hd
    go_light
    obtain ⟨⟨x0, x1, x2, x3, x4⟩, -⟩ := (k1.grow hB.bel).five; obtain ⟨⟨y0, y1, y2, y3, y4⟩, -⟩ := (k2.grow hB.bel).five; obtain ⟨⟨z0, z1, z2, z3, z4⟩, -⟩ := (k3.grow hB.bel).five
    obtain ⟨q, hq, hp⟩ := r3_7
    cases q
    skip
    rotate_left
    · exact .inr ⟨by simp only [Region.wanted, yielded]; simp [hq], fun h => by change u3 7 = Value.bool false at h; rw [hq] at h; cases h⟩
    refine .inl ⟨by simp only [Region.wanted, yielded]; simp [hq], ?_⟩
    exact ⟨_, X3, W3, by go_simp, Ext.refl _ _, fun _ => HB.out.grow (hE1.trans hB)⟩
  · refine stepRunG rfl (fun _ _ => rfl) ?_
    intro u3 X3 W3 hB hd
    have r3_7 : Rv.P (isBoolIf True) (u3 7) X3 W3 := hd 7 (by kernel_rfl)
    have r3_8 : Rv.P ((isTm t).on (u3 7 = .bool false)) (u3 8) X3 W3 := hd 8 (by kernel_rfl)
    have r3_9 : Rv.P ((isTm a).on (u3 7 = .bool false)) (u3 9) X3 W3 := hd 9 (by kernel_rfl)
    have r3_10 : Rv.P ((isTm b).on (u3 7 = .bool false)) (u3 10) X3 W3 := hd 10 (by kernel_rfl)
    clear hd
    go_light
    obtain ⟨q, hq, hp⟩ := r3_7
    cases q
    skip
    rotate_left
    · exact .inr ⟨by simp only [Region.wanted, yielded]; simp [hq], fun h => by change u3 7 = Value.bool false at h; rw [hq] at h; cases h⟩
    refine .inl ⟨by simp only [Region.wanted, yielded]; simp [hq], ?_⟩
    have r3_8 := r3_8 hq
    have r3_9 := r3_9 hq
    have r3_10 := r3_10 hq
    obtain ⟨a0, a1, a2, a3, a4, ea, ha⟩ := r3_8.cells
    obtain ⟨b0, b1, b2, b3, b4, eb, hb⟩ := r3_9.cells
    obtain ⟨c0, c1, c2, c3, c4, ec, hc⟩ := r3_10.cells
    have hb1 := Ext.new_ (X := X3) (w := W3) 26 [a0, a1, a2, a3, a4, b0, b1, b2, b3, b4, c0, c1, c2, c3, c4]
    exact ⟨.slice (some ⟨W3.heap.size, 0, none⟩) 3 3, _, _, by go_simp, hb1, fun _ => ⟨⟨_, rfl⟩, Tms.three (Blk.new' _ 26 _ _ rfl) (fun h => by have := hB.lt hX3 _ h; omega) (ha.grow hb1) (hb.grow hb1) (hc.grow hb1)⟩⟩
  · refine stepRunG rfl (fun _ _ => rfl) ?_
    intro u3 X3 W3 hB hd
    have r3_7 : Rv.P (isBoolIf True) (u3 7) X3 W3 := hd 7 (by kernel_rfl)
    clear hd
    go_light
    obtain ⟨q, hq, hp⟩ := r3_7
    cases q
    skip
    rotate_left
    · exact .inr ⟨by simp only [Region.wanted, yielded]; simp [hq], fun h => by change u3 7 = Value.bool false at h; rw [hq] at h; cases h⟩
    refine .inl ⟨by simp only [Region.wanted, yielded]; simp [hq], ?_⟩
    exact ⟨_, X3, W3, rfl, Ext.refl _ _, fun _ => HY.out.grow (hE1.trans hB)⟩
  · refine stepRunG rfl (fun _ _ => rfl) ?_
    intro u3 X3 W3 hB hd
    have r3_7 : Rv.P (isBoolIf True) (u3 7) X3 W3 := hd 7 (by kernel_rfl)
    have r3_11 : Rv.P ((isTmf [t, a, b]).on (u3 7 = .bool false)) (u3 11) X3 W3 := hd 11 (by kernel_rfl)
    have r3_12 : Rv.P ((isTms bys).on (u3 7 = .bool false)) (u3 12) X3 W3 := hd 12 (by kernel_rfl)
    clear hd
    go_light
    obtain ⟨q, hq, hp⟩ := r3_7
    cases q
    skip
    rotate_left
    · exact .inr ⟨by simp only [Region.wanted, yielded]; simp [hq], fun h => by change u3 7 = Value.bool false at h; rw [hq] at h; cases h⟩
    refine .inl ⟨by simp only [Region.wanted, yielded]; simp [hq], ?_⟩
    have r3_11 := r3_11 hq
    have r3_12 := r3_12 hq
    obtain ⟨va, wa, ha1, ha2, ha3⟩ := app_full (hB.lt hX3) r3_11 r3_12 (by have := HN.out; simp <;> omega)
    exact ⟨va, _, wa, exec_append rfl rfl rfl ha1, ha2, fun _ => ha3⟩
  · refine stepCallG rfl (fun _ _ => rfl) ?_
    intro u3 X3 W3 hB hd
    have r3_7 : Rv.P (isBoolIf True) (u3 7) X3 W3 := hd 7 (by kernel_rfl)
    have r3_13 : Rv.P ((isTms ([t, a, b] ++ bys)).on (u3 7 = .bool false)) (u3 13) X3 W3 := hd 13 (by kernel_rfl)
    clear hd
    go_light
    have hXW := hB.lt hX3
    obtain ⟨⟨x0, x1, x2, x3, x4⟩, -⟩ := (k1.grow hB.bel).five; obtain ⟨⟨y0, y1, y2, y3, y4⟩, -⟩ := (k2.grow hB.bel).five; obtain ⟨⟨z0, z1, z2, z3, z4⟩, -⟩ := (k3.grow hB.bel).five
    obtain ⟨q, hq, hp⟩ := r3_7
    cases q
    skip
    rotate_left
    · exact .inr ⟨by simp only [Region.wanted, yielded]; simp [hq], fun h => by change u3 7 = Value.bool false at h; rw [hq] at h; cases h⟩
    refine .inl ⟨by simp only [Region.wanted, yielded]; simp [hq], ?_⟩
    have r3_13 := r3_13 hq
    refine ⟨8, #[u3 13], exec_call _ rfl rfl (by first | rfl | (simp only [*]; rfl)) (by kernel_rfl), ?_⟩
    · refine (tame_ok' _ _ r3_13).mono ?_
      rintro e w1 ⟨v1, rfl, hb1, hr1⟩
      exact ⟨v1, X3, rfl, .of hb1, fun _ => hr1⟩
  · refine stepRunG rfl (fun _ _ => rfl) ?_
    intro u3 X3 W3 hB hd
    have r3_7 : Rv.P (isBoolIf True) (u3 7) X3 W3 := hd 7 (by kernel_rfl)
    have r3_14 : Rv.P ((isBoolThen (T.Tames ([t, a, b] ++ bys))).on (u3 7 = .bool false)) (u3 14) X3 W3 := hd 14 (by kernel_rfl)
    clear hd
    go_light
    obtain ⟨q, hq, hp⟩ := r3_7
    cases q
    skip
    rotate_left
    · exact .inr ⟨by simp only [Region.wanted, yielded]; simp [hq], fun h => by change u3 7 = Value.bool false at h; rw [hq] at h; cases h⟩
    refine .inl ⟨by simp only [Region.wanted, yielded]; simp [hq], ?_⟩
    have r3_14 := r3_14 hq
    obtain ⟨q2, hq2, hp2⟩ := r3_14; exact ⟨.bool (!q2), X3, W3, by go_simp, Ext.refl _ _, fun _ => ⟨_, rfl, fun h => hp2 (by simpa using h)⟩⟩
  · refine stepRun rfl rfl (fun _ _ => rfl) ?_
    intro u3 X3 W3 hB hd
    have r3_7 : Rv.P (isBoolIf True) (u3 7) X3 W3 := hd 7 (by kernel_rfl)
    have r3_15 : Rv.P ((isBoolIf (T.Tames ([t, a, b] ++ bys))).on (u3 7 = .bool false)) (u3 15) X3 W3 := hd 15 (by kernel_rfl)
    clear hd
    go_light
    obtain ⟨q, hq, hp⟩ := r3_7
    cases q with
    | true => exact ⟨.bool true, X3, W3, by go_simp, Ext.refl _ _, ⟨true, rfl, fun h => by cases h⟩⟩
    | false =>
      obtain ⟨q2, hq2, hp2⟩ := r3_15 hq
      exact ⟨.bool q2, X3, W3, by go_simp, Ext.refl _ _, ⟨q2, rfl, fun h => by first | exact hp2 h | exact hp rfl⟩⟩
  · refine stepRun rfl rfl (fun _ _ => rfl) ?_
    intro u3 X3 W3 hB hd
    have r3_14 : Rv.P ((isBoolThen (T.Tames ([t, a, b] ++ bys))).on (u3 7 = .bool false)) (u3 14) X3 W3 := hd 14 (by kernel_rfl)
    have r3_16 : Rv.P (isBoolIf (T.Tames ([t, a, b] ++ bys))) (u3 16) X3 W3 := hd 16 (by kernel_rfl)
    clear hd
    go_light
    exact ⟨u3 16, X3, W3, rfl, Ext.refl _ _, r3_16⟩
  · refine stepRunG rfl (fun _ _ => rfl) ?_
    intro u3 X3 W3 hB hd
    have r3_17 : Rv.P (isBoolIf (T.Tames ([t, a, b] ++ bys))) (u3 17) X3 W3 := hd 17 (by kernel_rfl)
    clear hd
    go_light
    obtain ⟨⟨x0, x1, x2, x3, x4⟩, -⟩ := (k1.grow hB.bel).five; obtain ⟨⟨y0, y1, y2, y3, y4⟩, -⟩ := (k2.grow hB.bel).five; obtain ⟨⟨z0, z1, z2, z3, z4⟩, -⟩ := (k3.grow hB.bel).five
    obtain ⟨q, hq, hp⟩ := r3_17
    cases q
    skip
    rotate_left
    · exact .inr ⟨by simp only [Region.wanted, yielded]; simp [hq], fun h => by change u3 17 = Value.bool false at h; rw [hq] at h; cases h⟩
    refine .inl ⟨by simp only [Region.wanted, yielded]; simp [hq], ?_⟩
    exact ⟨_, X3, W3, by go_simp, Ext.refl _ _, fun _ => HT.out.grow (hE1.trans hB)⟩
  · refine stepRunG rfl (fun _ _ => rfl) ?_
    intro u3 X3 W3 hB hd
    have r3_17 : Rv.P (isBoolIf (T.Tames ([t, a, b] ++ bys))) (u3 17) X3 W3 := hd 17 (by kernel_rfl)
    clear hd
    go_light
    obtain ⟨⟨x0, x1, x2, x3, x4⟩, -⟩ := (k1.grow hB.bel).five; obtain ⟨⟨y0, y1, y2, y3, y4⟩, -⟩ := (k2.grow hB.bel).five; obtain ⟨⟨z0, z1, z2, z3, z4⟩, -⟩ := (k3.grow hB.bel).five
    obtain ⟨q, hq, hp⟩ := r3_17
    cases q
    skip
    rotate_left
    · exact .inr ⟨by simp only [Region.wanted, yielded]; simp [hq], fun h => by change u3 17 = Value.bool false at h; rw [hq] at h; cases h⟩
    refine .inl ⟨by simp only [Region.wanted, yielded]; simp [hq], ?_⟩
    exact ⟨_, X3, W3, by go_simp, Ext.refl _ _, fun _ => HA.out.grow (hE1.trans hB)⟩
  · refine stepCallG rfl (fun _ _ => rfl) ?_
    intro u3 X3 W3 hB hd
    have r3_17 : Rv.P (isBoolIf (T.Tames ([t, a, b] ++ bys))) (u3 17) X3 W3 := hd 17 (by kernel_rfl)
    have r3_18 : Rv.P ((isTm t).on (u3 17 = .bool false)) (u3 18) X3 W3 := hd 18 (by kernel_rfl)
    have r3_19 : Rv.P ((isTm a).on (u3 17 = .bool false)) (u3 19) X3 W3 := hd 19 (by kernel_rfl)
    clear hd
    go_light
    have hXW := hB.lt hX3
    obtain ⟨⟨x0, x1, x2, x3, x4⟩, -⟩ := (k1.grow hB.bel).five; obtain ⟨⟨y0, y1, y2, y3, y4⟩, -⟩ := (k2.grow hB.bel).five; obtain ⟨⟨z0, z1, z2, z3, z4⟩, -⟩ := (k3.grow hB.bel).five
    obtain ⟨q, hq, hp⟩ := r3_17
    cases q
    skip
    rotate_left
    · exact .inr ⟨by simp only [Region.wanted, yielded]; simp [hq], fun h => by change u3 17 = Value.bool false at h; rw [hq] at h; cases h⟩
    refine .inl ⟨by simp only [Region.wanted, yielded]; simp [hq], ?_⟩
    have r3_18 := r3_18 hq
    have r3_19 := r3_19 hq
    refine ⟨9, #[u3 18, u3 19], exec_call _ rfl rfl (by first | rfl | (simp only [*]; rfl)) (by kernel_rfl), ?_⟩
    · refine (times_ok _ _ _ _ _ _ hXW r3_18 r3_19).mono ?_
      rintro e w1 ⟨v1, rfl, hb1, hr1⟩
      exact ⟨v1, X3, rfl, .of hb1, fun _ => hr1⟩
  · refine stepRunG rfl (fun _ _ => rfl) ?_
    intro u3 X3 W3 hB hd
    have r3_17 : Rv.P (isBoolIf (T.Tames ([t, a, b] ++ bys))) (u3 17) X3 W3 := hd 17 (by kernel_rfl)
    clear hd
    go_light
    obtain ⟨⟨x0, x1, x2, x3, x4⟩, -⟩ := (k1.grow hB.bel).five; obtain ⟨⟨y0, y1, y2, y3, y4⟩, -⟩ := (k2.grow hB.bel).five; obtain ⟨⟨z0, z1, z2, z3, z4⟩, -⟩ := (k3.grow hB.bel).five
    obtain ⟨q, hq, hp⟩ := r3_17
    cases q
    skip
    rotate_left
    · exact .inr ⟨by simp only [Region.wanted, yielded]; simp [hq], fun h => by change u3 17 = Value.bool false at h; rw [hq] at h; cases h⟩
    refine .inl ⟨by simp only [Region.wanted, yielded]; simp [hq], ?_⟩
    exact ⟨_, X3, W3, by go_simp, Ext.refl _ _, fun _ => HB.out.grow (hE1.trans hB)⟩
  · refine stepRunG rfl (fun _ _ => rfl) ?_
    intro u3 X3 W3 hB hd
    have r3_17 : Rv.P (isBoolIf (T.Tames ([t, a, b] ++ bys))) (u3 17) X3 W3 := hd 17 (by kernel_rfl)
    clear hd
    go_light
    obtain ⟨⟨x0, x1, x2, x3, x4⟩, -⟩ := (k1.grow hB.bel).five; obtain ⟨⟨y0, y1, y2, y3, y4⟩, -⟩ := (k2.grow hB.bel).five; obtain ⟨⟨z0, z1, z2, z3, z4⟩, -⟩ := (k3.grow hB.bel).five
    obtain ⟨q, hq, hp⟩ := r3_17
    cases q
    skip
    rotate_left
    · exact .inr ⟨by simp only [Region.wanted, yielded]; simp [hq], fun h => by change u3 17 = Value.bool false at h; rw [hq] at h; cases h⟩
    refine .inl ⟨by simp only [Region.wanted, yielded]; simp [hq], ?_⟩
    exact ⟨_, X3, W3, by go_simp, Ext.refl _ _, fun _ => HA.out.grow (hE1.trans hB)⟩
  · refine stepCallG rfl (fun _ _ => rfl) ?_
    intro u3 X3 W3 hB hd
    have r3_17 : Rv.P (isBoolIf (T.Tames ([t, a, b] ++ bys))) (u3 17) X3 W3 := hd 17 (by kernel_rfl)
    have r3_20 : Rv.P ((isInt).on (u3 17 = .bool false)) (u3 20) X3 W3 := hd 20 (by kernel_rfl)
    have r3_21 : Rv.P ((isTm b).on (u3 17 = .bool false)) (u3 21) X3 W3 := hd 21 (by kernel_rfl)
    have r3_22 : Rv.P ((isTm a).on (u3 17 = .bool false)) (u3 22) X3 W3 := hd 22 (by kernel_rfl)
    clear hd
    go_light
    have hXW := hB.lt hX3
    obtain ⟨⟨x0, x1, x2, x3, x4⟩, -⟩ := (k1.grow hB.bel).five; obtain ⟨⟨y0, y1, y2, y3, y4⟩, -⟩ := (k2.grow hB.bel).five; obtain ⟨⟨z0, z1, z2, z3, z4⟩, -⟩ := (k3.grow hB.bel).five
    obtain ⟨q, hq, hp⟩ := r3_17
    cases q
    skip
    rotate_left
    · exact .inr ⟨by simp only [Region.wanted, yielded]; simp [hq], fun h => by change u3 17 = Value.bool false at h; rw [hq] at h; cases h⟩
    refine .inl ⟨by simp only [Region.wanted, yielded]; simp [hq], ?_⟩
    have r3_20 := r3_20 hq
    have r3_21 := r3_21 hq
    have r3_22 := r3_22 hq
    refine ⟨9, #[u3 21, u3 22], exec_call _ rfl rfl (by first | rfl | (simp only [*]; rfl)) (by kernel_rfl), ?_⟩
    · refine (times_ok _ _ _ _ _ _ hXW r3_21 r3_22).mono ?_
      rintro e w1 ⟨v1, rfl, hb1, hr1⟩
      exact ⟨v1, X3, rfl, .of hb1, fun _ => hr1⟩
  · refine stepRunG rfl (fun _ _ => rfl) ?_
    intro u3 X3 W3 hB hd
    have r3_17 : Rv.P (isBoolIf (T.Tames ([t, a, b] ++ bys))) (u3 17) X3 W3 := hd 17 (by kernel_rfl)
    have r3_20 : Rv.P ((isInt).on (u3 17 = .bool false)) (u3 20) X3 W3 := hd 20 (by kernel_rfl)
    have r3_23 : Rv.P ((isInt).on (u3 17 = .bool false)) (u3 23) X3 W3 := hd 23 (by kernel_rfl)
    clear hd
    go_light
    obtain ⟨q, hq, hp⟩ := r3_17
    cases q
    skip
    rotate_left
    · exact .inr ⟨by simp only [Region.wanted, yielded]; simp [hq], fun h => by change u3 17 = Value.bool false at h; rw [hq] at h; cases h⟩
    refine .inl ⟨by simp only [Region.wanted, yielded]; simp [hq], ?_⟩
    have r3_20 := r3_20 hq
    have r3_23 := r3_23 hq
    obtain ⟨m, hm⟩ := r3_20; obtain ⟨n, hn⟩ := r3_23; exact ⟨.int .i64 (IntKind.i64.wrap (m * n)), X3, W3, by go_simp, Ext.refl _ _, fun _ => ⟨_, rfl⟩⟩
  · refine stepRunG rfl (fun _ _ => rfl) ?_
    intro u3 X3 W3 hB hd
    have r3_17 : Rv.P (isBoolIf (T.Tames ([t, a, b] ++ bys))) (u3 17) X3 W3 := hd 17 (by kernel_rfl)
    have r3_24 : Rv.P ((isInt).on (u3 17 = .bool false)) (u3 24) X3 W3 := hd 24 (by kernel_rfl)
    clear hd
    go_light
    obtain ⟨q, hq, hp⟩ := r3_17
    cases q
    skip
    rotate_left
    · exact .inr ⟨by simp only [Region.wanted, yielded]; simp [hq], fun h => by change u3 17 = Value.bool false at h; rw [hq] at h; cases h⟩
    refine .inl ⟨by simp only [Region.wanted, yielded]; simp [hq], ?_⟩
    have r3_24 := r3_24 hq
    obtain ⟨m, hm⟩ := r3_24; exact ⟨.bool (decide (36000 < m)), X3, W3, by go_simp, Ext.refl _ _, fun _ => ⟨_, rfl, fun _ => trivial⟩⟩
  · refine stepRun rfl rfl (fun _ _ => rfl) ?_
    intro u3 X3 W3 hB hd
    have r3_17 : Rv.P (isBoolIf (T.Tames ([t, a, b] ++ bys))) (u3 17) X3 W3 := hd 17 (by kernel_rfl)
    have r3_25 : Rv.P ((isBoolIf True).on (u3 17 = .bool false)) (u3 25) X3 W3 := hd 25 (by kernel_rfl)
    clear hd
    go_light
    obtain ⟨q, hq, hp⟩ := r3_17
    cases q with
    | true => exact ⟨.bool true, X3, W3, by go_simp, Ext.refl _ _, ⟨true, rfl, fun h => by cases h⟩⟩
    | false =>
      obtain ⟨q2, hq2, hp2⟩ := r3_25 hq
      exact ⟨.bool q2, X3, W3, by go_simp, Ext.refl _ _, ⟨q2, rfl, fun h => by first | exact hp2 h | exact hp rfl⟩⟩
  intro u3 X3 W3 hB h
  have hXW := hB.lt hX3
  have r3_0 : Tm X3 W3 t (u3 0) := h 0 (by decide)
  have r3_1 : Tm X3 W3 a (u3 1) := h 1 (by decide)
  have r3_2 : Tm X3 W3 b (u3 2) := h 2 (by decide)
  have r3_3 : Rv.P (isTmf [t, a, b]) (u3 3) X3 W3 := h 3 (by decide)
  have r3_4 : Tms X3 W3 bys (u3 4) := h 4 (by decide)
  have r3_5 : Tms X3 W3 ([t, a, b] ++ bys) (u3 5) := h 5 (by decide)
  have r3_6 : Rv.P (isBoolIf True) (u3 6) X3 W3 := h 6 (by decide)
  have r3_7 : Rv.P (isBoolIf True) (u3 7) X3 W3 := h 7 (by decide)
  have r3_8 : Rv.P ((isTm t).on (u3 7 = .bool false)) (u3 8) X3 W3 := h 8 (by decide)
  have r3_9 : Rv.P ((isTm a).on (u3 7 = .bool false)) (u3 9) X3 W3 := h 9 (by decide)
  have r3_10 : Rv.P ((isTm b).on (u3 7 = .bool false)) (u3 10) X3 W3 := h 10 (by decide)
  have r3_11 : Rv.P ((isTmf [t, a, b]).on (u3 7 = .bool false)) (u3 11) X3 W3 := h 11 (by decide)
  have r3_12 : Rv.P ((isTms bys).on (u3 7 = .bool false)) (u3 12) X3 W3 := h 12 (by decide)
  have r3_13 : Rv.P ((isTms ([t, a, b] ++ bys)).on (u3 7 = .bool false)) (u3 13) X3 W3 := h 13 (by decide)
  have r3_14 : Rv.P ((isBoolThen (T.Tames ([t, a, b] ++ bys))).on (u3 7 = .bool false)) (u3 14) X3 W3 := h 14 (by decide)
  have r3_15 : Rv.P ((isBoolIf (T.Tames ([t, a, b] ++ bys))).on (u3 7 = .bool false)) (u3 15) X3 W3 := h 15 (by decide)
  have r3_16 : Rv.P (isBoolIf (T.Tames ([t, a, b] ++ bys))) (u3 16) X3 W3 := h 16 (by decide)
  have r3_17 : Rv.P (isBoolIf (T.Tames ([t, a, b] ++ bys))) (u3 17) X3 W3 := h 17 (by decide)
  have r3_18 : Rv.P ((isTm t).on (u3 17 = .bool false)) (u3 18) X3 W3 := h 18 (by decide)
  have r3_19 : Rv.P ((isTm a).on (u3 17 = .bool false)) (u3 19) X3 W3 := h 19 (by decide)
  have r3_20 : Rv.P ((isInt).on (u3 17 = .bool false)) (u3 20) X3 W3 := h 20 (by decide)
  have r3_21 : Rv.P ((isTm b).on (u3 17 = .bool false)) (u3 21) X3 W3 := h 21 (by decide)
  have r3_22 : Rv.P ((isTm a).on (u3 17 = .bool false)) (u3 22) X3 W3 := h 22 (by decide)
  have r3_23 : Rv.P ((isInt).on (u3 17 = .bool false)) (u3 23) X3 W3 := h 23 (by decide)
  have r3_24 : Rv.P ((isInt).on (u3 17 = .bool false)) (u3 24) X3 W3 := h 24 (by decide)
  have r3_25 : Rv.P ((isBoolIf True).on (u3 17 = .bool false)) (u3 25) X3 W3 := h 25 (by decide)
  have r3_26 : Rv.P (isBoolIf (T.Tames ([t, a, b] ++ bys))) (u3 26) X3 W3 := h 26 (by decide)
  clear h
  dsimp only
  have hE3 := hE1.trans hB
  have m1 := k1.grow hB.bel
  have m2 := k2.grow hB.bel
  have m3 := k3.grow hB.bel
  obtain ⟨q, hq, hp⟩ := r3_26
  clear hXW hB r3_0 r3_1 r3_2 r3_3 r3_4 r3_5 r3_6 r3_7 r3_8 r3_9 r3_10 r3_11 r3_12 r3_13 r3_14 r3_15 r3_16 r3_17 r3_18 r3_19 r3_20 r3_21 r3_22 r3_23 r3_24 r3_25 k1 k2 k3 hX3
  rw [hq]
  cases q with
  | true =>
    clear hq hp
    go_wp2
    go_ret
    exact ⟨_, rfl, hE3.bel, rfl⟩
  | false =>
    have htame := hp rfl
    clear hq hp
    have tt : t.Tame := T.Tames_mem htame (by simp)
    have ta : a.Tame := T.Tames_mem htame (by simp)
    have tb : b.Tame := T.Tames_mem htame (by simp)
    have HTT := hid (And.intro tt (And.intro ta tb))
    clear htame tt ta tb
    have hX5 := hE3.lt HX.out
    go_upto_region 5 with (fail)
    refine anyInv (X := X3) 10 ((fun x0 x1 x2 x3 x4 x5 x6 x7 x8 x9 x10 x11 x12 x13 x14 x15 x16 x17 x18 x19 x20 x21 x22 x23 x24 x25 x26 x27 x28 x29 x30 x31 x32 x33 x34 x35 x36 x37 x38 x39 x50 x51 x52 x53 x54 x55 x56 x57 x58 x59 x60 x61 x62 x63 x64 x65 x66 x67 (_ : Unit) => fun u => Act.mk #[x0, x1, x2, x3, x4, x5, x6, x7, x8, x9, x10, x11, x12, x13, x14, x15, x16, x17, x18, x19, x20, x21, x22, x23, x24, x25, x26, x27, x28, x29, x30, x31, x32, x33, x34, x35, x36, x37, x38, x39, u 0, u 1, u 2, u 3, u 4, u 5, u 6, u 7, u 8, u 9, x50, x51, x52, x53, x54, x55, x56, x57, x58, x59, x60, x61, x62, x63, x64, x65, x66, x67] []) _ _ _ _ _ _ _ _ _ _ _ _ _ _ _ _ _ _ _ _ _ _ _ _ _ _ _ _ _ _ _ _ _ _ _ _ _ _ _ _ _ _ _ _ _ _ _ _ _ _ _ _ _ _ _ _ _ _ ()) (fun i d => match i with | 0 => isTm t | 1 => isTms bys | 2 => isV (.int .i64 (bys.length : Nat)) | 3 => isTm (T.lift t (bys.length : Nat) 0 0) | 4 => isTms bys | 5 => isTm (T.put (T.lift t (bys.length : Nat) 0 0) bys 0) | 6 => isTm t | 7 => isTm (T.lift t 0 0 0) | 8 => isV (.bool true) | 9 => isV (.bool false) | _ => anyV) ((fun y0 y1 y2 y3 y4 y5 y6 y7 y8 y9 (_ : Unit) => fun k => match k with | 0 => y0 | 1 => y1 | 2 => y2 | 3 => y3 | 4 => y4 | 5 => y5 | 6 => y6 | 7 => y7 | 8 => y8 | 9 => y9 | _ => undef) _ _ _ _ _ _ _ _ _ _ ()) (by kernel_rfl) rfl rfl (by kernel_rfl) (steps_next (steps_next (steps_next (steps_next (steps_next (steps_next (steps_next (steps_next (steps_next (steps_next steps_end ?_) ?_) ?_) ?_) ?_) ?_) ?_) ?_) ?_) ?_) ?_
    · refine stepRun rfl rfl (fun _ _ => rfl) ?_
      intro u5 X5 W5 hB hd
      clear hd
      go_light
      obtain ⟨⟨x0, x1, x2, x3, x4⟩, -⟩ := (m1.grow hB.bel).five; have HL5 := HL.out.grow (hE3.trans hB).bel
      exact ⟨_, X5, W5, by go_simp, Ext.refl _ _, HT.out.grow (hE3.trans hB)⟩
    · refine stepRun rfl rfl (fun _ _ => rfl) ?_
      intro u5 X5 W5 hB hd
      clear hd
      go_light
      exact ⟨_, X5, W5, rfl, Ext.refl _ _, HY.out.grow (hE3.trans hB)⟩
    · refine stepRun rfl rfl (fun _ _ => rfl) ?_
      intro u5 X5 W5 hB hd
      have r5_1 : Tms X5 W5 bys (u5 1) := hd 1 (by kernel_rfl)
      clear hd
      go_light
      obtain ⟨Z, cz, ez, -⟩ := id r5_1; exact ⟨.int .i64 (bys.length : Nat), X5, W5, by go_simp, Ext.refl _ _, rfl⟩
    · refine stepCall rfl rfl (fun _ _ => rfl) ?_
      intro u5 X5 W5 hB hd
      have r5_0 : Tm X5 W5 t (u5 0) := hd 0 (by kernel_rfl)
      have r5_2 : u5 2 = (.int .i64 (bys.length : Nat)) := hd 2 (by kernel_rfl)
      clear hd
      go_light
      have hXW := hB.lt hX5
      obtain ⟨⟨x0, x1, x2, x3, x4⟩, -⟩ := (m1.grow hB.bel).five; have HL5 := HL.out.grow (hE3.trans hB).bel
      refine ⟨12, #[u5 0, u5 2, (Value.int IntKind.i64 0)], exec_call _ rfl rfl (by first | rfl | (simp only [*]; rfl)) (by kernel_rfl), ?_⟩
      · rw [r5_2]; refine (lift_ok' hXW HL5 _ _ _ _ (deep_dm HDT.out) r5_0).mono ?_; rintro e w1 ⟨v1, rfl, hb1, hr1⟩; exact ⟨v1, X5, rfl, .of hb1, hr1⟩
    · refine stepRun rfl rfl (fun _ _ => rfl) ?_
      intro u5 X5 W5 hB hd
      clear hd
      go_light
      exact ⟨_, X5, W5, rfl, Ext.refl _ _, HY.out.grow (hE3.trans hB)⟩
    · refine stepCall rfl rfl (fun _ _ => rfl) ?_
      intro u5 X5 W5 hB hd
      have r5_3 : Tm X5 W5 (T.lift t (bys.length : Nat) 0 0) (u5 3) := hd 3 (by kernel_rfl)
      have r5_4 : Tms X5 W5 bys (u5 4) := hd 4 (by kernel_rfl)
      clear hd
      go_light
      have hXW := hB.lt hX5
      obtain ⟨⟨x0, x1, x2, x3, x4⟩, -⟩ := (m1.grow hB.bel).five; have HL5 := HL.out.grow (hE3.trans hB).bel
      refine ⟨11, #[u5 3, u5 4], exec_call _ rfl rfl (by first | rfl | (simp only [*]; rfl)) (by kernel_rfl), ?_⟩
      · refine (put_ok' hXW HL5 _ _ _ _ (deep_dm (Nat.le_trans (deep_lift _ _ _ _) HDT.out)) (fun x hx => deep_dm (HDY.out x hx)) r5_3 r5_4).mono ?_
        rintro e w1 ⟨v1, rfl, hb1, hr1⟩
        exact ⟨v1, X5, rfl, .of hb1, hr1⟩
    · refine stepRun rfl rfl (fun _ _ => rfl) ?_
      intro u5 X5 W5 hB hd
      clear hd
      go_light
      obtain ⟨⟨x0, x1, x2, x3, x4⟩, -⟩ := (m1.grow hB.bel).five; have HL5 := HL.out.grow (hE3.trans hB).bel
      exact ⟨_, X5, W5, by go_simp, Ext.refl _ _, HT.out.grow (hE3.trans hB)⟩
    · refine stepCall rfl rfl (fun _ _ => rfl) ?_
      intro u5 X5 W5 hB hd
      have r5_5 : Tm X5 W5 (T.put (T.lift t (bys.length : Nat) 0 0) bys 0) (u5 5) := hd 5 (by kernel_rfl)
      have r5_6 : Tm X5 W5 t (u5 6) := hd 6 (by kernel_rfl)
      clear hd
      go_light
      have hXW := hB.lt hX5
      obtain ⟨⟨x0, x1, x2, x3, x4⟩, -⟩ := (m1.grow hB.bel).five; have HL5 := HL.out.grow (hE3.trans hB).bel
      refine ⟨12, #[u5 6, (Value.int IntKind.i64 0), (Value.int IntKind.i64 0)], exec_call _ rfl rfl (by first | rfl | (simp only [*]; rfl)) (by kernel_rfl), ?_⟩
      · refine (lift_ok' hXW HL5 _ _ _ _ (deep_dm HDT.out) r5_6).mono ?_
        rintro e w1 ⟨v1, rfl, hb1, hr1⟩
        exact ⟨v1, X5, rfl, .of hb1, hr1⟩
    · refine stepCall rfl rfl (fun _ _ => rfl) ?_
      intro u5 X5 W5 hB hd
      have r5_5 : Tm X5 W5 (T.put (T.lift t (bys.length : Nat) 0 0) bys 0) (u5 5) := hd 5 (by kernel_rfl)
      have r5_7 : Tm X5 W5 (T.lift t 0 0 0) (u5 7) := hd 7 (by kernel_rfl)
      clear hd
      go_light
      have hXW := hB.lt hX5
      obtain ⟨⟨x0, x1, x2, x3, x4⟩, -⟩ := (m1.grow hB.bel).five; have HL5 := HL.out.grow (hE3.trans hB).bel
      refine ⟨10, #[u5 5, u5 7], exec_call _ rfl rfl (by first | rfl | (simp only [*]; rfl)) (by kernel_rfl), ?_⟩
      · refine (same_ok' _ _ _ _ r5_5 r5_7).mono ?_
        rintro e w1 ⟨v1, rfl, hb1, hr1⟩
        exact ⟨v1, X5, rfl, .of hb1, isB.yes (X := X5) (w := w1) hr1 (put_lift bys (by have := HN.out; omega) t 0 HTT.out.1 ⟨by omega, by have := deep_dm HDT.out; omega⟩)⟩
    · refine stepRun rfl rfl (fun _ _ => rfl) ?_
      intro u5 X5 W5 hB hd
      have r5_8 : u5 8 = (.bool true) := hd 8 (by kernel_rfl)
      clear hd
      go_light
      refine ⟨(.bool false), X5, W5, ?_, Ext.refl _ _, rfl⟩
      go_simp
    intro u5 X5 W5 hB h
    have hXW := hB.lt hX5
    have r5_0 : Tm X5 W5 t (u5 0) := h 0 (by decide)
    have r5_1 : Tms X5 W5 bys (u5 1) := h 1 (by decide)
    have r5_2 : u5 2 = (.int .i64 (bys.length : Nat)) := h 2 (by decide)
    have r5_3 : Tm X5 W5 (T.lift t (bys.length : Nat) 0 0) (u5 3) := h 3 (by decide)
    have r5_4 : Tms X5 W5 bys (u5 4) := h 4 (by decide)
    have r5_5 : Tm X5 W5 (T.put (T.lift t (bys.length : Nat) 0 0) bys 0) (u5 5) := h 5 (by decide)
    have r5_6 : Tm X5 W5 t (u5 6) := h 6 (by decide)
    have r5_7 : Tm X5 W5 (T.lift t 0 0 0) (u5 7) := h 7 (by decide)
    have r5_8 : u5 8 = (.bool true) := h 8 (by decide)
    have r5_9 : u5 9 = (.bool false) := h 9 (by decide)
    clear h
    dsimp only
    have hE5 := hE3.trans hB
    have n1 := m1.grow hB.bel
    have n2 := m2.grow hB.bel
    have n3 := m3.grow hB.bel
    rw [r5_9]
    have hX7 := hE5.lt HX.out
    clear hXW hB r5_0 r5_1 r5_2 r5_3 r5_4 r5_5 r5_6 r5_7 r5_8 r5_9 hX5
    go_upto_region 7 with (fail)
    refine anyInv (X := X5) 9 ((fun x0 x1 x2 x3 x4 x5 x6 x7 x8 x10 x11 x12 x13 x14 x15 x16 x17 x18 x19 x20 x21 x22 x23 x24 x25 x26 x27 x28 x29 x30 x31 x32 x33 x34 x35 x36 x37 x38 x39 x40 x41 x42 x43 x44 x45 x46 x47 x48 x49 x57 x58 x59 x60 x61 x62 x63 x64 x65 x66 x67 (_ : Unit) => fun u => Act.mk #[x0, x1, x2, x3, x4, x5, x6, x7, x8, u 7, x10, x11, x12, x13, x14, x15, x16, x17, x18, x19, x20, x21, x22, x23, x24, x25, x26, x27, x28, x29, x30, x31, x32, x33, x34, x35, x36, x37, x38, x39, x40, x41, x42, x43, x44, x45, x46, x47, x48, x49, u 0, u 1, u 2, u 3, u 4, u 5, u 6, x57, x58, x59, x60, x61, x62, x63, x64, x65, x66, x67] []) _ _ _ _ _ _ _ _ _ _ _ _ _ _ _ _ _ _ _ _ _ _ _ _ _ _ _ _ _ _ _ _ _ _ _ _ _ _ _ _ _ _ _ _ _ _ _ _ _ _ _ _ _ _ _ _ _ _ _ _ ()) (fun i d => match i with | 0 => isTm t | 1 => isTm a | 2 => isTms [a] | 3 => isTm (T.put t [a] 0) | 4 => isTm b | 5 => isTms [b] | 6 => isTm (T.put (T.put t [a] 0) [b] 0) | 7 => isNew W5.heap.size 26 [.int .i64 0, .int .i64 0, .int .i64 0, .slice none 0 0, .slice none 0 0] | 8 => noV | _ => anyV) ((fun y0 y1 y2 y3 y4 y5 y6 y7 (_ : Unit) => fun k => match k with | 0 => y0 | 1 => y1 | 2 => y2 | 3 => y3 | 4 => y4 | 5 => y5 | 6 => y6 | 7 => y7 | _ => undef) _ _ _ _ _ _ _ _ ()) (by kernel_rfl) rfl rfl (by kernel_rfl) (steps_next (steps_next (steps_next (steps_next (steps_next (steps_next (steps_next (steps_next (steps_next steps_end ?_) ?_) ?_) ?_) ?_) ?_) ?_) ?_) ?_) (fun u X w hB h => ((h 8 (by decide) : False)).elim)
    · refine stepRun rfl rfl (fun _ _ => rfl) ?_
      intro u7 X7 W7 hB hd
      clear hd
      go_light
      obtain ⟨⟨x0, x1, x2, x3, x4⟩, -⟩ := (n1.grow hB.bel).five; obtain ⟨⟨y0, y1, y2, y3, y4⟩, -⟩ := (n2.grow hB.bel).five; obtain ⟨⟨z0, z1, z2, z3, z4⟩, -⟩ := (n3.grow hB.bel).five; have HL5 := HL.out.grow (hE5.trans hB).bel
      exact ⟨_, X7, W7, by go_simp, Ext.refl _ _, HT.out.grow (hE5.trans hB)⟩
    · refine stepRun rfl rfl (fun _ _ => rfl) ?_
      intro u7 X7 W7 hB hd
      clear hd
      go_light
      obtain ⟨⟨x0, x1, x2, x3, x4⟩, -⟩ := (n1.grow hB.bel).five; obtain ⟨⟨y0, y1, y2, y3, y4⟩, -⟩ := (n2.grow hB.bel).five; obtain ⟨⟨z0, z1, z2, z3, z4⟩, -⟩ := (n3.grow hB.bel).five; have HL5 := HL.out.grow (hE5.trans hB).bel
      exact ⟨_, X7, W7, by go_simp, Ext.refl _ _, HA.out.grow (hE5.trans hB)⟩
    · refine stepRun rfl rfl (fun _ _ => rfl) ?_
      intro u7 X7 W7 hB hd
      have r7_1 : Tm X7 W7 a (u7 1) := hd 1 (by kernel_rfl)
      clear hd
      go_light
      obtain ⟨a0, a1, a2, a3, a4, ea, ha⟩ := r7_1.cells
      have hb1 := Ext.new_ (X := X7) (w := W7) 26 [a0, a1, a2, a3, a4]
      exact ⟨.slice (some ⟨W7.heap.size, 0, none⟩) 1 1, _, _, by go_simp, hb1, Tms.one (Blk.new' _ 26 _ _ rfl) (fun h => by have := hB.lt hX7 _ h; omega) (ha.grow hb1)⟩
    · refine stepCall rfl rfl (fun _ _ => rfl) ?_
      intro u7 X7 W7 hB hd
      have r7_0 : Tm X7 W7 t (u7 0) := hd 0 (by kernel_rfl)
      have r7_2 : Tms X7 W7 [a] (u7 2) := hd 2 (by kernel_rfl)
      clear hd
      go_light
      have hXW := hB.lt hX7
      obtain ⟨⟨x0, x1, x2, x3, x4⟩, -⟩ := (n1.grow hB.bel).five; obtain ⟨⟨y0, y1, y2, y3, y4⟩, -⟩ := (n2.grow hB.bel).five; obtain ⟨⟨z0, z1, z2, z3, z4⟩, -⟩ := (n3.grow hB.bel).five; have HL5 := HL.out.grow (hE5.trans hB).bel
      refine ⟨11, #[u7 0, u7 2], exec_call _ rfl rfl (by first | rfl | (simp only [*]; rfl)) (by kernel_rfl), ?_⟩
      · refine (put_ok' hXW HL5 _ _ _ _ (deep_dm HDT.out) (fun x hx => by simp at hx; subst hx; exact deep_dm HDA.out) r7_0 r7_2).mono ?_
        rintro e w1 ⟨v1, rfl, hb1, hr1⟩
        exact ⟨v1, X7, rfl, .of hb1, hr1⟩
    · refine stepRun rfl rfl (fun _ _ => rfl) ?_
      intro u7 X7 W7 hB hd
      clear hd
      go_light
      obtain ⟨⟨x0, x1, x2, x3, x4⟩, -⟩ := (n1.grow hB.bel).five; obtain ⟨⟨y0, y1, y2, y3, y4⟩, -⟩ := (n2.grow hB.bel).five; obtain ⟨⟨z0, z1, z2, z3, z4⟩, -⟩ := (n3.grow hB.bel).five; have HL5 := HL.out.grow (hE5.trans hB).bel
      exact ⟨_, X7, W7, by go_simp, Ext.refl _ _, HB.out.grow (hE5.trans hB)⟩
    · refine stepRun rfl rfl (fun _ _ => rfl) ?_
      intro u7 X7 W7 hB hd
      have r7_4 : Tm X7 W7 b (u7 4) := hd 4 (by kernel_rfl)
      clear hd
      go_light
      obtain ⟨a0, a1, a2, a3, a4, ea, ha⟩ := r7_4.cells
      have hb1 := Ext.new_ (X := X7) (w := W7) 26 [a0, a1, a2, a3, a4]
      exact ⟨.slice (some ⟨W7.heap.size, 0, none⟩) 1 1, _, _, by go_simp, hb1, Tms.one (Blk.new' _ 26 _ _ rfl) (fun h => by have := hB.lt hX7 _ h; omega) (ha.grow hb1)⟩
    · refine stepCall rfl rfl (fun _ _ => rfl) ?_
      intro u7 X7 W7 hB hd
      have r7_3 : Tm X7 W7 (T.put t [a] 0) (u7 3) := hd 3 (by kernel_rfl)
      have r7_5 : Tms X7 W7 [b] (u7 5) := hd 5 (by kernel_rfl)
      clear hd
      go_light
      have hXW := hB.lt hX7
      obtain ⟨⟨x0, x1, x2, x3, x4⟩, -⟩ := (n1.grow hB.bel).five; obtain ⟨⟨y0, y1, y2, y3, y4⟩, -⟩ := (n2.grow hB.bel).five; obtain ⟨⟨z0, z1, z2, z3, z4⟩, -⟩ := (n3.grow hB.bel).five; have HL5 := HL.out.grow (hE5.trans hB).bel
      refine ⟨11, #[u7 3, u7 5], exec_call _ rfl rfl (by first | rfl | (simp only [*]; rfl)) (by kernel_rfl), ?_⟩
      · refine (put_ok' hXW HL5 _ _ _ _ (deep_dm2 (Nat.le_trans (deep_put [a] 1048576 (fun x hx => by simp at hx; subst hx; exact HDA.out) t 0) (Nat.add_le_add_right HDT.out _))) (fun x hx => by simp at hx; subst hx; exact deep_dm HDB.out) r7_3 r7_5).mono ?_
        rintro e w1 ⟨v1, rfl, hb1, hr1⟩
        exact ⟨v1, X7, rfl, .of hb1, hr1⟩
    · refine stepRun rfl rfl (fun _ _ => rfl) ?_
      intro u7 X7 W7 hB hd
      clear hd
      go_light
      exact ⟨_, _, _, by go_simp, Ext.alloc _ _ _, isNew.mk _ _ hB.bel.size⟩
    refine stepLast rfl rfl (by kernel_rfl) ?_
    intro u7 X7 W7 hB hd K hK
    have hXW := hB.lt hX7
    have r7_0 : Tm X7 W7 t (u7 0) := hd 0 (by kernel_rfl)
    have r7_1 : Tm X7 W7 a (u7 1) := hd 1 (by kernel_rfl)
    have r7_2 : Tms X7 W7 [a] (u7 2) := hd 2 (by kernel_rfl)
    have r7_3 : Tm X7 W7 (T.put t [a] 0) (u7 3) := hd 3 (by kernel_rfl)
    have r7_4 : Tm X7 W7 b (u7 4) := hd 4 (by kernel_rfl)
    have r7_5 : Tms X7 W7 [b] (u7 5) := hd 5 (by kernel_rfl)
    have r7_6 : Tm X7 W7 (T.put (T.put t [a] 0) [b] 0) (u7 6) := hd 6 (by kernel_rfl)
    have r7_7 : Rv.P (isNew W5.heap.size 26 [.int .i64 0, .int .i64 0, .int .i64 0, .slice none 0 0, .slice none 0 0]) (u7 7) X7 W7 := hd 7 (by kernel_rfl)
    clear hd
    obtain ⟨⟨x0, x1, x2, x3, x4⟩, -⟩ := (n1.grow hB.bel).five; obtain ⟨⟨y0, y1, y2, y3, y4⟩, -⟩ := (n2.grow hB.bel).five; obtain ⟨⟨z0, z1, z2, z3, z4⟩, -⟩ := (n3.grow hB.bel).five; have HL5 := HL.out.grow (hE5.trans hB).bel
    obtain ⟨g7, eg, hg7, hXg7, hblk⟩ := id r7_7
    obtain ⟨Al7, cl7, Ak7, ck7, et, ht⟩ := (id r7_6).form
    obtain ⟨⟨q0, q1, q2, q3, q4⟩, ⟨z0, z1, z2, z3, z4⟩⟩ := hblk.five
    go_simp
    refine hK _ _ ?_
    clear hK K q0 q1 q2 q3 q4 z0 z1 z2 z3 z4 eg et
    have hE7 := hB.fiveSet hg7 (.int .i64 (T.put (T.put t [a] 0) [b] 0).k) (.int .i64 (T.put (T.put t [a] 0) [b] 0).n) (.int .i64 (T.put (T.put t [a] 0) [b] 0).a) (.slice Al7 (T.put (T.put t [a] 0) [b] 0).ls.length cl7) (.slice Ak7 (T.put (T.put t [a] 0) [b] 0).ks.length ck7)
    have hS7 := hblk.fiveSet (.int .i64 (T.put (T.put t [a] 0) [b] 0).k) (.int .i64 (T.put (T.put t [a] 0) [b] 0).n) (.int .i64 (T.put (T.put t [a] 0) [b] 0).a) (.slice Al7 (T.put (T.put t [a] 0) [b] 0).ls.length cl7) (.slice Ak7 (T.put (T.put t [a] 0) [b] 0).ks.length ck7)
    have hT7 := ht.fiveSet hXg7 (.int .i64 (T.put (T.put t [a] 0) [b] 0).k) (.int .i64 (T.put (T.put t [a] 0) [b] 0).n) (.int .i64 (T.put (T.put t [a] 0) [b] 0).a) (.slice Al7 (T.put (T.put t [a] 0) [b] 0).ls.length cl7) (.slice Ak7 (T.put (T.put t [a] 0) [b] 0).ks.length ck7)
    have hXE7 := hE7.lt hX7
    clear ht hblk hB hXW r7_0 r7_1 r7_2 r7_3 r7_4 r7_5 r7_6 r7_7
    change Exit.then _ _ _ _ (set5 W7 g7 _ _ _ _ _)
    generalize set5 W7 g7 (.int .i64 (T.put (T.put t [a] 0) [b] 0).k) (.int .i64 (T.put (T.put t [a] 0) [b] 0).n) (.int .i64 (T.put (T.put t [a] 0) [b] 0).a) (.slice Al7 (T.put (T.put t [a] 0) [b] 0).ls.length cl7) (.slice Ak7 (T.put (T.put t [a] 0) [b] 0).ks.length ck7) = V7 at *
    have p1 := n1.grow hE7.bel
    have p2 := n2.grow hE7.bel
    have p3 := n3.grow hE7.bel
    have hE70 := hE5.trans hE7
    generalize hone : T.put (T.put t [a] 0) [b] 0 = one at *
    have HONE := hid hone
    have hX8 := hXE7
    clear hone n1 n2 n3 hX7 hXE7
    have hd8 : ∀ x, x ∈ [b, T.put a [b] 0] → x.deep ≤ DM := fun x hx => by
      simp at hx
      rcases hx with rfl | rfl
      · exact deep_dm HDB.out
      · exact deep_dm2 (Nat.le_trans (deep_put [b] 1048576 (fun x hx => by simp at hx; subst hx; exact HDB.out) a 0) (Nat.add_le_add_right HDA.out _))
    have HD8 := hid hd8
    clear hd8
    go_upto_region 8 with (fail)
    refine anyInv (X := X7) 10 ((fun x0 x1 x2 x3 x4 x5 x6 x7 x8 x9 x11 x12 x13 x14 x15 x16 x17 x18 x19 x20 x21 x22 x23 x24 x25 x26 x27 x28 x29 x30 x31 x32 x33 x34 x35 x36 x37 x38 x39 x40 x41 x42 x43 x44 x45 x46 x47 x48 x49 x50 x51 x52 x53 x54 x55 x56 x65 x66 x67 (_ : Unit) => fun u => Act.mk #[x0, x1, x2, x3, x4, x5, x6, x7, x8, x9, u 8, x11, x12, x13, x14, x15, x16, x17, x18, x19, x20, x21, x22, x23, x24, x25, x26, x27, x28, x29, x30, x31, x32, x33, x34, x35, x36, x37, x38, x39, x40, x41, x42, x43, x44, x45, x46, x47, x48, x49, x50, x51, x52, x53, x54, x55, x56, u 0, u 1, u 2, u 3, u 4, u 5, u 6, u 7, x65, x66, x67] []) _ _ _ _ _ _ _ _ _ _ _ _ _ _ _ _ _ _ _ _ _ _ _ _ _ _ _ _ _ _ _ _ _ _ _ _ _ _ _ _ _ _ _ _ _ _ _ _ _ _ _ _ _ _ _ _ _ _ _ ()) (fun i d => match i with | 0 => isTm t | 1 => isTm b | 2 => isTm a | 3 => isTm b | 4 => isTms [b] | 5 => isTm (T.put a [b] 0) | 6 => isTms [b, T.put a [b] 0] | 7 => isTm (T.put t [b, T.put a [b] 0] 0) | 8 => isNew V7.heap.size 26 [.int .i64 0, .int .i64 0, .int .i64 0, .slice none 0 0, .slice none 0 0] | 9 => noV | _ => anyV) ((fun y0 y1 y2 y3 y4 y5 y6 y7 y8 (_ : Unit) => fun k => match k with | 0 => y0 | 1 => y1 | 2 => y2 | 3 => y3 | 4 => y4 | 5 => y5 | 6 => y6 | 7 => y7 | 8 => y8 | _ => undef) _ _ _ _ _ _ _ _ _ ()) (by kernel_rfl) rfl rfl (by kernel_rfl) (steps_next (steps_next (steps_next (steps_next (steps_next (steps_next (steps_next (steps_next (steps_next (steps_next steps_end ?_) ?_) ?_) ?_) ?_) ?_) ?_) ?_) ?_) ?_) (fun u X w hB h => ((h 9 (by decide) : False)).elim)
    · refine stepRun rfl rfl (fun _ _ => rfl) ?_
      intro u8 X8 W8 hB hd
      clear hd
      go_light
      obtain ⟨⟨x0, x1, x2, x3, x4⟩, -⟩ := (p1.grow hB.bel).five; obtain ⟨⟨y0, y1, y2, y3, y4⟩, -⟩ := (p2.grow hB.bel).five; obtain ⟨⟨z0, z1, z2, z3, z4⟩, -⟩ := (p3.grow hB.bel).five; have HL5 := HL.out.grow (hE70.trans hB).bel
      exact ⟨_, X8, W8, by go_simp, Ext.refl _ _, HT.out.grow (hE70.trans hB)⟩
    · refine stepRun rfl rfl (fun _ _ => rfl) ?_
      intro u8 X8 W8 hB hd
      clear hd
      go_light
      obtain ⟨⟨x0, x1, x2, x3, x4⟩, -⟩ := (p1.grow hB.bel).five; obtain ⟨⟨y0, y1, y2, y3, y4⟩, -⟩ := (p2.grow hB.bel).five; obtain ⟨⟨z0, z1, z2, z3, z4⟩, -⟩ := (p3.grow hB.bel).five; have HL5 := HL.out.grow (hE70.trans hB).bel
      exact ⟨_, X8, W8, by go_simp, Ext.refl _ _, HB.out.grow (hE70.trans hB)⟩
    · refine stepRun rfl rfl (fun _ _ => rfl) ?_
      intro u8 X8 W8 hB hd
      clear hd
      go_light
      obtain ⟨⟨x0, x1, x2, x3, x4⟩, -⟩ := (p1.grow hB.bel).five; obtain ⟨⟨y0, y1, y2, y3, y4⟩, -⟩ := (p2.grow hB.bel).five; obtain ⟨⟨z0, z1, z2, z3, z4⟩, -⟩ := (p3.grow hB.bel).five; have HL5 := HL.out.grow (hE70.trans hB).bel
      exact ⟨_, X8, W8, by go_simp, Ext.refl _ _, HA.out.grow (hE70.trans hB)⟩
    · refine stepRun rfl rfl (fun _ _ => rfl) ?_
      intro u8 X8 W8 hB hd
      clear hd
      go_light
      obtain ⟨⟨x0, x1, x2, x3, x4⟩, -⟩ := (p1.grow hB.bel).five; obtain ⟨⟨y0, y1, y2, y3, y4⟩, -⟩ := (p2.grow hB.bel).five; obtain ⟨⟨z0, z1, z2, z3, z4⟩, -⟩ := (p3.grow hB.bel).five; have HL5 := HL.out.grow (hE70.trans hB).bel
      exact ⟨_, X8, W8, by go_simp, Ext.refl _ _, HB.out.grow (hE70.trans hB)⟩
    · refine stepRun rfl rfl (fun _ _ => rfl) ?_
      intro u8 X8 W8 hB hd
      have r8_3 : Tm X8 W8 b (u8 3) := hd 3 (by kernel_rfl)
      clear hd
      go_light
      obtain ⟨a0, a1, a2, a3, a4, ea, ha⟩ := r8_3.cells
      have hb1 := Ext.new_ (X := X8) (w := W8) 26 [a0, a1, a2, a3, a4]
      exact ⟨.slice (some ⟨W8.heap.size, 0, none⟩) 1 1, _, _, by go_simp, hb1, Tms.one (Blk.new' _ 26 _ _ rfl) (fun h => by have := hB.lt hX8 _ h; omega) (ha.grow hb1)⟩
    · refine stepCall rfl rfl (fun _ _ => rfl) ?_
      intro u8 X8 W8 hB hd
      have r8_2 : Tm X8 W8 a (u8 2) := hd 2 (by kernel_rfl)
      have r8_4 : Tms X8 W8 [b] (u8 4) := hd 4 (by kernel_rfl)
      clear hd
      go_light
      have hXW := hB.lt hX8
      obtain ⟨⟨x0, x1, x2, x3, x4⟩, -⟩ := (p1.grow hB.bel).five; obtain ⟨⟨y0, y1, y2, y3, y4⟩, -⟩ := (p2.grow hB.bel).five; obtain ⟨⟨z0, z1, z2, z3, z4⟩, -⟩ := (p3.grow hB.bel).five; have HL5 := HL.out.grow (hE70.trans hB).bel
      refine ⟨11, #[u8 2, u8 4], exec_call _ rfl rfl (by first | rfl | (simp only [*]; rfl)) (by kernel_rfl), ?_⟩
      · refine (put_ok' hXW HL5 _ _ _ _ (deep_dm HDA.out) (fun x hx => by simp at hx; subst hx; exact deep_dm HDB.out) r8_2 r8_4).mono ?_
        rintro e w1 ⟨v1, rfl, hb1, hr1⟩
        exact ⟨v1, X8, rfl, .of hb1, hr1⟩
    · refine stepRun rfl rfl (fun _ _ => rfl) ?_
      intro u8 X8 W8 hB hd
      have r8_1 : Tm X8 W8 b (u8 1) := hd 1 (by kernel_rfl)
      have r8_5 : Tm X8 W8 (T.put a [b] 0) (u8 5) := hd 5 (by kernel_rfl)
      clear hd
      go_light
      obtain ⟨a0, a1, a2, a3, a4, ea, ha⟩ := r8_1.cells
      obtain ⟨b0, b1, b2, b3, b4, eb, hb⟩ := r8_5.cells
      have hb1 := Ext.new_ (X := X8) (w := W8) 26 [a0, a1, a2, a3, a4, b0, b1, b2, b3, b4]
      exact ⟨.slice (some ⟨W8.heap.size, 0, none⟩) 2 2, _, _, by go_simp, hb1, Tms.two (Blk.new' _ 26 _ _ rfl) (fun h => by have := hB.lt hX8 _ h; omega) (ha.grow hb1) (hb.grow hb1)⟩
    · refine stepCall rfl rfl (fun _ _ => rfl) ?_
      intro u8 X8 W8 hB hd
      have r8_0 : Tm X8 W8 t (u8 0) := hd 0 (by kernel_rfl)
      have r8_5 : Tm X8 W8 (T.put a [b] 0) (u8 5) := hd 5 (by kernel_rfl)
      have r8_6 : Tms X8 W8 [b, T.put a [b] 0] (u8 6) := hd 6 (by kernel_rfl)
      clear hd
      go_light
      have hXW := hB.lt hX8
      obtain ⟨⟨x0, x1, x2, x3, x4⟩, -⟩ := (p1.grow hB.bel).five; obtain ⟨⟨y0, y1, y2, y3, y4⟩, -⟩ := (p2.grow hB.bel).five; obtain ⟨⟨z0, z1, z2, z3, z4⟩, -⟩ := (p3.grow hB.bel).five; have HL5 := HL.out.grow (hE70.trans hB).bel
      refine ⟨11, #[u8 0, u8 6], exec_call _ rfl rfl (by first | rfl | (simp only [*]; rfl)) (by kernel_rfl), ?_⟩
      · refine (put_ok' hXW HL5 _ _ _ _ (deep_dm HDT.out) HD8.out r8_0 r8_6).mono ?_
        rintro e w1 ⟨v1, rfl, hb1, hr1⟩
        exact ⟨v1, X8, rfl, .of hb1, hr1⟩
    · refine stepRun rfl rfl (fun _ _ => rfl) ?_
      intro u8 X8 W8 hB hd
      clear hd
      go_light
      exact ⟨_, _, _, by go_simp, Ext.alloc _ _ _, isNew.mk _ _ hB.bel.size⟩
    refine stepLast rfl rfl (by kernel_rfl) ?_
    intro u8 X8 W8 hB hd K hK
    have hXW := hB.lt hX8
    have r8_0 : Tm X8 W8 t (u8 0) := hd 0 (by kernel_rfl)
    have r8_1 : Tm X8 W8 b (u8 1) := hd 1 (by kernel_rfl)
    have r8_2 : Tm X8 W8 a (u8 2) := hd 2 (by kernel_rfl)
    have r8_3 : Tm X8 W8 b (u8 3) := hd 3 (by kernel_rfl)
    have r8_4 : Tms X8 W8 [b] (u8 4) := hd 4 (by kernel_rfl)
    have r8_5 : Tm X8 W8 (T.put a [b] 0) (u8 5) := hd 5 (by kernel_rfl)
    have r8_6 : Tms X8 W8 [b, T.put a [b] 0] (u8 6) := hd 6 (by kernel_rfl)
    have r8_7 : Tm X8 W8 (T.put t [b, T.put a [b] 0] 0) (u8 7) := hd 7 (by kernel_rfl)
    have r8_8 : Rv.P (isNew V7.heap.size 26 [.int .i64 0, .int .i64 0, .int .i64 0, .slice none 0 0, .slice none 0 0]) (u8 8) X8 W8 := hd 8 (by kernel_rfl)
    clear hd
    obtain ⟨⟨x0, x1, x2, x3, x4⟩, -⟩ := (p1.grow hB.bel).five; obtain ⟨⟨y0, y1, y2, y3, y4⟩, -⟩ := (p2.grow hB.bel).five; obtain ⟨⟨z0, z1, z2, z3, z4⟩, -⟩ := (p3.grow hB.bel).five; have HL5 := HL.out.grow (hE70.trans hB).bel
    obtain ⟨g8, eg, hg8, hXg8, hblk⟩ := id r8_8
    obtain ⟨Al8, cl8, Ak8, ck8, et, ht⟩ := (id r8_7).form
    obtain ⟨⟨q0, q1, q2, q3, q4⟩, ⟨z0, z1, z2, z3, z4⟩⟩ := hblk.five
    go_simp
    refine hK _ _ ?_
    clear hK K q0 q1 q2 q3 q4 z0 z1 z2 z3 z4 eg et
    have hE8 := hB.fiveSet hg8 (.int .i64 (T.put t [b, T.put a [b] 0] 0).k) (.int .i64 (T.put t [b, T.put a [b] 0] 0).n) (.int .i64 (T.put t [b, T.put a [b] 0] 0).a) (.slice Al8 (T.put t [b, T.put a [b] 0] 0).ls.length cl8) (.slice Ak8 (T.put t [b, T.put a [b] 0] 0).ks.length ck8)
    have hS8 := hblk.fiveSet (.int .i64 (T.put t [b, T.put a [b] 0] 0).k) (.int .i64 (T.put t [b, T.put a [b] 0] 0).n) (.int .i64 (T.put t [b, T.put a [b] 0] 0).a) (.slice Al8 (T.put t [b, T.put a [b] 0] 0).ls.length cl8) (.slice Ak8 (T.put t [b, T.put a [b] 0] 0).ks.length ck8)
    have hT8 := ht.fiveSet hXg8 (.int .i64 (T.put t [b, T.put a [b] 0] 0).k) (.int .i64 (T.put t [b, T.put a [b] 0] 0).n) (.int .i64 (T.put t [b, T.put a [b] 0] 0).a) (.slice Al8 (T.put t [b, T.put a [b] 0] 0).ls.length cl8) (.slice Ak8 (T.put t [b, T.put a [b] 0] 0).ks.length ck8)
    have hXE8 := hE8.lt hX8
    clear ht hblk hB hXW r8_0 r8_1 r8_2 r8_3 r8_4 r8_5 r8_6 r8_7 r8_8
    change Exit.then _ _ _ _ (set5 W8 g8 _ _ _ _ _)
    generalize set5 W8 g8 (.int .i64 (T.put t [b, T.put a [b] 0] 0).k) (.int .i64 (T.put t [b, T.put a [b] 0] 0).n) (.int .i64 (T.put t [b, T.put a [b] 0] 0).a) (.slice Al8 (T.put t [b, T.put a [b] 0] 0).ls.length cl8) (.slice Ak8 (T.put t [b, T.put a [b] 0] 0).ks.length ck8) = V8 at *
    have s7 := hS7.grow hE8.bel
    have t7 := hT7.grow hE8
    have hE80 := hE70.trans hE8
    have heq : T.put t [b, T.put a [b] 0] 0 = one := by
      rw [← HONE.out]
      exact (put_put a b HTT.out.2.1 HTT.out.2.2 ⟨by omega, by have := deep_dm HDA.out; omega⟩ ⟨by omega, by have := deep_dm HDB.out; omega⟩ t 0 HTT.out.1 ⟨by omega, by have := deep_dm HDT.out; omega⟩).symm
    rw [heq] at hS8 hT8
    have HEQ := hid heq
    have hX9 := hXE8
    clear heq
    go_upto_region 9 with (fail)
    refine seqInv (X := X8) 4 ((fun x0 x1 x2 x3 x4 x5 x6 x7 x9 x10 x11 x12 x13 x14 x15 x16 x17 x18 x19 x20 x21 x22 x23 x24 x25 x26 x27 x28 x29 x30 x31 x32 x33 x34 x35 x36 x37 x38 x39 x40 x41 x42 x43 x44 x45 x46 x47 x48 x49 x50 x51 x52 x53 x54 x55 x56 x57 x58 x59 x60 x61 x62 x63 x64 (_ : Unit) => fun u => Act.mk #[x0, x1, x2, x3, x4, x5, x6, x7, u 3, x9, x10, x11, x12, x13, x14, x15, x16, x17, x18, x19, x20, x21, x22, x23, x24, x25, x26, x27, x28, x29, x30, x31, x32, x33, x34, x35, x36, x37, x38, x39, x40, x41, x42, x43, x44, x45, x46, x47, x48, x49, x50, x51, x52, x53, x54, x55, x56, x57, x58, x59, x60, x61, x62, x63, x64, u 0, u 1, u 2] []) _ _ _ _ _ _ _ _ _ _ _ _ _ _ _ _ _ _ _ _ _ _ _ _ _ _ _ _ _ _ _ _ _ _ _ _ _ _ _ _ _ _ _ _ _ _ _ _ _ _ _ _ _ _ _ _ _ _ _ _ _ _ _ _ ()) (fun i d => match i with | 0 => isTm one | 1 => isTm one | 2 => isV (.bool true) | 3 => isV (.bool true) | _ => anyV) ((fun y0 y1 y2 y3 (_ : Unit) => fun k => match k with | 0 => y0 | 1 => y1 | 2 => y2 | 3 => y3 | _ => undef) _ _ _ _ ()) rfl rfl (steps_next (steps_next (steps_next (steps_next steps_end ?_) ?_) ?_) ?_) ?_
    · refine stepRun rfl rfl (fun _ _ => rfl) ?_
      intro u9 X9 W9 hB hd
      clear hd
      go_light
      obtain ⟨⟨x0, x1, x2, x3, x4⟩, -⟩ := (s7.grow hB.bel).five; obtain ⟨⟨y0, y1, y2, y3, y4⟩, -⟩ := (hS8.grow hB.bel).five
      exact ⟨_, X9, W9, by go_simp, Ext.refl _ _, t7.grow hB⟩
    · refine stepRun rfl rfl (fun _ _ => rfl) ?_
      intro u9 X9 W9 hB hd
      clear hd
      go_light
      obtain ⟨⟨x0, x1, x2, x3, x4⟩, -⟩ := (s7.grow hB.bel).five; obtain ⟨⟨y0, y1, y2, y3, y4⟩, -⟩ := (hS8.grow hB.bel).five
      exact ⟨_, X9, W9, by go_simp, Ext.refl _ _, hT8.grow hB⟩
    · refine stepCall rfl rfl (fun _ _ => rfl) ?_
      intro u9 X9 W9 hB hd
      have r9_0 : Tm X9 W9 one (u9 0) := hd 0 (by decide)
      have r9_1 : Tm X9 W9 one (u9 1) := hd 1 (by decide)
      clear hd
      go_light
      have hXW := hB.lt hX9
      obtain ⟨⟨x0, x1, x2, x3, x4⟩, -⟩ := (s7.grow hB.bel).five; obtain ⟨⟨y0, y1, y2, y3, y4⟩, -⟩ := (hS8.grow hB.bel).five
      refine ⟨10, #[u9 0, u9 1], exec_call _ rfl rfl (by first | rfl | (simp only [*]; rfl)) (by kernel_rfl), ?_⟩
      · refine (same_ok' _ _ _ _ r9_0 r9_1).mono ?_
        rintro e w1 ⟨v1, rfl, hb1, hr1⟩
        exact ⟨v1, X9, rfl, .of hb1, isB.yes (X := X9) (w := w1) hr1 rfl⟩
    · refine stepRun rfl rfl (fun _ _ => rfl) ?_
      intro u9 X9 W9 hB hd
      have r9_0 : Tm X9 W9 one (u9 0) := hd 0 (by decide)
      have r9_1 : Tm X9 W9 one (u9 1) := hd 1 (by decide)
      have r9_2 : u9 2 = (.bool true) := hd 2 (by decide)
      clear hd
      go_light
      exact ⟨u9 2, X9, W9, rfl, Ext.refl _ _, r9_2⟩
    intro u9 X9 W9 hB h
    have hXW := hB.lt hX9
    have r9_0 : Tm X9 W9 one (u9 0) := h 0 (by decide)
    have r9_1 : Tm X9 W9 one (u9 1) := h 1 (by decide)
    have r9_2 : u9 2 = (.bool true) := h 2 (by decide)
    have r9_3 : u9 3 = (.bool true) := h 3 (by decide)
    clear h
    dsimp only
    go_wp2
    go_ret
    exact ⟨_, rfl, (hE80.trans hB).bel, r9_3⟩
end Go.Proofs.YtmghkfiepcomgaaDoor
