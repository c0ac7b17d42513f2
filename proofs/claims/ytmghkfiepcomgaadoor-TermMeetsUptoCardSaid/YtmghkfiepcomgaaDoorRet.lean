/-
  Contracts of one form: a value is told, memory grows, private blocks stay unseen.
-/
import Derived.Test.YtmghkfiepcomgaaDoorAny
import Derived.Deep.Light
import Derived.Test.YtmghkfiepcomgaaDoorTright2
import Derived.Test.YtmghkfiepcomgaaDoorTput
namespace Go.Proofs.YtmghkfiepcomgaaDoor
open Go.RowKit

/-- the blocks that are not private -/
def Pub (X : Nat → Prop) (w : World) (b : Nat) : Prop := b < w.heap.size ∧ ¬ X b

theorem Pub.lt {X : Nat → Prop} {w : World} : ∀ b, Pub X w b → b < w.heap.size := fun _ h => h.1

section
variable {X Y : Nat → Prop} {w W w' : World}
theorem Ext.pub (h : Ext X w Y W) : ∀ b, Pub X w b → Pub Y W b := fun b hb => ⟨Nat.lt_of_lt_of_le hb.1 h.bel.size, fun hy => by
  rcases h.new b hy with h1 | h1
  · exact hb.2 h1
  · have := hb.1; omega⟩
theorem Ext.keep (h : Ext X w Y W) : Keep (Pub X w) w W := fun b hb => h.bel.block b hb.1

/-- a term, readable in memory, outside private blocks; terms; levels -/
def Tm (X : Nat → Prop) (w : World) (t : T) (v : Value) : Prop := RTv (Pub X w) w t v
def Tms (X : Nat → Prop) (w : World) (ts : List T) (v : Value) : Prop := RTs (Pub X w) w v ts
def Lvs (X : Nat → Prop) (w : World) (ls : List LV) (v : Value) : Prop := RLs (Pub X w) w v ls

theorem Tm.grow {t : T} {v : Value} (h : Tm X w t v) (hb : Ext X w Y W) : Tm Y W t v := RTv.mono h hb.keep hb.pub
theorem Tms.grow {t : List T} {v : Value} (h : Tms X w t v) (hb : Ext X w Y W) : Tms Y W t v := RTs.mono h hb.keep hb.pub
theorem Lvs.grow {t : List LV} {v : Value} (h : Lvs X w t v) (hb : Ext X w Y W) : Lvs Y W t v := RLs.mono h hb.keep hb.pub

/-- of old private blocks some are known; what is fresh is in none -/
theorem fr_pub (hX : ∀ b, X b → b < w.heap.size) (b : Nat) (hb : Fr w W b) : Pub X W b := ⟨hb.2, fun h => by have := hX b h; have := hb.1; omega⟩
theorem Tm.fr (hX : ∀ b, X b → b < w.heap.size) {t : T} {v : Value} (h : RTv (Fr w W) W t v) : Tm X W t v := RTv.mono h (Keep.refl _ _) (fr_pub hX)
end

def isV (x : Value) : Rv := ⟨fun v _ _ => v = x, fun _ _ _ _ _ h _ => h⟩
def isTm (t : T) : Rv := ⟨fun v X w => Tm X w t v, fun _ _ _ _ _ h hb => h.grow hb⟩
def isTms (ts : List T) : Rv := ⟨fun v X w => Tms X w ts v, fun _ _ _ _ _ h hb => h.grow hb⟩
def isLvs (ts : List LV) : Rv := ⟨fun v X w => Lvs X w ts v, fun _ _ _ _ _ h hb => h.grow hb⟩
/-- a truth value: that of p -/
def isB (p : Prop) : Rv := ⟨fun v _ _ => ∃ b, v = .bool b ∧ (b = true ↔ p), fun _ _ _ _ _ h _ => h⟩
def isBool : Rv := ⟨fun v _ _ => ∃ b, v = .bool b, fun _ _ _ _ _ h _ => h⟩
/-- a truth value: if false, p -/
def isBoolIf (p : Prop) : Rv := ⟨fun v _ _ => ∃ b, v = .bool b ∧ (b = false → p), fun _ _ _ _ _ h _ => h⟩
/-- a truth value: if true, p -/
def isBoolThen (p : Prop) : Rv := ⟨fun v _ _ => ∃ b, v = .bool b ∧ (b = true → p), fun _ _ _ _ _ h _ => h⟩
def isInt : Rv := ⟨fun v _ _ => ∃ n, v = .int .i64 n, fun _ _ _ _ _ h _ => h⟩
/-- a private block, new from block B0 on -/
def isNew (B0 : Nat) (ty : TypeId) (cs : List Value) : Rv := ⟨fun v X w => ∃ g, v = .pointer (some ⟨g, 0, none⟩) ∧ B0 ≤ g ∧ X g ∧ Blk w g ty cs, fun _ _ _ _ _ ⟨g, h1, h2, h3, h4⟩ hb => ⟨g, h1, h2, hb.up g h3, h4.grow hb.bel⟩⟩
def noV : Rv := ⟨fun _ _ _ => False, fun _ _ _ _ _ h _ => h⟩
def anyV : Rv := ⟨fun _ _ _ => True, fun _ _ _ _ _ h _ => h⟩
/-- if c -/
def Rv.on (r : Rv) (c : Prop) : Rv := ⟨fun v X w => c → r.P v X w, fun v X w X' w' h hb hc => r.mono v X w X' w' (h hc) hb⟩

theorem isB.yes {p : Prop} {v : Value} {X : Nat → Prop} {w : World} (h : (isB p).P v X w) (hp : p) : v = .bool true := by
  obtain ⟨b, rfl, h2⟩ := h
  rw [h2.2 hp]
theorem isB.no {p : Prop} {v : Value} {X : Nat → Prop} {w : World} (h : (isB p).P v X w) (hp : ¬ p) : v = .bool false := by
  obtain ⟨b, rfl, h2⟩ := h
  cases b with
  | false => rfl
  | true => exact absurd (h2.1 rfl) hp

/-- a call tells a value -/
def Ret (X : Nat → Prop) (r : Rv) (w : World) (e : Ending) (w' : World) : Prop := ∃ v, e = .returned v ∧ Below w.heap.size w w' ∧ r.P v X w'

theorem Ret.imp {X : Nat → Prop} {r s : Rv} {w w' : World} {e : Ending} (h : Ret X r w e w') (hi : ∀ v, r.P v X w' → s.P v X w') : Ret X s w e w' := by
  obtain ⟨v, rfl, h1, h2⟩ := h
  exact ⟨v, rfl, h1, hi v h2⟩

theorem TB.ret {X : Nat → Prop} {p : Prop} {w w' : World} {e : Ending} (h : TB p w e w') : Ret X (isB p) w e w' := by
  obtain ⟨b, rfl, h1, h2⟩ := h
  exact ⟨_, rfl, h2, b, rfl, h1⟩

/-- a call of a known function -/
theorem exec_call {P : Program} {ρ : Operand → Value} {o : Oper} {f : FuncId} {w : World} (l : List Operand) {tys : Array TypeId} {vs : List Value} (ho : o.op = .call { callee := .value (.func f), args := l.toArray, argTypes := tys }) (hf : ρ (.func f) = .func (.func f) #[] #[])
    (hv : l.map ρ = vs) (hcf : (callFunc f vs.toArray).run P w = .ok (.enter f vs.toArray) w) : (execOp ρ o).run P w = .ok (.enter f vs.toArray) w := by
  unfold execOp
  subst hv
  simp only [ho, resolve, hf, List.map_toArray, Deferred.ofValue, invoke, Sem.run_bind, Sem.run_pure, Result.andThen_ok]
  simpa using hcf

/-- a new block -/
theorem Ext.new_ {X : Nat → Prop} {w : World} (ty : TypeId) (cs : List Value) : Ext X w X (w.alloc (.cells cs.toArray ty)) := .of ((Below.refl _ _).alloc (Nat.le_refl _) _)

theorem Blk.new' (W : World) (ty : TypeId) (cs : List Value) (g : Nat) (hg : g = W.heap.size) : Blk (W.alloc (.cells cs.toArray ty)) g ty cs := by subst hg; exact Blk.new W ty cs

/-- a private block, just laid -/
theorem isNew.mk {X : Nat → Prop} {w : World} {B0 : Nat} (ty : TypeId) (cs : List Value) (h : B0 ≤ w.heap.size) : (isNew B0 ty cs).P (.pointer (some ⟨w.heap.size, 0, none⟩)) (fun b => X b ∨ b = w.heap.size) (w.alloc (.cells cs.toArray ty)) :=
  ⟨_, rfl, h, .inr rfl, Blk.new' _ _ _ _ rfl⟩

/-! terms in memory -/
theorem i64_ (n : Int) (h : -1000000 ≤ n ∧ n ≤ 1000000 := by decide) : I64 n := by unfold I64; omega
theorem rls_nil (F : Nat → Prop) (w : World) : RLs F w (.slice none 0 0) [] := Sl.nil _ _ _ _
theorem rts_nil (F : Nat → Prop) (w : World) : RTs F w (.slice none 0 0) [] := Sl.nil _ _ _ _
theorem Tms.nil (X : Nat → Prop) (w : World) : Tms X w [] (.slice none 0 0) := Sl.nil _ _ _ _
theorem Lvs.nil (X : Nat → Prop) (w : World) : Lvs X w [] (.slice none 0 0) := Sl.nil _ _ _ _

/-- five cells are those of a term -/
theorem RT.mk5 {F : Nat → Prop} {w : World} {k n a : Int} {ls : List LV} {ks : List T} {vl vk : Value} (hk : I64 k) (hn : I64 n) (ha : I64 a) (hl : RLs F w vl ls) (hs : RTs F w vk ks) : RT F w (.mk k n a ls ks) [.int .i64 k, .int .i64 n, .int .i64 a, vl, vk] :=
  RT_iff.2 ⟨vl, vk, rfl, hk, hn, ha, hl, hs⟩
theorem Tm.mk {X : Nat → Prop} {w : World} {k n a : Int} {ls : List LV} {ks : List T} {vl vk : Value} (hk : I64 k) (hn : I64 n) (ha : I64 a) (hl : Lvs X w ls vl) (hs : Tms X w ks vk) : Tm X w (.mk k n a ls ks) (.agg #[.int .i64 k, .int .i64 n, .int .i64 a, vl, vk]) :=
  RTv.of (RT.mk5 hk hn ha hl hs)

theorem Tm.form {X : Nat → Prop} {w : World} {t : T} {v : Value} (h : Tm X w t v) : ∃ Al cl Ak ck, v = .agg #[.int .i64 t.k, .int .i64 t.n, .int .i64 t.a, .slice Al t.ls.length cl, .slice Ak t.ks.length ck] ∧ Tm X w t (.agg #[.int .i64 t.k, .int .i64 t.n, .int .i64 t.a, .slice Al t.ls.length cl, .slice Ak t.ks.length ck]) := by
  obtain ⟨Al, cl, Ak, ck, rfl, -⟩ := id h
  exact ⟨_, _, _, _, rfl, h⟩

theorem Tm.cells {X : Nat → Prop} {w : World} {t : T} {v : Value} (h : Tm X w t v) : ∃ c0 c1 c2 c3 c4, v = .agg #[c0, c1, c2, c3, c4] ∧ RT (Pub X w) w t [c0, c1, c2, c3, c4] := by
  obtain ⟨Al, cl, Ak, ck, rfl, -⟩ := id h
  exact ⟨_, _, _, _, _, rfl, h.to⟩
theorem Tm.kids {X : Nat → Prop} {w : World} {t : T} {c0 c1 c2 c3 c4 : Value} (h : Tm X w t (.agg #[c0, c1, c2, c3, c4])) : Tms X w t.ks c4 := RTv.kids h
theorem Tm.lvls {X : Nat → Prop} {w : World} {t : T} {c0 c1 c2 c3 c4 : Value} (h : Tm X w t (.agg #[c0, c1, c2, c3, c4])) : Lvs X w t.ls c3 := RTv.lvls h
theorem RT.grow {X Y : Nat → Prop} {w W : World} {t : T} {cs : List Value} (h : RT (Pub X w) w t cs) (hb : Ext X w Y W) : RT (Pub Y W) W t cs := RT.mono hb.keep hb.pub h

/-- terms, laid in a new block -/
theorem Tms.laid {X : Nat → Prop} {W : World} {g : Nat} (ty : TypeId) (ts : List T) (cells : List Value) (hb : Blk W g ty cells) (hX : ¬ X g) (hl : ts.length ≤ LM) (hc : cells.length = ts.length * 5)
    (h : ∀ i (hi : i < ts.length), RT (Pub X W) W ts[i] (chunk 5 cells i)) (hm : ts.length ≤ maxLen) : Tms X W ts (.slice (some ⟨g, 0, none⟩) ts.length ts.length) := by
  refine ⟨_, _, rfl, Nat.le_refl _, hm, hl, fun _ => ⟨g, 0, rfl, ⟨hb.lt, hX⟩, fun i x hx => ?_⟩⟩
  obtain ⟨hi, rfl⟩ := List.getElem?_eq_some_iff.1 hx
  refine ⟨chunk 5 cells i, by simp [chunk]; omega, fun j u hu => ?_, h i hi⟩
  have hj : j < 5 := by have := (List.getElem?_eq_some_iff.1 hu).1; simp [chunk] at this; omega
  rw [Nat.zero_add, hb.cell]
  unfold chunk at hu
  rwa [List.getElem?_take_of_lt hj, List.getElem?_drop] at hu

section
variable {X : Nat → Prop} {W : World} {g : Nat} {ty : TypeId} {f a c : T} {f0 f1 f2 f3 f4 a0 a1 a2 a3 a4 c0 c1 c2 c3 c4 : Value}
theorem Tms.one (hb : Blk W g ty [f0, f1, f2, f3, f4]) (hX : ¬ X g) (hf : RT (Pub X W) W f [f0, f1, f2, f3, f4]) : Tms X W [f] (.slice (some ⟨g, 0, none⟩) 1 1) :=
  Tms.laid ty [f] _ hb hX (by simp [LM]) rfl (fun i hi => by
    match i, hi with
    | 0, _ => exact hf) (by simp [maxLen])
theorem Tms.two (hb : Blk W g ty [f0, f1, f2, f3, f4, a0, a1, a2, a3, a4]) (hX : ¬ X g) (hf : RT (Pub X W) W f [f0, f1, f2, f3, f4]) (ha : RT (Pub X W) W a [a0, a1, a2, a3, a4]) :
    Tms X W [f, a] (.slice (some ⟨g, 0, none⟩) 2 2) :=
  Tms.laid ty [f, a] _ hb hX (by simp [LM]) rfl (fun i hi => by
    match i, hi with
    | 0, _ => exact hf
    | 1, _ => exact ha) (by simp [maxLen])
theorem Tms.three (hb : Blk W g ty [f0, f1, f2, f3, f4, a0, a1, a2, a3, a4, c0, c1, c2, c3, c4]) (hX : ¬ X g) (hf : RT (Pub X W) W f [f0, f1, f2, f3, f4]) (ha : RT (Pub X W) W a [a0, a1, a2, a3, a4])
    (hc : RT (Pub X W) W c [c0, c1, c2, c3, c4]) : Tms X W [f, a, c] (.slice (some ⟨g, 0, none⟩) 3 3) :=
  Tms.laid ty [f, a, c] _ hb hX (by simp [LM]) rfl (fun i hi => by
    match i, hi with
    | 0, _ => exact hf
    | 1, _ => exact ha
    | 2, _ => exact hc) (by simp [maxLen])
end

/-- a private block is written: what is outside stays -/
theorem Tm.fiveSet {X : Nat → Prop} {w : World} {t : T} {v : Value} (h : Tm X w t v) {g : Nat} (hg : X g) (c0 c1 c2 c3 c4 : Value) : Tm X (set5 w g c0 c1 c2 c3 c4) t v :=
  RTv.mono h (fun b hb => set5_keep w g c0 c1 c2 c3 c4 b (fun e => hb.2 (e ▸ hg))) (fun b hb => ⟨by rw [set5_size]; exact hb.1, hb.2⟩)
theorem Blk.fiveSet {w : World} {g : Nat} {ty : TypeId} {d0 d1 d2 d3 d4 : Value} (h : Blk w g ty [d0, d1, d2, d3, d4]) (c0 c1 c2 c3 c4 : Value) : Blk (set5 w g c0 c1 c2 c3 c4) g ty [c0, c1, c2, c3, c4] :=
  ((((h.set_ 0 c0).set_ 1 c1).set_ 2 c2).set_ 3 c3).set_ 4 c4
theorem Blk.fiveFar {w : World} {g g' : Nat} {ty : TypeId} {cs : List Value} (h : Blk w g ty cs) (hne : g ≠ g') (c0 c1 c2 c3 c4 : Value) : Blk (set5 w g' c0 c1 c2 c3 c4) g ty cs := (set5_keep w g' c0 c1 c2 c3 c4 g hne).trans h

/-- a block that is new since w is written -/
theorem Ext.fiveSet {X Y : Nat → Prop} {w W : World} (h : Ext X w Y W) {g : Nat} (hg : w.heap.size ≤ g) (c0 c1 c2 c3 c4 : Value) : Ext X w Y (set5 W g c0 c1 c2 c3 c4) :=
  ⟨set5_below h.bel g hg _ _ _ _ _, h.up, fun b hb => by rw [set5_size]; exact h.new b hb⟩

/-! what stands already, in this form -/
section
variable {X : Nat → Prop} {w : World} (hX : ∀ b, X b → b < w.heap.size) (hL : Lk w)
include hX hL
theorem put_ok' (t : T) (bys : List T) (v vb : Value) (hd : t.deep ≤ DM) (hdb : ∀ t, t ∈ bys → t.deep ≤ DM) (hv : Tm X w t v) (hb : Tms X w bys vb) : Calls Tryd.prog 11 #[v, vb] w (Ret X (isTm (t.put bys 0)) w) :=
  (term_put t bys _ w v vb Pub.lt hL hd hv hb hdb).mono fun _ _ ⟨r, h1, h2, h3⟩ => ⟨r, h1, h2, Tm.fr hX h3⟩
theorem lift_ok' (t : T) (n fr : Int) (v : Value) (hd : t.deep ≤ DM) (hv : Tm X w t v) : Calls Tryd.prog 12 #[v, .int .i64 n, .int .i64 fr] w (Ret X (isTm (t.lift n fr 0)) w) :=
  (term_lift t n fr _ w v Pub.lt hL hd hv).mono fun _ _ ⟨r, h1, h2, h3⟩ => ⟨r, h1, h2, Tm.fr hX h3⟩
end

theorem right_ok' {X : Nat → Prop} {w : World} (hL : Lk w) (t : T) (v : Value) (hv : Tm X w t v) : Calls Tryd.prog 26 #[v] w (Ret X (isB (T.RightAt 1 t ∧ t.size ≤ 20000)) w) :=
  (term_right t _ w v Pub.lt hL hv).mono fun _ _ h => h.ret
theorem size_ok' {X : Nat → Prop} {w : World} (t : T) (v : Value) (hv : Tm X w t v) : Calls Tryd.prog 27 #[v] w (Ret X (isV (.int .i64 (wrap64 t.size))) w) :=
  (term_size t _ w v Pub.lt hv).mono fun _ _ ⟨h1, h2⟩ => ⟨_, h1, h2, rfl⟩
theorem same_ok' {X : Nat → Prop} {w : World} (t u : T) (v z : Value) (hv : Tm X w t v) (hz : Tm X w u z) : Calls Tryd.prog 10 #[v, z] w (Ret X (isB (t = u)) w) :=
  (same_ok t u _ _ w v z Pub.lt Pub.lt hv hz).mono fun _ _ ⟨b, h1, h2, h3⟩ => ⟨_, h1, h3, b, rfl, h2⟩
theorem great_ok' {X : Nat → Prop} {w : World} (l : List T) (v : Value) (hv : Tms X w l v) : Calls Tryd.prog 7 #[v] w (Ret X (isBoolIf True) w) :=
  (great_some _ w v l Pub.lt hv).mono fun _ _ ⟨b, h1, h2⟩ => ⟨_, h1, h2, b, rfl, fun _ => trivial⟩
theorem tame_ok' {X : Nat → Prop} {w : World} (l : List T) (v : Value) (hv : Tms X w l v) : Calls Tryd.prog 8 #[v] w (Ret X (isBoolThen (T.Tames l)) w) :=
  (tame_all _ w v l Pub.lt hv).mono fun _ _ ⟨b, h1, h3, h2⟩ => ⟨_, h1, h2, b, rfl, h3⟩
end Go.Proofs.YtmghkfiepcomgaaDoor
