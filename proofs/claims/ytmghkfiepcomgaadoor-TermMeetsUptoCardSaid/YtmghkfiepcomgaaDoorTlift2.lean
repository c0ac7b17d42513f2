/-
  term.Lift.
-/
import Derived.Test.YtmghkfiepcomgaaDoorTwalk2
import Derived.Test.YtmghkfiepcomgaaDoorTlift
set_option linter.unusedSimpArgs false
set_option linter.unusedVariables false
namespace Go.Proofs.YtmghkfiepcomgaaDoor
open Go.RowKit

def liftTurn (n fr : Int) : Turn := fun d t => .inr (liftNum n fr d t.k t.n, t.ls)

/-- a term, lifted -/
def T.lift (t : T) (n fr d : Int) : T := T.walk (liftTurn n fr) t d

theorem lift_ok (n fr : Int) (F : Nat → Prop) (w0 : World) (bf bn : Nat) (hF : ∀ b, F b → b < w0.heap.size) (hfr : w0.cell? ⟨bf, 0, none⟩ = some (.int .i64 fr)) (hn : w0.cell? ⟨bn, 0, none⟩ = some (.int .i64 n)) :
    TurnOk (liftTurn n fr) 34 #[.pointer (some ⟨bf, 0, none⟩), .pointer (some ⟨bn, 0, none⟩)] F w0 := by
  intro d t Al cl Ak ck w _ hb hv
  obtain ⟨Al', cl', Ak', ck', hval, hk, hm, ha, hls, hks⟩ := id hv
  simp at hval
  obtain ⟨⟨rfl, rfl⟩, rfl, rfl⟩ := hval
  refine (lift_turn n fr d t.k t.n t.a (.func (.func 34) #[] #[.pointer (some ⟨bf, 0, none⟩), .pointer (some ⟨bn, 0, none⟩)]) bf bn Al t.ls.length cl Ak t.ks.length ck t.ls F w (fun b hb' => by have := hF b hb'; have := hb.size; omega) hls (cell_later hb hfr) (cell_later hb hn) _ _ rfl).mono ?_
  rintro e w' ⟨Bl, dl, rfl, hb2, hls2⟩
  refine ⟨Bl, dl, rfl, hb2, hls2, ?_⟩
  show I64 (liftNum n fr d t.k t.n)
  unfold liftNum
  split
  · exact I64.wrap _
  · exact hm

theorem lift_cf (args : Array Value) (w : World) : (callFunc 34 args).run Tryd.prog w = .ok (.enter 34 args) w := by kernel_rfl

/-- a fresh term, when a block laid before it is written -/
theorem stored5 {w W w1 : World} {t : T} {r : Value} (hr : RTv (Fr W w1) w1 t r) (hbw : Below w.heap.size w w1) {q : Nat} (hq : q < W.heap.size) (hw : w.heap.size ≤ W.heap.size) {c0 c1 c2 c3 c4 : Value} :
    RTv (Fr w (set5 w1 q c0 c1 c2 c3 c4)) (set5 w1 q c0 c1 c2 c3 c4) t r :=
  hr.mono (fun b hb => set5_keep w1 q c0 c1 c2 c3 c4 b (by have := hb.1; omega)) (fun b hb => ⟨by have := hb.1; omega, by rw [set5_size]; exact hb.2⟩)

set_option maxRecDepth 10000 in
set_option maxHeartbeats 1000000 in
theorem term_lift (t : T) (n fr : Int) (F : Nat → Prop) (w : World) (v : Value) (hF : ∀ b, F b → b < w.heap.size) (hL : Lk w) (hd : t.deep ≤ DM) (hv : RTv F w t v) :
    Calls Tryd.prog 12 #[v, .int .i64 n, .int .i64 fr] w fun e w' => ∃ r, e = .returned r ∧ Below w.heap.size w w' ∧ RTv (Fr w w') w' (t.lift n fr 0) r := by
  obtain ⟨Al, cl, Ak, ck, rfl, -⟩ := id hv
  have HV := hid hv
  have HF := hid hF
  have HL := hid hL
  clear hv hF hL
  go_enter Tryd.func12, Tryd.ntmps12
  go_wp2_with fail
  refine (walk_term (liftTurn n fr) _ _ F _ ?h1 ?h2 ?h3 lift_cf t 0 _ _ ⟨Int.le_refl _, by omega⟩ (Below.refl _ _) ?h4).mono ?_
  case h1 => intro b hb; have := HF.out b hb; simp; omega
  case h2 => exact HL.out.grow (by repeat (first | exact Below.refl _ _ | assumption | refine Below.alloc ?_ (by simp <;> omega) _ | refine Below.setCell ?_ (by simp <;> omega) _ | refine Below.drew ?_ | refine below_drewN ?_ _))
  case h3 => exact lift_ok n fr F _ _ _ (fun b hb => by have := HF.out b hb; simp; omega) (by simp [go_sem]) (by simp [go_sem])
  case h4 => exact HV.out.mono (keepF (B := w.heap.size) (by repeat (first | exact Below.refl _ _ | assumption | refine Below.alloc ?_ (by simp <;> omega) _ | refine Below.setCell ?_ (by simp <;> omega) _ | refine Below.drew ?_ | refine below_drewN ?_ _)) HF.out) (fun _ h => h)
  rintro e w1 ⟨r, rfl, hb1, hr⟩
  change RTv _ _ (t.lift n fr 0) _ at hr
  obtain ⟨Bl, dl, Bk, dk, rfl, -⟩ := id hr
  have hq := Blk.grow (Blk.new (((w.alloc _).alloc _).alloc _) 26 [_, _, _, _, _]) hb1
  simp only [World.size_alloc] at hq
  obtain ⟨⟨q0, q1, q2, q3, q4⟩, ⟨g0, g1, g2, g3, g4⟩⟩ := hq.five
  have HQ := hid hq
  have HB := hid hb1
  have HR := hid hr
  clear hq hb1 hr
  have hz1 : w.heap.size + 4 ≤ w1.heap.size := by have := HB.out.size; simp at this; omega
  dsimp only
  go_wp2
  obtain ⟨⟨z0, z1, z2, z3, z4⟩, -⟩ := (((((HQ.out.set_ 0 (.int .i64 (t.lift n fr 0).k)).set_ 1 (.int .i64 (t.lift n fr 0).n)).set_ 2 (.int .i64 (t.lift n fr 0).a)).set_ 3 (.slice Bl (t.lift n fr 0).ls.length dl)).set_ 4 (.slice Bk (t.lift n fr 0).ks.length dk)).five
  refine bodyPost_ret (v := .agg #[.int .i64 (t.lift n fr 0).k, .int .i64 (t.lift n fr 0).n, .int .i64 (t.lift n fr 0).a, .slice Bl (t.lift n fr 0).ls.length dl, .slice Bk (t.lift n fr 0).ks.length dk]) (by simp [results, Tryd.f12, go_sem, z0, z1, z2, z3, z4]) rfl ?_
  have hbw : Below w.heap.size w w1 := Below.trans (b := (((w.alloc _).alloc _).alloc _).alloc _) (by repeat (first | exact Below.refl _ _ | assumption | refine Below.alloc ?_ (by simp <;> omega) _ | refine Below.setCell ?_ (by simp <;> omega) _ | refine Below.drew ?_ | refine below_drewN ?_ _)) (HB.out.mono (by simp; omega))
  exact ⟨_, rfl, set5_below hbw (w.heap.size + 1 + 1 + 1) (by omega) _ _ _ _ _, stored5 HR.out hbw (by simp) (by simp; omega)⟩
end Go.Proofs.YtmghkfiepcomgaaDoor
