/-
  term.Put's closure.
-/
import Derived.Test.YtmghkfiepcomgaaDoorTlift2
set_option linter.unusedSimpArgs false
set_option linter.unusedVariables false
namespace Go.Proofs.YtmghkfiepcomgaaDoor
open Go.RowKit

def putTurn (bys : List T) : Turn := fun d t =>
  if t.k = 1 ∧ d ≤ t.n then
    if h : (t.n - d).toNat < bys.length then .inl ((bys[bys.length - 1 - (t.n - d).toNat]'(by omega)).lift d 0 0) else .inr (wrap64 (t.n - bys.length), t.ls)
  else .inr (t.n, t.ls)

/-- a term with terms put for its lowest variables -/
def T.put (t : T) (bys : List T) (d : Int) : T := T.walk (putTurn bys) t d

def PutS (bw bt bb b o : Nat) (d : Int) (vb c0 c1 c2 c3 c4 : Value) (w : World) : Prop :=
  w.cell? ⟨bb, 0, none⟩ = some vb ∧ w.cell? ⟨bw, 0, none⟩ = some (.int .i64 d) ∧
  w.cell? ⟨b, o, none⟩ = some c0 ∧ w.cell? ⟨b, o + 1, none⟩ = some c1 ∧ w.cell? ⟨b, o + 2, none⟩ = some c2 ∧ w.cell? ⟨b, o + 3, none⟩ = some c3 ∧ w.cell? ⟨b, o + 4, none⟩ = some c4

theorem PutS.later {bw bt bb b o : Nat} {d : Int} {vb c0 c1 c2 c3 c4 : Value} {w w' : World} (h : PutS bw bt bb b o d vb c0 c1 c2 c3 c4 w) (hb : Below w.heap.size w w') : PutS bw bt bb b o d vb c0 c1 c2 c3 c4 w' := by
  obtain ⟨h1, h2, h5, h6, h7, h8, h9⟩ := h
  exact ⟨cell_later hb h1, cell_later hb h2, cell_later hb h5, cell_later hb h6, cell_later hb h7, cell_later hb h8, cell_later hb h9⟩

theorem PutS.set {bw bt bb b o : Nat} {d : Int} {vb c0 c1 c2 c3 c4 : Value} {w : World} (h : PutS bw bt bb b o d vb c0 c1 c2 c3 c4 w) (p : Addr) (u : Value) (h1 : bb ≠ p.block) (h2 : bw ≠ p.block) (h3 : b ≠ p.block) : PutS bw bt bb b o d vb c0 c1 c2 c3 c4 (w.setCell p u) := by
  obtain ⟨a1, a2, a5, a6, a7, a8, a9⟩ := h
  have key : ∀ (x y : Nat) (v : Value), x ≠ p.block → w.cell? ⟨x, y, none⟩ = some v → (w.setCell p u).cell? ⟨x, y, none⟩ = some v := fun x y v hx hc =>
    (World.cell?_of_block (w := w) (a := ⟨x, y, none⟩) (Below.heap_setCell w p u x hx)).trans hc
  exact ⟨key _ _ _ h1 a1, key _ _ _ h2 a2, key _ _ _ h3 a5, key _ _ _ h3 a6, key _ _ _ h3 a7, key _ _ _ h3 a8, key _ _ _ h3 a9⟩

set_option maxRecDepth 10000 in
set_option maxHeartbeats 2000000 in
theorem put_inl (d k m a : Int) (kk : Nat) (fv : Value) (bb : Nat) (Ab : Option Addr) (cb : Nat) (Al : Option Addr) (nl cl : Nat) (Ak : Option Addr) (nk ck : Nat) (bys : List T) (F : Nat → Prop) (w : World) (hF : ∀ b, F b → b < w.heap.size) (hL : Lk w)
    (hby : w.cell? ⟨bb, 0, none⟩ = some (.slice Ab bys.length cb)) (hbs : RTs F w (.slice Ab bys.length cb) bys) (hdeep : ∀ t, t ∈ bys → t.deep ≤ DM) (h1 : k = 1) (h2 : d ≤ m) (hk : wrap64 (m - d) = kk) (hlt : kk < bys.length) (fn : Fn) (caps : Array Value) (hfv : fv = .func fn #[] caps) :
    Calls Tryd.prog 30 #[.agg #[.int .i64 d, fv], .agg #[.int .i64 k, .int .i64 m, .int .i64 a, .slice Al nl cl, .slice Ak nk ck], .pointer (some ⟨bb, 0, none⟩)] w fun e w' =>
      ∃ r, e = .returned (.tuple #[r, .bool true]) ∧ Below w.heap.size w w' ∧ RTv (Fr w w') w' ((bys[bys.length - 1 - kk]).lift d 0 0) r := by
  subst hfv
  have hk1 : (k != 1) = false := by simp [h1]
  obtain ⟨b, o, rfl, hFb, hrow⟩ := hbs.at (by omega)
  have hi : bys.length - 1 - kk < bys.length := by omega
  obtain ⟨Cl, el, Ck, ek, c0, c1, c2, c3, c4, hx⟩ := RTs.get hrow hi
  have hbl := hF b hFb
  have hbb : bb < w.heap.size := World.block_lt_of_cell? w _ hby
  have hd := hdeep _ (List.getElem_mem hi)
  have hnum : bys.length ≤ 9223372036854775807 := by have := hbs.len.2.2.2; unfold LM at this; omega
  generalize hu : bys[bys.length - 1 - kk] = u at *
  have HU := hid hu
  have HX := hid hx
  have HF := hid hF
  have HL := hid hL
  have HD := hid hd
  have HK := hid h1
  have hi0 : (0 : Int) ≤ (bys.length : Int) - 1 - (kk : Int) := by omega
  have hi3 : (kk : Int) ≤ (bys.length : Int) - 1 := by omega
  have hi1 : (bys.length : Int) - 1 - (kk : Int) < (bys.length : Int) := by omega
  have hi2 : ((bys.length : Int) - 1 - (kk : Int)).toNat = bys.length - 1 - kk := by omega
  have hs : ∀ W : World, Below w.heap.size w W → W.cell? ⟨bb, 0, none⟩ = some (.slice (some ⟨b, o, none⟩) bys.length cb) := fun W hb => cell_later hb hby
  have HS := hid hs
  have hbb1 : bb < w.heap.size + 1 := by omega
  have hbb2 : bb < w.heap.size + 1 + 1 := by omega
  have hbb3 : bb < w.heap.size + 1 + 1 + 1 := by omega
  clear hs hdeep hbs hx hF hL hd h1 hrow hu hFb
  go_enter Tryd.func30, Tryd.ntmps30
  go_wp2_with (go_at_call 31; refine (depth_means _ _ _).mono ?_; rintro e w1 ⟨rfl, nq, rfl⟩)
  have hw1 : IntKind.i64.wrap ((bys.length : Int) - 1) = (bys.length : Int) - 1 := IntWalk.i64_in _ (by omega)
  have hw2 : IntKind.i64.wrap ((bys.length : Int) - 1 - (kk : Int)) = (bys.length : Int) - 1 - (kk : Int) := IntWalk.i64_in _ (by omega)
  refine startJ (fun j => j == 13) (PutS w.heap.size 0 bb b (o + (bys.length - 1 - kk) * 5) d (.slice (some ⟨b, o, none⟩) bys.length cb) (.int .i64 u.k) (.int .i64 u.n) (.int .i64 u.a) (.slice Cl u.ls.length el) (.slice Ck u.ks.length ek)) (by kernel_rfl) ?_ (fun hS => ?_)
  · exact ⟨HS.out _ (by repeat (first | exact Below.refl _ _ | assumption | refine Below.alloc ?_ (by simp <;> omega) _ | refine Below.setCell ?_ (by simp <;> omega) _ | refine Below.drew ?_ | refine below_drewN ?_ _)), by simp [go_sem], cell_later (w := w) (by repeat (first | exact Below.refl _ _ | assumption | refine Below.alloc ?_ (by simp <;> omega) _ | refine Below.setCell ?_ (by simp <;> omega) _ | refine Below.drew ?_ | refine below_drewN ?_ _)) c0, cell_later (w := w) (by repeat (first | exact Below.refl _ _ | assumption | refine Below.alloc ?_ (by simp <;> omega) _ | refine Below.setCell ?_ (by simp <;> omega) _ | refine Below.drew ?_ | refine below_drewN ?_ _)) c1, cell_later (w := w) (by repeat (first | exact Below.refl _ _ | assumption | refine Below.alloc ?_ (by simp <;> omega) _ | refine Below.setCell ?_ (by simp <;> omega) _ | refine Below.drew ?_ | refine below_drewN ?_ _)) c2, cell_later (w := w) (by repeat (first | exact Below.refl _ _ | assumption | refine Below.alloc ?_ (by simp <;> omega) _ | refine Below.setCell ?_ (by simp <;> omega) _ | refine Below.drew ?_ | refine below_drewN ?_ _)) c3, cell_later (w := w) (by repeat (first | exact Below.refl _ _ | assumption | refine Below.alloc ?_ (by simp <;> omega) _ | refine Below.setCell ?_ (by simp <;> omega) _ | refine Below.drew ?_ | refine below_drewN ?_ _)) c4⟩
  refine takeJ (i := 0) (v := ?_) rfl (by kernel_rfl) (by kernel_rfl) (by kernel_rfl) (by kernel_rfl) (fun _ _ _ h => h) (.inl ⟨by rfl, ?_⟩) hS ?_
  rotate_left
  · intro w hSw
    obtain ⟨s0, s1, s2, s3, s4, s5, s6⟩ := hSw
    go_simp
    try with_reducible rfl
  try simp only [Act.put, List.setIfInBounds_toArray, List.set_cons_zero, List.set_cons_succ]
  refine takeJ (i := 1) (v := ?_) rfl (by kernel_rfl) (by kernel_rfl) (by kernel_rfl) (by kernel_rfl) (fun _ _ _ h => h) (.inl ⟨by rfl, ?_⟩) hS ?_
  rotate_left
  · intro w hSw
    obtain ⟨s0, s1, s2, s3, s4, s5, s6⟩ := hSw
    go_simp
    try with_reducible rfl
  try simp only [Act.put, List.setIfInBounds_toArray, List.set_cons_zero, List.set_cons_succ]
  refine pureJ (i := 2) (v := ?_) rfl (by kernel_rfl) (by kernel_rfl) (by kernel_rfl) (by kernel_rfl) (fun _ _ _ h => h) (.inl ⟨by rfl, ?_⟩) hS ?_
  rotate_left
  · intro w hSw
    obtain ⟨s0, s1, s2, s3, s4, s5, s6⟩ := hSw
    go_simp
    try with_reducible rfl
  try simp only [Act.put, List.setIfInBounds_toArray, List.set_cons_zero, List.set_cons_succ]
  refine pureJ (i := 3) (v := ?_) rfl (by kernel_rfl) (by kernel_rfl) (by kernel_rfl) (by kernel_rfl) (fun _ _ _ h => h) (.inl ⟨by rfl, ?_⟩) hS ?_
  rotate_left
  · intro w hSw
    obtain ⟨s0, s1, s2, s3, s4, s5, s6⟩ := hSw
    go_simp
    try with_reducible rfl
  try simp only [Act.put, List.setIfInBounds_toArray, List.set_cons_zero, List.set_cons_succ]
  refine pureJ (i := 4) (v := ?_) rfl (by kernel_rfl) (by kernel_rfl) (by kernel_rfl) (by kernel_rfl) (fun _ _ _ h => h) (.inl ⟨by rfl, ?_⟩) hS ?_
  rotate_left
  · intro w hSw
    obtain ⟨s0, s1, s2, s3, s4, s5, s6⟩ := hSw
    go_simp
    try with_reducible rfl
  try simp only [Act.put, List.setIfInBounds_toArray, List.set_cons_zero, List.set_cons_succ]
  refine pureJ (i := 5) (v := ?_) rfl (by kernel_rfl) (by kernel_rfl) (by kernel_rfl) (by kernel_rfl) (fun _ _ _ h => h) (.inl ⟨by rfl, ?_⟩) hS ?_
  rotate_left
  · intro w hSw
    obtain ⟨s0, s1, s2, s3, s4, s5, s6⟩ := hSw
    go_simp
    try with_reducible rfl
  try simp only [Act.put, List.setIfInBounds_toArray, List.set_cons_zero, List.set_cons_succ]
  refine pureJ (i := 6) (v := ?_) rfl (by kernel_rfl) (by kernel_rfl) (by kernel_rfl) (by kernel_rfl) (fun _ _ _ h => h) (.inl ⟨by rfl, ?_⟩) hS ?_
  rotate_left
  · intro w hSw
    obtain ⟨s0, s1, s2, s3, s4, s5, s6⟩ := hSw
    go_simp
    try with_reducible rfl
  try simp only [Act.put, List.setIfInBounds_toArray, List.set_cons_zero, List.set_cons_succ]
  refine takeJ (i := 7) (v := ?_) rfl (by kernel_rfl) (by kernel_rfl) (by kernel_rfl) (by kernel_rfl) (fun _ _ _ h => h) (.inl ⟨by rfl, ?_⟩) hS ?_
  rotate_left
  · intro w hSw
    obtain ⟨s0, s1, s2, s3, s4, s5, s6⟩ := hSw
    go_simp
    try with_reducible rfl
  try simp only [Act.put, List.setIfInBounds_toArray, List.set_cons_zero, List.set_cons_succ]
  refine pureJ (i := 8) (v := ?_) rfl (by kernel_rfl) (by kernel_rfl) (by kernel_rfl) (by kernel_rfl) (fun _ _ _ h => h) (.inl ⟨by rfl, ?_⟩) hS ?_
  rotate_left
  · intro w hSw
    obtain ⟨s0, s1, s2, s3, s4, s5, s6⟩ := hSw
    go_simp
    try with_reducible rfl
  try simp only [Act.put, List.setIfInBounds_toArray, List.set_cons_zero, List.set_cons_succ]
  refine pureJ (i := 9) (v := ?_) rfl (by kernel_rfl) (by kernel_rfl) (by kernel_rfl) (by kernel_rfl) (fun _ _ _ h => h) (.inl ⟨by rfl, ?_⟩) hS ?_
  rotate_left
  · intro w hSw
    obtain ⟨s0, s1, s2, s3, s4, s5, s6⟩ := hSw
    go_simp
    try with_reducible rfl
  try simp only [Act.put, List.setIfInBounds_toArray, List.set_cons_zero, List.set_cons_succ]
  refine takeJ (i := 10) (v := ?_) rfl (by kernel_rfl) (by kernel_rfl) (by kernel_rfl) (by kernel_rfl) (fun _ _ _ h => h) (.inl ⟨by rfl, ?_⟩) hS ?_
  rotate_left
  · intro w hSw
    obtain ⟨s0, s1, s2, s3, s4, s5, s6⟩ := hSw
    go_simp
    try with_reducible rfl
  try simp only [Act.put, List.setIfInBounds_toArray, List.set_cons_zero, List.set_cons_succ]
  refine soloJ (i := 11) (by kernel_rfl) rfl rfl (fun K hK => ?_)
  go_simp
  refine (term_lift u d 0 F _ _ ?h1 ?h2 HD.out ?h3).mono ?_
  case h1 => intro b hb; have := HF.out b hb; simp; omega
  case h2 => exact HL.out.grow (by repeat (first | exact Below.refl _ _ | assumption | refine Below.alloc ?_ (by simp <;> omega) _ | refine Below.setCell ?_ (by simp <;> omega) _ | refine Below.drew ?_ | refine below_drewN ?_ _))
  case h3 => refine HX.out.mono ?_ (fun _ h => h); exact keepF (B := w.heap.size) (by repeat (first | exact Below.refl _ _ | assumption | refine Below.alloc ?_ (by simp <;> omega) _ | refine Below.setCell ?_ (by simp <;> omega) _ | refine Below.drew ?_ | refine below_drewN ?_ _)) HF.out
  rintro e w2 ⟨r, rfl, hb2, hr⟩
  obtain ⟨Dl, fl, Dk, fk, rfl, -⟩ := id hr
  have hq := Blk.grow (Blk.drew (Blk.drewN (Blk.alloc (Blk.new ((w.alloc _).alloc _) 26 [_, _, _, _, _]) _) nq)) hb2
  simp only [World.size_alloc] at hq
  obtain ⟨⟨q0, q1, q2, q3, q4⟩, ⟨g0, g1, g2, g3, g4⟩⟩ := hq.five
  try dsimp only
  try simp only [Act.put, List.setIfInBounds_toArray, List.set_cons_zero, List.set_cons_succ]
  refine hK _ _ ?hs (fun hS2 => ?_)
  case hs => exact hS.later hb2
  clear hK K hS
  have hS := hS2
  clear hS2
  refine soloJ (i := 12) (by kernel_rfl) rfl rfl (fun K hK => ?_)
  go_simp
  try dsimp only
  try simp only [Act.put, List.setIfInBounds_toArray, List.set_cons_zero, List.set_cons_succ]
  refine hK _ _ ?hs (fun hS2 => ?_)
  case hs => exact ((((hS.set _ _ (by simp <;> omega) (by simp <;> omega) (by simp <;> omega)).set _ _ (by simp <;> omega) (by simp <;> omega) (by simp <;> omega)).set _ _ (by simp <;> omega) (by simp <;> omega) (by simp <;> omega)).set _ _ (by simp <;> omega) (by simp <;> omega) (by simp <;> omega)).set _ _ (by simp <;> omega) (by simp <;> omega) (by simp <;> omega)
  clear hK K hS
  have hS := hS2
  clear hS2
  refine lastJ (i := 13) (by kernel_rfl) rfl rfl (by kernel_rfl) (by kernel_rfl) (fun K hK => ?_)
  go_simp
  try simp only [Act.put, List.setIfInBounds_toArray, List.set_cons_zero, List.set_cons_succ]
  refine hK _ _ ?_
  clear hK K
  have HQ := hid hq
  have HB := hid hb2
  have HR := hid hr
  clear hq hb2 hr hS
  go_wp2
  obtain ⟨⟨z0, z1, z2, z3, z4⟩, -⟩ := (((((HQ.out.set_ 0 (.int .i64 (u.lift d 0 0).k)).set_ 1 (.int .i64 (u.lift d 0 0).n)).set_ 2 (.int .i64 (u.lift d 0 0).a)).set_ 3 (.slice Dl (u.lift d 0 0).ls.length fl)).set_ 4 (.slice Dk (u.lift d 0 0).ks.length fk)).five
  refine bodyPost_ret (v := .tuple #[.agg #[.int .i64 (u.lift d 0 0).k, .int .i64 (u.lift d 0 0).n, .int .i64 (u.lift d 0 0).a, .slice Dl (u.lift d 0 0).ls.length fl, .slice Dk (u.lift d 0 0).ks.length fk], .bool true]) (by simp [results, Tryd.f30, go_sem, z0, z1, z2, z3, z4]) rfl ?_
  have hbs := HB.out.size
  have hbw : Below w.heap.size w w2 := Below.trans (b := _) (by repeat (first | exact Below.refl _ _ | assumption | refine Below.alloc ?_ (by simp <;> omega) _ | refine Below.setCell ?_ (by simp <;> omega) _ | refine Below.drew ?_ | refine below_drewN ?_ _)) (HB.out.mono (by simp; omega))
  exact ⟨_, rfl, set5_below hbw (w.heap.size + 1 + 1) (by omega) _ _ _ _ _, stored5 HR.out hbw (by simp) (by simp; omega)⟩

set_option maxRecDepth 10000 in
set_option maxHeartbeats 2000000 in
theorem put_inr (d k m a : Int) (fv : Value) (bb : Nat) (Ab : Option Addr) (nb cb : Nat) (Al : Option Addr) (nl cl : Nat) (Ak : Option Addr) (nk ck : Nat) (ls : List LV) (F : Nat → Prop) (w : World) (hF : ∀ b, F b → b < w.heap.size) (h : RLs F w (.slice Al nl cl) ls)
    (hby : w.cell? ⟨bb, 0, none⟩ = some (.slice Ab nb cb)) (hlt : ¬ (k = 1 ∧ d ≤ m ∧ wrap64 (m - d) < (nb : Int))) (fn : Fn) (caps : Array Value) (hfv : fv = .func fn #[] caps) :
    Calls Tryd.prog 30 #[.agg #[.int .i64 d, fv], .agg #[.int .i64 k, .int .i64 m, .int .i64 a, .slice Al nl cl, .slice Ak nk ck], .pointer (some ⟨bb, 0, none⟩)] w
      (Turned w k (if k = 1 ∧ d ≤ m then wrap64 (m - (nb : Int)) else m) a ls (.slice Ak nk ck)) := by
  subst hfv
  have HF := hid hF
  have HL := hid h
  have hbb : bb < w.heap.size := World.block_lt_of_cell? w _ hby
  have hbb1 : bb < w.heap.size + 1 := by omega
  have hbb2 : bb < w.heap.size + 1 + 1 := by omega
  have hbb3 : bb < w.heap.size + 1 + 1 + 1 := by omega
  clear h hF
  have hend : ∀ (m' : Int) (W : World), Below w.heap.size w W → w.heap.size + 3 ≤ W.heap.size → Calls Tryd.prog 32 #[.agg #[.int .i64 k, .int .i64 m', .int .i64 a, .slice Al nl cl, .slice Ak nk ck]] W (fun e w' =>
      ∃ Bl dl, e = .returned (.agg #[.int .i64 k, .int .i64 m', .int .i64 a, .slice Bl ls.length dl, .slice Ak nk ck]) ∧ Below W.heap.size W w' ∧ RLs (fun b => W.heap.size ≤ b ∧ b < w'.heap.size) w' (.slice Bl ls.length dl) ls) := fun m' W hb hz =>
    term_own k m' a Al nl cl Ak nk ck ls F W (fun b hb => by have := HF.out b hb; omega) (HL.out.mono (keepF hb HF.out) (fun _ h => h))
  have HE := hid hend
  clear hend
  by_cases h1 : k = 1
  · by_cases h2 : d ≤ m
    · rw [if_pos ⟨h1, h2⟩]
      have h3 : ¬ wrap64 (m - d) < (nb : Int) := fun h => hlt ⟨h1, h2, h⟩
      have HK := hid h1
      have hk1 : (k != 1) = false := by simp [h1]
      have hd2 : decide (d ≤ m) = true := by simp [h2]
      have hd3 : decide (wrap64 (m - d) < (nb : Int)) = false := by simp; omega
      clear h1 hlt
      go_enter Tryd.func30, Tryd.ntmps30
      go_wp2_with (first | (go_at_call 31; refine (depth_means _ _ _).mono ?_; rintro e w1 ⟨rfl, nq, rfl⟩; simp only [hd2]) | (go_at_call 32; refine (HE.out (wrap64 (m - (nb : Int))) _ (by repeat (first | exact Below.refl _ _ | assumption | refine Below.alloc ?_ (by simp <;> omega) _ | refine Below.setCell ?_ (by simp <;> omega) _ | refine Below.drew ?_ | refine below_drewN ?_ _)) (by simp <;> omega)).mono ?_; rintro e w2 ⟨Bl, dl, rfl, hb2, hls⟩; have hq := Blk.grow (Blk.far (p := ⟨w.heap.size + 1, 1, none⟩) (Blk.drewN (Blk.alloc (Blk.new ((w.alloc _).alloc _) 26 [_, _, _, _, _]) _) nq) (by simp) _) hb2; simp only [World.size_alloc] at hq; obtain ⟨⟨q0, q1, q2, q3, q4⟩, ⟨g0, g1, g2, g3, g4⟩⟩ := hq.five; have HQ := hid hq; have HB := hid hb2; have HLS := hid hls; clear hq hb2 hls))
      obtain ⟨⟨z0, z1, z2, z3, z4⟩, -⟩ := (((((HQ.out.set_ 0 (.int .i64 k)).set_ 1 (.int .i64 (wrap64 (m - (nb : Int))))).set_ 2 (.int .i64 a)).set_ 3 (.slice Bl ls.length dl)).set_ 4 (.slice Ak nk ck)).five
      refine bodyPost_ret (v := .tuple #[.agg #[.int .i64 k, .int .i64 (wrap64 (m - (nb : Int))), .int .i64 a, .slice Bl ls.length dl, .slice Ak nk ck], .bool false]) (by simp [results, Tryd.f30, go_sem, z0, z1, z2, z3, z4]) rfl ?_
      exact turned_end Bl dl (by repeat (first | exact Below.refl _ _ | assumption | refine Below.alloc ?_ (by simp <;> omega) _ | refine Below.setCell ?_ (by simp <;> omega) _ | refine Below.drew ?_ | refine below_drewN ?_ _)) HB.out HLS.out (by simp <;> omega)
    · rw [if_neg (fun h => h2 h.2)]
      have HK := hid h1
      have hk1 : (k != 1) = false := by simp [h1]
      have hd2 : decide (d ≤ m) = false := by simp [h2]
      clear h1 hlt
      go_enter Tryd.func30, Tryd.ntmps30
      go_wp2_with (first | (go_at_call 31; refine (depth_means _ _ _).mono ?_; rintro e w1 ⟨rfl, nq, rfl⟩; simp only [hd2]) | (go_at_call 32; refine (HE.out m _ (by repeat (first | exact Below.refl _ _ | assumption | refine Below.alloc ?_ (by simp <;> omega) _ | refine Below.setCell ?_ (by simp <;> omega) _ | refine Below.drew ?_ | refine below_drewN ?_ _)) (by simp <;> omega)).mono ?_; rintro e w2 ⟨Bl, dl, rfl, hb2, hls⟩; have hq := Blk.grow (Blk.drewN (Blk.alloc (Blk.new ((w.alloc _).alloc _) 26 [_, _, _, _, _]) _) nq) hb2; simp only [World.size_alloc] at hq; obtain ⟨⟨q0, q1, q2, q3, q4⟩, ⟨g0, g1, g2, g3, g4⟩⟩ := hq.five; have HQ := hid hq; have HB := hid hb2; have HLS := hid hls; clear hq hb2 hls))
      obtain ⟨⟨z0, z1, z2, z3, z4⟩, -⟩ := (((((HQ.out.set_ 0 (.int .i64 k)).set_ 1 (.int .i64 m)).set_ 2 (.int .i64 a)).set_ 3 (.slice Bl ls.length dl)).set_ 4 (.slice Ak nk ck)).five
      refine bodyPost_ret (v := .tuple #[.agg #[.int .i64 k, .int .i64 m, .int .i64 a, .slice Bl ls.length dl, .slice Ak nk ck], .bool false]) (by simp [results, Tryd.f30, go_sem, z0, z1, z2, z3, z4]) rfl ?_
      exact turned_end Bl dl (by repeat (first | exact Below.refl _ _ | assumption | refine Below.alloc ?_ (by simp <;> omega) _ | refine Below.setCell ?_ (by simp <;> omega) _ | refine Below.drew ?_ | refine below_drewN ?_ _)) HB.out HLS.out (by simp <;> omega)
  · rw [if_neg (fun h => h1 h.1)]
    have hk1 : (k != 1) = true := by simp [h1]
    clear h1 hlt
    go_enter Tryd.func30, Tryd.ntmps30
    go_wp2_with (first | (go_at_call 31; refine (depth_means _ _ _).mono ?_; rintro e w1 ⟨rfl, nq, rfl⟩) | (go_at_call 32; refine (HE.out m _ (by repeat (first | exact Below.refl _ _ | assumption | refine Below.alloc ?_ (by simp <;> omega) _ | refine Below.setCell ?_ (by simp <;> omega) _ | refine Below.drew ?_ | refine below_drewN ?_ _)) (by simp <;> omega)).mono ?_; rintro e w2 ⟨Bl, dl, rfl, hb2, hls⟩; have hq := Blk.grow (Blk.drewN (Blk.alloc (Blk.new ((w.alloc _).alloc _) 26 [_, _, _, _, _]) _) nq) hb2; simp only [World.size_alloc] at hq; obtain ⟨⟨q0, q1, q2, q3, q4⟩, ⟨g0, g1, g2, g3, g4⟩⟩ := hq.five; have HQ := hid hq; have HB := hid hb2; have HLS := hid hls; clear hq hb2 hls))
    obtain ⟨⟨z0, z1, z2, z3, z4⟩, -⟩ := (((((HQ.out.set_ 0 (.int .i64 k)).set_ 1 (.int .i64 m)).set_ 2 (.int .i64 a)).set_ 3 (.slice Bl ls.length dl)).set_ 4 (.slice Ak nk ck)).five
    refine bodyPost_ret (v := .tuple #[.agg #[.int .i64 k, .int .i64 m, .int .i64 a, .slice Bl ls.length dl, .slice Ak nk ck], .bool false]) (by simp [results, Tryd.f30, go_sem, z0, z1, z2, z3, z4]) rfl ?_
    exact turned_end Bl dl (by repeat (first | exact Below.refl _ _ | assumption | refine Below.alloc ?_ (by simp <;> omega) _ | refine Below.setCell ?_ (by simp <;> omega) _ | refine Below.drew ?_ | refine below_drewN ?_ _)) HB.out HLS.out (by simp <;> omega)

theorem put_ok (bys : List T) (F : Nat → Prop) (w0 : World) (bb : Nat) (Ab : Option Addr) (cb : Nat) (hF : ∀ b, F b → b < w0.heap.size) (hL : Lk w0) (hby : w0.cell? ⟨bb, 0, none⟩ = some (.slice Ab bys.length cb)) (hbs : RTs F w0 (.slice Ab bys.length cb) bys) (hdeep : ∀ t, t ∈ bys → t.deep ≤ DM) :
    TurnOk (putTurn bys) 30 #[.pointer (some ⟨bb, 0, none⟩)] F w0 := by
  intro d t Al cl Ak ck w hd hb hv
  obtain ⟨Al', cl', Ak', ck', hval, hk, hm, ha, hls, hks⟩ := id hv
  simp at hval
  obtain ⟨⟨rfl, rfl⟩, rfl, rfl⟩ := hval
  have hF' : ∀ b, F b → b < w.heap.size := fun b hb' => by have := hF b hb'; have := hb.size; omega
  have hlen := hbs.len
  unfold TurnPost putTurn
  by_cases h1 : t.k = 1 ∧ d ≤ t.n
  · rw [if_pos h1]
    have hw : wrap64 (t.n - d) = t.n - d := IntWalk.wrap64_in _ (by unfold I64 at hm; omega)
    by_cases h2 : (t.n - d).toNat < bys.length
    · rw [dif_pos h2]
      exact put_inl d t.k t.n t.a (t.n - d).toNat _ bb Ab cb Al t.ls.length cl Ak t.ks.length ck bys F w hF' (hL.grow hb) (cell_later hb hby) (hbs.mono (keepF hb hF) (fun _ h => h)) hdeep h1.1 h1.2 (by rw [hw]; omega) h2 _ _ rfl
    · rw [dif_neg h2]
      refine (put_inr d t.k t.n t.a (.func (.func 30) #[] #[.pointer (some ⟨bb, 0, none⟩)]) bb Ab bys.length cb Al t.ls.length cl Ak t.ks.length ck t.ls F w hF' hls (cell_later hb hby) (by rw [hw]; omega) _ _ rfl).mono ?_
      rintro e w' ⟨Bl, dl, rfl, hb2, hls2⟩
      rw [if_pos h1]
      exact ⟨Bl, dl, rfl, hb2, hls2, I64.wrap _⟩
  · rw [if_neg h1]
    refine (put_inr d t.k t.n t.a (.func (.func 30) #[] #[.pointer (some ⟨bb, 0, none⟩)]) bb Ab bys.length cb Al t.ls.length cl Ak t.ks.length ck t.ls F w hF' hls (cell_later hb hby) (fun h => h1 ⟨h.1, h.2.1⟩) _ _ rfl).mono ?_
    rintro e w' ⟨Bl, dl, rfl, hb2, hls2⟩
    rw [if_neg h1]
    exact ⟨Bl, dl, rfl, hb2, hls2, hm⟩

theorem put_cf (args : Array Value) (w : World) : (callFunc 30 args).run Tryd.prog w = .ok (.enter 30 args) w := by kernel_rfl

set_option maxRecDepth 10000 in
set_option maxHeartbeats 1000000 in
theorem term_put (t : T) (bys : List T) (F : Nat → Prop) (w : World) (v vb : Value) (hF : ∀ b, F b → b < w.heap.size) (hL : Lk w) (hd : t.deep ≤ DM) (hv : RTv F w t v) (hbs : RTs F w vb bys) (hdeep : ∀ t, t ∈ bys → t.deep ≤ DM) :
    Calls Tryd.prog 11 #[v, vb] w fun e w' => ∃ r, e = .returned r ∧ Below w.heap.size w w' ∧ RTv (Fr w w') w' (t.put bys 0) r := by
  obtain ⟨Al, cl, Ak, ck, rfl, -⟩ := id hv
  obtain ⟨Ab, cb, rfl, -⟩ := id hbs
  have HV := hid hv
  have HF := hid hF
  have HL := hid hL
  have HBS := hid hbs
  have HDP := hid hdeep
  clear hv hF hL hbs hdeep
  go_enter Tryd.func11, Tryd.ntmps11
  go_wp2_with fail
  refine (walk_term (putTurn bys) _ _ F _ ?h1 ?h2 ?h3 put_cf t 0 _ _ ⟨Int.le_refl _, by omega⟩ (Below.refl _ _) ?h4).mono ?_
  case h1 => intro b hb; have := HF.out b hb; simp; omega
  case h2 => exact HL.out.grow (by repeat (first | exact Below.refl _ _ | assumption | refine Below.alloc ?_ (by simp <;> omega) _ | refine Below.setCell ?_ (by simp <;> omega) _ | refine Below.drew ?_ | refine below_drewN ?_ _))
  case h3 => exact put_ok bys F _ _ Ab cb (fun b hb => by have := HF.out b hb; simp; omega) (HL.out.grow (by repeat (first | exact Below.refl _ _ | assumption | refine Below.alloc ?_ (by simp <;> omega) _ | refine Below.setCell ?_ (by simp <;> omega) _ | refine Below.drew ?_ | refine below_drewN ?_ _))) (by simp [go_sem]) (HBS.out.mono (keepF (B := w.heap.size) (by repeat (first | exact Below.refl _ _ | assumption | refine Below.alloc ?_ (by simp <;> omega) _ | refine Below.setCell ?_ (by simp <;> omega) _ | refine Below.drew ?_ | refine below_drewN ?_ _)) HF.out) (fun _ h => h)) HDP.out
  case h4 => exact HV.out.mono (keepF (B := w.heap.size) (by repeat (first | exact Below.refl _ _ | assumption | refine Below.alloc ?_ (by simp <;> omega) _ | refine Below.setCell ?_ (by simp <;> omega) _ | refine Below.drew ?_ | refine below_drewN ?_ _)) HF.out) (fun _ h => h)
  rintro e w1 ⟨r, rfl, hb1, hr⟩
  change RTv _ _ (t.put bys 0) _ at hr
  obtain ⟨Bl, dl, Bk, dk, rfl, -⟩ := id hr
  have hq := Blk.grow (Blk.new ((w.alloc _).alloc _) 26 [_, _, _, _, _]) hb1
  simp only [World.size_alloc] at hq
  obtain ⟨⟨q0, q1, q2, q3, q4⟩, ⟨g0, g1, g2, g3, g4⟩⟩ := hq.five
  have HQ := hid hq
  have HB := hid hb1
  have HR := hid hr
  clear hq hb1 hr
  have hz1 : w.heap.size + 3 ≤ w1.heap.size := by have := HB.out.size; simp at this; omega
  dsimp only
  go_wp2
  obtain ⟨⟨z0, z1, z2, z3, z4⟩, -⟩ := (((((HQ.out.set_ 0 (.int .i64 (t.put bys 0).k)).set_ 1 (.int .i64 (t.put bys 0).n)).set_ 2 (.int .i64 (t.put bys 0).a)).set_ 3 (.slice Bl (t.put bys 0).ls.length dl)).set_ 4 (.slice Bk (t.put bys 0).ks.length dk)).five
  refine bodyPost_ret (v := .agg #[.int .i64 (t.put bys 0).k, .int .i64 (t.put bys 0).n, .int .i64 (t.put bys 0).a, .slice Bl (t.put bys 0).ls.length dl, .slice Bk (t.put bys 0).ks.length dk]) (by simp [results, Tryd.f11, go_sem, z0, z1, z2, z3, z4]) rfl ?_
  have hbw : Below w.heap.size w w1 := Below.trans (b := ((w.alloc _).alloc _).alloc _) (by repeat (first | exact Below.refl _ _ | assumption | refine Below.alloc ?_ (by simp <;> omega) _ | refine Below.setCell ?_ (by simp <;> omega) _ | refine Below.drew ?_ | refine below_drewN ?_ _)) (HB.out.mono (by simp; omega))
  exact ⟨_, rfl, set5_below hbw (w.heap.size + 1 + 1) (by omega) _ _ _ _ _, stored5 HR.out hbw (by simp) (by simp; omega)⟩
end Go.Proofs.YtmghkfiepcomgaaDoor
