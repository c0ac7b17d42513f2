/-
  term.count, term.Right.
-/
import Derived.Test.YtmghkfiepcomgaaDoorTright
set_option linter.unusedSimpArgs false
set_option linter.unusedVariables false
namespace Go.Proofs.YtmghkfiepcomgaaDoor
open Go.RowKit

theorem right_eq (t : T) (d : Int) : T.RightAt d t ↔ d ≤ 400 ∧ NodeOk t ∧ T.RightsAt (d + 1) t.ks := by cases t; rw [T.RightAt]; rfl

set_option maxRecDepth 10000 in
set_option maxHeartbeats 2000000 in
theorem count_t (t : T) : CountT t := by
  induction t using T.ind with
  | h k n a ls ks ih =>
    intro d c bn F w v hd hc hL hF hbk hn hv
    obtain ⟨Al, cl, Ak, ck, rfl, -⟩ := id hv
    obtain ⟨hbn, hfz⟩ := hn.one
    have hlt := hn.lt
    have hlt1 : bn < w.heap.size + 1 := by omega
    have hlt2 : bn < w.heap.size + 1 + 1 := by omega
    have hlt3 : bn < w.heap.size + 1 + 1 + 1 := by omega
    have hne1 : ¬ w.heap.size = bn := by omega
    have hne2 : ¬ w.heap.size + 1 = bn := by omega
    have hne3 : ¬ w.heap.size + 1 + 1 = bn := by omega
    have hne4 : ¬ bn = w.heap.size := by omega
    have hne5 : ¬ bn = w.heap.size + 1 := by omega
    have hne6 : ¬ bn = w.heap.size + 1 + 1 := by omega
    have hsz : (T.mk k n a ls ks).size = 1 + T.sizes ks := by rw [T.size]
    have HSZ := hid hsz
    have HR := hid (right_eq (.mk k n a ls ks) d)
    have HN := hid hn
    have HV := hid hv
    have HF := hid hF
    have HL := hid hL
    have IH := hid ih
    simp only [T.ks, T.k, T.n, T.a, T.ls] at hv ⊢
    clear hsz hn hv hF hL ih
    have hd1 : (d : Int) ≤ 401 := by omega
    have hc1 : (c : Int) ≤ 20000 := by omega
    by_cases h1 : (d : Int) ≤ 400
    · by_cases h2 : (c : Int) + 1 ≤ 20000
      · go_enter Tryd.func49, Tryd.ntmps49
        go_wp2_with fail
        have hofw : ∀ W : World, Off (· = bn) w.heap.size w W → RTv F W (.mk k n a ls ks) (.agg #[.int .i64 k, .int .i64 n, .int .i64 a, .slice Al ls.length cl, .slice Ak ks.length ck]) := fun W hW => HV.out.mono (hW.keep HF.out) (fun _ h => h)
        have hlw : ∀ W : World, Off (· = bn) w.heap.size w W → Lk W := fun W hW => ⟨At.keep (F := fun b => b = 0) HL.out.1 (hW.keep (fun b hb => by subst hb; exact ⟨HL.out.2, fun h => hbk h.symm⟩)) rfl, by have := HL.out.2; have := hW.size; omega⟩
        have HOFW := hid hofw
        have HLW := hid hlw
        clear hofw hlw
        have hW0 : Off (· = bn) w.heap.size w (w.setCell ⟨bn, 0, none⟩ (.int .i64 (c + 1))) := Off.setCell (Off.refl (· = bn) w.heap.size w) (p := ⟨bn, 0, none⟩) (.inr rfl) _
        have hB0 : Blk (w.setCell ⟨bn, 0, none⟩ (.int .i64 (c + 1))) bn 3 [.int .i64 (c + 1)] := by simpa using HN.out.set_ 0 (.int .i64 (c + 1))
        have hz0 : (w.setCell ⟨bn, 0, none⟩ (.int .i64 (c + 1))).heap.size = w.heap.size := by simp [World.setCell]
        generalize w.setCell ⟨bn, 0, none⟩ (.int .i64 (c + 1)) = w0 at *
        have hoA : Off (· = bn) w.heap.size w (((w0.alloc (.cells #[.int .i64 k, .int .i64 n, .int .i64 a, .slice Al ls.length cl, .slice Ak ks.length ck] 26)).alloc (.cells #[.int .i64 d] 3)).alloc (.cells #[.pointer (some ⟨bn, 0, none⟩)] 75)) :=
          ((hW0.alloc (by omega) _).alloc (by simp <;> omega) _).alloc (by simp <;> omega) _
        have hq := Blk.alloc (Blk.alloc (Blk.new w0 26 [.int .i64 k, .int .i64 n, .int .i64 a, .slice Al ls.length cl, .slice Ak ks.length ck]) (.cells #[.int .i64 d] 3)) (.cells #[.pointer (some ⟨bn, 0, none⟩)] 75)
        have hq1 := Blk.alloc (Blk.new (w0.alloc (.cells #[.int .i64 k, .int .i64 n, .int .i64 a, .slice Al ls.length cl, .slice Ak ks.length ck] 26)) 3 [.int .i64 d]) (.cells #[.pointer (some ⟨bn, 0, none⟩)] 75)
        have hq2 := Blk.new ((w0.alloc (.cells #[.int .i64 k, .int .i64 n, .int .i64 a, .slice Al ls.length cl, .slice Ak ks.length ck] 26)).alloc (.cells #[.int .i64 d] 3)) 75 [.pointer (some ⟨bn, 0, none⟩)]
        have hB := ((hB0.alloc (.cells #[.int .i64 k, .int .i64 n, .int .i64 a, .slice Al ls.length cl, .slice Ak ks.length ck] 26)).alloc (.cells #[.int .i64 d] 3)).alloc (.cells #[.pointer (some ⟨bn, 0, none⟩)] 75)
        simp only [World.size_alloc, hz0] at hq hq1 hq2
        have hzA : (((w0.alloc (.cells #[.int .i64 k, .int .i64 n, .int .i64 a, .slice Al ls.length cl, .slice Ak ks.length ck] 26)).alloc (.cells #[.int .i64 d] 3)).alloc (.cells #[.pointer (some ⟨bn, 0, none⟩)] 75)).heap.size = w.heap.size + 3 := by simp; omega
        clear hbn hfz hB0 hW0
        generalize ((w0.alloc (.cells #[.int .i64 k, .int .i64 n, .int .i64 a, .slice Al ls.length cl, .slice Ak ks.length ck] 26)).alloc (.cells #[.int .i64 d] 3)).alloc (.cells #[.pointer (some ⟨bn, 0, none⟩)] 75) = wA at *
        refine (node_ok (.mk k n a ls ks) F wA _ (fun b hb => by have := (HF.out b hb).1; omega) (HLW.out _ hoA) (HOFW.out _ hoA)).mono ?_
        rintro e w1 ⟨q, rfl, g1, g2⟩
        have hq := hq.grow g2
        have hq1 := hq1.grow g2
        have hq2 := hq2.grow g2
        have hB := hB.grow g2
        obtain ⟨⟨p0, p1, p2, p3, p4⟩, ⟨f0, f1, f2, f3, f4⟩⟩ := hq.five
        obtain ⟨d0, -⟩ := hq1.one
        obtain ⟨n0, -⟩ := hq2.one
        have hoB : Off (· = bn) w.heap.size w w1 := hoA.trans (Off.of (g2.mono (by omega)))
        have hz1 : w.heap.size + 3 ≤ w1.heap.size := by have := g2.size; omega
        have HG1 := hid g1
        have HB := hid hB
        have HOB := hid hoB
        have HZ1 := hid hz1
        have hm1 : w.heap.size < w1.heap.size := by omega
        have hm2 : w.heap.size + 1 < w1.heap.size := by omega
        have hm3 : w.heap.size + 1 + 1 < w1.heap.size := by omega
        clear g1 g2 hq hq1 hq2 hB hoA hoB hz0 hzA hz1
        cases q with
        | false =>
          dsimp only
          go_wp2
          go_ret
          refine ⟨_, c + 1, rfl, HOB.out, HB.out, ⟨fun h => by simp at h, fun h => ?_⟩, fun h => by simp at h⟩
          exact HG1.out.2 ((HR.out.1 h.1).2.1)
        | true =>
          dsimp only
          go_wp2_with (go_at_call 77; refine (contains_count ks IH.out d (c + 1) bn _ _ F _ _ (by omega) (by omega) (HLW.out _ HOB.out) (fun b hb => ⟨by have := (HF.out b hb).1; omega, (HF.out b hb).2⟩) hbk HB.out (RTv.kids (HOFW.out _ HOB.out)) d0 n0 (by omega) (by omega)).mono ?_; rintro e w2 ⟨q, c', rfl, h3, h4, h5, h6⟩; have H3 := hid h3; have H4 := hid h4; have H5 := hid h5; have H6 := hid h6; clear h3 h4 h5 h6)
          go_ret
          refine ⟨_, c', rfl, HOB.out.trans (H3.out.mono (by omega)), H4.out, ?_, fun h => ?_⟩
          · rw [HR.out, HSZ.out]
            simp only [T.ks]
            have h5 := H5.out
            have hn := HG1.out.1 (by simp)
            constructor
            · intro h
              have h7 := h5.1 (by cases q <;> simp_all)
              exact ⟨⟨h1, hn, h7.1⟩, by omega⟩
            · intro h
              have := h5.2 ⟨h.1.2.2, by omega⟩
              rw [this]; rfl
          · have := H6.out (by cases q <;> simp_all)
            rw [HSZ.out]; omega
      · go_enter Tryd.func49, Tryd.ntmps49
        go_wp2_with fail
        go_ret
        have hW0 : Off (· = bn) w.heap.size w (w.setCell ⟨bn, 0, none⟩ (.int .i64 (c + 1))) := Off.setCell (Off.refl (· = bn) w.heap.size w) (p := ⟨bn, 0, none⟩) (.inr rfl) _
        have hB0 : Blk (w.setCell ⟨bn, 0, none⟩ (.int .i64 (c + 1))) bn 3 [.int .i64 (c + 1)] := by simpa using HN.out.set_ 0 (.int .i64 (c + 1))
        have hz0 : (w.setCell ⟨bn, 0, none⟩ (.int .i64 (c + 1))).heap.size = w.heap.size := by simp [World.setCell]
        refine ⟨_, c + 1, rfl, ((hW0.alloc (by omega) _).alloc (by simp <;> omega) _).alloc (by simp <;> omega) _, ((hB0.alloc _).alloc _).alloc _, ⟨fun h => by simp at h, fun h => ?_⟩, fun h => by simp at h⟩
        have := h.2
        rw [HSZ.out] at this
        omega
    · go_enter Tryd.func49, Tryd.ntmps49
      go_wp2_with fail
      go_ret
      have hW0 : Off (· = bn) w.heap.size w (w.setCell ⟨bn, 0, none⟩ (.int .i64 (c + 1))) := Off.setCell (Off.refl (· = bn) w.heap.size w) (p := ⟨bn, 0, none⟩) (.inr rfl) _
      have hB0 : Blk (w.setCell ⟨bn, 0, none⟩ (.int .i64 (c + 1))) bn 3 [.int .i64 (c + 1)] := by simpa using HN.out.set_ 0 (.int .i64 (c + 1))
      have hz0 : (w.setCell ⟨bn, 0, none⟩ (.int .i64 (c + 1))).heap.size = w.heap.size := by simp [World.setCell]
      refine ⟨_, c + 1, rfl, ((hW0.alloc (by omega) _).alloc (by simp <;> omega) _).alloc (by simp <;> omega) _, ((hB0.alloc _).alloc _).alloc _, ⟨fun h => by simp at h, fun h => ?_⟩, fun h => by simp at h⟩
      exact absurd ((HR.out.1 h.1).1) (by omega)

set_option maxRecDepth 10000 in
set_option maxHeartbeats 1000000 in
theorem term_right (t : T) (F : Nat → Prop) (w : World) (v : Value) (hF : ∀ b, F b → b < w.heap.size) (hL : Lk w) (hv : RTv F w t v) :
    Calls Tryd.prog 26 #[v] w (TB (T.RightAt 1 t ∧ t.size ≤ 20000) w) := by
  obtain ⟨Al, cl, Ak, ck, rfl, -⟩ := id hv
  have HV := hid hv
  have HF := hid hF
  have HL := hid hL
  clear hv hF hL
  go_enter Tryd.func26, Tryd.ntmps26
  go_wp2_with fail
  refine (count_t t 1 0 _ F _ _ (by omega) (by omega) (HL.out.grow (by repeat (first | exact Below.refl _ _ | assumption | refine Below.alloc ?_ (by simp <;> omega) _ | refine Below.setCell ?_ (by simp <;> omega) _ | refine Below.drew ?_ | refine below_drewN ?_ _))) (fun b hb => by have := HF.out b hb; simp; omega) (by have := HL.out.2; simp <;> omega) ?_ (HV.out.mono (keepF (B := w.heap.size) (by repeat (first | exact Below.refl _ _ | assumption | refine Below.alloc ?_ (by simp <;> omega) _ | refine Below.setCell ?_ (by simp <;> omega) _ | refine Below.drew ?_ | refine below_drewN ?_ _)) HF.out) (fun _ h => h))).mono ?_
  · have h := Blk.new (w.alloc (.cells #[.int .i64 t.k, .int .i64 t.n, .int .i64 t.a, .slice Al t.ls.length cl, .slice Ak t.ks.length ck] 26)) 3 [.int .i64 0]
    rw [World.size_alloc] at h
    exact h
  rintro e w1 ⟨q, c', rfl, h3, h4, h5, h6⟩
  have H3 := hid h3
  have H5 := hid h5
  clear h3 h4 h5 h6
  dsimp only
  go_wp2
  go_ret
  refine TB.mk ?_ ?_
  · have := H5.out; simpa using this
  · exact Below.trans (b := (w.alloc _).alloc _) (by repeat (first | exact Below.refl _ _ | assumption | refine Below.alloc ?_ (by simp <;> omega) _ | refine Below.setCell ?_ (by simp <;> omega) _ | refine Below.drew ?_ | refine below_drewN ?_ _)) ((H3.out.mono (B := w.heap.size) (by simp <;> omega)).below (fun k hk e => by omega))
end Go.Proofs.YtmghkfiepcomgaaDoor
