/-
  term.Right: all nodes are of their kind, not too deep, not too many.
-/
import Derived.Test.YtmghkfiepcomgaaDoorOff
import Derived.Test.YtmghkfiepcomgaaDoorTnode
set_option linter.unusedSimpArgs false
set_option linter.unusedVariables false
namespace Go.Proofs.YtmghkfiepcomgaaDoor
open Go.RowKit

mutual
def T.RightAt : Int → T → Prop
  | d, .mk k n a ls ks => d ≤ 400 ∧ NodeOk (.mk k n a ls ks) ∧ T.RightsAt (d + 1) ks
def T.RightsAt : Int → List T → Prop
  | _, [] => True
  | d, t :: r => T.RightAt d t ∧ T.RightsAt d r
end

theorem T.RightsAt_iff (d : Int) (l : List T) : T.RightsAt d l ↔ ∀ t, t ∈ l → T.RightAt d t := by
  induction l with
  | nil => simp [T.RightsAt]
  | cons x r ih => simp [T.RightsAt, ih]

theorem T.size_pos (t : T) : 1 ≤ t.size := by rw [T.size_eq]; omega
theorem T.sizes_take_le (l : List T) (j : Nat) : T.sizes (l.take j) ≤ T.sizes l := by
  have := T.sizes_append (l.take j) (l.drop j)
  rw [List.take_append_drop] at this
  omega

/-- how counting ends -/
def CountPost (ok : Prop) (bn c n : Nat) (w : World) (e : Ending) (w' : World) : Prop :=
  ∃ (b : Bool) (c' : Nat), e = .returned (.bool b) ∧ Off (· = bn) w.heap.size w w' ∧ Blk w' bn 3 [.int .i64 c'] ∧ (b = true ↔ ok ∧ c + n ≤ 20000) ∧ (b = true → c' = c + n)

def CountT (t : T) : Prop := ∀ (d c : Nat) (bn : Nat) (F : Nat → Prop) (w : World) (v : Value), d ≤ 401 → c ≤ 20000 → Lk w → (∀ b, F b → b < w.heap.size ∧ b ≠ bn) → bn ≠ 0 → Blk w bn 3 [.int .i64 c] → RTv F w t v →
  Calls Tryd.prog 49 #[v, .int .i64 d, .pointer (some ⟨bn, 0, none⟩)] w (CountPost (T.RightAt d t) bn c t.size w)

set_option maxRecDepth 10000 in
set_option maxHeartbeats 1000000 in
theorem count_one (t : T) (ih : CountT t) (d c bn bd bp : Nat) (F : Nat → Prop) (w : World) (Al Ak : Option Addr) (cl ck : Nat) (hd : d ≤ 400) (hc : c ≤ 20000) (hL : Lk w) (hF : ∀ b, F b → b < w.heap.size ∧ b ≠ bn) (hbk : bn ≠ 0)
    (hn : Blk w bn 3 [.int .i64 c]) (hv : RTv F w t (.agg #[.int .i64 t.k, .int .i64 t.n, .int .i64 t.a, .slice Al t.ls.length cl, .slice Ak t.ks.length ck])) (h1 : w.cell? ⟨bd, 0, none⟩ = some (.int .i64 d)) (h2 : w.cell? ⟨bp, 0, none⟩ = some (.pointer (some ⟨bn, 0, none⟩))) :
    Calls Tryd.prog 78 (#[.agg #[.int .i64 t.k, .int .i64 t.n, .int .i64 t.a, .slice Al t.ls.length cl, .slice Ak t.ks.length ck]] ++ #[.pointer (some ⟨bd, 0, none⟩), .pointer (some ⟨bp, 0, none⟩)]) w
      (fun e w' => ∃ (b : Bool) (c' : Nat), e = .returned (.bool b) ∧ Off (· = bn) w.heap.size w w' ∧ Blk w' bn 3 [.int .i64 c'] ∧ (b = false ↔ T.RightAt (d + 1 : Nat) t ∧ c + t.size ≤ 20000) ∧ (b = false → c' = c + t.size)) := by
  show Calls Tryd.prog 78 #[.agg #[.int .i64 t.k, .int .i64 t.n, .int .i64 t.a, .slice Al t.ls.length cl, .slice Ak t.ks.length ck], .pointer (some ⟨bd, 0, none⟩), .pointer (some ⟨bp, 0, none⟩)] w _
  have hbd : bd < w.heap.size := World.block_lt_of_cell? w _ h1
  have hbp : bp < w.heap.size := World.block_lt_of_cell? w _ h2
  have hbd1 : bd < w.heap.size + 1 := by omega
  have hbp1 : bp < w.heap.size + 1 := by omega
  have HC := hid (fun (W : World) (hW : Below w.heap.size w W) => ih (d + 1) c bn F W _ (by omega) hc (hL.grow hW) (fun b hb => ⟨by have := (hF b hb).1; have := hW.size; omega, (hF b hb).2⟩) hbk (hn.grow hW) (hv.mono (keepF hW (fun b hb => (hF b hb).1)) (fun _ h => h)))
  have HBN := hid hn.lt
  clear hL hF hn hv ih hbk
  go_enter Tryd.func78, Tryd.ntmps78
  go_wp2_with (go_at_call 49; rw [show ((d : Int) + 1) = ((d + 1 : Nat) : Int) from by omega]; refine (HC.out _ (by repeat (first | exact Below.refl _ _ | assumption | refine Below.alloc ?_ (by simp <;> omega) _ | refine Below.setCell ?_ (by simp <;> omega) _ | refine Below.drew ?_ | refine below_drewN ?_ _))).mono ?_; rintro e w1 ⟨q, c', rfl, h3, h4, h5, h6⟩; have H3 := hid h3; have H4 := hid h4; have H5 := hid h5; have H6 := hid h6; clear h3 h4 h5 h6)
  go_ret
  refine ⟨_, c', rfl, Off.trans (b := w.alloc _) (Off.of (by repeat (first | exact Below.refl _ _ | assumption | refine Below.alloc ?_ (by simp <;> omega) _ | refine Below.setCell ?_ (by simp <;> omega) _ | refine Below.drew ?_ | refine below_drewN ?_ _))) (H3.out.mono (by simp)), H4.out, ?_, ?_⟩
  · rw [← H5.out]; cases q <;> simp
  · intro h; exact H6.out (by cases q <;> simp_all)

theorem count_cf (args : Array Value) (w : World) : (callFunc 78 args).run Tryd.prog w = .ok (.enter 78 args) w := by kernel_rfl

def CountsPost (ok : Prop) (bn c n : Nat) (w : World) (e : Ending) (w' : World) : Prop :=
  ∃ (i : Int) (c' : Nat), e = .returned (.int .i64 i) ∧ Off (· = bn) w.heap.size w w' ∧ Blk w' bn 3 [.int .i64 c'] ∧ (i < 0 ↔ ok ∧ c + n ≤ 20000) ∧ (i < 0 → c' = c + n)

theorem rights_next {d : Int} {xs : List T} {j : Nat} (hj : j < xs.length) (h : T.RightsAt d (xs.take j)) (hn : T.RightAt d xs[j]) : T.RightsAt d (xs.take (j + 1)) := by
  rw [T.RightsAt_iff] at *
  rw [List.take_succ_eq_append_getElem hj]
  intro x hx
  rcases List.mem_append.1 hx with h1 | h1
  · exact h x h1
  · simp at h1; subst h1; exact hn

set_option maxRecDepth 10000 in
set_option maxHeartbeats 1000000 in
theorem index_count (xs : List T) (ih : ∀ t, t ∈ xs → CountT t) (d c bn bd bp : Nat) (F : Nat → Prop) (w : World) (v : Value) (hd : d ≤ 400) (hc : c ≤ 20000) (hL : Lk w) (hF : ∀ b, F b → b < w.heap.size ∧ b ≠ bn) (hbk : bn ≠ 0)
    (hn : Blk w bn 3 [.int .i64 c]) (hv : RTs F w v xs) (h1 : w.cell? ⟨bd, 0, none⟩ = some (.int .i64 d)) (h2 : w.cell? ⟨bp, 0, none⟩ = some (.pointer (some ⟨bn, 0, none⟩))) (hdn : bd ≠ bn) (hpn : bp ≠ bn) :
    Calls Tryd.prog 90 #[v, .func (.func 78) #[] #[.pointer (some ⟨bd, 0, none⟩), .pointer (some ⟨bp, 0, none⟩)]] w (CountsPost (T.RightsAt (d + 1 : Nat) xs) bn c (T.sizes xs) w) := by
  obtain ⟨A, ca, rfl, -⟩ := id hv
  have hc1 : xs.length ≤ ca := hv.len.2.1
  have hn1 : xs.length ≤ 9223372036854775807 := by have := hv.len.2.2.2; unfold LM at this; omega
  have hbd : bd < w.heap.size := World.block_lt_of_cell? w _ h1
  have hbp : bp < w.heap.size := World.block_lt_of_cell? w _ h2
  have HX := hid hv
  have HF := hid hF
  have HT := hid ih
  have HL := hid hL
  have HN := hid hn
  have H1 := hid h1
  have H2 := hid h2
  clear hv hF ih hL hn h1 h2
  go_enter Tryd.func90, Tryd.ntmps90
  go_wp2_with fail
  go_loopw [8] (fun i wr => ∃ (j : Nat), j ≤ xs.length ∧ i = .int .i64 j ∧ T.RightsAt (d + 1 : Nat) (xs.take j) ∧ c + T.sizes (xs.take j) ≤ 20000 ∧ Off (· = bn) w.heap.size w wr ∧ Blk wr bn 3 [.int .i64 ((c + T.sizes (xs.take j) : Nat) : Int)]) (fun i wr => xs.length - (intOf i).toNat)
  case atStart => exact ⟨0, Nat.zero_le _, rfl, trivial, by simpa [T.sizes] using hc, Off.refl _ _ _, by simpa [T.sizes] using HN.out⟩
  case round =>
    obtain ⟨j, hj, rfl, hno, hcj, hb, hblk⟩ := hrel
    have HNO := hid hno
    have HCJ := hid hcj
    clear hno hcj
    by_cases hlt : j < xs.length
    · have hmem : xs[j] ∈ xs := List.getElem_mem _
      obtain ⟨b1, o1, rfl, -, hr1⟩ := (HX.out.mono (hb.keep HF.out) (fun _ h => h)).at (by omega)
      obtain ⟨Cl, el, Ck, ek, c0, c1, c2, c3, c4, hx⟩ := RTs.get hr1 hlt
      have hLr : Lk wr := ⟨At.keep (F := fun b => b = 0) HL.out.1 (hb.keep (fun b hb => by subst hb; exact ⟨HL.out.2, fun h => hbk h.symm⟩)) rfl, by have := HL.out.2; have := hb.size; omega⟩
      have HCALL := hid (count_one xs[j] (HT.out _ hmem) d _ bn bd bp F wr Cl Ck el ek hd HCJ.out hLr (fun b h => ⟨by have := (HF.out b h).1; have := hb.size; omega, (HF.out b h).2⟩) hbk hblk hx (hb.cell hbd hdn H1.out) (hb.cell hbp hpn H2.out))
      have HB := hid hb
      have HM := hid hmem
      have HSZ := hid (T.sizes_snoc xs j hlt)
      have hj0 : (0 : Int) ≤ (j : Int) := Int.natCast_nonneg _
      have hj1 : (j : Int) < (xs.length : Int) := by omega
      clear hb hr1 hx HT HX hmem hblk hLr
      go_wp2_with fail
      refine HCALL.out.mono ?_
      rintro e w1 ⟨q, c', rfl, hq1, hq2, hq3, hq4⟩
      have HQ1 := hid hq1
      have HQ2 := hid hq2
      have HQ3 := hid hq3
      have HQ4 := hid hq4
      clear hq1 hq2 hq3 hq4
      have HOFF := hid (HB.out.trans (HQ1.out.mono HB.out.size))
      cases q with
      | true =>
        dsimp only
        go_wp2
        go_ret
        refine ⟨_, c', rfl, HOFF.out, HQ2.out, ⟨fun h => absurd h (by omega), fun h => ?_⟩, fun h => absurd h (by omega)⟩
        have := HQ3.out.2 ⟨(T.RightsAt_iff _ _).1 h.1 _ HM.out, by have := T.sizes_take_le xs (j + 1); have := HSZ.out; have := h.2; omega⟩
        cases this
      | false =>
        have h3 := HQ3.out.1 rfl
        have h4 := HQ4.out rfl
        have hsz := HSZ.out
        have hc' : c' = c + T.sizes (xs.take (j + 1)) := by omega
        have H5 := hid (show c + T.sizes (xs.take (j + 1)) ≤ 20000 by omega)
        have H6 := hid (rights_next hlt HNO.out h3.1)
        have H7 := hid (show Blk w1 bn 3 [.int .i64 ((c + T.sizes (xs.take (j + 1)) : Nat) : Int)] from hc' ▸ HQ2.out)
        clear h3 h4 hsz hc'
        dsimp only
        go_wp2
        go_roundw
        case rel => exact ⟨j + 1, by omega, by go_num, H6.out, H5.out, HOFF.out, H7.out⟩
        case measure => simp [intOf]; omega
    · obtain rfl : j = xs.length := by omega
      have HB := hid hb
      have HBLK := hid hblk
      clear hb hblk
      go_wp2
      go_ret
      have h1 := HNO.out
      have h2 := HCJ.out
      have h3 := HBLK.out
      rw [List.take_length] at h1 h2 h3
      exact ⟨_, _, rfl, HB.out, h3, ⟨fun _ => ⟨h1, h2⟩, fun _ => by omega⟩, fun _ => rfl⟩

set_option maxHeartbeats 400000 in
theorem contains_count (xs : List T) (ih : ∀ t, t ∈ xs → CountT t) (d c bn bd bp : Nat) (F : Nat → Prop) (w : World) (v : Value) (hd : d ≤ 400) (hc : c ≤ 20000) (hL : Lk w) (hF : ∀ b, F b → b < w.heap.size ∧ b ≠ bn) (hbk : bn ≠ 0)
    (hn : Blk w bn 3 [.int .i64 c]) (hv : RTs F w v xs) (h1 : w.cell? ⟨bd, 0, none⟩ = some (.int .i64 d)) (h2 : w.cell? ⟨bp, 0, none⟩ = some (.pointer (some ⟨bn, 0, none⟩))) (hdn : bd ≠ bn) (hpn : bp ≠ bn) :
    Calls Tryd.prog 77 #[v, .func (.func 78) #[] #[.pointer (some ⟨bd, 0, none⟩), .pointer (some ⟨bp, 0, none⟩)]] w (fun e w' =>
      ∃ (b : Bool) (c' : Nat), e = .returned (.bool b) ∧ Off (· = bn) w.heap.size w w' ∧ Blk w' bn 3 [.int .i64 c'] ∧ (b = false ↔ T.RightsAt (d + 1 : Nat) xs ∧ c + T.sizes xs ≤ 20000) ∧ (b = false → c' = c + T.sizes xs)) := by
  have HH := hid (index_count xs ih d c bn bd bp F w v hd hc hL hF hbk hn hv h1 h2 hdn hpn)
  clear hL hF hn hv ih h1 h2
  go_enter Tryd.func77, Tryd.ntmps77
  go_wp2_with (go_at_call 90; refine HH.out.mono ?_; rintro e w1 ⟨i, c', rfl, h3, h4, h5, h6⟩; have H3 := hid h3; have H4 := hid h4; have H5 := hid h5; have H6 := hid h6; clear h3 h4 h5 h6)
  go_ret
  refine ⟨_, c', rfl, H3.out, H4.out, ?_, ?_⟩
  · rw [← H5.out]; simp
  · intro h; exact H6.out (by simpa using h)
end Go.Proofs.YtmghkfiepcomgaaDoor
