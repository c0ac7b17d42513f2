/-
  spandrelkit: are two levels, two terms one?
-/
import Derived.Test.YtmghkfiepcomgaaDoorTwalk1
import Derived.Laws.StructEq
import Derived.Shelf.Abstract
set_option linter.unusedSimpArgs false
set_option linter.unusedVariables false
namespace Go.Proofs.YtmghkfiepcomgaaDoor
open Go.RowKit

theorem Sl.get {α : Type} {w : World} {sz b o : Nat} {R : List Value → α → Prop} {xs : List α} (h : ∀ i x, xs[i]? = some x → ∃ cs, cs.length = sz ∧ At w b (o + i * sz) cs ∧ R cs x) {i : Nat} (hi : i < xs.length) :
    ∃ cs, cs.length = sz ∧ At w b (o + i * sz) cs ∧ R cs xs[i] := h i _ (List.getElem?_eq_getElem hi)

theorem parts_get {w : World} {b o : Nat} {xs : LV} (h : ∀ i x, xs[i]? = some x → ∃ cs, cs.length = 2 ∧ At w b (o + i * 2) cs ∧ RP cs x) {i : Nat} (hi : i < xs.length) :
    w.cell? ⟨b, o + i * 2, none⟩ = some (.int .i64 xs[i].1) ∧ w.cell? ⟨b, o + i * 2 + 1, none⟩ = some (.int .i64 xs[i].2) ∧ I64 xs[i].1 ∧ I64 xs[i].2 := by
  obtain ⟨cs, h1, h2, rfl, h4⟩ := Sl.get h hi
  exact ⟨h2 0 _ rfl, h2 1 _ rfl, h4⟩

theorem levels_get {F : Nat → Prop} {w : World} {b o : Nat} {xs : List LV} (h : ∀ i x, xs[i]? = some x → ∃ cs, cs.length = 1 ∧ At w b (o + i * 1) cs ∧ RL F w cs x) {i : Nat} (hi : i < xs.length) :
    ∃ A c, w.cell? ⟨b, o + i, none⟩ = some (.slice A xs[i].length c) ∧ Sl F w 2 RP (.slice A xs[i].length c) xs[i] := by
  obtain ⟨cs, h1, h2, v, rfl, h4⟩ := Sl.get h hi
  obtain ⟨A, c, rfl, -⟩ := id h4
  have := h2 0 _ rfl
  rw [Nat.mul_one] at this
  exact ⟨A, c, this, h4⟩

theorem take_eq_next {α : Type} {xs ys : List α} {j : Nat} (hx : j < xs.length) (hy : j < ys.length) (h : xs.take j = ys.take j) (he : xs[j] = ys[j]) : xs.take (j + 1) = ys.take (j + 1) := by
  rw [List.take_succ_eq_append_getElem hx, List.take_succ_eq_append_getElem hy, h, he]

theorem ne_at {α : Type} {xs ys : List α} {j : Nat} (hx : j < xs.length) (hy : j < ys.length) (he : xs[j] ≠ ys[j]) : xs ≠ ys := by rintro rfl; exact he rfl

theorem part_under : Tryd.prog.underlying 81 = some (.struct (Tryd.prog.fieldsOf 81)) := by kernel_rfl
theorem part_hp : Tryd.prog.stoodInHeld 81 = false := by kernel_rfl
theorem part_hm : Tryd.prog.eqGuardType Tryd.prog.depth 81 = false := by kernel_rfl
theorem part_fields : ∃ f g : Field, (Tryd.prog.fieldsOf 81).toList = [f, g] ∧ f.name = "Var" ∧ g.name = "Plus" ∧ f.type = 3 ∧ g.type = 3 ∧ f.offset = 0 ∧ g.offset = 1 := by
  have h : (Tryd.prog.fieldsOf 81).toList.map (fun f => (f.name, f.type, f.offset)) = [("Var", 3, 0), ("Plus", 3, 1)] := by kernel_rfl
  generalize (Tryd.prog.fieldsOf 81).toList = l at h ⊢
  rcases l with _ | ⟨f, _ | ⟨g, _ | ⟨x, r⟩⟩⟩
  · simp at h
  · simp at h
  · simp only [List.map_cons, List.map_nil, List.cons.injEq, Prod.mk.injEq, and_true] at h
    exact ⟨f, g, rfl, h.1.1, h.2.1, h.1.2.1, h.2.2.1, h.1.2.2, h.2.2.2⟩
  · simp at h
theorem int_under : Tryd.prog.underlying 3 = some (.int .i64) := by kernel_rfl

theorem part_neq (w : World) (x0 x1 y0 y1 : Int) : (binOp .neq 81 (.agg #[.int .i64 x0, .int .i64 x1]) (.agg #[.int .i64 y0, .int .i64 y1])).run Tryd.prog w = .ok (.bool (!(x0 == y0 && x1 == y1))) w := by
  obtain ⟨f, g, h1, h2, h3, h4, h5, h6, h7⟩ := part_fields
  rw [run_neq_struct, run_equalIn_agg _ _ _ _ _ part_under part_hp, h1]
  simp only [Op.eqFields, h2, h3, h4, h5, h6, h7]
  have h0 := int_under
  have ha : ∀ w : World, (isAgg 3).run Tryd.prog w = .ok false w := fun w => run_isAgg_plain int_under rfl w
  simp [go_sem, int_under, ha]
  by_cases h8 : x0 = y0 <;> by_cases h9 : x1 = y1 <;> simp [h8, h9]
theorem part_guard (w : World) (x y : Operand) (xs ys : Array Value) : (eqGuard .neq 81 x y (.agg xs) (.agg ys)).run Tryd.prog w = .ok () w := run_eqGuard_agg w _ _ _ _ _ _ part_hm

set_option maxRecDepth 10000 in
set_option maxHeartbeats 1000000 in
theorem same_parts (F G : Nat → Prop) (w : World) (va vb : Value) (xs ys : LV) (hF : ∀ b, F b → b < w.heap.size) (hG : ∀ b, G b → b < w.heap.size) (hx : Sl F w 2 RP va xs) (hy : Sl G w 2 RP vb ys) :
    Calls Tryd.prog 85 #[va, vb] w fun e w' => ∃ b, e = .returned (.bool b) ∧ (b = true ↔ xs = ys) ∧ Below w.heap.size w w' := by
  obtain ⟨A, ca, rfl, -⟩ := id hx
  obtain ⟨C, cc, rfl, -⟩ := id hy
  have hlx := hx.len
  have hly := hy.len
  have hn1 : xs.length ≤ 9223372036854775807 := by have := hlx.2.2.2; unfold LM at this; omega
  have hn2 : ys.length ≤ 9223372036854775807 := by have := hly.2.2.2; unfold LM at this; omega
  have HX := hid hx
  have HY := hid hy
  have HF := hid hF
  have HG := hid hG
  clear hx hy hF hG hlx hly
  by_cases hl : xs.length = ys.length
  · obtain ⟨n, hny⟩ : ∃ n, ys.length = n := ⟨_, rfl⟩
    have hnx : xs.length = n := hl.trans hny
    rw [hnx, hny]
    have HX := hid (show Sl F w 2 RP (.slice A n ca) xs from hnx ▸ HX.out)
    have HY := hid (show Sl G w 2 RP (.slice C n cc) ys from hny ▸ HY.out)
    have hc2 : n ≤ cc := HY.out.len.2.1
    have hc1 : n ≤ ca := HX.out.len.2.1
    have HN := hid (And.intro hnx hny)
    rw [hnx] at hn1
    clear hl hnx hny hn2
    go_enter Tryd.func85, Tryd.ntmps85
    go_wp2_with fail
    go_loopw [5] (fun i wr => ∃ (j : Nat), j ≤ n ∧ i = .int .i64 j ∧ xs.take j = ys.take j ∧ Below w.heap.size w wr) (fun i wr => n - (intOf i).toNat)
    case atStart => exact ⟨0, Nat.zero_le _, rfl, rfl, Below.refl _ _⟩
    case round =>
      obtain ⟨j, hj, rfl, heq, hb⟩ := hrel
      have HEQ := hid heq
      clear heq
      by_cases hltn : j < n
      · have hlt : j < xs.length := by rw [HN.out.1]; exact hltn
        have hlt2 : j < ys.length := by rw [HN.out.2]; exact hltn
        obtain ⟨b1, o1, rfl, -, hr1⟩ := (Sl.mono HX.out (keepF hb HF.out) (fun _ h => h) (fun _ _ _ h => h)).at (by omega)
        obtain ⟨b2, o2, rfl, -, hr2⟩ := (Sl.mono HY.out (keepF hb HG.out) (fun _ h => h) (fun _ _ _ h => h)).at (by omega)
        obtain ⟨x0, x1, -⟩ := parts_get hr1 hlt
        obtain ⟨y0, y1, -⟩ := parts_get hr2 hlt2
        have HB := hid hb
        clear hb hr1 hr2
        have hj1 : (j : Int) < (n : Int) := by omega
        go_wp2_with fail
        refine startJ (fun j => j == 8) (fun W : World => W.cell? ⟨b1, o1 + j * 2, none⟩ = some (.int .i64 xs[j].1) ∧ W.cell? ⟨b1, o1 + j * 2 + 1, none⟩ = some (.int .i64 xs[j].2) ∧ W.cell? ⟨b2, o2 + j * 2, none⟩ = some (.int .i64 ys[j].1) ∧ W.cell? ⟨b2, o2 + j * 2 + 1, none⟩ = some (.int .i64 ys[j].2)) (by kernel_rfl) ?_ (fun hS => ?_)
        · exact ⟨x0, x1, y0, y1⟩
        refine pureJ (i := 0) (v := ?_) rfl (by kernel_rfl) (by kernel_rfl) (by kernel_rfl) (by kernel_rfl) (fun _ _ _ h => h) (.inl ⟨by rfl, ?_⟩) hS ?_
        rotate_left
        · intro w hSw
          obtain ⟨s0, s1, s2, s3⟩ := hSw
          go_simp
          try with_reducible rfl
        try simp only [Act.put, List.setIfInBounds_toArray, List.set_cons_zero, List.set_cons_succ]
        refine pureJ (i := 1) (v := ?_) rfl (by kernel_rfl) (by kernel_rfl) (by kernel_rfl) (by kernel_rfl) (fun _ _ _ h => h) (.inl ⟨by rfl, ?_⟩) hS ?_
        rotate_left
        · intro w hSw
          obtain ⟨s0, s1, s2, s3⟩ := hSw
          go_simp
          try with_reducible rfl
        try simp only [Act.put, List.setIfInBounds_toArray, List.set_cons_zero, List.set_cons_succ]
        refine pureJ (i := 2) (v := ?_) rfl (by kernel_rfl) (by kernel_rfl) (by kernel_rfl) (by kernel_rfl) (fun _ _ _ h => h) (.inl ⟨by rfl, ?_⟩) hS ?_
        rotate_left
        · intro w hSw
          obtain ⟨s0, s1, s2, s3⟩ := hSw
          go_simp
          try with_reducible rfl
        try simp only [Act.put, List.setIfInBounds_toArray, List.set_cons_zero, List.set_cons_succ]
        refine takeJ (i := 3) (v := ?_) rfl (by kernel_rfl) (by kernel_rfl) (by kernel_rfl) (by kernel_rfl) (fun _ _ _ h => h) (.inl ⟨by rfl, ?_⟩) hS ?_
        rotate_left
        · intro w hSw
          obtain ⟨s0, s1, s2, s3⟩ := hSw
          go_simp
          try with_reducible rfl
        try simp only [Act.put, List.setIfInBounds_toArray, List.set_cons_zero, List.set_cons_succ]
        refine pureJ (i := 4) (v := ?_) rfl (by kernel_rfl) (by kernel_rfl) (by kernel_rfl) (by kernel_rfl) (fun _ _ _ h => h) (.inl ⟨by rfl, ?_⟩) hS ?_
        rotate_left
        · intro w hSw
          obtain ⟨s0, s1, s2, s3⟩ := hSw
          go_simp
          try with_reducible rfl
        try simp only [Act.put, List.setIfInBounds_toArray, List.set_cons_zero, List.set_cons_succ]
        refine pureJ (i := 5) (v := ?_) rfl (by kernel_rfl) (by kernel_rfl) (by kernel_rfl) (by kernel_rfl) (fun _ _ _ h => h) (.inl ⟨by rfl, ?_⟩) hS ?_
        rotate_left
        · intro w hSw
          obtain ⟨s0, s1, s2, s3⟩ := hSw
          go_simp
          try with_reducible rfl
        try simp only [Act.put, List.setIfInBounds_toArray, List.set_cons_zero, List.set_cons_succ]
        refine pureJ (i := 6) (v := ?_) rfl (by kernel_rfl) (by kernel_rfl) (by kernel_rfl) (by kernel_rfl) (fun _ _ _ h => h) (.inl ⟨by rfl, ?_⟩) hS ?_
        rotate_left
        · intro w hSw
          obtain ⟨s0, s1, s2, s3⟩ := hSw
          go_simp
          try with_reducible rfl
        try simp only [Act.put, List.setIfInBounds_toArray, List.set_cons_zero, List.set_cons_succ]
        refine takeJ (i := 7) (v := ?_) rfl (by kernel_rfl) (by kernel_rfl) (by kernel_rfl) (by kernel_rfl) (fun _ _ _ h => h) (.inl ⟨by rfl, ?_⟩) hS ?_
        rotate_left
        · intro w hSw
          obtain ⟨s0, s1, s2, s3⟩ := hSw
          go_simp
          try with_reducible rfl
        try simp only [Act.put, List.setIfInBounds_toArray, List.set_cons_zero, List.set_cons_succ]
        refine lastJ (i := 8) (by kernel_rfl) rfl rfl (by kernel_rfl) (by kernel_rfl) (fun K hK => ?_)
        (have hq1 := part_neq; have hq2 := part_guard; go_simp)
        try simp only [Act.put, List.setIfInBounds_toArray, List.set_cons_zero, List.set_cons_succ]
        refine hK _ _ ?_
        clear hK K
        by_cases he : xs[j] = ys[j]
        · have hd : (!xs[j].fst == ys[j].fst || !xs[j].snd == ys[j].snd) = false := by simp [he]
          have HE := hid he
          rw [hd]
          clear he hd
          go_wp2
          go_roundw
          case rel => exact ⟨j + 1, by omega, by go_num, take_eq_next hlt hlt2 HEQ.out HE.out, HB.out.drew⟩
          case measure => simp [intOf]; omega
        · have hd : (!xs[j].fst == ys[j].fst || !xs[j].snd == ys[j].snd) = true := by
            by_cases h1 : xs[j].1 = ys[j].1
            · have h2 : xs[j].2 ≠ ys[j].2 := fun h => he (Prod.ext h1 h)
              simp [h1, h2]
            · simp [h1]
          have HE := hid he
          rw [hd]
          clear he hd
          go_wp2
          go_ret
          exact ⟨_, rfl, by simpa using ne_at hlt hlt2 HE.out, HB.out.drew⟩
      · obtain rfl : j = n := by omega
        go_wp2
        go_ret
        refine ⟨_, rfl, ?_, hb⟩
        have := HEQ.out
        rw [List.take_of_length_le (by rw [HN.out.1]; exact Nat.le_refl _), List.take_of_length_le (by rw [HN.out.2]; exact Nat.le_refl _)] at this
        simpa using this
  · go_enter Tryd.func85, Tryd.ntmps85
    go_wp2_with fail
    go_ret
    exact ⟨_, rfl, by simpa using fun h => hl (by rw [h]), Below.refl _ _⟩

set_option maxRecDepth 10000 in
set_option maxHeartbeats 1000000 in
theorem same_level (F G : Nat → Prop) (w : World) (A B : Option Addr) (ca cb : Nat) (xs ys : LV) (hF : ∀ b, F b → b < w.heap.size) (hG : ∀ b, G b → b < w.heap.size) (hx : Sl F w 2 RP (.slice A xs.length ca) xs) (hy : Sl G w 2 RP (.slice B ys.length cb) ys) :
    Calls Tryd.prog 75 #[.agg #[.slice A xs.length ca], .agg #[.slice B ys.length cb]] w fun e w' => ∃ b, e = .returned (.bool b) ∧ (b = true ↔ xs = ys) ∧ Below w.heap.size w w' := by
  have HX := hid hx
  have HY := hid hy
  have HF := hid hF
  have HG := hid hG
  clear hx hy hF hG
  go_enter Tryd.func75, Tryd.ntmps75
  go_wp2_with (go_at_call 85; refine (same_parts F G _ _ _ xs ys (fun b hb => by have := HF.out b hb; simp; omega) (fun b hb => by have := HG.out b hb; simp; omega) (Sl.mono HX.out (keepF (B := w.heap.size) (by repeat (first | exact Below.refl _ _ | assumption | refine Below.alloc ?_ (by simp <;> omega) _ | refine Below.setCell ?_ (by simp <;> omega) _ | refine Below.drew ?_ | refine below_drewN ?_ _)) HF.out) (fun _ h => h) (fun _ _ _ h => h)) (Sl.mono HY.out (keepF (B := w.heap.size) (by repeat (first | exact Below.refl _ _ | assumption | refine Below.alloc ?_ (by simp <;> omega) _ | refine Below.setCell ?_ (by simp <;> omega) _ | refine Below.drew ?_ | refine below_drewN ?_ _)) HG.out) (fun _ h => h) (fun _ _ _ h => h))).mono ?_; rintro e w1 ⟨b, rfl, hb1, hb2⟩)
  go_ret
  exact ⟨_, rfl, hb1, Below.trans (b := (w.alloc _).alloc _) (by repeat (first | exact Below.refl _ _ | assumption | refine Below.alloc ?_ (by simp <;> omega) _ | refine Below.setCell ?_ (by simp <;> omega) _ | refine Below.drew ?_ | refine below_drewN ?_ _)) (hb2.mono (by simp; omega))⟩

set_option maxRecDepth 10000 in
set_option maxHeartbeats 1000000 in
theorem same_levels (F G : Nat → Prop) (w : World) (va vb : Value) (xs ys : List LV) (hF : ∀ b, F b → b < w.heap.size) (hG : ∀ b, G b → b < w.heap.size) (hx : RLs F w va xs) (hy : RLs G w vb ys) :
    Calls Tryd.prog 51 #[va, vb] w fun e w' => ∃ b, e = .returned (.bool b) ∧ (b = true ↔ xs = ys) ∧ Below w.heap.size w w' := by
  obtain ⟨A, ca, rfl, -⟩ := id hx
  obtain ⟨C, cc, rfl, -⟩ := id hy
  have hlx := hx.len
  have hly := hy.len
  have hn1 : xs.length ≤ 9223372036854775807 := by have := hlx.2.2.2; unfold LM at this; omega
  have hn2 : ys.length ≤ 9223372036854775807 := by have := hly.2.2.2; unfold LM at this; omega
  have HX := hid hx
  have HY := hid hy
  have HF := hid hF
  have HG := hid hG
  clear hx hy hF hG hlx hly
  by_cases hl : xs.length = ys.length
  · obtain ⟨n, hny⟩ : ∃ n, ys.length = n := ⟨_, rfl⟩
    have hnx : xs.length = n := hl.trans hny
    rw [hnx, hny]
    have HX := hid (show RLs F w (.slice A n ca) xs from hnx ▸ HX.out)
    have HY := hid (show RLs G w (.slice C n cc) ys from hny ▸ HY.out)
    have hc2 : n ≤ cc := HY.out.len.2.1
    have hc1 : n ≤ ca := HX.out.len.2.1
    have HN := hid (And.intro hnx hny)
    rw [hnx] at hn1
    clear hl hnx hny hn2
    go_enter Tryd.func51, Tryd.ntmps51
    go_wp2_with fail
    go_loopw [5] (fun i wr => ∃ (j : Nat), j ≤ n ∧ i = .int .i64 j ∧ xs.take j = ys.take j ∧ Below w.heap.size w wr) (fun i wr => n - (intOf i).toNat)
    case atStart => exact ⟨0, Nat.zero_le _, rfl, rfl, Below.refl _ _⟩
    case round =>
      obtain ⟨j, hj, rfl, heq, hb⟩ := hrel
      have HEQ := hid heq
      clear heq
      by_cases hltn : j < n
      · have hlt : j < xs.length := by rw [HN.out.1]; exact hltn
        have hlt2 : j < ys.length := by rw [HN.out.2]; exact hltn
        obtain ⟨b1, o1, rfl, -, hr1⟩ := (HX.out.mono (keepF hb HF.out) (fun _ h => h)).at (by omega)
        obtain ⟨b2, o2, rfl, -, hr2⟩ := (HY.out.mono (keepF hb HG.out) (fun _ h => h)).at (by omega)
        obtain ⟨A1, c1, x0, x1⟩ := levels_get hr1 hlt
        obtain ⟨A2, c2, y0, y1⟩ := levels_get hr2 hlt2
        have HB := hid hb
        have HX1 := hid x1
        have HY1 := hid y1
        clear hb hr1 hr2 x1 y1
        have hj1 : (j : Int) < (n : Int) := by omega
        go_wp2_with fail
        refine startJ (fun j => j == 8) (fun W : World => W.cell? ⟨b1, o1 + j, none⟩ = some (.slice A1 xs[j].length c1) ∧ W.cell? ⟨b2, o2 + j, none⟩ = some (.slice A2 ys[j].length c2)) (by kernel_rfl) ?_ (fun hS => ?_)
        · exact ⟨x0, y0⟩
        refine pureJ (i := 0) (v := ?_) rfl (by kernel_rfl) (by kernel_rfl) (by kernel_rfl) (by kernel_rfl) (fun _ _ _ h => h) (.inl ⟨by rfl, ?_⟩) hS ?_
        rotate_left
        · intro w hSw
          obtain ⟨s0, s1⟩ := hSw
          go_simp
          try with_reducible rfl
        try simp only [Act.put, List.setIfInBounds_toArray, List.set_cons_zero, List.set_cons_succ]
        refine pureJ (i := 1) (v := ?_) rfl (by kernel_rfl) (by kernel_rfl) (by kernel_rfl) (by kernel_rfl) (fun _ _ _ h => h) (.inl ⟨by rfl, ?_⟩) hS ?_
        rotate_left
        · intro w hSw
          obtain ⟨s0, s1⟩ := hSw
          go_simp
          try with_reducible rfl
        try simp only [Act.put, List.setIfInBounds_toArray, List.set_cons_zero, List.set_cons_succ]
        refine pureJ (i := 2) (v := ?_) rfl (by kernel_rfl) (by kernel_rfl) (by kernel_rfl) (by kernel_rfl) (fun _ _ _ h => h) (.inl ⟨by rfl, ?_⟩) hS ?_
        rotate_left
        · intro w hSw
          obtain ⟨s0, s1⟩ := hSw
          go_simp
          try with_reducible rfl
        try simp only [Act.put, List.setIfInBounds_toArray, List.set_cons_zero, List.set_cons_succ]
        refine takeJ (i := 3) (v := ?_) rfl (by kernel_rfl) (by kernel_rfl) (by kernel_rfl) (by kernel_rfl) (fun _ _ _ h => h) (.inl ⟨by rfl, ?_⟩) hS ?_
        rotate_left
        · intro w hSw
          obtain ⟨s0, s1⟩ := hSw
          go_simp
          try with_reducible rfl
        try simp only [Act.put, List.setIfInBounds_toArray, List.set_cons_zero, List.set_cons_succ]
        refine pureJ (i := 4) (v := ?_) rfl (by kernel_rfl) (by kernel_rfl) (by kernel_rfl) (by kernel_rfl) (fun _ _ _ h => h) (.inl ⟨by rfl, ?_⟩) hS ?_
        rotate_left
        · intro w hSw
          obtain ⟨s0, s1⟩ := hSw
          go_simp
          try with_reducible rfl
        try simp only [Act.put, List.setIfInBounds_toArray, List.set_cons_zero, List.set_cons_succ]
        refine pureJ (i := 5) (v := ?_) rfl (by kernel_rfl) (by kernel_rfl) (by kernel_rfl) (by kernel_rfl) (fun _ _ _ h => h) (.inl ⟨by rfl, ?_⟩) hS ?_
        rotate_left
        · intro w hSw
          obtain ⟨s0, s1⟩ := hSw
          go_simp
          try with_reducible rfl
        try simp only [Act.put, List.setIfInBounds_toArray, List.set_cons_zero, List.set_cons_succ]
        refine pureJ (i := 6) (v := ?_) rfl (by kernel_rfl) (by kernel_rfl) (by kernel_rfl) (by kernel_rfl) (fun _ _ _ h => h) (.inl ⟨by rfl, ?_⟩) hS ?_
        rotate_left
        · intro w hSw
          obtain ⟨s0, s1⟩ := hSw
          go_simp
          try with_reducible rfl
        try simp only [Act.put, List.setIfInBounds_toArray, List.set_cons_zero, List.set_cons_succ]
        refine takeJ (i := 7) (v := ?_) rfl (by kernel_rfl) (by kernel_rfl) (by kernel_rfl) (by kernel_rfl) (fun _ _ _ h => h) (.inl ⟨by rfl, ?_⟩) hS ?_
        rotate_left
        · intro w hSw
          obtain ⟨s0, s1⟩ := hSw
          go_simp
          try with_reducible rfl
        try simp only [Act.put, List.setIfInBounds_toArray, List.set_cons_zero, List.set_cons_succ]
        refine soloJ (i := 8) (by kernel_rfl) rfl rfl (fun K hK => ?_)
        go_simp
        (refine (same_level F G _ _ _ _ _ xs[j] ys[j] (fun b hb => by have := HF.out b hb; have := HB.out.size; simp; omega) (fun b hb => by have := HG.out b hb; have := HB.out.size; simp; omega) (Sl.mono HX1.out (keepF (B := wr.heap.size) (by repeat (first | exact Below.refl _ _ | assumption | refine Below.alloc ?_ (by simp <;> omega) _ | refine Below.setCell ?_ (by simp <;> omega) _ | refine Below.drew ?_ | refine below_drewN ?_ _)) (fun b hb => by have := HF.out b hb; have := HB.out.size; omega)) (fun _ h => h) (fun _ _ _ h => h)) (Sl.mono HY1.out (keepF (B := wr.heap.size) (by repeat (first | exact Below.refl _ _ | assumption | refine Below.alloc ?_ (by simp <;> omega) _ | refine Below.setCell ?_ (by simp <;> omega) _ | refine Below.drew ?_ | refine below_drewN ?_ _)) (fun b hb => by have := HG.out b hb; have := HB.out.size; omega)) (fun _ h => h) (fun _ _ _ h => h))).mono ?_; rintro e w1 ⟨q, rfl, hq1, hq2⟩)
        try dsimp only
        try simp only [Act.put, List.setIfInBounds_toArray, List.set_cons_zero, List.set_cons_succ]
        refine hK _ _ ?hs (fun hS2 => ?_)
        case hs => exact ⟨cell_later hq2 hS.1, cell_later hq2 hS.2⟩
        clear hK K hS
        have hS := hS2
        clear hS2
        refine pureJ (i := 9) (v := ?_) rfl (by kernel_rfl) (by kernel_rfl) (by kernel_rfl) (by kernel_rfl) (fun _ _ _ h => h) (.inl ⟨by rfl, ?_⟩) hS ?_
        rotate_left
        · intro w hSw
          obtain ⟨s0, s1⟩ := hSw
          go_simp
          try with_reducible rfl
        try simp only [Act.put, List.setIfInBounds_toArray, List.set_cons_zero, List.set_cons_succ]
        refine doneJ (by kernel_rfl) ?_ _
        try simp only [List.getElem_toArray, List.getElem_cons_succ, List.getElem_cons_zero, Act.put, List.setIfInBounds_toArray, List.set_cons_zero, List.set_cons_succ]
        have HQ := hid hq1
        have HQ2 := hid (Below.trans (a := w) (b := wr.drew) (B := w.heap.size) (HB.out.drew) (hq2.mono (by have := HB.out.size; simp; omega)))
        clear hq1 hq2 hS
        cases q with
        | true =>
          go_wp2
          go_roundw
          case rel => exact ⟨j + 1, by omega, by go_num, take_eq_next hlt hlt2 HEQ.out (by simpa using HQ.out), HQ2.out⟩
          case measure => simp [intOf]; omega
        | false =>
          go_wp2
          go_ret
          exact ⟨_, rfl, by simpa using ne_at hlt hlt2 (fun h => by have := HQ.out.2 h; cases this), HQ2.out⟩
      · obtain rfl : j = n := by omega
        go_wp2
        go_ret
        refine ⟨_, rfl, ?_, hb⟩
        have := HEQ.out
        rw [List.take_of_length_le (by rw [HN.out.1]; exact Nat.le_refl _), List.take_of_length_le (by rw [HN.out.2]; exact Nat.le_refl _)] at this
        simpa using this
  · go_enter Tryd.func51, Tryd.ntmps51
    go_wp2_with fail
    go_ret
    exact ⟨_, rfl, by simpa using fun h => hl (by rw [h]), Below.refl _ _⟩
/-- SameTerm at a term -/
def SameOk (t : T) : Prop := ∀ (u : T) (F G : Nat → Prop) (w : World) (va vb : Value), (∀ b, F b → b < w.heap.size) → (∀ b, G b → b < w.heap.size) → RTv F w t va → RTv G w u vb →
  Calls Tryd.prog 29 #[va, vb] w fun e w' => ∃ b, e = .returned (.bool b) ∧ (b = true ↔ t = u) ∧ Below w.heap.size w w'

set_option maxRecDepth 10000 in
set_option maxHeartbeats 1000000 in
theorem same_terms_of (F G : Nat → Prop) (w : World) (va vb : Value) (xs ys : List T) (ih : ∀ t, t ∈ xs → SameOk t) (hF : ∀ b, F b → b < w.heap.size) (hG : ∀ b, G b → b < w.heap.size) (hx : RTs F w va xs) (hy : RTs G w vb ys) :
    Calls Tryd.prog 52 #[va, vb] w fun e w' => ∃ b, e = .returned (.bool b) ∧ (b = true ↔ xs = ys) ∧ Below w.heap.size w w' := by
  obtain ⟨A, ca, rfl, -⟩ := id hx
  obtain ⟨C, cc, rfl, -⟩ := id hy
  have hlx := hx.len
  have hly := hy.len
  have hn1 : xs.length ≤ 9223372036854775807 := by have := hlx.2.2.2; unfold LM at this; omega
  have hn2 : ys.length ≤ 9223372036854775807 := by have := hly.2.2.2; unfold LM at this; omega
  have HX := hid hx
  have HY := hid hy
  have HF := hid hF
  have HG := hid hG
  have IH := hid ih
  clear hx hy hF hG hlx hly ih
  by_cases hl : xs.length = ys.length
  · obtain ⟨n, hny⟩ : ∃ n, ys.length = n := ⟨_, rfl⟩
    have hnx : xs.length = n := hl.trans hny
    rw [hnx, hny]
    have HX := hid (show RTs F w (.slice A n ca) xs from hnx ▸ HX.out)
    have HY := hid (show RTs G w (.slice C n cc) ys from hny ▸ HY.out)
    have hc2 : n ≤ cc := HY.out.len.2.1
    have hc1 : n ≤ ca := HX.out.len.2.1
    have HN := hid (And.intro hnx hny)
    rw [hnx] at hn1
    clear hl hnx hny hn2
    go_enter Tryd.func52, Tryd.ntmps52
    go_wp2_with fail
    go_loopw [5] (fun i wr => ∃ (j : Nat), j ≤ n ∧ i = .int .i64 j ∧ xs.take j = ys.take j ∧ Below w.heap.size w wr) (fun i wr => n - (intOf i).toNat)
    case atStart => exact ⟨0, Nat.zero_le _, rfl, rfl, Below.refl _ _⟩
    case round =>
      obtain ⟨j, hj, rfl, heq, hb⟩ := hrel
      have HEQ := hid heq
      clear heq
      by_cases hltn : j < n
      · have hlt : j < xs.length := by rw [HN.out.1]; exact hltn
        have hlt2 : j < ys.length := by rw [HN.out.2]; exact hltn
        obtain ⟨b1, o1, rfl, -, hr1⟩ := (HX.out.mono (keepF hb HF.out) (fun _ h => h)).at (by omega)
        obtain ⟨b2, o2, rfl, -, hr2⟩ := (HY.out.mono (keepF hb HG.out) (fun _ h => h)).at (by omega)
        obtain ⟨A1, c1, D1, d1, x0, x1, x2, x3, x4, hx⟩ := RTs.get hr1 hlt
        obtain ⟨A2, c2, D2, d2, y0, y1, y2, y3, y4, hy⟩ := RTs.get hr2 hlt2
        have HB := hid hb
        have HX1 := hid hx
        have HY1 := hid hy
        clear hb hr1 hr2 hx hy
        have hj1 : (j : Int) < (n : Int) := by omega
        go_wp2_with fail
        refine startJ (fun j => j == 8) (fun W : World => W.cell? ⟨b1, o1 + j * 5, none⟩ = some (.int .i64 xs[j].k) ∧ W.cell? ⟨b1, o1 + j * 5 + 1, none⟩ = some (.int .i64 xs[j].n) ∧ W.cell? ⟨b1, o1 + j * 5 + 2, none⟩ = some (.int .i64 xs[j].a) ∧ W.cell? ⟨b1, o1 + j * 5 + 3, none⟩ = some (.slice A1 xs[j].ls.length c1) ∧ W.cell? ⟨b1, o1 + j * 5 + 4, none⟩ = some (.slice D1 xs[j].ks.length d1) ∧ W.cell? ⟨b2, o2 + j * 5, none⟩ = some (.int .i64 ys[j].k) ∧ W.cell? ⟨b2, o2 + j * 5 + 1, none⟩ = some (.int .i64 ys[j].n) ∧ W.cell? ⟨b2, o2 + j * 5 + 2, none⟩ = some (.int .i64 ys[j].a) ∧ W.cell? ⟨b2, o2 + j * 5 + 3, none⟩ = some (.slice A2 ys[j].ls.length c2) ∧ W.cell? ⟨b2, o2 + j * 5 + 4, none⟩ = some (.slice D2 ys[j].ks.length d2)) (by kernel_rfl) ?_ (fun hS => ?_)
        · exact ⟨x0, x1, x2, x3, x4, y0, y1, y2, y3, y4⟩
        refine pureJ (i := 0) (v := ?_) rfl (by kernel_rfl) (by kernel_rfl) (by kernel_rfl) (by kernel_rfl) (fun _ _ _ h => h) (.inl ⟨by rfl, ?_⟩) hS ?_
        rotate_left
        · intro w hSw
          obtain ⟨s0, s1, s2, s3, s4, s5, s6, s7, s8, s9⟩ := hSw
          go_simp
          try with_reducible rfl
        try simp only [Act.put, List.setIfInBounds_toArray, List.set_cons_zero, List.set_cons_succ]
        refine pureJ (i := 1) (v := ?_) rfl (by kernel_rfl) (by kernel_rfl) (by kernel_rfl) (by kernel_rfl) (fun _ _ _ h => h) (.inl ⟨by rfl, ?_⟩) hS ?_
        rotate_left
        · intro w hSw
          obtain ⟨s0, s1, s2, s3, s4, s5, s6, s7, s8, s9⟩ := hSw
          go_simp
          try with_reducible rfl
        try simp only [Act.put, List.setIfInBounds_toArray, List.set_cons_zero, List.set_cons_succ]
        refine pureJ (i := 2) (v := ?_) rfl (by kernel_rfl) (by kernel_rfl) (by kernel_rfl) (by kernel_rfl) (fun _ _ _ h => h) (.inl ⟨by rfl, ?_⟩) hS ?_
        rotate_left
        · intro w hSw
          obtain ⟨s0, s1, s2, s3, s4, s5, s6, s7, s8, s9⟩ := hSw
          go_simp
          try with_reducible rfl
        try simp only [Act.put, List.setIfInBounds_toArray, List.set_cons_zero, List.set_cons_succ]
        refine takeJ (i := 3) (v := ?_) rfl (by kernel_rfl) (by kernel_rfl) (by kernel_rfl) (by kernel_rfl) (fun _ _ _ h => h) (.inl ⟨by rfl, ?_⟩) hS ?_
        rotate_left
        · intro w hSw
          obtain ⟨s0, s1, s2, s3, s4, s5, s6, s7, s8, s9⟩ := hSw
          go_simp
          try with_reducible rfl
        try simp only [Act.put, List.setIfInBounds_toArray, List.set_cons_zero, List.set_cons_succ]
        refine pureJ (i := 4) (v := ?_) rfl (by kernel_rfl) (by kernel_rfl) (by kernel_rfl) (by kernel_rfl) (fun _ _ _ h => h) (.inl ⟨by rfl, ?_⟩) hS ?_
        rotate_left
        · intro w hSw
          obtain ⟨s0, s1, s2, s3, s4, s5, s6, s7, s8, s9⟩ := hSw
          go_simp
          try with_reducible rfl
        try simp only [Act.put, List.setIfInBounds_toArray, List.set_cons_zero, List.set_cons_succ]
        refine pureJ (i := 5) (v := ?_) rfl (by kernel_rfl) (by kernel_rfl) (by kernel_rfl) (by kernel_rfl) (fun _ _ _ h => h) (.inl ⟨by rfl, ?_⟩) hS ?_
        rotate_left
        · intro w hSw
          obtain ⟨s0, s1, s2, s3, s4, s5, s6, s7, s8, s9⟩ := hSw
          go_simp
          try with_reducible rfl
        try simp only [Act.put, List.setIfInBounds_toArray, List.set_cons_zero, List.set_cons_succ]
        refine pureJ (i := 6) (v := ?_) rfl (by kernel_rfl) (by kernel_rfl) (by kernel_rfl) (by kernel_rfl) (fun _ _ _ h => h) (.inl ⟨by rfl, ?_⟩) hS ?_
        rotate_left
        · intro w hSw
          obtain ⟨s0, s1, s2, s3, s4, s5, s6, s7, s8, s9⟩ := hSw
          go_simp
          try with_reducible rfl
        try simp only [Act.put, List.setIfInBounds_toArray, List.set_cons_zero, List.set_cons_succ]
        refine takeJ (i := 7) (v := ?_) rfl (by kernel_rfl) (by kernel_rfl) (by kernel_rfl) (by kernel_rfl) (fun _ _ _ h => h) (.inl ⟨by rfl, ?_⟩) hS ?_
        rotate_left
        · intro w hSw
          obtain ⟨s0, s1, s2, s3, s4, s5, s6, s7, s8, s9⟩ := hSw
          go_simp
          try with_reducible rfl
        try simp only [Act.put, List.setIfInBounds_toArray, List.set_cons_zero, List.set_cons_succ]
        refine soloJ (i := 8) (by kernel_rfl) rfl rfl (fun K hK => ?_)
        go_simp
        (refine (IH.out xs[j] (List.getElem_mem _) ys[j] F G _ _ _ (fun b hb => by have := HF.out b hb; have := HB.out.size; simp; omega) (fun b hb => by have := HG.out b hb; have := HB.out.size; simp; omega) (HX1.out.mono (keepF (B := wr.heap.size) (by repeat (first | exact Below.refl _ _ | assumption | refine Below.alloc ?_ (by simp <;> omega) _ | refine Below.setCell ?_ (by simp <;> omega) _ | refine Below.drew ?_ | refine below_drewN ?_ _)) (fun b hb => by have := HF.out b hb; have := HB.out.size; omega)) (fun _ h => h)) (HY1.out.mono (keepF (B := wr.heap.size) (by repeat (first | exact Below.refl _ _ | assumption | refine Below.alloc ?_ (by simp <;> omega) _ | refine Below.setCell ?_ (by simp <;> omega) _ | refine Below.drew ?_ | refine below_drewN ?_ _)) (fun b hb => by have := HG.out b hb; have := HB.out.size; omega)) (fun _ h => h))).mono ?_; rintro e w1 ⟨q, rfl, hq1, hq2⟩)
        try dsimp only
        try simp only [Act.put, List.setIfInBounds_toArray, List.set_cons_zero, List.set_cons_succ]
        refine hK _ _ ?hs (fun hS2 => ?_)
        case hs => (obtain ⟨s0, s1, s2, s3, s4, s5, s6, s7, s8, s9⟩ := hS; exact ⟨cell_later hq2 s0, cell_later hq2 s1, cell_later hq2 s2, cell_later hq2 s3, cell_later hq2 s4, cell_later hq2 s5, cell_later hq2 s6, cell_later hq2 s7, cell_later hq2 s8, cell_later hq2 s9⟩)
        clear hK K hS
        have hS := hS2
        clear hS2
        refine pureJ (i := 9) (v := ?_) rfl (by kernel_rfl) (by kernel_rfl) (by kernel_rfl) (by kernel_rfl) (fun _ _ _ h => h) (.inl ⟨by rfl, ?_⟩) hS ?_
        rotate_left
        · intro w hSw
          obtain ⟨s0, s1, s2, s3, s4, s5, s6, s7, s8, s9⟩ := hSw
          go_simp
          try with_reducible rfl
        try simp only [Act.put, List.setIfInBounds_toArray, List.set_cons_zero, List.set_cons_succ]
        refine doneJ (by kernel_rfl) ?_ _
        try simp only [List.getElem_toArray, List.getElem_cons_succ, List.getElem_cons_zero, Act.put, List.setIfInBounds_toArray, List.set_cons_zero, List.set_cons_succ]
        have HQ := hid hq1
        have HQ2 := hid (Below.trans (a := w) (b := wr.drew) (B := w.heap.size) (HB.out.drew) (hq2.mono (by have := HB.out.size; simp; omega)))
        clear hq1 hq2 hS
        cases q with
        | true =>
          go_wp2
          go_roundw
          case rel => exact ⟨j + 1, by omega, by go_num, take_eq_next hlt hlt2 HEQ.out (by simpa using HQ.out), HQ2.out⟩
          case measure => simp [intOf]; omega
        | false =>
          go_wp2
          go_ret
          exact ⟨_, rfl, by simpa using ne_at hlt hlt2 (fun h => by have := HQ.out.2 h; cases this), HQ2.out⟩
      · obtain rfl : j = n := by omega
        go_wp2
        go_ret
        refine ⟨_, rfl, ?_, hb⟩
        have := HEQ.out
        rw [List.take_of_length_le (by rw [HN.out.1]; exact Nat.le_refl _), List.take_of_length_le (by rw [HN.out.2]; exact Nat.le_refl _)] at this
        simpa using this
  · go_enter Tryd.func52, Tryd.ntmps52
    go_wp2_with fail
    go_ret
    exact ⟨_, rfl, by simpa using fun h => hl (by rw [h]), Below.refl _ _⟩
theorem T.ext_iff' (t u : T) : t = u ↔ t.k = u.k ∧ t.n = u.n ∧ t.a = u.a ∧ t.ls = u.ls ∧ t.ks = u.ks := by
  cases t; cases u; simp [T.k, T.n, T.a, T.ls, T.ks]

set_option maxRecDepth 10000 in
set_option maxHeartbeats 4000000 in
theorem same_term (t : T) : SameOk t := by
  induction t using T.ind with
  | h k n a ls ks ih =>
    intro u F G w va vb hF hG hv hu
    obtain ⟨Al, cl, Ak, ck, rfl, -, -, -, hls, hks⟩ := hv
    obtain ⟨Bl, dl, Bk, dk, rfl, -, -, -, hls2, hks2⟩ := hu
    simp only [T.ks, T.k, T.n, T.a, T.ls] at hks hls ⊢
    rw [T.ext_iff']
    simp only [T.ks, T.k, T.n, T.a, T.ls]
    cases u with
    | mk k2 n2 a2 ls2 ks2 =>
    simp only [T.ks, T.k, T.n, T.a, T.ls] at hks2 hls2 ⊢
    have HLS := hid hls
    have HKS := hid hks
    have HLS2 := hid hls2
    have HKS2 := hid hks2
    have HF := hid hF
    have HG := hid hG
    have IH := hid ih
    clear hls hks hls2 hks2 hF hG ih
    by_cases h1 : k = k2
    · by_cases h2 : n = n2
      · by_cases h3 : a = a2
        · subst h1 h2 h3
          have hsl : ∀ W : World, Below w.heap.size w W → Calls Tryd.prog 51 #[.slice Al ls.length cl, .slice Bl ls2.length dl] W (fun e w' => ∃ b, e = .returned (.bool b) ∧ (b = true ↔ ls = ls2) ∧ Below W.heap.size W w') := fun W hW =>
            same_levels F G W _ _ ls ls2 (fun b hb => by have := HF.out b hb; have := hW.size; omega) (fun b hb => by have := HG.out b hb; have := hW.size; omega) (HLS.out.mono (keepF hW HF.out) (fun _ h => h)) (HLS2.out.mono (keepF hW HG.out) (fun _ h => h))
          have hst : ∀ W : World, Below w.heap.size w W → Calls Tryd.prog 52 #[.slice Ak ks.length ck, .slice Bk ks2.length dk] W (fun e w' => ∃ b, e = .returned (.bool b) ∧ (b = true ↔ ks = ks2) ∧ Below W.heap.size W w') := fun W hW =>
            same_terms_of F G W _ _ ks ks2 IH.out (fun b hb => by have := HF.out b hb; have := hW.size; omega) (fun b hb => by have := HG.out b hb; have := hW.size; omega) (HKS.out.mono (keepF hW HF.out) (fun _ h => h)) (HKS2.out.mono (keepF hW HG.out) (fun _ h => h))
          have HSL := hid hsl
          have HST := hid hst
          clear hsl hst
          go_enter Tryd.func29, Tryd.ntmps29
          go_wp2_with (first | (go_at_call 51; refine (HSL.out _ (by repeat (first | exact Below.refl _ _ | assumption | refine Below.alloc ?_ (by simp <;> omega) _ | refine Below.setCell ?_ (by simp <;> omega) _ | refine Below.drew ?_ | refine below_drewN ?_ _))).mono ?_; rintro e w1 ⟨q, rfl, hq1, hq2⟩; have HQ1 := hid hq1; have HQ2 := hid (Below.trans (a := w) (B := w.heap.size) (by repeat (first | exact Below.refl _ _ | assumption | refine Below.alloc ?_ (by simp <;> omega) _ | refine Below.setCell ?_ (by simp <;> omega) _ | refine Below.drew ?_ | refine below_drewN ?_ _)) (hq2.mono (by simp; omega))); have hz1 : w.heap.size + 2 ≤ w1.heap.size := (by have := hq2.size; simp at this; omega); have hq := Blk.grow (Blk.alloc (Blk.new w 26 [_, _, _, _, _]) _) hq2; have hp := Blk.grow (Blk.new (w.alloc _) 26 [_, _, _, _, _]) hq2; simp only [World.size_alloc] at hp hq; obtain ⟨⟨q0, q1, q2, q3, q4⟩, -⟩ := hq.five; obtain ⟨⟨p0, p1, p2, p3, p4⟩, -⟩ := hp.five; clear hq1 hq2 hq hp; cases q) | (go_at_call 52; refine (HST.out _ HQ2.out).mono ?_; rintro e w2 ⟨r, rfl, hr1, hr2⟩; have HR1 := hid hr1; have HR2 := hid hr2; clear hr1 hr2))
          · go_ret
            refine ⟨_, rfl, ?_, HQ2.out⟩
            have := HQ1.out
            simp at this
            simp [this]
          · go_ret
            refine ⟨_, rfl, ?_, HQ2.out.trans (HR2.out.mono HQ2.out.size)⟩
            have h1 := HQ1.out
            have h2 := HR1.out
            simp at h1
            rw [h2]
            simp [h1]
        · subst h1 h2
          go_enter Tryd.func29, Tryd.ntmps29
          go_wp2_with fail
          go_ret
          exact ⟨_, rfl, by simp [h3], (by repeat (first | exact Below.refl _ _ | assumption | refine Below.alloc ?_ (by simp <;> omega) _ | refine Below.setCell ?_ (by simp <;> omega) _ | refine Below.drew ?_ | refine below_drewN ?_ _))⟩
      · subst h1
        go_enter Tryd.func29, Tryd.ntmps29
        go_wp2_with fail
        go_ret
        exact ⟨_, rfl, by simp [h2], (by repeat (first | exact Below.refl _ _ | assumption | refine Below.alloc ?_ (by simp <;> omega) _ | refine Below.setCell ?_ (by simp <;> omega) _ | refine Below.drew ?_ | refine below_drewN ?_ _))⟩
    · go_enter Tryd.func29, Tryd.ntmps29
      go_wp2_with fail
      go_ret
      exact ⟨_, rfl, by simp [h1], (by repeat (first | exact Below.refl _ _ | assumption | refine Below.alloc ?_ (by simp <;> omega) _ | refine Below.setCell ?_ (by simp <;> omega) _ | refine Below.drew ?_ | refine below_drewN ?_ _))⟩
end Go.Proofs.YtmghkfiepcomgaaDoor
