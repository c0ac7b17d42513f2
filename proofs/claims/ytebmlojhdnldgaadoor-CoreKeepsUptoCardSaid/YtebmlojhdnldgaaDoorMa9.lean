/-
  Ma9: the texts Dot Dla, one behind the other.
-/
import Derived.Lib.LaidTab
import Derived.Test.YtebmlojhdnldgaaDoorMa8
namespace Go.Proofs.YtebmlojhdnldgaaDoor
set_option linter.unusedSimpArgs false
set_option linter.unusedVariables false
open Go.RowKit Go.WideShapes Go.ChangeShapes
set_option maxRecDepth 100000
theorem sum_bulk {H α : Type} : ∀ (xs : List α) (elems : List (DataW H)) (μ : α → Nat), xs.length = elems.length → (∀ i (h : i < xs.length) (h' : i < elems.length), μ xs[i] ≤ Rows.uptoBulk elems[i]) → (xs.map μ).sum ≤ Rows.uptoBulkAll elems
  | [], [], μ, _, _ => by simp
  | [], _ :: _, μ, h, _ => by simp at h
  | _ :: _, [], μ, h, _ => by simp at h
  | x :: r, e :: s, μ, h, h2 => by
    simp only [List.map_cons, List.sum_cons, Rows.uptoBulkAll]
    have h3 := h2 0 (by simp) (by simp)
    simp only [List.getElem_cons_zero] at h3
    have h4 := sum_bulk r s μ (by simpa using h) (fun i h5 h6 => by
      have := h2 (i + 1) (by simpa using h5) (by simpa using h6)
      simpa using this)
    omega
theorem nszs_sum : ∀ l : List T, T.nszs l = (l.map T.nsz).sum
  | [] => by rw [T.nszs]; rfl
  | t :: r => by rw [T.nszs, nszs_sum r]; rfl
section
variable {H : Type} {enc : TypeId × Value → H} {w : World} {base : Nat} {sp : Nat → Bool} {held : Bool}
/-- how a slice reads whose elements can be read -/
theorem open_sl2 {α : Type} (en : α → D) {t e : TypeId} {sz : Nat} (ht : Tryd.prog.underlying t = some (.slice e)) (he : Tryd.prog.cellsOf e = sz) (hsz : 0 < sz) (hes : ∀ x, (en x).size = sz ∧ (en x).cells.all D.one = true) (M : Nat → α → Prop) {fuel : Nat} {cs : List Value} {d : DataW H} {ps : List MemPlace} (hb : Rows.uptoBulk d ≤ 1048576)
    (hE : ∀ f ecs de p, f < fuel → Rows.uptoBulk de < Rows.uptoBulk d → DataW.trod enc Tryd.prog w base sp held f e ecs = some (de, p) → ∃ x, RpL rho0 w (en x).cells ecs ∧ M (Rows.uptoBulk de) x) (hM : ∀ x m n, m ≤ n → M m x → M n x)
    (h : DataW.trod enc Tryd.prog w base sp held fuel t cs = some (d, ps)) : ∃ (v : Value) (xs : List α), cs = [v] ∧ Rp rho0 w (.slice (xs.map en) .any) v ∧ xs.length < Rows.uptoBulk d + 1 ∧ (∀ x, x ∈ xs → M (Rows.uptoBulk d - 1) x) ∧ ∀ μ : α → Nat, (∀ x m, M m x → μ x ≤ m) → (xs.map μ).sum + 1 ≤ Rows.uptoBulk d := by
  rcases trod_slice ht h with rfl | ⟨fuel', a, len, cap, elems, rest, rfl, rfl, h1, h2, rfl, h3, h4⟩
  · refine ⟨_, [], rfl, ?_, by simp, (fun x hx => nomatch hx), fun μ _ => by have := bulk_one d; simp; omega⟩
    rw [Rp]
    exact ⟨none, 0, sz, rfl, by simp, by simp, by simp, (fun e he => nomatch he), trivial, fun h => absurd rfl h⟩
  · have hlen : elems.length + 1 ≤ Rows.uptoBulk (.slice elems rest) := by
      have := bulk_len elems
      simp only [Rows.uptoBulk]; omega
    have key : ∀ i (hi : i < elems.length), ∃ x ecs, w.cells? base (a.add (i * sz)) sz = some ecs ∧ RpL rho0 w (en x).cells ecs ∧ M (Rows.uptoBulk (DataW.slice elems rest) - 1) x ∧ M (Rows.uptoBulk elems[i]) x := fun i hi => by
      obtain ⟨ecs, p, h5, h6⟩ := h4 i hi
      have hlt : Rows.uptoBulk elems[i] < Rows.uptoBulk (.slice elems rest) := by
        have := bulk_part (List.getElem_mem (l := elems) hi)
        simp only [Rows.uptoBulk]; omega
      obtain ⟨x, h7, h8⟩ := hE fuel' ecs elems[i] p (by omega) hlt h6
      exact ⟨x, ecs, by rw [← he]; exact h5, h7, hM _ _ _ (by omega) h8, h8⟩
    let xs : List α := List.ofFn (n := elems.length) fun i => (key i.1 i.2).choose
    have hxl : xs.length = elems.length := by simp [xs]
    have hget : ∀ i (hi : i < elems.length), xs[i]? = some (key i hi).choose := fun i hi => by simp [xs, List.getElem?_ofFn, hi]
    refine ⟨_, xs, rfl, ?_, by omega, ?_, ?_⟩
    · rw [Rp]
      refine ⟨some a, cap, sz, by rw [List.length_map, hxl, h3], by rw [List.length_map]; omega, h2, by rw [List.length_map]; unfold LMax; omega, fun e he => ?_, trivial, fun hne => ?_⟩
      · obtain ⟨x, -, rfl⟩ := List.mem_map.1 he
        exact (hes x).1
      · have h0 : 0 < elems.length := by
          rcases Nat.eq_zero_or_pos elems.length with h | h
          · exact absurd (List.eq_nil_of_length_eq_zero (by rw [List.length_map]; omega)) hne
          · exact h
        obtain ⟨ecs0, c0, -⟩ := (key 0 h0).choose_spec
        rw [show a.add (0 * sz) = a from by simp [Addr.add]] at c0
        obtain ⟨b, o, rfl, hlt, -, -⟩ := cells_at c0 hsz
        refine ⟨b, o, rfl, RpE_mk (sz := sz) (fun e he => ?_) fun i hi => ?_⟩
        · obtain ⟨x, -, rfl⟩ := List.mem_map.1 he
          exact hes x
        · have hi' : i < elems.length := by rw [List.length_map] at hi; omega
          have hx := hget i hi'
          have hx' : (xs.map en)[i] = en (key i hi').choose := by
            rw [List.getElem_map]
            have := List.getElem?_eq_some_iff.1 hx
            exact congrArg en this.2
          rw [hx']
          obtain ⟨ecs, c1, c2, -⟩ := (key i hi').choose_spec
          have hadd : (⟨b, o, none⟩ : Addr).add (i * sz) = ⟨b, o + i * sz, none⟩ := by unfold Addr.add; split <;> simp_all
          rw [hadd] at c1
          obtain ⟨b', o', e, -, c3, c4⟩ := cells_at c1 hsz
          simp only [Addr.mk.injEq, and_true] at e
          obtain ⟨rfl, rfl⟩ := e
          exact ⟨ecs, c2, c4⟩
    · intro x hx
      obtain ⟨i, hi, rfl⟩ := List.getElem_of_mem hx
      have hi' : i < elems.length := by rw [← hxl]; exact hi
      have := hget i hi'
      rw [List.getElem?_eq_getElem hi] at this
      simp only [Option.some.injEq] at this
      rw [this]
      obtain ⟨-, -, -, c, -⟩ := (key i hi').choose_spec
      exact c
    · intro μ hμ
      have := sum_bulk xs elems μ hxl fun i h1 h2 => by
        have := hget i h2
        rw [List.getElem?_eq_getElem h1] at this
        simp only [Option.some.injEq] at this
        rw [this]
        obtain ⟨-, -, -, -, c⟩ := (key i h2).choose_spec
        exact hμ _ _ c
      simp only [Rows.uptoBulk]
      omega
theorem ok_bounds {n : Int} (h : IntKind.i64.min ≤ n ∧ n ≤ IntKind.i64.max) : I64 n := by
  simp [IntKind.min, IntKind.max, IntKind.signed, IntKind.bits] at h
  unfold I64
  omega
theorem open_part2 {fuel : Nat} {cs : List Value} {d : DataW H} {ps : List MemPlace} (h : DataW.trod enc Tryd.prog w base sp held fuel 74 cs = some (d, ps)) : ∃ p : Int × Int, RpL rho0 w (encP p).cells cs ∧ I64 p.1 ∧ I64 p.2 := by
  obtain ⟨h1, h2⟩ := trod_fields (l := [(3, 0), (3, 1)]) part_under (by kernel_rfl) h
  rw [show Tryd.prog.cellsOf 74 = 2 from by kernel_rfl] at h1
  obtain ⟨f0, d0, p0, -, -, e0⟩ := h2 0 _ _ rfl
  obtain ⟨f1, d1, p1, -, -, e1⟩ := h2 1 _ _ rfl
  rw [show Tryd.prog.cellsOf 3 = 1 from by kernel_rfl] at e0 e1
  obtain ⟨c0, c1, rfl⟩ := len2 h1
  obtain ⟨n0, k0, b0⟩ := trod_int Tryd.underlying3 e0
  obtain ⟨n1, k1, b1⟩ := trod_int Tryd.underlying3 e1
  simp at k0 k1
  subst k0; subst k1
  refine ⟨(n0, n1), ?_, ok_bounds b0, ok_bounds b1⟩
  show RpL rho0 w [.int .i64 n0, .int .i64 n1] _
  simp only [RpL, Rp]
  exact ⟨_, _, rfl, ⟨rfl, b0⟩, _, _, rfl, ⟨rfl, b1⟩, rfl⟩
def bulkL (m : Nat) (l : LV) : Prop := okL l ∧ l.length ≤ m ∧ m ≤ 1048576
theorem open_level2 {fuel : Nat} {cs : List Value} {d : DataW H} {ps : List MemPlace} (hb : Rows.uptoBulk d ≤ 1048576) (h : DataW.trod enc Tryd.prog w base sp held fuel 30 cs = some (d, ps)) : ∃ l : LV, RpL rho0 w (encL l).cells cs ∧ okL l ∧ l.length ≤ Rows.uptoBulk d := by
  obtain ⟨h1, h2⟩ := trod_fields (l := [(28, 0)]) level_under (by kernel_rfl) h
  rw [show Tryd.prog.cellsOf 30 = 1 from by kernel_rfl] at h1
  obtain ⟨f0, d0, p0, -, hb0, e0⟩ := h2 0 _ _ rfl
  rw [show Tryd.prog.cellsOf 28 = 1 from by kernel_rfl] at e0
  obtain ⟨c0, rfl⟩ := len1 h1
  obtain ⟨v, xs, k0, hs, hl, hm⟩ := open_sl encP (sz := 2) Tryd.underlying28 (by kernel_rfl) (by omega) (fun x => ⟨rfl, rfl⟩) (fun _ p => I64 p.1 ∧ I64 p.2) (by omega) (fun f ecs de p _ _ he => (open_part2 he).imp fun _ h => h) (fun _ _ _ _ h => h) e0
  simp at k0
  subst k0
  refine ⟨xs, ?_, ⟨by unfold LMax; omega, hm⟩, by omega⟩
  show RpL rho0 w [.slice (xs.map encP) .any] _
  rw [RpL]
  exact ⟨_, [], rfl, hs, by rw [RpL]⟩
theorem open_levels2 {fuel : Nat} {cs : List Value} {d : DataW H} {ps : List MemPlace} (hb : Rows.uptoBulk d ≤ 1048576) (h : DataW.trod enc Tryd.prog w base sp held fuel 24 cs = some (d, ps)) : ∃ v ls, cs = [v] ∧ Rp rho0 w (Lvs ls) v ∧ ls.length ≤ 1048576 ∧ ∀ l, l ∈ ls → okL l ∧ l.length ≤ 1048576 := by
  obtain ⟨v, xs, k0, hs, hl, hm⟩ := open_sl encL (sz := 1) Tryd.underlying24 (by kernel_rfl) (by omega) (fun x => ⟨rfl, rfl⟩) (fun m l => okL l ∧ l.length ≤ m) hb (fun f ecs de p _ hlt he => (open_level2 (by omega) he).imp fun _ h => h) (fun _ _ _ h1 h2 => ⟨h2.1, Nat.le_trans h2.2 h1⟩) h
  exact ⟨v, xs, k0, hs, by omega, fun l hl => by have := hm l hl; exact ⟨this.1, by omega⟩⟩
theorem term_under : Tryd.prog.underlying 27 = some (.struct (Tryd.prog.fieldsOf 27)) := by kernel_rfl
theorem kind_under : Tryd.prog.underlying 23 = some (.int .i64) := by kernel_rfl
theorem encT_ones (t : T) : (encT t).cells.all D.one = true := by rw [encT_cells]; rfl
theorem open_term2 : ∀ (fuel : Nat) {cs : List Value} {d : DataW H} {ps : List MemPlace}, Rows.uptoBulk d ≤ 1048576 → DataW.trod enc Tryd.prog w base sp held fuel 27 cs = some (d, ps) → ∃ t : T, RpL rho0 w (encT t).cells cs ∧ okT t ∧ t.nsz ≤ Rows.uptoBulk d := by
  intro fuel
  induction fuel using Nat.strongRecOn with
  | ind fuel ih =>
    intro cs d ps hb h
    obtain ⟨h1, h2⟩ := trod_fields (l := [(23, 0), (3, 1), (3, 2), (24, 3), (25, 4)]) term_under (by kernel_rfl) h
    rw [show Tryd.prog.cellsOf 27 = 5 from by kernel_rfl] at h1
    obtain ⟨f0, d0, p0, -, -, e0⟩ := h2 0 _ _ rfl
    obtain ⟨f1, d1, p1, -, -, e1⟩ := h2 1 _ _ rfl
    obtain ⟨f2, d2, p2, -, -, e2⟩ := h2 2 _ _ rfl
    obtain ⟨f3, d3, p3, -, hb3, e3⟩ := h2 3 _ _ rfl
    obtain ⟨f4, d4, p4, hf4, hb4, e4⟩ := h2 4 _ _ rfl
    rw [show Tryd.prog.cellsOf 3 = 1 from by kernel_rfl] at e1 e2
    rw [show Tryd.prog.cellsOf 23 = 1 from by kernel_rfl] at e0
    rw [show Tryd.prog.cellsOf 24 = 1 from by kernel_rfl] at e3
    rw [show Tryd.prog.cellsOf 25 = 1 from by kernel_rfl] at e4
    obtain ⟨c0, c1, c2, c3, c4, rfl⟩ := len5 h1
    obtain ⟨n0, k0, b0⟩ := trod_int kind_under e0
    obtain ⟨n1, k1, b1⟩ := trod_int Tryd.underlying3 e1
    obtain ⟨n2, k2, b2⟩ := trod_int Tryd.underlying3 e2
    obtain ⟨v3, ls, k3, hl, ll, hls⟩ := open_levels2 (by omega) e3
    obtain ⟨v4, ks, k4, hk, lk, hks, hsum⟩ := open_sl2 encT (sz := 5) Tryd.underlying25 (by kernel_rfl) (by omega) (fun x => ⟨encT_size x, encT_ones x⟩) (fun m t => okT t ∧ t.nsz ≤ m) (by omega)
      (fun f ecs de p hf hlt he => (ih f (by omega) (by omega) he).imp fun _ h => h) (fun x m n hmn hx => ⟨hx.1, by omega⟩) e4
    simp at k0 k1 k2 k3 k4
    subst k0; subst k1; subst k2; subst k3; subst k4
    refine ⟨.mk n0 n1 n2 ls ks, ?_, .mk (ok_bounds b0) (ok_bounds b1) (ok_bounds b2) (by unfold LMax; omega) (fun l h => (hls l h).1) (by unfold LMax; omega) (fun t h => (hks t h).1), ?_⟩
    · rw [encT_cells]
      simp only [T.k_mk, T.n_mk, T.a_mk, T.ls_mk, T.ks_mk]
      refine RpL_cons'.2 ⟨by rw [Rp]; exact ⟨rfl, b0⟩, RpL_cons'.2 ⟨by rw [Rp]; exact ⟨rfl, b1⟩, RpL_cons'.2 ⟨by rw [Rp]; exact ⟨rfl, b2⟩, RpL_cons'.2 ⟨hl, RpL_cons'.2 ⟨hk, by rw [RpL]⟩⟩⟩⟩⟩
    · rw [T.nsz, nszs_sum]
      have := hsum T.nsz (fun x m h => h.2)
      omega
theorem open_terms2 {fuel : Nat} {cs : List Value} {d : DataW H} {ps : List MemPlace} (hb : Rows.uptoBulk d ≤ 1048576) (h : DataW.trod enc Tryd.prog w base sp held fuel 25 cs = some (d, ps)) :
    ∃ v ts, cs = [v] ∧ Rp rho0 w (Ts ts) v ∧ ts.length ≤ 1048576 ∧ ∀ t, t ∈ ts → okT t ∧ t.nsz ≤ 1048576 := by
  obtain ⟨v, ts, k, hs, hl, hd⟩ := open_sl encT (sz := 5) Tryd.underlying25 (by kernel_rfl) (by omega) (fun x => ⟨encT_size x, encT_ones x⟩) (fun m t => okT t ∧ t.nsz ≤ m) hb
    (fun f ecs de p hf hlt he => (open_term2 f (by omega) he).imp fun _ h => h) (fun x m n hmn hx => ⟨hx.1, by omega⟩) h
  exact ⟨v, ts, k, hs, by omega, fun t ht => by have := hd t ht; exact ⟨this.1, by omega⟩⟩
variable {W : World} {b0 : Nat} {v : Value} {d : DataW H} {p : List MemPlace}
set_option maxRecDepth 100000 in
theorem argT (hk : Rows.uptoBulk d ≤ 1048576) (hv : Value.okWide Tryd.prog W .any base 27 v) (h : DataW.Trod enc Tryd.prog W b0 sp held 27 v d p) : ∃ t : T, Rp rho0 W (encT t) v ∧ okT t ∧ t.nsz ≤ 1048576 := by
  obtain ⟨cs, rfl⟩ := arg_agg term_under hv
  obtain ⟨fuel, hf⟩ := h
  obtain ⟨t, ht, h1, h2⟩ := open_term2 fuel hk hf
  refine ⟨t, ?_, h1, by omega⟩
  rw [encT_cells] at ht
  rw [encT_eq, Rp]
  exact ⟨_, (by cases cs; rfl), ht⟩
theorem argTs (hk : Rows.uptoBulk d ≤ 1048576) (hv : Value.okWide Tryd.prog W .any base 25 v) (h : DataW.Trod enc Tryd.prog W b0 sp held 25 v d p) : ∃ ts : List T, Rp rho0 W (Ts ts) v ∧ ts.length ≤ 1048576 ∧ ∀ t, t ∈ ts → okT t ∧ t.nsz ≤ 1048576 := by
  obtain ⟨a, len, cap, rfl⟩ := okWide_slice Tryd.underlying25 hv
  obtain ⟨fuel, hf⟩ := h
  obtain ⟨v', ts, he, hr, hl, hm⟩ := open_terms2 hk hf
  have : v' = .slice a len cap := by
    have : ([Value.slice a len cap] : List Value) = [v'] := he
    simpa using this.symm
  subst this
  exact ⟨ts, hr, hl, hm⟩
theorem argLs (hk : Rows.uptoBulk d ≤ 1048576) (hv : Value.okWide Tryd.prog W .any base 24 v) (h : DataW.Trod enc Tryd.prog W b0 sp held 24 v d p) : ∃ ls : List LV, Rp rho0 W (Lvs ls) v ∧ ls.length ≤ 1048576 ∧ ∀ l, l ∈ ls → okL l ∧ l.length ≤ 1048576 := by
  obtain ⟨a, len, cap, rfl⟩ := okWide_slice Tryd.underlying24 hv
  obtain ⟨fuel, hf⟩ := h
  obtain ⟨v', ls, he, hr, hl, hm⟩ := open_levels2 hk hf
  have : v' = .slice a len cap := by
    have : ([Value.slice a len cap] : List Value) = [v'] := he
    simpa using this.symm
  subst this
  exact ⟨ls, hr, hl, hm⟩
theorem argIs (hk : Rows.uptoBulk d ≤ 1048576) (hv : Value.okWide Tryd.prog W .any base 66 v) (h : DataW.Trod enc Tryd.prog W b0 sp held 66 v d p) : ∃ ns : List Int, Rp rho0 W (Ints ns) v ∧ ns.length ≤ 1048576 := arg_ints hk hv h
theorem nszs_len : ∀ l : List T, l.length ≤ T.nszs l
  | [] => by simp
  | t :: r => by rw [T.nszs, List.length_cons]; have := nszs_len r; have := T.nsz_pos t; omega
theorem ks_nsz (t : T) : t.ks.length + 1 ≤ t.nsz := by
  cases t with
  | mk k n a ls ks => rw [T.nsz]; have := nszs_len ks; simp only [T.ks_mk]; omega
theorem deep_ok {t : T} (h : t.nsz ≤ 1048576) : t.deep ≤ DM := by have := T.deep_nsz t; unfold DM; omega
theorem argI (hv : Value.okWide Tryd.prog W .any base 3 v) (h : DataW.Trod enc Tryd.prog W b0 sp held 3 v d p) : ∃ n : Int, Rp rho0 W (.int .i64 n) v ∧ I64 n := by
  obtain ⟨n, rfl⟩ := Go.WideShapes.okWide_int Tryd.underlying3 hv
  obtain ⟨fuel, hf⟩ := h
  obtain ⟨n', hn, hb⟩ := trod_int Tryd.underlying3 hf
  have hn : ([Value.int .i64 n] : List Value) = [.int .i64 n'] := hn
  have : n = n' := by simpa using hn
  subst this
  exact ⟨n, by rw [Rp]; exact ⟨rfl, hb⟩, ok_bounds hb⟩
end
end Go.Proofs.YtebmlojhdnldgaaDoor

namespace Go.Proofs.YtebmlojhdnldgaaDoor
set_option linter.unusedSimpArgs false
set_option linter.unusedVariables false
open Go.RowKit
def flat0 : DataW Unit → List Value
  | .lit (.bool b) => [.bool b]
  | .lit (.int k n) => [.int k n]
  | _ => []
def flat1 : DataW Unit → List Value
  | .agg l => l.flatMap flat0
  | _ => []
def flat2 : DataW Unit → List Value
  | .agg l => l.flatMap flat1
  | _ => []
theorem chunks (m : Nat) : ∀ (n : Nat) (cs : List Value), cs.length = n * m → cs = (List.range n).flatMap fun i => (cs.drop (i * m)).take m
  | 0, cs, h => by have : cs = [] := List.eq_nil_of_length_eq_zero (by simpa using h); subst this; rfl
  | n + 1, cs, h => by
    have h' : cs.length = n * m + m := by rw [h, Nat.add_mul, Nat.one_mul]
    have ih := chunks m n (cs.take (n * m)) (by rw [List.length_take]; omega)
    rw [List.range_succ, List.flatMap_append]
    have h1 : ((List.range n).flatMap fun i => (cs.drop (i * m)).take m) = cs.take (n * m) := by
      rw [ih]
      rw [List.flatMap_def, List.flatMap_def]
      congr 1
      apply List.map_congr_left
      intro i hi
      have hi := List.mem_range.1 hi
      have hle : i * m + m ≤ n * m := by
        have := Nat.mul_le_mul_right m (show i + 1 ≤ n by omega)
        rwa [Nat.add_mul, Nat.one_mul] at this
      rw [List.drop_take, List.take_take, Nat.min_eq_left (by omega)]
    rw [h1]
    simp only [List.flatMap_cons, List.flatMap_nil, List.append_nil]
    rw [List.take_of_length_le (l := cs.drop (n * m)) (by rw [List.length_drop]; omega), List.take_append_drop]
section
variable {enc : TypeId × Value → Unit} {P : Program} {w : World} {base : Nat} {sp : Nat → Bool} {held : Bool}
theorem flat_int {fuel : Nat} {t : TypeId} {cs : List Value} {d : DataW Unit} {ps : List MemPlace} (ht : P.underlying t = some (.int .i64)) (h : DataW.trod enc P w base sp held fuel t cs = some (d, ps)) : cs = flat0 d := by
  cases fuel with
  | zero => simp [DataW.trod] at h
  | succ fuel =>
    unfold DataW.trod at h
    rw [ht] at h
    rcases cs with _ | ⟨v, _ | ⟨v2, r⟩⟩
    · simp at h
    · cases v <;> simp at h
      obtain ⟨⟨rfl, -⟩, rfl, -⟩ := h
      rfl
    · simp at h
theorem flat_bool {fuel : Nat} {t : TypeId} {cs : List Value} {d : DataW Unit} {ps : List MemPlace} (ht : P.underlying t = some .bool) (h : DataW.trod enc P w base sp held fuel t cs = some (d, ps)) : cs = flat0 d := by
  cases fuel with
  | zero => simp [DataW.trod] at h
  | succ fuel =>
    unfold DataW.trod at h
    rw [ht] at h
    rcases cs with _ | ⟨v, _ | ⟨v2, r⟩⟩
    · simp at h
    · cases v <;> simp at h
      obtain ⟨rfl, -⟩ := h
      rfl
    · simp at h
theorem trod_array {fuel n : Nat} {t e : TypeId} {cs : List Value} {d : DataW Unit} {ps : List MemPlace} (ht : P.underlying t = some (.array n e)) (h : DataW.trod enc P w base sp held fuel t cs = some (d, ps)) :
    ∃ fuel' xs, cs.length = P.cellsOf t ∧ d = .agg (xs.map (·.1)) ∧ (List.range n).mapM (fun i => DataW.trod enc P w base sp held fuel' e ((cs.drop (i * P.cellsOf e)).take (P.cellsOf e))) = some xs := by
  cases fuel with
  | zero => simp [DataW.trod] at h
  | succ fuel =>
    unfold DataW.trod at h
    rw [ht] at h
    dsimp only at h
    split at h
    · rename_i hl
      rw [Option.map_eq_some_iff] at h
      obtain ⟨xs, hm, h4⟩ := h
      simp only [Prod.mk.injEq] at h4
      exact ⟨fuel, xs, hl, h4.1.symm, hm⟩
    · cases h
end
theorem flat_has {enc : TypeId × Value → Unit} {w : World} {base : Nat} {sp : Nat → Bool} {held : Bool} {fuel : Nat} {cs : List Value} {d : DataW Unit} {ps : List MemPlace} (h : DataW.trod enc Tryd.prog w base sp held fuel 147 cs = some (d, ps)) : cs = flat1 d := by
  obtain ⟨f, ds, rfl, h1, rfl, h3, h4⟩ := trod_struct (show Tryd.prog.underlying 147 = some (.struct (Tryd.prog.fieldsOf 147)) by kernel_rfl) h
  have hf : (Tryd.prog.fieldsOf 147).toList.map (fun f => (f.type, f.offset)) = [(4, 0), (4, 1), (3, 2), (3, 3), (3, 4)] := by kernel_rfl
  rw [show Tryd.prog.cellsOf 147 = 5 from by kernel_rfl] at h1
  obtain ⟨c0, c1, c2, c3, c4, rfl⟩ := len5 h1
  generalize (Tryd.prog.fieldsOf 147).toList = fs at hf h3 h4
  have hlen : fs.length = 5 := by simpa using congrArg List.length hf
  have key : ∀ i (hi : i < 5), ∃ p, DataW.trod enc Tryd.prog w base sp held f ([(4, 0), (4, 1), (3, 2), (3, 3), (3, 4)][i]).1 ((([c0, c1, c2, c3, c4] : List Value).drop ([(4, 0), (4, 1), (3, 2), (3, 3), (3, 4)][i]).2).take (Tryd.prog.cellsOf ([(4, 0), (4, 1), (3, 2), (3, 3), (3, 4)][i]).1)) = some (ds[i]'(by omega), p) := fun i hi => by
    obtain ⟨p, hp⟩ := h4 i (by omega) (by omega)
    have := List.getElem_of_eq hf (i := i) (by simpa using (by omega : i < fs.length))
    simp only [List.getElem_map] at this
    rw [← this]
    exact ⟨p, hp⟩
  obtain ⟨p0, e0⟩ := key 0 (by omega)
  obtain ⟨p1, e1⟩ := key 1 (by omega)
  obtain ⟨p2, e2⟩ := key 2 (by omega)
  obtain ⟨p3, e3⟩ := key 3 (by omega)
  obtain ⟨p4, e4⟩ := key 4 (by omega)
  simp only [List.getElem_cons_zero, List.getElem_cons_succ] at e0 e1 e2 e3 e4
  rw [show Tryd.prog.cellsOf 3 = 1 from by kernel_rfl] at e2 e3 e4
  rw [show Tryd.prog.cellsOf 4 = 1 from by kernel_rfl] at e0 e1
  have g0 := flat_bool (show Tryd.prog.underlying 4 = some .bool by kernel_rfl) e0
  have g1 := flat_bool (show Tryd.prog.underlying 4 = some .bool by kernel_rfl) e1
  have g2 := flat_int Tryd.underlying3 e2
  have g3 := flat_int Tryd.underlying3 e3
  have g4 := flat_int Tryd.underlying3 e4
  simp only [List.drop_zero, List.drop_succ_cons, List.take_succ_cons, List.take_zero] at g0 g1 g2 g3 g4
  obtain ⟨x0, r0, rfl⟩ := List.exists_cons_of_ne_nil (l := ds) (by rintro rfl; simp at h3; omega)
  obtain ⟨x1, r1, rfl⟩ := List.exists_cons_of_ne_nil (l := r0) (by rintro rfl; simp at h3; omega)
  obtain ⟨x2, r2, rfl⟩ := List.exists_cons_of_ne_nil (l := r1) (by rintro rfl; simp at h3; omega)
  obtain ⟨x3, r3, rfl⟩ := List.exists_cons_of_ne_nil (l := r2) (by rintro rfl; simp at h3; omega)
  obtain ⟨x4, r4, rfl⟩ := List.exists_cons_of_ne_nil (l := r3) (by rintro rfl; simp at h3; omega)
  have hr : r4 = [] := List.eq_nil_of_length_eq_zero (by simp at h3; omega)
  subst hr
  simp only [List.getElem_cons_zero, List.getElem_cons_succ] at g0 g1 g2 g3 g4
  simp [flat1, ← g0, ← g1, ← g2, ← g3, ← g4]
def kindVals : List Value := kindRowsD.flatMap fun r => [.bool r.1, .bool r.2.1, .int .i64 r.2.2.1, .int .i64 r.2.2.2.1, .int .i64 r.2.2.2.2]
theorem kinds_lie {W : World} (h : laidMet Tryd.prog [("spandrel/term.kinds", Rows.laid_spandrel_term_kinds)] W) : ∀ i u, kindVals[i]? = some u → W.cell? ⟨0, 0 + i, none⟩ = some u := by
  obtain ⟨ps, ⟨g', t', cs, fuel, p, q, hg', ht', hvar, hd, _, _⟩, _⟩ := h
  obtain rfl := Option.some.inj ((show Tryd.prog.globalNamed "spandrel/term.kinds" = some 0 by kernel_rfl).symm.trans hg')
  obtain rfl := Option.some.inj ((show (Tryd.prog.globals[0]?).map (·.type) = some 148 by kernel_rfl).symm.trans ht')
  obtain ⟨f, xs, h1, h2, h3⟩ := trod_array Tryd.underlying148 hd
  rw [show Tryd.prog.cellsOf 148 = 25 * 5 from by kernel_rfl] at h1
  rw [show Tryd.prog.cellsOf 147 = 5 from by kernel_rfl] at h3
  obtain ⟨h4, h5⟩ := mapM_some h3
  simp only [List.length_range] at h4
  have hcs : cs.toList = flat2 Rows.laid_spandrel_term_kinds := by
    rw [chunks 5 25 cs.toList h1, h2]
    show _ = (xs.map (·.1)).flatMap flat1
    rw [show (List.range 25).flatMap (fun i => (cs.toList.drop (i * 5)).take 5) = ((List.range 25).map fun i => (cs.toList.drop (i * 5)).take 5).flatten from by rw [List.flatMap_def]]
    rw [List.flatMap_def, List.map_map]
    congr 1
    apply List.ext_getElem (by simp [h4])
    intro i hi hi'
    simp only [List.length_map, List.length_range] at hi
    simp only [List.getElem_map, List.getElem_range, Function.comp_apply]
    have := h5 i (by simpa using hi) (by omega)
    simp only [List.getElem_range] at this
    exact flat_has this
  have hkc : flat2 Rows.laid_spandrel_term_kinds = kindVals := by kernel_rfl
  rw [hkc] at hcs
  have hcell := World.var?_cell (show Tryd.prog.globalNamed "spandrel/term.kinds" = some 0 by kernel_rfl) hvar
  intro i u hu
  have := hcell i
  rw [Nat.zero_add, this, ← hu, ← hcs, Array.getElem?_toList]
/-- a closed datum and its cell -/
def litV : D → Option Value
  | .bool b => some (.bool b)
  | .int k n => if k.min ≤ n ∧ n ≤ k.max then some (.int k n) else none
  | _ => none
theorem RpL_lit {w : World} : ∀ {ds : List D} {vs : List Value}, ds.map litV = vs.map some → RpL rho0 w ds vs
  | [], [], _ => by rw [RpL]
  | [], _ :: _, h => by simp at h
  | _ :: _, [], h => by simp at h
  | d :: r, v :: s, h => by
    simp only [List.map_cons, List.cons.injEq] at h
    refine RpL_cons'.2 ⟨?_, RpL_lit h.2⟩
    have h1 := h.1
    cases d <;> simp [litV] at h1
    · rw [Rp]; exact ⟨h1.2.symm, h1.1⟩
    · rw [Rp]; exact h1.symm
theorem rel_kinds {W : World} (h : laidMet Tryd.prog [("spandrel/term.kinds", Rows.laid_spandrel_term_kinds)] W) : Rel glob rho0 W (hOf []) := by
  refine ⟨fun _ _ => rfl, fun _ _ => rfl, (fun _ _ _ h => nomatch h), (fun _ _ _ _ _ h => nomatch h), fun g d hd => ?_⟩
  unfold glob at hd
  split at hd
  · rename_i hg
    subst hg
    cases hd
    exact RpC_mk (RpL_lit (vs := kindVals) (by kernel_rfl)) (by kernel_rfl) (kinds_lie h)
  · cases hd
theorem calls_trueK {f : FuncId} {args : List D} {vs : List Value} {w : World} (hR : Rel glob rho0 w (hOf [])) (h : Spec Tryd.prog glob f args [] (fun o _ => o.fgt = .ret (.bool true))) (hv : RpL rho0 w args vs) :
    Calls Tryd.prog f vs.toArray w fun e w' => e = .returned (.bool true) ∧ Below w.heap.size w w' := by
  refine (h rho0 w vs hR hv).2.mono ?_
  rintro e w' ⟨ρ', out, hc', ho, hm, -, hx⟩
  refine ⟨?_, ex_below hx⟩
  cases out with
  | pan d => cases ho
  | ret d =>
    obtain ⟨u, rfl, hu⟩ := hm
    have hd : d = .bool true := by
      cases d <;> simp [Out.fgt, D.fgt] at ho
      subst ho; rfl
    subst hd
    rw [Rp] at hu
    rw [hu]
/-- a world for the witness: the table of kinds holds what its initialiser lays -/
noncomputable def laidWorld (os : Os) : World :=
  { World.holding Tryd.prog os ⟨#[], #[], []⟩ with heap := (World.holding Tryd.prog os ⟨#[], #[], []⟩).heap.modify 0 fun
      | .cells _ t frozen => .cells kindVals.toArray t frozen
      | o => o }
end Go.Proofs.YtebmlojhdnldgaaDoor

