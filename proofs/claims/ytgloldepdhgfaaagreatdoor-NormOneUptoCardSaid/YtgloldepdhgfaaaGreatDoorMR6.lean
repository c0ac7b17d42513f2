/-
  MR6: the texts Dot Dox N7a Nsi Nwi Nwj Nwk Nwl Hh N7p N7b N7c N7d Dla, one behind the other.
-/
import Derived.RangeFuncRecord
import Derived.RangeFuncLeaves
import Derived.RangeFuncCalls
import Derived.TacticsIn
import Derived.LoopNIn
import Derived.Lib.LaidTab
import Derived.Test.YtgloldepdhgfaaaGreatDoorMR5
namespace Go.Proofs.YtgloldepdhgfaaaGreatDoor
set_option linter.unusedSimpArgs false
set_option linter.unusedVariables false
open Go.RowKit Go.WideShapes Go.ChangeShapes
set_option maxRecDepth 100000
theorem sum_bulk {H α : Type} : ∀ (xs : List α) (elems : List (DataW H)) (μ : α -> Nat), xs.length = elems.length -> (∀ i (h : i < xs.length) (h' : i < elems.length), μ xs[i] <= Rows.uptoBulk elems[i]) -> (xs.map μ).sum <= Rows.uptoBulkAll elems
 | [], [], μ, _, _ => by simp
 | [], _ :: _, μ, h, _ => by simp at h
 | _ :: _, [], μ, h, _ => by simp at h
 | x :: r, e :: s, μ, h, h2 => by
  simp only [List.map_cons, List.sum_cons, Rows.uptoBulkAll]
  have h3 := h2 0 (by simp) (by simp)
  simp only [List.getElem_cons_zero] at h3
  have h4 := sum_bulk r s μ (by simpa using h) (fun i h5 h6 => by
   have := h2 (i + 1) (by simpa using h5) (by simpa using h6)
   simpa using this)
  omega
theorem nszs_sum : ∀ l : List T, T.nszs l = (l.map T.nsz).sum
 | [] => by rw [T.nszs]; rfl
 | t :: r => by rw [T.nszs, nszs_sum r]; rfl
section
variable {H : Type} {enc : TypeId × Value -> H} {w : World} {base : Nat} {sp : Nat -> Bool} {held : Bool}
theorem open_sl2 {α : Type} (en : α -> D) {t e : TypeId} {sz : Nat} (ht : Tryz.prog.underlying t = some (.slice e)) (he : Tryz.prog.cellsOf e = sz) (hsz : 0 < sz) (hes : ∀ x, (en x).size = sz /\ (en x).cells.all D.one = true) (M : Nat -> α -> Prop) {fuel : Nat} {cs : List Value} {d : DataW H} {ps : List MemPlace} (hb : Rows.uptoBulk d <= 1048576)
  (hE : ∀ f ecs de p, f < fuel -> Rows.uptoBulk de < Rows.uptoBulk d -> DataW.trod enc Tryz.prog w base sp held f e ecs = some (de, p) -> ∃ x, RpL rho0 w (en x).cells ecs /\ M (Rows.uptoBulk de) x) (hM : ∀ x m n, m <= n -> M m x -> M n x)
  (h : DataW.trod enc Tryz.prog w base sp held fuel t cs = some (d, ps)) : ∃ (v : Value) (xs : List α), cs = [v] /\ Rp rho0 w (.slice (xs.map en) .any) v /\ xs.length < Rows.uptoBulk d + 1 /\ (∀ x, x ∈ xs -> M (Rows.uptoBulk d - 1) x) /\ ∀ μ : α -> Nat, (∀ x m, M m x -> μ x <= m) -> (xs.map μ).sum + 1 <= Rows.uptoBulk d := by
 rcases trod_slice ht h with rfl | ⟨fuel', a, len, cap, elems, rest, rfl, rfl, h1, h2, rfl, h3, h4⟩
 ·refine ⟨_, [], rfl, ?_, by simp, (fun x hx => nomatch hx), fun μ _ => by have := bulk_one d; simp; omega⟩
  rw [Rp]
  exact ⟨none, 0, sz, rfl, by simp, by simp, by simp, (fun e he => nomatch he), trivial, fun h => absurd rfl h⟩
 ·have hlen : elems.length + 1 <= Rows.uptoBulk (.slice elems rest) := by
   have := bulk_len elems
   simp only [Rows.uptoBulk]; omega
  have key : ∀ i (hi : i < elems.length), ∃ x ecs, w.cells? base (a.add (i * sz)) sz = some ecs /\ RpL rho0 w (en x).cells ecs /\ M (Rows.uptoBulk (DataW.slice elems rest) - 1) x /\ M (Rows.uptoBulk elems[i]) x := fun i hi => by
   obtain ⟨ecs, p, h5, h6⟩ := h4 i hi
   have hlt : Rows.uptoBulk elems[i] < Rows.uptoBulk (.slice elems rest) := by
    have := bulk_part (List.getElem_mem (l := elems) hi)
    simp only [Rows.uptoBulk]; omega
   obtain ⟨x, h7, h8⟩ := hE fuel' ecs elems[i] p (by omega) hlt h6
   exact ⟨x, ecs, by rw [<- he]; exact h5, h7, hM _ _ _ (by omega) h8, h8⟩
  let xs : List α := List.ofFn (n := elems.length) fun i => (key i.1 i.2).choose
  have hxl : xs.length = elems.length := by simp [xs]
  have hget : ∀ i (hi : i < elems.length), xs[i]? = some (key i hi).choose := fun i hi => by simp [xs, List.getElem?_ofFn, hi]
  refine ⟨_, xs, rfl, ?_, by omega, ?_, ?_⟩
  ·rw [Rp]
   refine ⟨some a, cap, sz, by rw [List.length_map, hxl, h3], by rw [List.length_map]; omega, h2, by rw [List.length_map]; unfold Wd; omega, fun e he => ?_, trivial, fun hne => ?_⟩
   ·obtain ⟨x, -, rfl⟩ := List.mem_map.1 he
    exact (hes x).1
   ·have h0 : 0 < elems.length := by
     rcases Nat.eq_zero_or_pos elems.length with h | h
     ·exact absurd (List.eq_nil_of_length_eq_zero (by rw [List.length_map]; omega)) hne
     ·exact h
    obtain ⟨ecs0, c0, -⟩ := (key 0 h0).choose_spec
    rw [show a.add (0 * sz) = a from by simp [Addr.add]] at c0
    obtain ⟨b, o, rfl, hlt, -, -⟩ := cells_at c0 hsz
    refine ⟨b, o, rfl, RpE_mk (sz := sz) (fun e he => ?_) fun i hi => ?_⟩
    ·obtain ⟨x, -, rfl⟩ := List.mem_map.1 he
     exact hes x
    ·have hi' : i < elems.length := by rw [List.length_map] at hi; omega
     have hx := hget i hi'
     have hx' : (xs.map en)[i] = en (key i hi').choose := by
      rw [List.getElem_map]
      have := List.getElem?_eq_some_iff.1 hx
      exact congrArg en this.2
     rw [hx']
     obtain ⟨ecs, c1, c2, -⟩ := (key i hi').choose_spec
     have hadd : (⟨b, o, none⟩ : Addr).add (i * sz) = ⟨b, o + i * sz, none⟩ := by unfold Addr.add; split <;> simp_all
     rw [hadd] at c1
     obtain ⟨b', o', e, -, c3, c4⟩ := cells_at c1 hsz
     simp only [Addr.mk.injEq, and_true] at e
     obtain ⟨rfl, rfl⟩ := e
     exact ⟨ecs, c2, c4⟩
  ·intro x hx
   obtain ⟨i, hi, rfl⟩ := List.getElem_of_mem hx
   have hi' : i < elems.length := by rw [<- hxl]; exact hi
   have := hget i hi'
   rw [List.getElem?_eq_getElem hi] at this
   simp only [Option.some.injEq] at this
   rw [this]
   obtain ⟨-, -, -, c, -⟩ := (key i hi').choose_spec
   exact c
  ·intro μ hμ
   have := sum_bulk xs elems μ hxl fun i h1 h2 => by
    have := hget i h2
    rw [List.getElem?_eq_getElem h1] at this
    simp only [Option.some.injEq] at this
    rw [this]
    obtain ⟨-, -, -, -, c⟩ := (key i h2).choose_spec
    exact hμ _ _ c
   simp only [Rows.uptoBulk]
   omega
theorem ok_bounds {n : Int} (h : IntKind.i64.min <= n /\ n <= IntKind.i64.max) : I64 n := by
 simp [IntKind.min, IntKind.max, IntKind.signed, IntKind.bits] at h
 unfold I64
 omega
theorem open_part2 {fuel : Nat} {cs : List Value} {d : DataW H} {ps : List MemPlace} (h : DataW.trod enc Tryz.prog w base sp held fuel 157 cs = some (d, ps)) : ∃ p : Int × Int, RpL rho0 w (Xq p).cells cs /\ I64 p.1 /\ I64 p.2 := by
 obtain ⟨h1, h2⟩ := trod_fields (l := [(3, 0), (3, 1)]) part_under (by kernel_rfl) h
 rw [show Tryz.prog.cellsOf 157 = 2 from by kernel_rfl] at h1
 obtain ⟨f0, d0, p0, -, -, e0⟩ := h2 0 _ _ rfl
 obtain ⟨f1, d1, p1, -, -, e1⟩ := h2 1 _ _ rfl
 rw [show Tryz.prog.cellsOf 3 = 1 from by kernel_rfl] at e0 e1
 obtain ⟨c0, c1, rfl⟩ := len2 h1
 obtain ⟨n0, k0, b0⟩ := trod_int Tryz.underlying3 e0
 obtain ⟨n1, k1, b1⟩ := trod_int Tryz.underlying3 e1
 simp at k0 k1
 subst k0; subst k1
 refine ⟨(n0, n1), ?_, ok_bounds b0, ok_bounds b1⟩
 show RpL rho0 w [.int .i64 n0, .int .i64 n1] _
 simp only [RpL, Rp]
 exact ⟨_, _, rfl, ⟨rfl, b0⟩, _, _, rfl, ⟨rfl, b1⟩, rfl⟩
theorem open_level2 {fuel : Nat} {cs : List Value} {d : DataW H} {ps : List MemPlace} (hb : Rows.uptoBulk d <= 1048576) (h : DataW.trod enc Tryz.prog w base sp held fuel 53 cs = some (d, ps)) : ∃ l : LV, RpL rho0 w (Wp l).cells cs /\ okL l /\ l.length <= Rows.uptoBulk d := by
 obtain ⟨h1, h2⟩ := trod_fields (l := [(51, 0)]) level_under (by kernel_rfl) h
 rw [show Tryz.prog.cellsOf 53 = 1 from by kernel_rfl] at h1
 obtain ⟨f0, d0, p0, -, hb0, e0⟩ := h2 0 _ _ rfl
 rw [show Tryz.prog.cellsOf 51 = 1 from by kernel_rfl] at e0
 obtain ⟨c0, rfl⟩ := len1 h1
 obtain ⟨v, xs, k0, hs, hl, hm⟩ := open_sl Xq (sz := 2) Tryz.underlying51 (by kernel_rfl) (by omega) (fun x => ⟨rfl, rfl⟩) (fun _ p => I64 p.1 /\ I64 p.2) (by omega) (fun f ecs de p _ _ he => (open_part2 he).imp fun _ h => h) (fun _ _ _ _ h => h) e0
 simp at k0
 subst k0
 refine ⟨xs, ?_, ⟨by unfold Wd; omega, hm⟩, by omega⟩
 show RpL rho0 w [.slice (xs.map Xq) .any] _
 rw [RpL]
 exact ⟨_, [], rfl, hs, by rw [RpL]⟩
theorem open_levels2 {fuel : Nat} {cs : List Value} {d : DataW H} {ps : List MemPlace} (hb : Rows.uptoBulk d <= 1048576) (h : DataW.trod enc Tryz.prog w base sp held fuel 24 cs = some (d, ps)) : ∃ v ls, cs = [v] /\ Rp rho0 w (Lvs ls) v /\ ls.length <= 1048576 /\ ∀ l, l ∈ ls -> okL l /\ l.length <= 1048576 := by
 obtain ⟨v, xs, k0, hs, hl, hm⟩ := open_sl Wp (sz := 1) Tryz.underlying24 (by kernel_rfl) (by omega) (fun x => ⟨rfl, rfl⟩) (fun m l => okL l /\ l.length <= m) hb (fun f ecs de p _ hlt he => (open_level2 (by omega) he).imp fun _ h => h) (fun _ _ _ h1 h2 => ⟨h2.1, Nat.le_trans h2.2 h1⟩) h
 exact ⟨v, xs, k0, hs, by omega, fun l hl => by have := hm l hl; exact ⟨this.1, by omega⟩⟩
theorem term_under : Tryz.prog.underlying 27 = some (.struct (Tryz.prog.fieldsOf 27)) := by kernel_rfl
theorem kind_under : Tryz.prog.underlying 23 = some (.int .i64) := by kernel_rfl
theorem encT_ones (t : T) : (Qv t).cells.all D.one = true := by rw [encT_cells]; rfl
variable {W : World} {b0 : Nat} {v : Value} {d : DataW H} {p : List MemPlace}
theorem argIs (hk : Rows.uptoBulk d <= 1048576) (hv : Value.okWide Tryz.prog W .any base 38 v) (h : DataW.Trod enc Tryz.prog W b0 sp held 38 v d p) : ∃ ns : List Int, Rp rho0 W (Ints ns) v /\ ns.length <= 1048576 := arg_ints hk hv h
theorem nszs_len : ∀ l : List T, l.length <= T.nszs l
 | [] => by simp
 | t :: r => by rw [T.nszs, List.length_cons]; have := nszs_len r; have := T.nsz_pos t; omega
theorem argI (hv : Value.okWide Tryz.prog W .any base 3 v) (h : DataW.Trod enc Tryz.prog W b0 sp held 3 v d p) : ∃ n : Int, Rp rho0 W (.int .i64 n) v /\ I64 n := by
 obtain ⟨n, rfl⟩ := Go.WideShapes.okWide_int Tryz.underlying3 hv
 obtain ⟨fuel, hf⟩ := h
 obtain ⟨n', hn, hb⟩ := trod_int Tryz.underlying3 hf
 have hn : ([Value.int .i64 n] : List Value) = [.int .i64 n'] := hn
 have : n = n' := by simpa using hn
 subst this
 exact ⟨n, by rw [Rp]; exact ⟨rfl, hb⟩, ok_bounds hb⟩
end
end Go.Proofs.YtgloldepdhgfaaaGreatDoor
namespace Go.Proofs.YtgloldepdhgfaaaGreatDoor
set_option linter.unusedSimpArgs false
set_option linter.unusedVariables false
open Go.RowKit Go.WideShapes Go.ChangeShapes
set_option maxRecDepth 100000
def ZB : Nat := 1099512676353
theorem lvSz_le : ∀ (ls : List LV), (∀ l, l ∈ ls -> l.length <= 1048576) -> lvSz ls <= ls.length * 1048577
 | [], _ => by simp [lvSz]
 | l :: r, h => by
  rw [lvSz, List.length_cons]
  have := h l (List.mem_cons_self ..)
  have := lvSz_le r fun x hx => h x (List.mem_cons_of_mem _ hx)
  omega
theorem tszs_le : ∀ (ks : List T), (∀ t, t ∈ ks -> t.tsz <= t.nsz * ZB) -> T.tszs ks <= T.nszs ks * ZB
 | [], _ => by simp [T.tszs]
 | t :: r, h => by
  rw [T.tszs, T.nszs, Nat.add_mul]
  have := h t (List.mem_cons_self ..)
  have := tszs_le r fun x hx => h x (List.mem_cons_of_mem _ hx)
  omega
theorem cosz_le : ∀ (l : List C), (∀ c, c ∈ l -> c.ty.tsz <= c.ty.nsz * ZB /\ c.bo.tsz <= c.bo.nsz * ZB) -> cosz l <= l.length + 2 * ((l.map fun c => max c.ty.nsz c.bo.nsz).sum * ZB)
 | [], _ => by simp [cosz]
 | c :: r, h => by
  rw [cosz, List.length_cons, List.map_cons, List.sum_cons, Nat.add_mul]
  obtain ⟨h1, h2⟩ := h c (List.mem_cons_self ..)
  have := cosz_le r fun x hx => h x (List.mem_cons_of_mem _ hx)
  have h3 : c.ty.nsz * ZB <= (max c.ty.nsz c.bo.nsz) * ZB := Nat.mul_le_mul_right _ (Nat.le_max_left ..)
  have h4 : c.bo.nsz * ZB <= (max c.ty.nsz c.bo.nsz) * ZB := Nat.mul_le_mul_right _ (Nat.le_max_right ..)
  omega
theorem trod_bool {H : Type} {enc : TypeId × Value -> H} {P : Program} {w : World} {base : Nat} {sp : Nat -> Bool} {held : Bool} {fuel : Nat} {t : TypeId} {cs : List Value} {d : DataW H} {ps : List MemPlace} (ht : P.underlying t = some .bool) (h : DataW.trod enc P w base sp held fuel t cs = some (d, ps)) : ∃ b, cs = [.bool b] := by
 cases fuel with
 | zero => simp [DataW.trod] at h
 | succ fuel =>
  unfold DataW.trod at h
  rw [ht] at h
  rcases cs with _ | ⟨v, _ | ⟨v2, r⟩⟩
  ·simp at h
  ·cases v <;> simp at h
   exact ⟨_, rfl⟩
  ·simp at h
theorem len12 {l : List Value} (h : l.length = 12) : ∃ a b c d e f g i j k m n, l = [a, b, c, d, e, f, g, i, j, k, m, n] := by
 rcases l with _ | ⟨a, _ | ⟨b, r⟩⟩
 ·cases h
 ·simp at h
 rcases r with _ | ⟨c, _ | ⟨d, _ | ⟨e, _ | ⟨f, _ | ⟨g, r⟩⟩⟩⟩⟩
 ·simp at h
 ·simp at h
 ·simp at h
 ·simp at h
 ·simp at h
 obtain ⟨i, j, k, m, n, rfl⟩ := len5 (l := r) (by simpa using h)
 exact ⟨a, b, c, d, e, f, g, i, j, k, m, n, rfl⟩
section
variable {H : Type} {enc : TypeId × Value -> H} {w : World} {base : Nat} {sp : Nat -> Bool} {held : Bool}
theorem open_term3 : ∀ (fuel : Nat) {cs : List Value} {d : DataW H} {ps : List MemPlace}, Rows.uptoBulk d <= 1048576 -> DataW.trod enc Tryz.prog w base sp held fuel 27 cs = some (d, ps) -> ∃ t : T, RpL rho0 w (Qv t).cells cs /\ okT t /\ t.nsz <= Rows.uptoBulk d /\ t.tsz <= t.nsz * ZB := by
 intro fuel
 induction fuel using Nat.strongRecOn with
 | ind fuel ih =>
  intro cs d ps hb h
  obtain ⟨h1, h2⟩ := trod_fields (l := [(23, 0), (3, 1), (3, 2), (24, 3), (25, 4)]) term_under (by kernel_rfl) h
  rw [show Tryz.prog.cellsOf 27 = 5 from by kernel_rfl] at h1
  obtain ⟨f0, d0, p0, -, -, e0⟩ := h2 0 _ _ rfl
  obtain ⟨f1, d1, p1, -, -, e1⟩ := h2 1 _ _ rfl
  obtain ⟨f2, d2, p2, -, -, e2⟩ := h2 2 _ _ rfl
  obtain ⟨f3, d3, p3, -, hb3, e3⟩ := h2 3 _ _ rfl
  obtain ⟨f4, d4, p4, hf4, hb4, e4⟩ := h2 4 _ _ rfl
  rw [show Tryz.prog.cellsOf 3 = 1 from by kernel_rfl] at e1 e2
  rw [show Tryz.prog.cellsOf 23 = 1 from by kernel_rfl] at e0
  rw [show Tryz.prog.cellsOf 24 = 1 from by kernel_rfl] at e3
  rw [show Tryz.prog.cellsOf 25 = 1 from by kernel_rfl] at e4
  obtain ⟨c0, c1, c2, c3, c4, rfl⟩ := len5 h1
  obtain ⟨n0, k0, b0⟩ := trod_int kind_under e0
  obtain ⟨n1, k1, b1⟩ := trod_int Tryz.underlying3 e1
  obtain ⟨n2, k2, b2⟩ := trod_int Tryz.underlying3 e2
  obtain ⟨v3, ls, k3, hl, ll, hls⟩ := open_levels2 (by omega) e3
  obtain ⟨v4, ks, k4, hk, lk, hks, hsum⟩ := open_sl2 Qv (sz := 5) Tryz.underlying25 (by kernel_rfl) (by omega) (fun x => ⟨encT_size x, encT_ones x⟩) (fun m t => okT t /\ t.nsz <= m /\ t.tsz <= t.nsz * ZB) (by omega)
   (fun f ecs de p hf hlt he => (ih f (by omega) (by omega) he).imp fun _ h => h) (fun x m n hmn hx => ⟨hx.1, by omega, hx.2.2⟩) e4
  simp at k0 k1 k2 k3 k4
  subst k0; subst k1; subst k2; subst k3; subst k4
  refine ⟨.mk n0 n1 n2 ls ks, ?_, .mk (ok_bounds b0) (ok_bounds b1) (ok_bounds b2) (by unfold Wd; omega) (fun l h => (hls l h).1) (by unfold Wd; omega) (fun t h => (hks t h).1), ?_, ?_⟩
  ·rw [encT_cells]
   simp only [T.k_mk, T.n_mk, T.a_mk, T.ls_mk, T.ks_mk]
   refine We.2 ⟨by rw [Rp]; exact ⟨rfl, b0⟩, We.2 ⟨by rw [Rp]; exact ⟨rfl, b1⟩, We.2 ⟨by rw [Rp]; exact ⟨rfl, b2⟩, We.2 ⟨hl, We.2 ⟨hk, by rw [RpL]⟩⟩⟩⟩⟩
  ·rw [T.nsz, nszs_sum]
   have := hsum T.nsz (fun x m h => h.2.1)
   omega
  ·rw [T.nsz, T.tsz, Nat.add_mul]
   have a1 := lvSz_le ls fun l h => (hls l h).2
   have a2 := tszs_le ks fun t h => (hks t h).2.2
   have a3 : ls.length * 1048577 <= 1048576 * 1048577 := Nat.mul_le_mul_right _ ll
   have : 1 * ZB = 1099512676353 := rfl
   omega
theorem core_under : Tryz.prog.underlying 50 = some (.struct (Tryz.prog.fieldsOf 50)) := by kernel_rfl
theorem encC_ones (c : C) : (encC c).cells.all D.one = true := by rw [encC_cells]; rfl
theorem open_core {fuel : Nat} {cs : List Value} {d : DataW H} {ps : List MemPlace} (hb : Rows.uptoBulk d <= 1048576) (h : DataW.trod enc Tryz.prog w base sp held fuel 50 cs = some (d, ps)) : ∃ c : C, RpL rho0 w (encC c).cells cs /\ okC c /\ max c.ty.nsz c.bo.nsz <= Rows.uptoBulk d /\ c.ty.tsz <= c.ty.nsz * ZB /\ c.bo.tsz <= c.bo.nsz * ZB := by
 obtain ⟨h1, h2⟩ := trod_fields (l := [(3, 0), (27, 1), (4, 6), (27, 7)]) core_under (by kernel_rfl) h
 rw [show Tryz.prog.cellsOf 50 = 12 from by kernel_rfl] at h1
 obtain ⟨f0, d0, p0, -, -, e0⟩ := h2 0 _ _ rfl
 obtain ⟨f1, d1, p1, -, hb1, e1⟩ := h2 1 _ _ rfl
 obtain ⟨f2, d2, p2, -, -, e2⟩ := h2 2 _ _ rfl
 obtain ⟨f3, d3, p3, -, hb3, e3⟩ := h2 3 _ _ rfl
 rw [show Tryz.prog.cellsOf 3 = 1 from by kernel_rfl] at e0
 rw [show Tryz.prog.cellsOf 4 = 1 from by kernel_rfl] at e2
 rw [show Tryz.prog.cellsOf 27 = 5 from by kernel_rfl] at e1 e3
 obtain ⟨a, b, c, d, e, f, g, i, j, k, m, n, rfl⟩ := len12 h1
 obtain ⟨n0, k0, b0⟩ := trod_int Tryz.underlying3 e0
 obtain ⟨t1, r1, o1, s1, z1⟩ := open_term3 f1 (by omega) e1
 obtain ⟨b2, k2⟩ := trod_bool Tryz.underlying4 e2
 obtain ⟨t3, r3, o3, s3, z3⟩ := open_term3 f3 (by omega) e3
 simp at k0 k2
 subst k0; subst k2
 refine ⟨⟨n0, t1, b2, t3⟩, ?_, ⟨ok_bounds b0, o1, o3⟩, by have := Nat.max_le.2 ⟨Nat.le_of_lt (Nat.lt_of_le_of_lt s1 hb1), Nat.le_of_lt (Nat.lt_of_le_of_lt s3 hb3)⟩; exact this, z1, z3⟩
 rw [encT_cells] at r1 r3
 have r1 : RpL rho0 w _ [b, c, d, e, f] := r1
 have r3 : RpL rho0 w _ [i, j, k, m, n] := r3
 rw [We, We, We, We, We] at r1 r3
 obtain ⟨q1, q2, q3, q4, q5, -⟩ := r1
 obtain ⟨u1, u2, u3, u4, u5, -⟩ := r3
 rw [encC_cells]
 refine We.2 ⟨by rw [Rp]; exact ⟨rfl, b0⟩, We.2 ⟨q1, We.2 ⟨q2, We.2 ⟨q3, We.2 ⟨q4, We.2 ⟨q5, We.2 ⟨by rw [Rp], We.2 ⟨u1, We.2 ⟨u2, We.2 ⟨u3, We.2 ⟨u4, We.2 ⟨u5, by rw [RpL]⟩⟩⟩⟩⟩⟩⟩⟩⟩⟩⟩⟩
theorem open_cores {fuel : Nat} {cs : List Value} {d : DataW H} {ps : List MemPlace} (hb : Rows.uptoBulk d <= 1048576) (h : DataW.trod enc Tryz.prog w base sp held fuel 22 cs = some (d, ps)) :
  ∃ v l, cs = [v] /\ Rp rho0 w (Cs l) v /\ okCs l /\ (cosz l : Int) <= QB := by
 obtain ⟨v, l, k, hs, hl, hd, hsum⟩ := open_sl2 encC (sz := 12) Tryz.underlying22 (by kernel_rfl) (by omega) (fun x => ⟨encC_size x, encC_ones x⟩) (fun m c => okC c /\ max c.ty.nsz c.bo.nsz <= m /\ c.ty.tsz <= c.ty.nsz * ZB /\ c.bo.tsz <= c.bo.nsz * ZB) hb
  (fun f ecs de p hf hlt he => (open_core (by omega) he).imp fun _ h => h) (fun x m n hmn hx => ⟨hx.1, Nat.le_trans hx.2.1 hmn, hx.2.2⟩) h
 refine ⟨v, l, k, hs, ⟨by unfold Wd; omega, fun c hc => (hd c hc).1, fun c hc => ?_, fun c hc => ?_⟩, ?_⟩
 ·have := (hd c hc).2.1
  have := Nat.le_max_right c.ty.nsz c.bo.nsz
  omega
 ·have := (hd c hc).2.1
  have := Nat.le_max_left c.ty.nsz c.bo.nsz
  omega
 ·have a1 := cosz_le l fun c hc => (hd c hc).2.2
  have a2 := hsum (fun c => max c.ty.nsz c.bo.nsz) (fun x m h => h.2.1)
  have a3 : (l.map fun c => max c.ty.nsz c.bo.nsz).sum * ZB <= 1048575 * 1099512676353 := Nat.mul_le_mul_right _ (by omega)
  unfold QB
  omega
variable {W : World} {b0 : Nat} {v : Value} {d : DataW H} {p : List MemPlace}
set_option maxRecDepth 100000 in
theorem argT3 (hk : Rows.uptoBulk d <= 1048576) (hv : Value.okWide Tryz.prog W .any base 27 v) (h : DataW.Trod enc Tryz.prog W b0 sp held 27 v d p) : ∃ t : T, Rp rho0 W (Qv t) v /\ okT t /\ t.nsz <= 1048576 /\ (t.tsz : Int) < QB := by
 obtain ⟨cs, rfl⟩ := arg_agg term_under hv
 obtain ⟨fuel, hf⟩ := h
 obtain ⟨t, ht, h1, h2, h3⟩ := open_term3 fuel hk hf
 refine ⟨t, ?_, h1, by omega, ?_⟩
 ·rw [encT_cells] at ht
  rw [Qd, Rp]
  exact ⟨_, (by cases cs; rfl), ht⟩
 ·have a3 : t.nsz * ZB <= 1048576 * 1099512676353 := Nat.mul_le_mul_right _ (by omega)
  unfold QB
  omega
theorem argCs (hk : Rows.uptoBulk d <= 1048576) (hv : Value.okWide Tryz.prog W .any base 22 v) (h : DataW.Trod enc Tryz.prog W b0 sp held 22 v d p) : ∃ l : List C, Rp rho0 W (Cs l) v /\ okCs l /\ (cosz l : Int) <= QB := by
 obtain ⟨a, len, cap, rfl⟩ := okWide_slice Tryz.underlying22 hv
 obtain ⟨fuel, hf⟩ := h
 obtain ⟨v', ls, he, hr, hl, hm⟩ := open_cores hk hf
 have : v' = .slice a len cap := by
  have : ([Value.slice a len cap] : List Value) = [v'] := he
  simpa using this.symm
 subst this
 exact ⟨ls, hr, hl, hm⟩
end
end Go.Proofs.YtgloldepdhgfaaaGreatDoor
namespace Go.Proofs.YtgloldepdhgfaaaGreatDoor
set_option linter.unusedSimpArgs false
set_option linter.unusedVariables false
set_option linter.unusedSimpArgs false
set_option linter.unusedVariables false
set_option maxHeartbeats 10000000
set_option maxRecDepth 20000
open Go.RowKit
attribute [local simp] Qb Qc Xd Xm opD Qp Ql Qi Qk hOf Wz Xn Xk TK.isAgg TK.known Xf Xe Wt Qr D.ofV inB Wm Xc binX binD binE Xl bndD capB IntKind.min IntKind.max IntKind.signed IntKind.bits Wx late
def coSt7 (c : C) (s : Int) : Int := IntKind.i64.wrap (IntKind.i64.wrap (IntKind.i64.wrap (s + 1) + c.ty.tof 300) + c.bo.tof 300)
theorem coresOf7_spec (l : List C) (hl : l.length <= Wd) (hls : ∀ c, c ∈ l -> okC c) : Qt Tryz.prog glob 41 [Cs l, .int .i64 300] [] (fun o _ => o.fgt = .ret (.int .i64 (cntF coSt7 300 l 0))) := coresOf_gen l 300 coSt7 hl (fun _ _ => rfl) (fun c hc _ => hls c hc)
def gr7 (c : C) : Bool := decide (60 < c.bo.dp 60) || decide (60 < c.ty.dp 60)
theorem great7_spec (l : List C) (t : T) (hl : l.length <= Wd) (hls : ∀ c, c ∈ l -> okC c) (ht : okT t) : ∃ b, Qt Tryz.prog glob 12 [Cs l, Qv t] [] (fun o _ => o.fgt = .ret (.bool b)) /\ (b = false -> ¬ IntKind.i64.wrap (cntF coSt7 300 l 0 + t.tof 300) > 300) := by
 have h := coresOf7_spec l hl hls
 have h2 := tof_spec t 300 ht
 have h3 := deep_spec t 60 ht
 generalize cntF coSt7 300 l 0 = v at h ⊢
 generalize t.tof 300 = w at h2 ⊢
 generalize t.dp 60 = d at h3
 obtain ⟨g, hg⟩ : ∃ g, g = decide (300 < IntKind.i64.wrap (v + w)) := ⟨_, rfl⟩
 refine ⟨decide (60 < d) || ((l.take 300).any gr7 || g), ?_, fun hb => by
  intro h4
  rw [hg, decide_eq_true (show 300 < IntKind.i64.wrap (v + w) by omega)] at hb
  simp at hb⟩
 have hl0 := hl
 unfold Wd at hl0
 rw [Qd t] at h2 h3
 rw [Qd t]
 unfold Cs at h
 unfold Cs
 by_cases hd : 60 < d
 ·refine Qt.movd Qe (Qq Wb Tryz.func12 rfl (Qy _ _ Tryz.func12 rfl (by decide)) rfl rfl ?_)
  (refine sR fun K hK => ?_; ((repeat (rw [Qa]; simp)); (try simp only [zs])); refine hK _ _ _ ?_; clear hK K)
  refine Qf fun K1 hK1 => ?_
  (refine sR fun K hK => ?_; ((repeat (rw [Qa]; simp)); (try simp only [zs])))
  refine cXp (h3) ?_
  ((try simp only [Qb, Qc, Ql, Qi, Qk]); (repeat (rw [Qa]; simp [hd])); (try simp only [zs]))
  (refine hK _ _ _ ?_; clear hK K)
  refine pT rfl ?_
  (refine sR fun K hK => ?_; ((repeat (rw [Qa]; simp)); (try simp only [zs])); refine hK _ _ _ ?_; clear hK K)
  (refine Qj ?_; (try simp only [zs]); refine Wc.ret rfl (.inl ?_); simp [Qp, Out.fgt, D.fgt, D.fgts])
  simp [hd]
 rw [decide_eq_false hd, Bool.false_or]
 obtain ⟨R, hR⟩ : ∃ R, R = ((l.take 300).any gr7 || g) := ⟨_, rfl⟩
 rw [<- hR]
 have hE : ∀ c, encC c = .agg [.int .i64 c.lv, .int .i64 c.ty.k, .int .i64 c.ty.n, .int .i64 c.ty.a, .slice (c.ty.ls.map Wp) .any, .slice (c.ty.ks.map Qv) .any, .bool c.has, .int .i64 c.bo.k, .int .i64 c.bo.n, .int .i64 c.bo.a, .slice (c.bo.ls.map Wp) .any, .slice (c.bo.ks.map Qv) .any] := fun c => encC_eq c
 refine Qt.movd Qe (Qq Wb Tryz.func12 rfl (Qy _ _ Tryz.func12 rfl (by decide)) rfl rfl ?_)
 (refine sR fun K hK => ?_; ((repeat (rw [Qa]; simp)); (try simp only [zs])); refine hK _ _ _ ?_; clear hK K)
 refine Qf fun K1 hK1 => ?_
 (refine sR fun K hK => ?_; ((repeat (rw [Qa]; simp)); (try simp only [zs])))
 refine cXp (h3) ?_
 ((try simp only [Qb, Qc, Ql, Qi, Qk]); (repeat (rw [Qa]; simp [hd])); (try simp only [zs]))
 (refine hK _ _ _ ?_; clear hK K)
 refine pF rfl ?_
 refine Qs (hK1 _ _ _ ?_)
 clear hK1 K1
 refine Qf fun K1a hK1a => ?_
 (refine sR fun K hK => ?_; ((repeat (rw [Qa]; simp)); (try simp only [zs])); refine hK _ _ _ ?_; clear hK K)
 refine Xh ?_
 refine wpD_loopWJ [4, 9, 10, 11, 12, 13, 14, 15, 16, 17, 18, 19, 20, 21, 22, 23, 24, 25, 26, 27, 28, 29, 30, 31, 32, 33, 34] [5] (fun n ys hl => ∃ (k : Nat), ys = [.int .i64 k] /\ n + k = l.length /\ R = (((l.take 300).drop k).any gr7 || g) /\ hl = [.cells 27 [.int .i64 t.k, .int .i64 t.n, .int .i64 t.a, .slice (t.ls.map Wp) .any, .slice (t.ks.map Qv) .any]]) (l.length) (by kernel_rfl) ?_ ?_
 ·exact ⟨0, rfl, rfl, hR, rfl⟩
 ·rintro n1 ys hl A1 hA1 ⟨i, rfl, hn, hF, rfl⟩
  have hA := hA1
  simp only [Qr, List.set, List.map_cons, List.map_nil, List.cons_append, List.nil_append]
  refine Qf fun K1b hK1b => ?_
  by_cases hi : i < l.length
  ·have hi' : (i : Int) < l.length := by omega
   by_cases h6 : i < 300
   ·have h6' : (i : Int) < 300 := by omega
    have hti : i < (l.take 300).length := by rw [List.length_take]; omega
    rw [List.drop_eq_getElem_cons hti, List.any_cons, List.getElem_take] at hF
    obtain ⟨x, hx⟩ : ∃ x, l[i] = x := ⟨_, rfl⟩
    have hxo : okC x := by rw [<- hx]; exact hls _ (List.getElem_mem hi)
    rw [hx] at hF
    have hg1 : gr7 x = (decide (60 < x.bo.dp 60) || decide (60 < x.ty.dp 60)) := rfl
    rw [hg1] at hF
    have d1 := deep_spec x.bo 60 hxo.2.2
    have d2 := deep_spec x.ty 60 hxo.2.1
    rw [Qd x.bo] at d1
    rw [Qd x.ty] at d2
    have hEx := hE x
    generalize x.bo.dp 60 = w1 at d1 hF
    generalize x.ty.dp 60 = w2 at d2 hF
    (refine sR fun K hK => ?_; ((repeat (rw [Qa]; simp [hi, hi', h6, h6'])); (try simp only [zs])); refine hK _ _ _ ?_; clear hK K)
    refine pT rfl ?_
    refine Qs (hK1b _ _ _ ?_)
    clear hK1b K1b
    refine Qf fun K1c hK1c => ?_
    refine Xh ?_
    by_cases hw : 60 < w1
    ·(refine sR fun K hK => ?_; ((repeat (rw [Qa]; simp [hi, hi', hx, hEx])); (try simp only [zs])))
     refine cXp (d1) ?_
     ((try simp only [Qb, Qc, Ql, Qi, Qk]); (repeat (rw [Qa]; simp [hw])); (try simp only [zs]))
     (refine hK _ _ _ ?_; clear hK K)
     refine pT rfl ?_
     (refine sR fun K hK => ?_; ((repeat (rw [Qa]; simp)); (try simp only [zs])); refine hK _ _ _ ?_; clear hK K)
     (refine Qj ?_; (try simp only [zs]); refine Wc.ret rfl (.inl ?_); simp [Qp, Out.fgt, D.fgt, D.fgts])
     rw [hF]; simp [hw]
    ·by_cases hw2 : 60 < w2
     ·(refine sR fun K hK => ?_; ((repeat (rw [Qa]; simp [hi, hi', hx, hEx])); (try simp only [zs])))
      refine cXp (d1) ?_
      ((try simp only [Qb, Qc, Ql, Qi, Qk]); (repeat (rw [Qa]; simp [hi, hi', hx, hEx, hw])); (try simp only [zs]))
      refine cXp (d2) ?_
      ((try simp only [Qb, Qc, Ql, Qi, Qk]); (repeat (rw [Qa]; simp [hw, hw2])); (try simp only [zs]))
      (refine hK _ _ _ ?_; clear hK K)
      refine pT rfl ?_
      (refine sR fun K hK => ?_; ((repeat (rw [Qa]; simp)); (try simp only [zs])); refine hK _ _ _ ?_; clear hK K)
      (refine Qj ?_; (try simp only [zs]); refine Wc.ret rfl (.inl ?_); simp [Qp, Out.fgt, D.fgt, D.fgts])
      rw [hF]; simp [hw, hw2]
     ·(refine sR fun K hK => ?_; ((repeat (rw [Qa]; simp [hi, hi', hx, hEx])); (try simp only [zs])))
      refine cXp (d1) ?_
      ((try simp only [Qb, Qc, Ql, Qi, Qk]); (repeat (rw [Qa]; simp [hi, hi', hx, hEx, hw])); (try simp only [zs]))
      refine cXp (d2) ?_
      ((try simp only [Qb, Qc, Ql, Qi, Qk]); (repeat (rw [Qa]; simp [hw, hw2])); (try simp only [zs]))
      (refine hK _ _ _ ?_; clear hK K)
      refine pF rfl ?_
      refine Qs (hK1c _ _ _ ?_)
      clear hK1c K1c
      have hw1 : IntKind.i64.wrap ((i : Int) + 1) = (i : Int) + 1 := i64w (by omega) (by omega)
      (refine Qz Wb ?_; ((repeat (rw [Qa]; simp [hw1])); (try simp only [zs])))
      refine hA (n1 - 1) _ _ _ (LeT.refl _) (by omega) (by kernel_rfl) ?_
      exact ⟨i + 1, rfl, by omega, by rw [hF]; simp [hw, hw2], rfl⟩
   ·have h6' : ¬ (i : Int) < 300 := by omega
    (refine sR fun K hK => ?_; ((repeat (rw [Qa]; simp [hi, hi', h6, h6'])); (try simp only [zs])); refine hK _ _ _ ?_; clear hK K)
    refine pF rfl ?_
    refine wpD_exit ?_
    refine hK1a _ _ _ ?_
    clear hK1b K1b
    rw [List.drop_of_length_le (by rw [List.length_take]; omega)] at hF
    (refine Qf fun K hK => ?_; refine dR fun KT hKT => ?_; ((repeat (rw [Qh]; simp)); (try simp only [Qm])))
    refine cYp (h) ?_
    ((try simp only [Qn, Qo, Ql, Qi, Qk]); (repeat (rw [Qh]; simp)); (try simp only [Qm]))
    refine cYp (h2) ?_
    ((try simp only [Qn, Qo, Ql, Qi, Qk]); (repeat (rw [Qh]; simp)); (try simp only [Qm]))
    (refine hKT _ _ _ _ (by kernel_rfl) ?_; clear hKT KT; (try simp only [zs]))
    (refine hK _ _ _ ?_; clear hK K)
    (refine Qj ?_; (try simp only [zs]); refine Wc.ret rfl (.inl ?_); simp [Qp, Out.fgt, D.fgt, D.fgts])
    rw [hF, hg]; simp
  ·have hi' : ¬ (i : Int) < l.length := by omega
   (refine sR fun K hK => ?_; ((repeat (rw [Qa]; simp [hi, hi'])); (try simp only [zs])); refine hK _ _ _ ?_; clear hK K)
   refine pF rfl ?_
   refine wpD_exit ?_
   refine hK1a _ _ _ ?_
   clear hK1b K1b
   rw [List.drop_of_length_le (by rw [List.length_take]; omega)] at hF
   (refine Qf fun K hK => ?_; refine dR fun KT hKT => ?_; ((repeat (rw [Qh]; simp)); (try simp only [Qm])))
   refine cYp (h) ?_
   ((try simp only [Qn, Qo, Ql, Qi, Qk]); (repeat (rw [Qh]; simp)); (try simp only [Qm]))
   refine cYp (h2) ?_
   ((try simp only [Qn, Qo, Ql, Qi, Qk]); (repeat (rw [Qh]; simp)); (try simp only [Qm]))
   (refine hKT _ _ _ _ (by kernel_rfl) ?_; clear hKT KT; (try simp only [zs]))
   (refine hK _ _ _ ?_; clear hK K)
   (refine Qj ?_; (try simp only [zs]); refine Wc.ret rfl (.inl ?_); simp [Qp, Out.fgt, D.fgt, D.fgts])
   rw [hF, hg]; simp
theorem right7_spec {l : List C} (hcs : okCs l) {n sc : Int} {t : T} (ht : okT t) : Qt Tryz.prog glob 17 [Cs l, .int .i64 n, .int .i64 sc, Qv t] [] (fun o _ => o.fgt = .ret (.bool (rightL l n sc t))) := by
 have co := consts_spec l hcs.len
 have hll := hcs.len
 unfold Wd at hll
 have hclen : (l.map C.lv).length <= Wd := by rw [List.length_map]; exact hcs.len
 have hE : ∀ c, encC c = .agg [.int .i64 c.lv, .int .i64 c.ty.k, .int .i64 c.ty.n, .int .i64 c.ty.a, .slice (c.ty.ls.map Wp) .any, .slice (c.ty.ks.map Qv) .any, .bool c.has, .int .i64 c.bo.k, .int .i64 c.bo.n, .int .i64 c.bo.a, .slice (c.bo.ls.map Wp) .any, .slice (c.bo.ks.map Qv) .any] := fun c => encC_eq c
 have hrb : ∀ c, c ∈ l -> Qt Tryz.prog glob 52 [.int .i64 c.lv, .int .i64 0, Ints (l.map C.lv), Qv c.bo] [] (fun o _ => o.fgt = .ret (.bool (rightB c.lv 0 (l.map C.lv) c.bo))) := fun c hc => coreRight_spec c.lv 0 _ c.bo hclen (hcs.ok c hc).2.2
 have hrt := coreRight_spec n sc _ t hclen ht
 obtain ⟨R, hR⟩ : ∃ R, R = rightL l n sc t := ⟨_, rfl⟩
 rw [<- hR]
 unfold rightL at hR
 generalize l.map C.lv = cs at co hclen hrb hrt hR
 have hEt := Qd t
 rw [hEt] at hrt
 generalize rightB n sc cs t = rr at hrt hR
 unfold Ints at co hrb hrt
 unfold Cs at co
 unfold Cs
 rw [hEt]
 refine Qt.movd Qe (Qq Wb Tryz.func17 rfl (Qy _ _ Tryz.func17 rfl (by decide)) rfl rfl ?_)
 (refine sR fun K hK => ?_; ((repeat (rw [Qa]; simp)); (try simp only [zs])); refine hK _ _ _ ?_; clear hK K)
 (refine sR fun K hK => ?_; ((repeat (rw [Qa]; simp)); (try simp only [zs])))
 refine cXp (co) ?_
 ((try simp only [Qb, Qc, Ql, Qi, Qk]); (repeat (rw [Qa]; simp)); (try simp only [zs]))
 (refine hK _ _ _ ?_; clear hK K)
 clear co
 refine Qf fun K1 hK1 => ?_
 (refine sR fun K hK => ?_; ((repeat (rw [Qa]; simp)); (try simp only [zs])); refine hK _ _ _ ?_; clear hK K)
 refine Xh ?_
 refine wpD_loopWJ [8, 13, 14, 15, 16, 17, 18, 19, 20, 21, 22, 23, 24, 25, 26, 27, 28, 29, 30, 31, 32, 33, 34, 35, 36, 37, 38, 39, 40, 41, 42, 43, 44, 45, 46, 47, 48, 49, 50, 51, 52, 53, 54] [10] (fun n ys hl => ∃ (k : Nat), ys = [.int .i64 k] /\ n + k = l.length /\ R = ((l.drop k).all (conR cs) && rr) /\ hl = [.cells 27 [.int .i64 t.k, .int .i64 t.n, .int .i64 t.a, .slice (t.ls.map Wp) .any, .slice (t.ks.map Qv) .any]]) (l.length) (by kernel_rfl) ?_ ?_
 ·exact ⟨0, rfl, rfl, hR, rfl⟩
 ·rintro n1 ys hl A1 hA1 ⟨i, rfl, hn1, hF, rfl⟩
  have hA := hA1
  simp only [Qr, List.set, List.map_cons, List.map_nil, List.cons_append, List.nil_append]
  refine Qf fun K2 hK2 => ?_
  by_cases hi : i < l.length
  ·have hi' : (i : Int) < l.length := by omega
   rw [List.drop_eq_getElem_cons hi, List.all_cons] at hF
   have hrx := hrb l[i] (List.getElem_mem hi)
   obtain ⟨x, hx⟩ : ∃ x, l[i] = x := ⟨_, rfl⟩
   rw [hx] at hrx hF
   have hEx := hE x
   have hEb := Qd x.bo
   rw [hEb] at hrx
   unfold conR at hF
   rw [show (fun c : C => !(decide (c.lv < 0) || decide (8 < c.lv) || (c.has && !(rightB c.lv 0 cs c.bo)))) = conR cs from rfl] at hF
   generalize rightB x.lv 0 cs x.bo = rx at hrx hF
   (refine sR fun K hK => ?_; ((repeat (rw [Qa]; simp [hi, hi'])); (try simp only [zs])); refine hK _ _ _ ?_; clear hK K)
   refine pT rfl ?_
   refine Qs (hK2 _ _ _ ?_)
   clear hK2 K2
   refine Qf fun K3 hK3 => ?_
   refine Xh ?_
   have hw1 : IntKind.i64.wrap ((i : Int) + 1) = (i : Int) + 1 := i64w (by omega) (by omega)
   by_cases g1 : x.lv < 0
   ·(refine Qf fun K hK => ?_; refine dR fun KT hKT => ?_; ((repeat (rw [Qh]; simp [hi, hi', hx, hEx, g1])); (try simp only [Qm])))
    (refine hKT _ _ _ _ (by kernel_rfl) ?_; clear hKT KT; (try simp only [zs]))
    (refine hK _ _ _ ?_; clear hK K)
    refine pT rfl ?_
    (refine sR fun K hK => ?_; ((repeat (rw [Qa]; simp)); (try simp only [zs])); refine hK _ _ _ ?_; clear hK K)
    (refine Qj ?_; (try simp only [zs]); refine Wc.ret rfl (.inl ?_); simp [Qp, Out.fgt, D.fgt, D.fgts])
    rw [hF]; simp [g1]
   by_cases g2 : 8 < x.lv
   ·(refine Qf fun K hK => ?_; refine dR fun KT hKT => ?_; ((repeat (rw [Qh]; simp [hi, hi', hx, hEx, g1, g2])); (try simp only [Qm])))
    (refine hKT _ _ _ _ (by kernel_rfl) ?_; clear hKT KT; (try simp only [zs]))
    (refine hK _ _ _ ?_; clear hK K)
    refine pT rfl ?_
    (refine sR fun K hK => ?_; ((repeat (rw [Qa]; simp)); (try simp only [zs])); refine hK _ _ _ ?_; clear hK K)
    (refine Qj ?_; (try simp only [zs]); refine Wc.ret rfl (.inl ?_); simp [Qp, Out.fgt, D.fgt, D.fgts])
    rw [hF]; simp [g1, g2]
   cases hh : x.has with
   | true =>
    rw [hh] at hEx hF
    cases rx with
    | false =>
     (refine Qf fun K hK => ?_; refine dR fun KT hKT => ?_; ((repeat (rw [Qh]; simp [hi, hi', hx, hEx, g1, g2])); (try simp only [Qm])))
     refine cYp (hrx) ?_
     ((try simp only [Qn, Qo, Ql, Qi, Qk]); (repeat (rw [Qh]; simp [hi, hi', hx, hEx, g1, g2])); (try simp only [Qm]))
     (refine hKT _ _ _ _ (by kernel_rfl) ?_; clear hKT KT; (try simp only [zs]))
     (refine hK _ _ _ ?_; clear hK K)
     refine pT rfl ?_
     (refine sR fun K hK => ?_; ((repeat (rw [Qa]; simp)); (try simp only [zs])); refine hK _ _ _ ?_; clear hK K)
     (refine Qj ?_; (try simp only [zs]); refine Wc.ret rfl (.inl ?_); simp [Qp, Out.fgt, D.fgt, D.fgts])
     rw [hF]; simp [g1, g2]
    | true =>
     (refine Qf fun K hK => ?_; refine dR fun KT hKT => ?_; ((repeat (rw [Qh]; simp [hi, hi', hx, hEx, g1, g2])); (try simp only [Qm])))
     refine cYp (hrx) ?_
     ((try simp only [Qn, Qo, Ql, Qi, Qk]); (repeat (rw [Qh]; simp [hi, hi', hx, hEx, g1, g2])); (try simp only [Qm]))
     (refine hKT _ _ _ _ (by kernel_rfl) ?_; clear hKT KT; (try simp only [zs]))
     (refine hK _ _ _ ?_; clear hK K)
     refine pF rfl ?_
     refine Qs (hK3 _ _ _ ?_)
     clear hK3 K3
     (refine Qz Wb ?_; ((repeat (rw [Qa]; simp [hw1])); (try simp only [zs])))
     refine hA (n1 - 1) _ _ _ (LeT.refl _) (by omega) (by kernel_rfl) ?_
     exact ⟨i + 1, rfl, by omega, by rw [hF]; simp [g1, g2], rfl⟩
   | false =>
    rw [hh] at hEx hF
    (refine Qf fun K hK => ?_; refine dR fun KT hKT => ?_; ((repeat (rw [Qh]; simp [hi, hi', hx, hEx, g1, g2])); (try simp only [Qm])))
    (refine hKT _ _ _ _ (by kernel_rfl) ?_; clear hKT KT; (try simp only [zs]))
    (refine hK _ _ _ ?_; clear hK K)
    refine pF rfl ?_
    refine Qs (hK3 _ _ _ ?_)
    clear hK3 K3
    (refine Qz Wb ?_; ((repeat (rw [Qa]; simp [hw1])); (try simp only [zs])))
    refine hA (n1 - 1) _ _ _ (LeT.refl _) (by omega) (by kernel_rfl) ?_
    exact ⟨i + 1, rfl, by omega, by rw [hF]; simp [g1, g2], rfl⟩
  ·have hi' : ¬ (i : Int) < l.length := by omega
   (refine sR fun K hK => ?_; ((repeat (rw [Qa]; simp [hi, hi'])); (try simp only [zs])); refine hK _ _ _ ?_; clear hK K)
   refine pF rfl ?_
   refine wpD_exit ?_
   refine hK1 _ _ _ ?_
   rw [List.drop_of_length_le (by omega)] at hF
   have hF : R = rr := by rw [hF]; simp
   subst hF
   (refine sR fun K hK => ?_; ((repeat (rw [Qa]; simp)); (try simp only [zs])))
   refine cXp (hrt) ?_
   ((try simp only [Qb, Qc, Ql, Qi, Qk]); (repeat (rw [Qa]; simp)); (try simp only [zs]))
   (refine hK _ _ _ ?_; clear hK K)
   (refine Qj ?_; (try simp only [zs]); refine Wc.ret rfl (.inl ?_); simp [Qp, Out.fgt, D.fgt, D.fgts])
theorem step7_spec {l : List C} (hcs : okCs l) (way : List Int) (hwl : way.length <= Wd) : ∀ {t : T}, okT t -> t.nsz <= 600 -> Qt Tryz.prog glob 18 [Cs l, Qv t, Ints way] [] (fun o _ => o.fgt = .ret (Qv (stepW l t way))) := by
 induction way with
 | nil =>
  intro t ht hn
  obtain ⟨c, b, hs⟩ := hstepO_spec hcs ht hn
  rw [stepW]
  generalize stepH l t = u at hs ⊢
  have hEt := Qd t
  have hEu := Qd u
  rw [hEt, hEu] at hs
  rw [hEt, hEu]
  unfold Cs at hs
  unfold Cs Ints
  simp only [List.map_nil]
  refine Qt.movd Qe (Qq Wb Tryz.func18 rfl (Qy _ _ Tryz.func18 rfl (by decide)) rfl rfl ?_)
  (refine sR fun K hK => ?_; ((repeat (rw [Qa]; simp)); (try simp only [zs])); refine hK _ _ _ ?_; clear hK K)
  refine Qf fun K1 hK1 => ?_
  (refine sR fun K hK => ?_; ((repeat (rw [Qa]; simp)); (try simp only [zs])); refine hK _ _ _ ?_; clear hK K)
  refine pT rfl ?_
  (refine sR fun K hK => ?_; ((repeat (rw [Qa]; simp)); (try simp only [zs])))
  refine cXp (hs) ?_
  ((try simp only [Qb, Qc, Ql, Qi, Qk]); (repeat (rw [Qa]; simp)); (try simp only [zs]))
  (refine hK _ _ _ ?_; clear hK K)
  (refine sR fun K hK => ?_; ((repeat (rw [Qa]; simp)); (try simp only [zs])); refine hK _ _ _ ?_; clear hK K)
  (refine Qj ?_; (try simp only [zs]); refine Wc.ret rfl (.inl ?_); simp [Qp, Out.fgt, D.fgt, D.fgts])
 | cons w r ih =>
  intro t ht hn
  have hr : r.length + 1 <= Wd := by simpa using hwl
  have hw0 : ¬ ((r.length : Int) + 1 = 0) := by omega
  rw [stepW]
  cases hks : t.ks with
  | nil =>
   rw [if_pos rfl]
   obtain ⟨c, b, hs⟩ := hstepO_spec hcs ht hn
   generalize stepH l t = u at hs ⊢
   have hEt := Qd t
   have hEu := Qd u
   rw [hks] at hEt
   rw [hEt, hEu] at hs
   rw [hEt, hEu]
   unfold Cs at hs
   unfold Cs Ints
   simp only [List.map_nil, List.map_cons] at hs ⊢
   refine Qt.movd Qe (Qq Wb Tryz.func18 rfl (Qy _ _ Tryz.func18 rfl (by decide)) rfl rfl ?_)
   (refine sR fun K hK => ?_; ((repeat (rw [Qa]; simp)); (try simp only [zs])); refine hK _ _ _ ?_; clear hK K)
   refine Qf fun K1 hK1 => ?_
   (refine sR fun K hK => ?_; ((repeat (rw [Qa]; simp [hw0])); (try simp only [zs])); refine hK _ _ _ ?_; clear hK K)
   refine pT rfl ?_
   (refine sR fun K hK => ?_; ((repeat (rw [Qa]; simp)); (try simp only [zs])))
   refine cXp (hs) ?_
   ((try simp only [Qb, Qc, Ql, Qi, Qk]); (repeat (rw [Qa]; simp)); (try simp only [zs]))
   (refine hK _ _ _ ?_; clear hK K)
   (refine sR fun K hK => ?_; ((repeat (rw [Qa]; simp)); (try simp only [zs])); refine hK _ _ _ ?_; clear hK K)
   (refine Qj ?_; (try simp only [zs]); refine Wc.ret rfl (.inl ?_); simp [Qp, Out.fgt, D.fgt, D.fgts])
  | cons y ys =>
   rw [if_neg (by simp)]
   have hkl : (y :: ys).length <= Wd := by rw [<- hks]; exact ht.kl
   have hys : ys.length + 1 <= Wd := by simpa using hkl
   have hn1 : 1 <= (y :: ys).length := by simp
   have hpk := pick_spec w (y :: ys).length hn1 (by unfold Wd at hkl; exact hkl)
   have hlt := (pickN_lt w hn1).1
   generalize pickN w (y :: ys).length = i at hpk hlt ⊢
   have hlt' : (i : Int) < ((y :: ys).length : Nat) := by omega
   have hkid : t.kid i = (y :: ys)[i] := by unfold T.kid; rw [hks, List.getD_eq_getElem?_getD, List.getElem?_eq_getElem hlt]; rfl
   have hrec := ih (by omega) (kid_ok ht i) (by
    have hm : t.kid i ∈ t.ks := by rw [hkid, hks]; exact List.getElem_mem hlt
    cases t with
    | mk k n a ls ks => have := T.nszs_mem (show T.kid (.mk k n a ls ks) i ∈ ks from hm); rw [T.nsz] at hn; omega)
   obtain ⟨z, hz⟩ : ∃ z, (y :: ys)[i] = z := ⟨_, rfl⟩
   have hEset : Qv (t.setK i (stepW l (t.kid i) r)) = .agg [.int .i64 t.k, .int .i64 t.n, .int .i64 t.a, .slice (t.ls.map Wp) .any, .slice (((y :: ys).map Qv).set i (Qv (stepW l (t.kid i) r))) .any] := by
    unfold T.setK
    rw [encT_mk', List.map_set, hks]
   rw [hEset]
   rw [hkid, hz] at hrec ⊢
   generalize stepW l z r = u at hrec ⊢
   have hEt := Qd t
   have hEz := Qd z
   have hEu := Qd u
   rw [hks] at hEt
   rw [hEz, hEu] at hrec
   rw [hEt]
   unfold Cs Ints at hrec
   unfold Cs Ints
   generalize hkk : y :: ys = kk at hpk hlt hlt' hz hkl ⊢
   have hkk0 : ¬ (kk.length : Int) = 0 := by omega
   have hkk1 : ¬ kk = [] := by rw [<- hkk]; simp
   have hget : (Qv y :: ys.map Qv)[i]? = some (Qv z) := by
    subst hkk
    rw [<- List.map_cons, List.getElem?_map, List.getElem?_eq_getElem hlt, hz]
    rfl
   refine Qt.movd Qe (Qq Wb Tryz.func18 rfl (Qy _ _ Tryz.func18 rfl (by decide)) rfl rfl ?_)
   (refine sR fun K hK => ?_; ((repeat (rw [Qa]; simp)); (try simp only [zs])); refine hK _ _ _ ?_; clear hK K)
   refine Qf fun K1 hK1 => ?_
   (refine sR fun K hK => ?_; ((repeat (rw [Qa]; simp [hw0, hkk0, hkk1])); (try simp only [zs])); refine hK _ _ _ ?_; clear hK K)
   refine pF rfl ?_
   refine Qs (hK1 _ _ _ ?_)
   clear hK1 K1
   (refine Qf fun K hK => ?_; refine dR fun KT hKT => ?_; ((repeat (rw [Qh]; simp)); (try simp only [Qm])))
   refine cYp (hpk) ?_
   ((try simp only [Qn, Qo, Ql, Qi, Qk]); (repeat (rw [Qh]; simp)); (try simp only [Qm]))
   (refine hKT _ _ _ _ (by kernel_rfl) ?_; clear hKT KT; (try simp only [zs]))
   (refine hK _ _ _ ?_; clear hK K)
   (refine sR fun K hK => ?_; ((repeat (rw [Qa]; simp)); (try simp only [zs])); refine hK _ _ _ ?_; clear hK K)
   subst hkk
   refine Qf fun K hK => ?_
   refine wpD_regionO Wb 1 37 5 ?_
   simp only [List.take_succ_cons, List.take_zero, List.drop_succ_cons, List.drop_zero]
   ((try simp only [Qb, Qc, Ql, Qi, Qk]); (repeat (rw [Qa]; simp)); (try simp only [zs]))
   simp [D.ownd]
   ((try simp only [Qb, Qc, Ql, Qi, Qk]); (repeat (rw [Qa]; simp [hys])); (try simp only [zs]))
   (refine hK _ _ _ ?_; clear hK K)
   rw [hEz] at hget
   have hi2 : i < ys.length + 1 := by simpa using hlt
   have hi2' : (i : Int) < (ys.length : Int) + 1 := by omega
   have htk : List.take r.length (List.map (D.int .i64) r) = List.map (D.int .i64) r := List.take_of_length_le (by simp)
   have hgl : i < (Qv y :: ys.map Qv).length := by simpa using hi2
   have hget2 : (Qv y :: ys.map Qv)[i]'hgl = .agg [.int .i64 z.k, .int .i64 z.n, .int .i64 z.a, .slice (z.ls.map Wp) .any, .slice (z.ks.map Qv) .any] := by
    rw [List.getElem?_eq_getElem hgl] at hget
    exact Option.some.inj hget
   (refine Qf fun K hK => ?_; refine dR fun KT hKT => ?_; ((repeat (rw [Qh]; simp [hget2, hi2, hi2'])); (try simp only [Qm])))
   refine CallY.pure Qe (hrec) ?_ (by simp [D.fgts, D.fgt, htk]) (by simp [D.pures, D.pure, Cp.free, D.pures_map, htk]) (by simp [Out.pure, D.pure, D.pures, Cp.free, D.pures_map, htk])
   ((try simp only [Qn, Qo, Ql, Qi, Qk]); (repeat (rw [Qh]; simp [hget2, hi2, hi2'])); (try simp only [Qm]))
   (refine hKT _ _ _ _ (by kernel_rfl) ?_; clear hKT KT; (try simp only [zs]))
   (refine hK _ _ _ ?_; clear hK K)
   (refine wpD_stayO 4 rfl ?_; simp [D.frzs, D.frz, HO.frz, dfFrz, FK.isB, FK.isM, FK.isO, D.isLen])
   (refine sR fun K hK => ?_; ((repeat (rw [Qa]; simp)); (try simp only [zs])); refine hK _ _ _ ?_; clear hK K)
   (refine Qj ?_; (try simp only [zs]); refine Wc.ret rfl (.inl ?_); simp [Qp, Out.fgt, D.fgt, D.fgts])
   rw [reD_term, <- hEu]
theorem cores_law7 : ∀ (l : List C) (s : Int), 0 <= s -> s + (cosz l : Int) <= QB -> s <= cntF coSt7 300 l s /\ cntF coSt7 300 l s <= s + (cosz l : Int) /\ (cntF coSt7 300 l s <= 300 -> cntF coSt7 300 l s = s + (cosz l : Int))
 | [], s, h0, h1 => by simp only [cntF, cosz]; omega
 | c :: r, s, h0, h1 => by
  rw [cntF]
  rw [cosz] at h1 ⊢
  split
  ·rename_i hs
   have h2 := h1
   unfold QB at h2
   have hq : (0 : Int) <= 300 /\ (300 : Int) <= QB := ⟨by omega, by unfold QB; omega⟩
   obtain ⟨a1, a2, a3⟩ := tof_law c.ty 300 (by unfold QB; omega) hq
   obtain ⟨c1, c2, c3⟩ := tof_law c.bo 300 (by unfold QB; omega) hq
   have e : coSt7 c s = s + 1 + c.ty.tof 300 + c.bo.tof 300 := by
    unfold coSt7
    rw [i64w (n := s + 1) (by omega) (by omega), i64w (n := s + 1 + c.ty.tof 300) (by omega) (by omega), i64w (by omega) (by omega)]
   rw [e]
   obtain ⟨b1, b2, b3⟩ := cores_law7 r (s + 1 + c.ty.tof 300 + c.bo.tof 300) (by omega) (by unfold QB; omega)
   refine ⟨by omega, by omega, fun h => ?_⟩
   have := b3 h
   have := a3 (by omega)
   have := c3 (by omega)
   omega
  ·omega
theorem small7_of {l : List C} {t : T} (hq : (cosz l : Int) <= QB) (ht : (t.tsz : Int) < QB) (h4 : ¬ IntKind.i64.wrap (cntF coSt7 300 l 0 + t.tof 300) > 300) : t.nsz <= 300 := by
 have hq6 : (0 : Int) <= 300 /\ (300 : Int) <= QB := ⟨by omega, by unfold QB; omega⟩
 obtain ⟨a1, a2, a3⟩ := tof_law t 300 (by omega) hq6
 obtain ⟨b1, b2, b3⟩ := cores_law7 l 0 (by omega) (by omega)
 have hq' := hq
 unfold QB at hq' ht
 have h5 : cntF coSt7 300 l 0 + t.tof 300 <= 300 := by
  generalize cntF coSt7 300 l 0 = x at h4 b1 b2 ⊢
  generalize t.tof 300 = y at h4 a1 a2 ⊢
  rw [i64w (by omega) (by omega)] at h4
  omega
 have h6 := a3 (by omega)
 have := nsz_tsz t
 omega
end Go.Proofs.YtgloldepdhgfaaaGreatDoor
namespace Go.Proofs.YtgloldepdhgfaaaGreatDoor
set_option linter.unusedSimpArgs false
set_option linter.unusedVariables false
open Go.RowKit
def Fr (r : Option Nat) : Fence := { Fence.wide with round := r }
theorem callsIn_fr {r : Option Nat} {n : Nat} {P : Program} {f : FuncId} {args : Array Value} {w : World} {R : Ending -> World -> Prop} (h : Calls P f args w R) : CallsIn (Fr r) n P f args w R := by
 have := (callsIn_wide (n := n)).2 h
 exact this
structure St (G : Nat -> Option D) (ρ0 : Rho) (w0 : World) (H0 : Nat -> HO) (nt : Nat) (ds : List Deferred) (ρ : Rho) (w : World) (a : Act) (t : Nat -> D) (h : Nat -> HO) : Prop where
 rel : Rel G ρ w h
 ex : Ex ρ0 w0 H0 ρ w h
 tmp : ∀ k, Rp ρ w (t k) (a.tmps.getD k undef)
 size : a.tmps.size = nt
 df : a.defers = ds
section
variable {P : Program} {G : Nat -> Option D} {T : TypeId -> Ty} {ops : Array Oper} {ρ0 : Rho} {w0 : World} {H0 : Nat -> HO} {ds : List Deferred}
theorem St.put {ρ ρ' : Rho} {w w' : World} {tl : List D} {hl : List HO} {a : Act} {d : D} {u : Value} {up : List (Nat × HO)} (h : St G ρ0 w0 H0 tl.length ds ρ w a (Qp tl) (hOf hl)) (dst : Option Tmp)
  (hu : Rp ρ' w' d u) (hR : Rel G ρ' w' (updL (hOf hl) up)) (hE : Ex ρ w (hOf hl) ρ' w' (updL (hOf hl) up)) : St G ρ0 w0 H0 (Ql tl dst d).length ds ρ' w' (a.put dst u) (Qp (Ql tl dst d)) (hOf (Qi hl up)) := by
 rw [hOf_upd]
 refine ⟨hR, h.ex.trans hE, tmOf_put h.size hE.grow h.tmp hu, by rw [Act.put_size, Xa]; exact h.size, ?_⟩
 have := h.df
 cases dst <;> simpa [Act.put] using this
theorem wpS_soundF (hT : ∀ t, Qw P t (T t)) {r : Option Nat} {n : Nat} {Q : Exit -> Act -> World -> Prop} (l2 : List Oper) : ∀ (l : List Oper) (tl : List D) (hl : List HO) (K : List D -> List HO -> Df -> Prop), (∀ o, o ∈ l -> ∀ c, o.op ≠ .defer c) -> wpS P G T ops l tl hl [] K (fun _ _ _ _ => False) ->
  (∀ tl' hl' ρ w a, K tl' hl' [] -> tl'.length = tl.length -> St G ρ0 w0 H0 tl.length ds ρ w a (Qp tl') (hOf hl') -> wpListIn (Fr r) n P ops Q l2 a w) ->
  ∀ ρ w a, St G ρ0 w0 H0 tl.length ds ρ w a (Qp tl) (hOf hl) -> wpListIn (Fr r) n P ops Q (l ++ l2) a w
 | [], tl, hl, K, _, h, hK, ρ, w, a, hst => hK tl hl ρ w a h rfl hst
 | o :: rs, tl, hl, K, hnd, h, hK, ρ, w, a, hst => by
  have hu : ∀ t, t ∈ Oper.looksAt ops o -> Rp ρ w (Qp tl t) (a.tmps.getD t undef) := fun t _ => hst.tmp t
  have hsem : Oper.semAt (Fr r).round a.eval o = execOp a.eval o := Oper.semAt_eq _ _ _ (hnd o (List.mem_cons_self ..))
  have hnd2 : ∀ o, o ∈ rs -> ∀ c, o.op ≠ .defer c := fun x hx => hnd x (List.mem_cons_of_mem _ hx)
  rw [List.cons_append, wpListIn]
  rw [wpS] at h
  cases hw : Xd ops (Qp tl) o with
  | none => rw [hw] at h; exact h.elim
  | some g =>
   rw [hw] at h
   dsimp only at h
   rw [wantD_spec hw hu]
   cases g with
   | false =>
    simp only [Bool.false_eq_true, if_false] at h ⊢
    refine ⟨fun _ _ => trivial, ?_⟩
    refine wpS_soundF hT l2 rs _ _ K hnd2 h (fun tl' hl' ρ w a k1 k2 k3 => ?_) ρ w _ (hst.put o.dst (up := []) (ρ' := ρ) (w' := w) (by rw [Rp]; exact ⟨[], rfl, Wq.2 rfl⟩) hst.rel (Ex.refl _ _ _))
    rw [Xa] at k2 k3; exact hK _ _ _ _ _ k1 k2 k3
   | true =>
    simp only [if_true] at h ⊢
    refine ⟨fun _ _ => trivial, ?_⟩
    rw [hsem]
    cases hev : Xm T (opD G (Qp tl)) (hOf hl) hl.length o with
    | none => rw [hev] at h; exact h.elim
    | some x =>
     rw [hev] at h
     cases x with
     | val d rd up =>
      dsimp only at h
      obtain ⟨m, u, ρ', w', h1, h2, h3, h4, h5⟩ := evOp_val (P := P) (fun _ => rfl) hT hev hst.rel (fun _ _ => rfl) (fun x hx => opD_rp hst.rel hu x hx)
      rw [h1]
      have fin : wpListIn (Fr r) n P ops Q (rs ++ l2) (a.put o.dst u) w' := by
       refine wpS_soundF hT l2 rs _ _ K hnd2 h (fun tl' hl' ρ w a k1 k2 k3 => ?_) ρ' w' _ (hst.put o.dst h3 h4 h5)
       rw [Xa] at k2 k3; exact hK _ _ _ _ _ k1 k2 k3
      rcases h2 with rfl | ⟨rfl, rfl⟩
      ·exact fin
      ·exact fin
     | call f args =>
      dsimp only at h
      obtain ⟨Φ, hc, h0⟩ := h
      obtain ⟨vs, h1, h2⟩ := evOp_call (P := P) (ρ := ρ) (w := w) (v := a.eval) hev (fun x hx => opD_rp hst.rel hu x hx)
      obtain ⟨h3, h4⟩ := hc ρ w vs hst.rel h1
      rw [h2 w, h3, Oper.uponIn_enter]
      refine ⟨fun hh => by simp [Fr, Fence.wide] at hh, callsIn_fr (h4.mono ?_)⟩
      rintro e w' ⟨ρ', out, up, hphi, g1, g2, g3⟩
      have h := h0 out up hphi
      cases out with
      | ret d =>
       obtain ⟨u, rfl, g4⟩ := g3
       dsimp only at h ⊢
       refine wpS_soundF hT l2 rs _ _ K hnd2 h (fun tl' hl' ρ w a k1 k2 k3 => ?_) ρ' w' _ (hst.put o.dst g4 g1 g2)
       rw [Xa] at k2 k3; exact hK _ _ _ _ _ k1 k2 k3
      | pan d => exact h.elim
     | bit =>
      dsimp only at h
      obtain ⟨b, m, u, ρ', w', h1, h2, h3, h4, h5⟩ := evOp_bit (P := P) (fun _ => rfl) hT hev hst.rel (fun x hx => opD_rp hst.rel hu x hx)
      rw [h1]
      have fin : wpListIn (Fr r) n P ops Q (rs ++ l2) (a.put o.dst u) w' := by
       refine wpS_soundF hT l2 rs _ _ K hnd2 (h b) (fun tl' hl' ρ w a k1 k2 k3 => ?_) ρ' w' _ (hst.put o.dst h3 h4 h5)
       rw [Xa] at k2 k3; exact hK _ _ _ _ _ k1 k2 k3
      rcases h2 with rfl | ⟨rfl, rfl⟩
      ·exact fin
      ·exact fin
     | pan d => exact h.elim
     | dfr f cap =>
      exfalso
      obtain ⟨vs, h1, h2⟩ := evOp_dfr (P := P) (ρ := ρ) (w := w) (v := a.eval) hev (fun x hx => opD_rp hst.rel hu x hx)
      unfold Xm at hev
      cases ho : o.op <;> rw [ho] at hev <;> try dsimp only at hev
      case defer c => exact hnd o (List.mem_cons_self ..) c ho
      case makeMap t r => cases r <;> dsimp only at hev <;> (repeat' (first | (cases hev; done) | split at hev))
      all_goals (repeat' (first | (cases hev; done) | (simp only [Option.bind_eq_some_iff] at hev; obtain ⟨_, _, hev⟩ := hev) | split at hev))
theorem wpIn_regionF (hT : ∀ t, Qw P t (T t)) {r : Option Nat} {n id nt : Nat} {Q : Exit -> Act -> World -> Prop} {tl : List D} {hl : List HO} {K : List D -> List HO -> Df -> Prop} (hnd : ∀ o, o ∈ ops.toList -> ∀ c, o.op ≠ .defer c) 
  (h : wpS P G T ops ops.toList tl hl [] K (fun _ _ _ _ => False)) (hK : ∀ tl' hl' ρ w a, K tl' hl' [] -> tl'.length = nt -> St G ρ0 w0 H0 nt ds ρ w a (Qp tl') (hOf hl') -> Q .normal a w)
  {ρ : Rho} {w : World} {a : Act} (hst : St G ρ0 w0 H0 nt ds ρ w a (Qp tl) (hOf hl)) (hnt : tl.length = nt) : (Code.region id ops false).wpIn (Fr r) n P Q a w := by
 subst hnt
 refine wpIn_region_list ?_
 have := wpS_soundF hT (r := r) (n := n) (Q := Q) [] ops.toList tl hl K hnd h (fun tl' hl' ρ w a k1 k2 k3 => hK tl' hl' ρ w a k1 k2 k3) ρ w a hst
 rwa [List.append_nil] at this
theorem St.over {ρ : Rho} {w w' : World} {nt : Nat} {a : Act} {t : Nat -> D} {h : Nat -> HO} {c' : Nat -> Option Nat} (hs : St G ρ0 w0 H0 nt ds ρ w a t h) (hw : Below w.heap.size w w') (hc : ∀ b, b < w.heap.size -> c' b = ρ.c b) (hf : ∀ b, w'.heap.size <= b -> c' b = none) :
  Rel G ⟨c', ρ.nm⟩ w' h /\ Ex ρ w h ⟨c', ρ.nm⟩ w' h := by
 have g : Grow ρ w ⟨c', ρ.nm⟩ w' := ⟨hw.os, hw.tape, hw.output, hw.size, fun b hb h1 => ⟨(hc b hb).trans h1, hw.block b hb⟩, fun b k hb h1 => ⟨.inl ⟨k, (hc b hb).trans h1, Nat.le_refl _⟩, fun vs ty fz h2 => ⟨vs, (hw.block b hb).trans h2, rfl, fun _ _ => rfl⟩⟩, fun _ _ h => h⟩
 have hR := hs.rel
 refine ⟨⟨hR.free, hf, fun i b f h1 => ?_, hR.inj, fun gg d hd => (hR.glob gg d hd).grow g⟩, ⟨g, fun b hb _ => ⟨hw.block b hb, hc b hb⟩, fun b hl _ => hl⟩⟩
 have h3 := hR.obj i b f h1
 show ObjAt _ w' b f (h i)
 cases hlv : (h i).live with
 | false =>
  revert hlv h3; generalize h i = ho; intro h3 hlv
  cases ho <;> first | exact trivial | cases hlv
 | true =>
  have hb := h3.lt hlv
  exact h3.keep g (hw.block b hb) (hc b hb)
end
end Go.Proofs.YtgloldepdhgfaaaGreatDoor
namespace Go.Proofs.YtgloldepdhgfaaaGreatDoor
set_option linter.unusedSimpArgs false
set_option linter.unusedVariables false
set_option linter.unusedSimpArgs false
set_option linter.unusedVariables false
set_option maxHeartbeats 10000000
set_option maxRecDepth 20000
open Go.RowKit
attribute [local simp] Qb Qc Xd Xm opD Qp Ql Qi Qk hOf Wz Xn Xk TK.isAgg TK.known Xf Xe Wt Qr D.ofV inB Wm Xc binX binD binE Xl bndD capB IntKind.min IntKind.max IntKind.signed IntKind.bits Wx late
mutual
def T.subs : T -> List T
 | .mk k n a ls ks => .mk k n a ls ks :: T.subss ks
def T.subss : List T -> List T
 | [] => []
 | t :: r => t.subs ++ T.subss r
end
theorem subs_eq (t : T) : t.subs = t :: T.subss t.ks := by cases t; rw [T.subs]; rfl
theorem mem_subss {s : T} : ∀ {l : List T}, s ∈ T.subss l ↔ ∃ q, q ∈ l /\ s ∈ q.subs
 | [] => by simp [T.subss]
 | t :: r => by rw [T.subss, List.mem_append, mem_subss (l := r)]; simp
mutual
theorem subs_trans : ∀ (t : T) {s q : T}, q ∈ t.subs -> s ∈ q.subs -> s ∈ t.subs
 | .mk k n a ls ks, s, q, h1, h2 => by
  rw [T.subs, List.mem_cons] at h1
  rcases h1 with rfl | h1
  ·exact h2
  ·rw [T.subs]; exact List.mem_cons_of_mem _ (subss_trans ks h1 h2)
theorem subss_trans : ∀ (l : List T) {s q : T}, q ∈ T.subss l -> s ∈ q.subs -> s ∈ T.subss l
 | [], s, q, h1, h2 => by rw [T.subss] at h1; cases h1
 | t :: r, s, q, h1, h2 => by
  rw [T.subss, List.mem_append] at h1 ⊢
  rcases h1 with h1 | h1
  ·exact .inl (subs_trans t h1 h2)
  ·exact .inr (subss_trans r h1 h2)
end
theorem kid_subs {t q : T} (h : q ∈ t.ks) : q ∈ t.subs := by
 rw [subs_eq]
 exact List.mem_cons_of_mem _ (mem_subss.2 ⟨q, h, by rw [subs_eq]; exact List.mem_cons_self ..⟩)
structure Kept (l : Nat) (w w' : World) : Prop where
 os : w'.os = w.os
 tape : w'.tape = w.tape
 output : w'.output = w.output
 size : w.heap.size <= w'.heap.size
 same : ∀ b, b < w.heap.size -> b ≠ l -> w'.heap[b]? = w.heap[b]?
theorem Kept.refl (l : Nat) (w : World) : Kept l w w := ⟨rfl, rfl, rfl, Nat.le_refl _, fun _ _ _ => rfl⟩
theorem Kept.trans {l : Nat} {w w' w'' : World} (h : Kept l w w') (g : Kept l w' w'') : Kept l w w'' :=
 ⟨g.os.trans h.os, g.tape.trans h.tape, g.output.trans h.output, Nat.le_trans h.size g.size, fun b hb hn => (g.same b (Nat.lt_of_lt_of_le hb h.size) hn).trans (h.same b hb hn)⟩
theorem Kept.below {l : Nat} {w w' w'' : World} (h : Kept l w w') (g : Below w.heap.size w' w'') : Kept l w w'' :=
 ⟨g.os.trans h.os, g.tape.trans h.tape, g.output.trans h.output, Nat.le_trans h.size g.size, fun b hb hn => (g.block b hb).trans (h.same b hb hn)⟩
def IterOK (P : Program) (G : Nat -> Option D) (f : FuncId) (caps : List D) (xs : List T) (p : T -> Prop) : Prop :=
 ∀ (l : Nat) (rec : Loop) (ρ : Rho) (W : World) (vs : List Value) (X : World -> Prop), Rel G ρ W (hOf []) -> ρ.c l = some 0 -> l < W.heap.size -> W.heap[l]? = some (.loop rec) -> RpL ρ W caps vs ->
  (∀ W1 W2, X W1 -> Below W.heap.size W1 W2 -> X W2) ->
  (∀ x ρ1 W1 v, x ∈ xs -> Kept l W W1 -> W1.heap[l]? = some (.loop rec) -> (∀ b, b < W.heap.size -> ρ1.c b = ρ.c b) -> (∀ b, W1.heap.size <= b -> ρ1.c b = none) -> Rp ρ1 W1 (Qv x) v ->
   YieldAt (Fr none) 0 P l #[v] W1 fun e W' => (e = .returned (.bool true) /\ p x /\ Kept l W1 W' /\ W'.heap[l]? = some (.loop rec)) \/ (e = .returned (.bool false) /\ X W')) ->
  Calls P f (#[.func (.yield l) #[] #[]] ++ vs.toArray) W fun e W' => (∃ v, e = .returned v) /\ (((∀ x, x ∈ xs -> p x) /\ Kept l W W' /\ W'.heap[l]? = some (.loop rec)) \/ X W')
structure It (l : Nat) (rec : Loop) (ρ0 : Rho) (W : World) (ρ : Rho) (w : World) (h : Nat -> HO) : Prop where
 kept : Kept l W w
 lp : w.heap[l]? = some (.loop rec)
 c : ∀ b, b < W.heap.size -> ρ.c b = ρ0.c b
 live : ∀ b, Live ρ h b -> W.heap.size <= b
section
variable {P : Program} {G : Nat -> Option D} {l : Nat} {rec : Loop} {ρ0 : Rho} {W : World}
theorem It.ex {ρ ρ' : Rho} {w w' : World} {h h' : Nat -> HO} (hi : It l rec ρ0 W ρ w h) (hl : l < W.heap.size) (hE : Ex ρ w h ρ' w' h') : It l rec ρ0 W ρ' w' h' := by
 have hs := hi.kept.size
 have hn : ∀ b, b < W.heap.size -> ¬ Live ρ h b := fun b hb hv => by have := hi.live b hv; omega
 have hf : ∀ b, b < W.heap.size -> w'.heap[b]? = w.heap[b]? /\ ρ'.c b = ρ.c b := fun b hb => hE.frame b (by omega) (hn b hb)
 refine ⟨⟨hE.grow.os.trans hi.kept.os, hE.grow.tape.trans hi.kept.tape, hE.grow.output.trans hi.kept.output, Nat.le_trans hs hE.grow.size, fun b hb hnl => (hf b hb).1.trans (hi.kept.same b hb hnl)⟩, (hf l hl).1.trans hi.lp, fun b hb => (hf b hb).2.trans (hi.c b hb), fun b hv => ?_⟩
 by_cases hb : b < w.heap.size
 ·exact hi.live b (hE.live b hv hb)
 ·omega
theorem It.below {ρ ρ' : Rho} {w w' : World} {h h' : Nat -> HO} (hi : It l rec ρ0 W ρ w h) (hE : Ex ρ w h ρ' w' h') : Below W.heap.size w w' := by
 have hs := hi.kept.size
 exact ⟨hE.grow.os, hE.grow.tape, hE.grow.output, hE.grow.size, fun b hb => (hE.frame b (by omega) (fun hv => by have := hi.live b hv; omega)).1⟩
theorem Kept.rel {ρ : Rho} {w w' : World} {h : Nat -> HO} (hR : Rel G ρ w h) (hk : Kept l w w') (hl : w.heap[l]? = some (.loop rec)) {k : Nat} (hc : ρ.c l = some k) (hn : ¬ Live ρ h l) : Rel G ρ w' h /\ Grow ρ w ρ w' := by
 have g : Grow ρ w ρ w' := ⟨hk.os, hk.tape, hk.output, hk.size, fun b hb h1 => ⟨h1, hk.same b hb (fun e => by subst e; rw [hc] at h1; cases h1)⟩, fun b k hb h1 => ⟨.inl ⟨k, h1, Nat.le_refl _⟩, fun vs ty fz h2 => ⟨vs, (by
  have hb2 : b ≠ l := fun e => by subst e; rw [hl] at h2; cases h2
  exact (hk.same b hb hb2).trans h2), rfl, fun _ _ => rfl⟩⟩, fun _ _ h => h⟩
 refine ⟨⟨hR.free, fun b hb => hR.fresh b (Nat.le_trans hk.size hb), fun i b f h1 => ?_, hR.inj, fun gg d hd => (hR.glob gg d hd).grow g⟩, g⟩
 have h3 := hR.obj i b f h1
 cases hlv : (h i).live with
 | false =>
  revert hlv h3; generalize h i = ho; intro h3 hlv
  cases ho <;> first | exact trivial | cases hlv
 | true =>
  have hb := h3.lt hlv
  exact h3.keep g (hk.same b hb (fun e => hn ⟨i, f, by rw [<- e]; exact h1, hlv⟩)) rfl
theorem st_enter {ρ : Rho} {w : World} {h : Nat -> HO} (hR : Rel G ρ w h) {args : List D} {vs : List Value} (hvs : RpL ρ w args vs) (n : Nat) :
  St G ρ w h (args ++ List.replicate (n - args.length) (D.tuple [])).length [] ρ w { tmps := vs.toArray ++ Array.replicate (n - vs.toArray.size) undef, defers := [] } (Qp (args ++ List.replicate (n - args.length) (D.tuple []))) h := by
 have hlen := hvs.length
 have htl : (vs.toArray ++ Array.replicate (n - vs.toArray.size) undef) = (vs ++ List.replicate (n - args.length) undef).toArray := by
  apply Array.ext'
  simp [hlen]
 rw [htl]
 have hrp : RpL ρ w (args ++ List.replicate (n - args.length) (D.tuple [])) (vs ++ List.replicate (n - args.length) undef) := by
  refine hvs.append ?_
  generalize n - args.length = m
  induction m with
  | zero => exact Wq.2 rfl
  | succ m ih => rw [List.replicate_succ, List.replicate_succ]; exact We.2 ⟨by rw [Rp]; exact ⟨[], rfl, Wq.2 rfl⟩, ih⟩
 refine ⟨hR, Ex.refl _ _ _, fun k => ?_, ?_, rfl⟩
 ·unfold Qp
  rw [Array.getD_eq_getD_getElem?, List.getElem?_toArray]
  cases hk : (args ++ List.replicate (n - args.length) (D.tuple []))[k]? with
  | none => rw [List.getD_eq_getElem?_getD, hk]; show Rp ρ w .junk _; rw [Rp]; trivial
  | some d =>
   obtain ⟨u, h1, h2⟩ := hrp.get hk
   rw [List.getD_eq_getElem?_getD, hk, h1]
   exact h2
 ·simpa using hrp.length
theorem St.le {ρ ρ1 : Rho} {w w1 : World} {H1 : Nat -> HO} {ds : List Deferred} {a : Act} {tl tl' : List D} {h : Nat -> HO} {n m : Nat} (hs : St G ρ1 w1 H1 n ds ρ w a (Qp tl) h) (ht : leT tl' tl) (hn : n = m) : St G ρ w h m ds ρ w a (Qp tl') h := by
 subst hn
 refine ⟨hs.rel, Ex.refl _ _ _, fun k => ?_, hs.size, hs.df⟩
 rcases leT_tm ht k with e | e
 ·rw [e, Rp]; trivial
 ·rw [e]; exact hs.tmp k
theorem St.le0 {ρ ρ1 : Rho} {w w1 : World} {H1 : Nat -> HO} {ds : List Deferred} {a : Act} {tl tl' : List D} {h : Nat -> HO} {n : Nat} (hs : St G ρ1 w1 H1 n ds ρ w a (Qp tl) h) (ht : leT tl' tl) : St G ρ1 w1 H1 n ds ρ w a (Qp tl') h := by
 refine ⟨hs.rel, hs.ex, fun k => ?_, hs.size, hs.df⟩
 rcases leT_tm ht k with e | e
 ·rw [e, Rp]; trivial
 ·rw [e]; exact hs.tmp k
theorem not_op {o : Oper} {v : Operand -> Value} {x : Operand} {t : TypeId} (ho : o.op = .unOp .not t x) {b : Bool} (hx : v x = .bool b) {w : World} : (execOp v o).run P w = .ok (.value (.bool !b)) w := by
 simp [execOp, ho, hx, go_sem]
theorem sl_tok {T : TypeId -> Ty} (hT : ∀ t, Qw P t (T t)) {o : Oper} {v : Operand -> Value} {t el : TypeId} {x lo : Operand} (ho : o.op = .slice t x (some lo) none none) (hlo : v lo = .int .i64 1) (hk : (T t).k = .slice el) (hel : (T el).k.known = true)
  {ρ : Rho} {w : World} {x0 : D} {xs : List D} {c : Cp} (hx : Rp ρ w (.slice (x0 :: xs) c) (v x)) (hc : c = .full \/ ∃ i, c = .tok i) (hsz : ∀ d, d ∈ x0 :: xs -> d.size = (T el).size) (hne : xs ≠ []) :
  ∃ u, (execOp v o).run P w = .ok (.value u) w /\ Rp ρ w (.slice xs c) u := by
 rw [Rp] at hx
 obtain ⟨A, cap, sz, hv, hle, hcm, hll, hs, hcap, hE⟩ := hx
 obtain ⟨it, d, -, -, -, -, -, -, -, g1, g2⟩ := (hT t).info (by rw [hk]; rfl)
 rw [hk] at g2; simp only [KOK] at g2; subst g2
 have hxl : 0 < xs.length := List.length_pos_iff.2 hne
 rw [List.length_cons] at hv hle hll hcap
 have hrunB : (Instr.sliceBounds true (xs.length + 1) cap (some (.int .i64 1)) none none).run P w = .ok (1, xs.length + 1, cap) w := by
  have : 0 <= (1 : Int) /\ (1 : Int) <= ((xs.length + 1 : Nat) : Int) := by omega
  simp [Instr.sliceBounds, Instr.sliceBound, asIntOf, this]
  omega
 have hrun : (Instr.sliceAt t (v x) (some (v lo)) none none).run P w = .ok (.slice (if cap = 1 then A else A.map (·.add (1 * (T el).size))) (xs.length + 1 - 1) (cap - 1)) w := by
  rw [hlo]
  simp [Instr.sliceAt, run_underlying g1, hv, Instr.slice, hrunB, run_sizeOf (hT el) hel]
 refine ⟨.slice (if cap = 1 then A else A.map (·.add (1 * (T el).size))) (xs.length + 1 - 1) (cap - 1), by simp only [execOp, ho, Option.map_some, Option.map_none, Sem.run_bind, hrun, Result.andThen_ok, Sem.run_pure], ?_⟩
 have hcap1 : cap ≠ 1 := by omega
 obtain ⟨b, off, rfl, hEl⟩ := hE (by simp)
 rw [if_neg hcap1, Rp]
 have hsz0 : sz = (T el).size := (hs x0 (List.mem_cons_self ..)).symm.trans (hsz x0 (List.mem_cons_self ..))
 refine ⟨some ⟨b, off + 1 * (T el).size, none⟩, cap - 1, sz, by simp [addr_add], by omega, by omega, by omega, fun d hd => hs d (List.mem_cons_of_mem _ hd), ?_, fun _ => ⟨b, off + 1 * (T el).size, rfl, ?_⟩⟩
 ·rcases hc with rfl | ⟨i, rfl⟩
  ·show cap - 1 = xs.length
   have : cap = xs.length + 1 := hcap
   omega
  ·rcases hcap with hcap | ⟨b', o', f, vs, ty, h0, h1, h2, h3, h4, h5, h6⟩
   ·left; omega
   ·right
    cases h1
    refine ⟨b, off + 1 * (T el).size, f, vs, ty, hxl, rfl, h2, ?_, h4, h5, ?_⟩
    ·rw [<- h3, <- hsz0, Nat.add_mul, Nat.one_mul]; omega
    ·have : cap = (cap - 1) + 1 := by omega
     rw [this, Nat.add_mul] at h6
     rw [<- hsz0]; omega
 ·have := RpE.part hEl hsz 1 (xs.length + 1)
  simpa using this
theorem sl_nil {T : TypeId -> Ty} (hT : ∀ t, Qw P t (T t)) {o : Oper} {v : Operand -> Value} {t el : TypeId} {x lo : Operand} (ho : o.op = .slice t x (some lo) none none) (hlo : v lo = .int .i64 1) (hk : (T t).k = .slice el) (hel : (T el).k.known = true)
  {ρ : Rho} {w : World} {x0 : D} {c : Cp} (hx : Rp ρ w (.slice [x0] c) (v x)) : ∃ u, (execOp v o).run P w = .ok (.value u) w /\ Rp ρ w (.slice [] .any) u := by
 rw [Rp] at hx
 obtain ⟨A, cap, sz, hv, hle, hcm, hll, hs, hcap, hE⟩ := hx
 obtain ⟨it, d, -, -, -, -, -, -, -, g1, g2⟩ := (hT t).info (by rw [hk]; rfl)
 rw [hk] at g2; simp only [KOK] at g2; subst g2
 rw [List.length_singleton] at hv hle hll hcap
 have hrunB : (Instr.sliceBounds true 1 cap (some (.int .i64 1)) none none).run P w = .ok (1, 1, cap) w := by
  simp [Instr.sliceBounds, Instr.sliceBound, asIntOf]
 have hrun : (Instr.sliceAt t (v x) (some (v lo)) none none).run P w = .ok (.slice (if cap = 1 then A else A.map (·.add (1 * (T el).size))) 0 (cap - 1)) w := by
  rw [hlo]
  simp [Instr.sliceAt, run_underlying g1, hv, Instr.slice, hrunB, run_sizeOf (hT el) hel]
 refine ⟨.slice (if cap = 1 then A else A.map (·.add (1 * (T el).size))) 0 (cap - 1), by simp only [execOp, ho, Option.map_some, Option.map_none, Sem.run_bind, hrun, Result.andThen_ok, Sem.run_pure], ?_⟩
 rw [Rp]
 exact ⟨_, cap - 1, sz, rfl, by simp, by omega, by unfold Wd; simp, fun d hd => absurd hd (by simp), trivial, fun h => absurd rfl h⟩
end
end Go.Proofs.YtgloldepdhgfaaaGreatDoor
namespace Go.Proofs.YtgloldepdhgfaaaGreatDoor
set_option linter.unusedSimpArgs false
set_option linter.unusedVariables false
set_option linter.unusedSimpArgs false
set_option linter.unusedVariables false
set_option maxHeartbeats 10000000
set_option maxRecDepth 20000
open Go.RowKit
attribute [local simp] Qb Qc Xd Xm opD Qp Ql Qi Qk hOf Wz Xn Xk TK.isAgg TK.known Xf Xe Wt Qr D.ofV inB Wm Xc binX binD binE Xl bndD capB IntKind.min IntKind.max IntKind.signed IntKind.bits Wx late
def tlN (l : Nat) (t : T) (s : D) : List D := [.fn (.yield l) [] [], .ref (Qv t), .junk, s, .junk, .junk, .junk, .junk, .junk, .junk, .junk, .junk, .junk, .junk, .junk, .junk, .junk, .junk, .junk, .junk, .junk, .junk, .junk]
def noDef (l : List Oper) : Bool := l.all fun o => match o.op with | .defer _ => false | _ => true
theorem noDef_spec {l : List Oper} (h : noDef l = true) : ∀ o, o ∈ l -> ∀ c, o.op ≠ .defer c := fun o ho c e => by
 have := List.all_eq_true.1 h o ho
 rw [e] at this
 cases this
theorem nszs_app : ∀ l m : List T, T.nszs (l ++ m) = T.nszs l + T.nszs m
 | [], m => by rw [T.nszs]; simp
 | t :: r, m => by rw [List.cons_append, T.nszs, T.nszs, nszs_app r m]; omega
theorem results_nil {P : Program} {fn : Func} {tm : Array Value} {w : World} (h : fn.results = #[]) : (results fn tm).run P w = .ok (.tuple #[]) w := by
 unfold results
 rw [h]
 simp [Sem.run_bind, Sem.run_pure]
theorem within_iter {t : T} (hn : t.nsz <= 1048576) (p : T -> Prop) : IterOK Tryz.prog glob 87 [.ref (Qv t)] t.subs p := by
 intro l rec ρ0 W vs X hR hc hl hlp hvs hX hy
 have hro : RpL ρ0 W (.fn (.yield l) [] [] :: [.ref (Qv t)]) (.func (.yield l) #[] #[] :: vs) := We.2 ⟨by rw [Rp]; exact ⟨[], [], rfl, Wq.2 rfl, Wq.2 rfl⟩, hvs⟩
 have hst0 := st_enter (G := glob) (h := hOf []) hR hro 23
 rw [show (#[Value.func (.yield l) #[] #[]] ++ vs.toArray) = (Value.func (.yield l) #[] #[] :: vs).toArray by simp]
 refine (callsIn_wide (n := 0)).1 (callsIn_of_wp Tryz.func87 rfl trivial ?_)
 refine (?_ : ∀ a, St glob ρ0 W (hOf []) 23 [] ρ0 W a (Qp (tlN l t .junk)) (hOf []) -> Code.wpIn (Fr none) 0 _ _ _ a W) _ (hst0.le (by simp [leT, tlN]) rfl)
 clear hst0
 intro a hst
 have hi : It l rec ρ0 W ρ0 W (hOf []) := ⟨Kept.refl l W, hlp, fun _ _ => rfl, fun b ⟨i, f, h1, h2⟩ => by cases h2⟩
 refine wpIn_seq ?_
 refine wpIn_regionF Wb (K := fun tl' hl' _ => leT (tlN l t (.slice [Qv t] .full)) tl' /\ hl' = []) (noDef_spec (by rfl)) ?_ ?_ hst rfl
 ·simp only [tlN, Qd t]
  (repeat (rw [Qa]; simp))
  simp [wpS_nil, leT]
 rintro tl1 hl1 ρ1 w1 a1 ⟨hle, rfl⟩ - hst1
 have hi1 := hi.ex hl hst1.ex
 refine wpIn_block ?_
 have hnt : 0 < t.nsz := T.nsz_pos t
 refine wpIn_loop_rounds (t.nsz + 1) ?_
 refine (?_ : ∀ (m : Nat) (qs : List T) (c : Cp) (hl2 : List HO) (ρ2 : Rho) (w2 : World) (a2 : Act), T.nszs qs <= m -> m <= t.nsz -> St glob ρ2 w2 (hOf hl2) 23 [] ρ2 w2 a2 (Qp (tlN l t (.slice (qs.map Qv) c))) (hOf hl2) -> It l rec ρ0 W ρ2 w2 (hOf hl2) ->
   (qs ≠ [] -> c = .full \/ ∃ i, c = .tok i /\ hOf hl2 i = .tok) -> (∀ s, s ∈ t.subs -> p s \/ s ∈ T.subss qs) -> (∀ q, q ∈ qs -> q ∈ t.subs) ->
   Code.roundsIn (Fr none) 0 _ _ _ (m + 1) a2 w2) t.nsz [t] .full [] ρ1 w1 a1 (by rw [T.nszs, T.nszs]; omega) (Nat.le_refl _) (hst1.le hle rfl) hi1 (fun _ => .inl rfl) (fun s hs => .inr (by rw [T.subss, T.subss, List.append_nil]; exact hs)) (fun q hq => by rw [List.mem_singleton.1 hq, subs_eq]; exact List.mem_cons_self ..)
 clear hst hst1 hi hi1 hle ρ1 w1 a1 tl1 a hro hnt
 intro m
 induction m using Nat.strongRecOn with
 | _ m ih =>
 intro qs c hl2 ρ w a hm hmt hst hi htok hcov hsub
 rw [roundsIn_succ]
 refine wpIn_seq ?_
 refine wpIn_seq ?_
 cases qs with
 | nil =>
  refine wpIn_regionF Wb (K := fun tl' hl' _ => leT ((tlN l t .junk).set 8 (.bool false)) tl' /\ hl' = hl2) (noDef_spec (by rfl)) ?_ ?_ hst rfl
  ·simp only [tlN, List.map_nil]
   (repeat (rw [Qa]; simp))
   simp [wpS_nil, leT]
  rintro tl1 hl1 ρ1 w1 a1 ⟨hle, rfl⟩ - hst1
  have hi1 := hi.ex hl hst1.ex
  have h8 := (hst1.le hle rfl).tmp 8
  rw [show Qp ((tlN l t .junk).set 8 (.bool false)) 8 = .bool false from rfl, Rp] at h8
  refine wpIn_cond_false h8 (wpIn_exit ?_)
  refine ⟨hst1.df, .tuple #[], results_nil rfl, ⟨_, rfl⟩, .inl ⟨fun x hx => ?_, hi1.kept, hi1.lp⟩⟩
  rcases hcov x hx with h | h
  ·exact h
  ·rw [T.subss] at h; cases h
 | cons q r =>
  rw [T.nszs] at hm
  have hq1 := T.nsz_pos q
  have hlen := nszs_len r
  have hr0 : (0 : Int) < (r.length : Int) + 1 := by omega
  refine wpIn_regionF Wb (K := fun tl' hl' _ => leT ((tlN l t (.slice ((q :: r).map Qv) c)).set 8 (.bool true)) tl' /\ hl' = hl2) (noDef_spec (by rfl)) ?_ ?_ hst rfl
  ·simp only [tlN, List.map_cons]
   (repeat (rw [Qa]; simp [hr0]))
   simp [wpS_nil, leT]
  rintro tl1 hl1 ρ1 w1 a1 ⟨hle, rfl⟩ - hst1
  have hi1 := hi.ex hl hst1.ex
  replace hst1 := hst1.le hle rfl
  have h8 := hst1.tmp 8
  rw [show Qp ((tlN l t (.slice ((q :: r).map Qv) c)).set 8 (.bool true)) 8 = .bool true from rfl, Rp] at h8
  refine wpIn_cond_true h8 (wpIn_skip ?_)
  refine wpIn_seq ?_
  refine wpIn_block ?_
  refine wpIn_seq ?_
  refine wpIn_seq ?_
  refine wpIn_region_list ?_
  refine wpS_soundF Wb (ds := []) (ρ0 := ρ1) (w0 := w1) (H0 := hOf hl1) [_, _] [_, _, _, _] ((tlN l t (.slice ((q :: r).map Qv) c)).set 8 (.bool true)) hl1 (fun tl' hl' _ => leT (((tlN l t (.slice ((q :: r).map Qv) c)).set 11 (.fn (.yield l) [] [])).set 14 (Qv q)) tl' /\ hl' = hl1) (noDef_spec (by rfl)) ?_ ?_ _ _ _ hst1
  ·simp only [tlN, List.map_cons, Qd q]
   (repeat (rw [Qa]; simp))
   simp [wpS_nil, leT]
  rintro tl2 hl2 ρ2 w2 a2 ⟨hle2, rfl⟩ hlen2 hst2
  have hi2 := hi1.ex hl hst2.ex
  replace hst2 := hst2.le (m := 23) hle2 rfl
  have h11 := hst2.tmp 11
  rw [show Qp (((tlN l t (.slice ((q :: r).map Qv) c)).set 11 (.fn (.yield l) [] [])).set 14 (Qv q)) 11 = .fn (.yield l) [] [] from rfl, Rp] at h11
  obtain ⟨us1, us2, h11, e1, e2⟩ := h11
  rw [Wq] at e1 e2
  subst e1
  subst e2
  have h14 := hst2.tmp 14
  rw [show Qp (((tlN l t (.slice ((q :: r).map Qv) c)).set 11 (.fn (.yield l) [] [])).set 14 (Qv q)) 14 = Qv q from rfl] at h14
  obtain ⟨fn, tm, as', bd, hrun, hround⟩ := hy q ρ2 w2 _ (hsub q (List.mem_cons_self ..)) hi2.kept hi2.lp hi2.c hst2.rel.fresh h14
  rw [wpListIn, if_pos (show Region.wanted _ _ = true from rfl)]
  refine ⟨fun _ _ => trivial, ?_⟩
  rw [Oper.semAt_eq _ _ _ (by simp)]
  have hex : ∀ (o : Oper) (ty : Array TypeId), o.op = .call { callee := .value (.tmp 11), args := #[.tmp 14], argTypes := ty } -> (execOp a2.eval o).run Tryz.prog w2 = .ok (.round l fn tm as' bd) w2 := fun o ty ho => by
   have h11' : a2.eval (.tmp 11) = .func (.yield l) #[] #[] := h11
   have hrun' : (Instr.yield l #[a2.eval (.tmp 14)]).run Tryz.prog w2 = .ok (.round l fn tm as' bd) w2 := hrun
   simp [execOp, ho, resolve, h11', Deferred.ofValue, invoke, hrun', Sem.run_bind, Sem.run_pure, Result.andThen_ok]
  rw [hex _ _ rfl, Oper.uponIn_round]
  refine ⟨fun hh => by simp [Fr, Fence.wide] at hh, hround.mono ?_⟩
  rintro e w3 (⟨rfl, hp, hk, hlp3⟩ | ⟨rfl, hx⟩)
  ·dsimp only
   rw [wpListIn, if_pos (show Region.wanted _ _ = true from rfl)]
   refine ⟨fun _ _ => trivial, ?_⟩
   have hn : ¬ Live ρ2 (hOf hl2) l := fun hv => by have := hi2.live l hv; omega
   obtain ⟨hR3, g3⟩ := Kept.rel hst2.rel hk hi2.lp ((hi2.c l hl).trans hc) hn
   have hst3 : St glob ρ2 w3 (hOf hl2) 23 [] ρ2 w3 a2 (Qp (((tlN l t (.slice ((q :: r).map Qv) c)).set 11 (.fn (.yield l) [] [])).set 14 (Qv q))) (hOf hl2) := ⟨hR3, Ex.refl _ _ _, fun k => (hst2.tmp k).grow g3, hst2.size, hst2.df⟩
   have hi3 : It l rec ρ0 W ρ2 w3 (hOf hl2) := ⟨hi2.kept.trans hk, hlp3, hi2.c, hi2.live⟩
   replace hst3 := hst3.put (tl := ((tlN l t (.slice ((q :: r).map Qv) c)).set 11 (.fn (.yield l) [] [])).set 14 (Qv q)) (some 15) (d := .bool true) (u := .bool true) (up := []) (by rw [Rp]) hst3.rel (Ex.refl _ _ _)
   have h15 : (a2.put (some 15) (.bool true)).eval (.tmp 15) = .bool true := by
    have := hst3.tmp 15
    rw [show Qp (Ql (((tlN l t (.slice ((q :: r).map Qv) c)).set 11 (.fn (.yield l) [] [])).set 14 (Qv q)) (some 15) (.bool true)) 15 = .bool true from rfl, Rp] at this
    exact this
   rw [Oper.semAt_eq _ _ _ (by simp), not_op rfl h15, Oper.uponIn_value, wpListIn]
   replace hst3 := hst3.put (some 16) (d := .bool false) (u := .bool false) (up := []) (by rw [Rp]) hst3.rel (Ex.refl _ _ _)
   have h16 : ((a2.put (some 15) (.bool true)).put (some 16) (.bool false)).eval (.tmp 16) = .bool false := by
    have := hst3.tmp 16
    rw [show Qp (Ql (Ql (((tlN l t (.slice ((q :: r).map Qv) c)).set 11 (.fn (.yield l) [] [])).set 14 (Qv q)) (some 15) (.bool true)) (some 16) (.bool false)) 16 = .bool false from rfl, Rp] at this
    exact this
   refine wpIn_cond_false h16 (wpIn_skip ?_)
   replace hst3 := hst3.le (tl' := tlN l t (.slice ((q :: r).map Qv) c)) (m := 23) (by simp [leT, tlN, Ql]) rfl
   replace hst3 : St glob ρ2 w3 (hOf hl2) 23 [] ρ2 w3 ((a2.put (some 15) (.bool true)).put (some 16) (.bool false)) (Qp (tlN l t (.slice ((q :: r).map Qv) c))) (hOf hl2) := hst3
   show Code.wpIn _ _ _ _ _ ((a2.put (some 15) (.bool true)).put (some 16) (.bool false)) w3
   generalize (a2.put (some 15) (.bool true)).put (some 16) (.bool false) = a3 at hst3
   clear h15 h16 hst2 hi2 hst1 hi1 hst hi
   have hkl := nszs_len q.ks
   have hqn : q.nsz = 1 + T.nszs q.ks := by cases q; rw [T.nsz]; rfl
   have hL : r.length + 1 + q.ks.length <= Wd := by unfold Wd; omega
   have hfree : hOf hl2 hl2.length = .free := by unfold hOf; rw [List.getD_eq_getElem?_getD, List.getElem?_eq_none (Nat.le_refl _)]; rfl
   obtain ⟨K, hK⟩ : ∃ K : List D -> List HO -> Df -> Prop, ∀ tl' hl' df', K tl' hl' df' ↔ ∃ c4, (c4 = .full \/ ∃ i, c4 = .tok i /\ hOf hl' i = .tok) /\ leT (tlN l t (.slice (Qv q :: (r ++ q.ks).map Qv) c4)) tl' := ⟨_, fun _ _ _ => Iff.rfl⟩
   refine wpIn_regionF Wb (K := K) (noDef_spec (by rfl)) ?_ ?_ hst3 rfl
   ·rcases htok (by simp) with rfl | ⟨i, rfl, hti⟩
    ·simp only [tlN, List.map_cons, Qd q]
     (repeat (rw [Qa]; simp [hfree, hL]))
     simp only [wpS_nil]
     refine (hK _ _ _).2 ⟨.tok hl2.length, .inr ⟨_, rfl, ?_⟩, ?_⟩
     ·simp [hOf]
     ·simp [leT, tlN, Qd q]
    ·have hti' : hl2[i]?.getD HO.free = .tok := by have := hti; unfold hOf at this; rwa [List.getD_eq_getElem?_getD] at this
     simp only [tlN, List.map_cons, Qd q]
     (repeat (rw [Qa]; simp [hfree, hL, hti']))
     simp only [wpS_nil]
     refine (hK _ _ _).2 ⟨.tok hl2.length, .inr ⟨_, rfl, ?_⟩, ?_⟩
     ·have hil : i < hl2.length := by
       by_cases h : i < hl2.length
       ·exact h
       ·rw [List.getElem?_eq_none (Nat.le_of_not_lt h)] at hti'; cases hti'
      simp [hOf, hil]
     ·simp [leT, tlN, Qd q]
   rintro tl4 hl4 ρ4 w4 a4 hK4 - hst4
   obtain ⟨c4, hc4, hle4⟩ := (hK _ _ _).1 hK4
   have hi4 := hi3.ex hl hst4.ex
   replace hst4 := hst4.le (m := 23) hle4 rfl
   refine wpIn_region_list ?_
   refine wpS_soundF Wb (ds := []) (ρ0 := ρ4) (w0 := w4) (H0 := hOf hl4) [_, _] [_] (tlN l t (.slice (Qv q :: (r ++ q.ks).map Qv) c4)) hl4 (fun tl' hl' _ => leT ((tlN l t .junk).set 9 (.slice (Qv q :: (r ++ q.ks).map Qv) c4)) tl' /\ hl' = hl4) (noDef_spec (by rfl)) ?_ ?_ _ _ _ hst4
   ·simp only [tlN, Qd q]
    (repeat (rw [Qa]; simp))
    simp [wpS_nil, leT]
   rintro tl5 hl5 ρ5 w5 a5 ⟨hle5, rfl⟩ hlen5 hst5
   have hi5 := hi4.ex hl hst5.ex
   replace hst5 := hst5.le (m := 23) hle5 rfl
   rw [wpListIn, if_pos (show Region.wanted _ _ = true from rfl)]
   refine ⟨fun _ _ => trivial, ?_⟩
   rw [Oper.semAt_eq _ _ _ (by simp)]
   have h9 := hst5.tmp 9
   rw [show Qp ((tlN l t .junk).set 9 (.slice (Qv q :: (r ++ q.ks).map Qv) c4)) 9 = .slice (Qv q :: (r ++ q.ks).map Qv) c4 from rfl] at h9
   obtain ⟨k, rfl⟩ : ∃ k, m = k + 1 := ⟨m - 1, by omega⟩
   have hsum : T.nszs (r ++ q.ks) <= k := by rw [nszs_app]; omega
   have hnx : ∃ u c5, (execOp a5.eval { dst := some 10, op := .slice 25 (.tmp 9) (some (.const (.int .i64 1))) none none, type := 0, pos := "", after := #[], guard := none }).run Tryz.prog w5 = .ok (.value u) w5 /\ Rp ρ5 w5 (.slice ((r ++ q.ks).map Qv) c5) u /\ (r ++ q.ks ≠ [] -> c5 = .full \/ ∃ i, c5 = .tok i /\ hOf hl5 i = .tok) := by
    have hsz : ∀ d, d ∈ Qv q :: (r ++ q.ks).map Qv -> d.size = (Wa 27).size := fun d hd => by
     have : ∃ s : T, d = Qv s := by
      rcases List.mem_cons.1 hd with h | h
      ·exact ⟨q, h⟩
      ·obtain ⟨s, -, h⟩ := List.mem_map.1 h; exact ⟨s, h.symm⟩
     obtain ⟨s, rfl⟩ := this
     rw [Qd s]
     simp
    by_cases hne : r ++ q.ks = []
    ·rw [hne, List.map_nil] at h9 ⊢
     obtain ⟨u, h1, h2⟩ := sl_nil Wb (t := 25) (el := 27) (o := { dst := some 10, op := .slice 25 (.tmp 9) (some (.const (.int .i64 1))) none none, type := 0, pos := "", after := #[], guard := none }) (v := a5.eval) rfl rfl (by simp) (by simp) h9
     exact ⟨u, .any, h1, h2, fun h => absurd rfl h⟩
    ·obtain ⟨u, h1, h2⟩ := sl_tok Wb (t := 25) (el := 27) (o := { dst := some 10, op := .slice 25 (.tmp 9) (some (.const (.int .i64 1))) none none, type := 0, pos := "", after := #[], guard := none }) (v := a5.eval) rfl rfl (by simp) (by simp) h9 (hc4.imp id fun ⟨i, h, _⟩ => ⟨i, h⟩) hsz (by simpa using hne)
     exact ⟨u, c4, h1, h2, fun _ => hc4⟩
   obtain ⟨u, c5, hx1, hu, hc5⟩ := hnx
   have hx2 : ∀ o : Oper, o.op = .slice 25 (.tmp 9) (some (.const (.int .i64 1))) none none -> (execOp a5.eval o).run Tryz.prog w5 = .ok (.value u) w5 := fun o ho => by
    rw [<- hx1]
    simp only [execOp, ho]
   rw [hx2 _ rfl, Oper.uponIn_value]
   replace hst5 := hst5.put (tl := (tlN l t .junk).set 9 (.slice (Qv q :: (r ++ q.ks).map Qv) c4)) (some 10) (d := .slice ((r ++ q.ks).map Qv) c5) (u := u) (up := []) hu hst5.rel (Ex.refl _ _ _)
   replace hst5 : St glob ρ5 w5 (hOf hl5) 23 [] ρ5 w5 (a5.put (some 10) u) (Qp ((tlN l t .junk).set 10 (.slice ((r ++ q.ks).map Qv) c5))) (hOf hl5) := hst5.le (m := 23) (by simp [leT, tlN, Ql]) rfl
   refine wpS_soundF Wb (ds := []) (ρ0 := ρ5) (w0 := w5) (H0 := hOf hl5) [] [_] ((tlN l t .junk).set 10 (.slice ((r ++ q.ks).map Qv) c5)) hl5 (fun tl' hl' _ => leT (tlN l t (.slice ((r ++ q.ks).map Qv) c5)) tl' /\ hl' = hl5) (noDef_spec (by rfl)) ?_ ?_ _ _ _ hst5
   ·simp only [tlN]
    (repeat (rw [Qa]; simp))
    simp [wpS_nil, leT]
   rintro tl6 hl6 ρ6 w6 a6 ⟨hle6, rfl⟩ hlen6 hst6
   have hi6 := hi5.ex hl hst6.ex
   replace hst6 := hst6.le (m := 23) hle6 rfl
   have hp' : ∀ s, s ∈ t.subs -> p s \/ s ∈ T.subss (r ++ q.ks) := fun s hs => by
    rcases hcov s hs with h | h
    ·exact .inl h
    ·obtain ⟨z, hz, hs2⟩ := mem_subss.1 h
     rcases List.mem_cons.1 hz with rfl | hz
     ·rw [subs_eq] at hs2
      rcases List.mem_cons.1 hs2 with rfl | hs2
      ·exact .inl hp
      ·obtain ⟨y, hy1, hy2⟩ := mem_subss.1 hs2
       exact .inr (mem_subss.2 ⟨y, List.mem_append_right _ hy1, hy2⟩)
     ·exact .inr (mem_subss.2 ⟨z, List.mem_append_left _ hz, hs2⟩)
   exact ih k (by omega) (r ++ q.ks) c5 hl6 ρ6 w6 a6 hsum (by omega) hst6 hi6 hc5 hp' fun z hz => by
    rcases List.mem_append.1 hz with h | h
    ·exact hsub z (List.mem_cons_of_mem _ h)
    ·exact subs_trans t (hsub q (List.mem_cons_self ..)) (kid_subs h)
  ·dsimp only
   rw [wpListIn, if_pos (show Region.wanted _ _ = true from rfl)]
   refine ⟨fun _ _ => trivial, ?_⟩
   have hsz2 := hst2.size
   have h15 : (a2.put (some 15) (.bool false)).eval (.tmp 15) = .bool false := by
    show (a2.put (some 15) (.bool false)).tmps.getD 15 undef = _
    rw [Act.put_same (by rw [hsz2]; decide)]
   have h16 : ((a2.put (some 15) (.bool false)).put (some 16) (.bool true)).eval (.tmp 16) = .bool true := by
    show ((a2.put (some 15) (.bool false)).put (some 16) (.bool true)).tmps.getD 16 undef = _
    rw [Act.put_same (by rw [Act.put_size, hsz2]; decide)]
   rw [Oper.semAt_eq _ _ _ (by simp), not_op rfl h15, Oper.uponIn_value, wpListIn]
   refine wpIn_cond_true h16 (wpIn_ret ?_)
   exact ⟨hst2.df, .tuple #[], results_nil rfl, ⟨_, rfl⟩, .inr hx⟩
theorem within_spec (t : T) : Qt Tryz.prog glob 47 [Qv t] [] (fun o _ => o.fgt = .ret (.fn (.func 87) [] [.ref (Qv t)])) := by
 rw [Qd t]
 refine Qt.movd Qe (Qq Wb Tryz.func47 rfl (Qy _ _ Tryz.func47 rfl (by decide)) rfl rfl ?_)
 (refine sR fun K hK => ?_; ((repeat (rw [Qa]; simp)); (try simp only [zs])); refine hK _ _ _ ?_; clear hK K)
 (refine wpD_stay (T := Wa) 0 (ty := 27) (ds := [.int .i64 t.k, .int .i64 t.n, .int .i64 t.a, .slice (t.ls.map Wp) .any, .slice (t.ks.map Qv) .any]) rfl rfl (by first | exact ⟨rfl, .inr ⟨_, rfl, rfl⟩⟩ | exact ⟨rfl, .inl rfl⟩) ?_; simp [D.frzs, D.frz, HO.frz, dfFrz, refOf, TK.isAgg, FK.isB, FK.isM, FK.isO, D.isLen])
 (refine sR fun K hK => ?_; ((repeat (rw [Qa]; simp)); (try simp only [zs])); refine hK _ _ _ ?_; clear hK K)
 (refine Qj ?_; (try simp only [zs]); refine Wc.ret rfl (.inl ?_); simp [Qp, Out.fgt, D.fgt, D.fgts])
theorem hsb_spec {l : List C} (hcs : okCs l) {t : T} (ht : okT t) (hp : t.pot <= 20000) : ∃ c, Qt Tryz.prog glob 16 [Cs l, Qv t] [] (fun o _ => o.fgt = .ret (.tuple [Qv (stepH l t), .int .i64 c, .bool (Wo l t).isSome])) := by
 have hS : okS t := ⟨ht, by unfold PM; omega⟩
 unfold stepH
 cases hst : Wo l t with
 | none => exact ⟨_, hstep_fin hcs hS hst⟩
 | some v =>
  obtain ⟨u, c⟩ := v
  exact ⟨_, hstep_more hcs hS hst (by
   have := hstep_bound (B := 1048576) hcs.bo t hp hst
   unfold DM
   omega)⟩
def normB (l : List C) (t : T) : Bool := t.subs.all fun s => (Wo l s).isNone
mutual
theorem subs_ok : ∀ (t : T), okT t -> ∀ s, s ∈ t.subs -> okT s /\ s.nsz <= t.nsz
 | .mk k n a ls ks, h, s, hs => by
  rw [T.subs, List.mem_cons] at hs
  rcases hs with rfl | hs
  ·exact ⟨h, Nat.le_refl _⟩
  ·obtain ⟨h1, h2⟩ := subss_ok ks (fun q hq => h.ks q hq) s hs
   exact ⟨h1, by rw [T.nsz]; omega⟩
theorem subss_ok : ∀ (l : List T), (∀ q, q ∈ l -> okT q) -> ∀ s, s ∈ T.subss l -> okT s /\ s.nsz <= T.nszs l
 | [], h, s, hs => by rw [T.subss] at hs; cases hs
 | t :: r, h, s, hs => by
  rw [T.subss, List.mem_append] at hs
  rw [T.nszs]
  rcases hs with hs | hs
  ·obtain ⟨h1, h2⟩ := subs_ok t (h t (List.mem_cons_self ..)) s hs
   exact ⟨h1, by omega⟩
  ·obtain ⟨h1, h2⟩ := subss_ok r (fun q hq => h q (List.mem_cons_of_mem _ hq)) s hs
   exact ⟨h1, by omega⟩
end
mutual
theorem subs_pot : ∀ (t : T), ∀ s, s ∈ t.subs -> s.pot <= t.pot
 | .mk k n a ls ks, s, hs => by
  rw [T.subs, List.mem_cons] at hs
  rcases hs with rfl | hs
  ·exact Nat.le_refl _
  ·have := subss_pot ks s hs
   rw [T.pot]; omega
theorem subss_pot : ∀ (l : List T), ∀ s, s ∈ T.subss l -> s.pot <= T.pots l
 | [], s, hs => by rw [T.subss] at hs; cases hs
 | t :: r, s, hs => by
  rw [T.subss, List.mem_append] at hs
  rw [T.pots]
  rcases hs with hs | hs
  ·have := subs_pot t s hs; omega
  ·have := subss_pot r s hs; omega
end
section
variable {P : Program} {G : Nat -> Option D}
theorem Rel.only (hG : ∀ g d, G g = some d -> d.pure = true) {ρ : Rho} {w : World} {h : Nat -> HO} (hR : Rel G ρ w h) {b f : Nat} {ho : HO} (hob : ho = .dead \/ ∃ ty ds, ho = .cells ty ds /\ D.pures ds = true /\ ObjAt ρ w b f ho) : Rel G ⟨ρ.c, fun i => if i = 0 then some (b, f) else none⟩ w (hOf [ho]) := by
 refine ⟨fun i hi => ?_, hR.fresh, fun i b' f' h1 => ?_, fun i j b' f' g h1 h2 h3 h4 => ?_, fun g d hd => RpAt_nm (ρ := ρ) (ρ' := ⟨ρ.c, fun i => if i = 0 then some (b, f) else none⟩) rfl (hG g d hd) (hR.glob g d hd)⟩
 ·by_cases h0 : i = 0
  ·subst h0
   rcases hob with rfl | ⟨ty, ds, rfl, -, -⟩ <;> cases hi
  ·simp [h0]
 ·by_cases h0 : i = 0
  ·subst h0
   simp at h1
   obtain ⟨rfl, rfl⟩ := h1
   rcases hob with rfl | ⟨ty, ds, rfl, hp, h2⟩
   ·trivial
   ·obtain ⟨h3, vs, h4, h5⟩ := h2
    exact ⟨h3, vs, h4, RpL_nm (ρ := ρ) (ρ' := ⟨ρ.c, fun i => if i = 0 then some (b, f) else none⟩) rfl ds vs hp h5⟩
  ·simp [h0] at h1
 ·by_cases h0 : i = 0
  ·by_cases h00 : j = 0
   ·rw [h0, h00]
   ·simp [h00] at h2
  ·simp [h0] at h1
theorem Rel.bare (hG : ∀ g d, G g = some d -> d.pure = true) {ρ : Rho} {w : World} {h : Nat -> HO} (hR : Rel G ρ w h) : Rel G ⟨ρ.c, fun _ => none⟩ w (hOf []) :=
 ⟨fun _ _ => rfl, hR.fresh, fun i b f h => (by cases h), fun i j b f g h => (by cases h), fun g d hd => RpAt_nm (ρ := ρ) (ρ' := ⟨ρ.c, fun _ => none⟩) rfl (hG g d hd) (hR.glob g d hd)⟩
theorem tm_pure : ∀ {tl : List D}, D.pures tl = true -> ∀ k, (Qp tl k).pure = true
 | [], _, k => by simp [Qp, D.pure]
 | d :: r, h, k => by
  rw [D.pures, Bool.and_eq_true] at h
  cases k with
  | zero => exact h.1
  | succ k => exact tm_pure h.2 k
theorem tm_box {ρ ρ' : Rho} {w : World} (hc : ρ'.c = ρ.c) {tl : List D} {a : Act} (hp : D.pures tl = true) (h : ∀ k, Rp ρ w (Qp tl k) (a.tmps.getD k undef)) {x b f : Nat} (hn : ρ'.nm 0 = some (b, f)) (hv : a.tmps.getD x undef = .pointer (some ⟨b, 0, none⟩)) :
  ∀ k, Rp ρ' w (Qp (tl.set x (.box 0 0)) k) (a.tmps.getD k undef) := fun k => by
 by_cases hk : x = k
 ·subst hk
  by_cases hl : x < tl.length
  ·have : Qp (tl.set x (.box 0 0)) x = .box 0 0 := by simp [Qp, hl]
   rw [this, Rp]
   exact ⟨b, f, hn, hv⟩
  ·have : Qp (tl.set x (.box 0 0)) x = .junk := by
    unfold Qp
    rw [List.getD_eq_getElem?_getD, List.getElem?_eq_none (by rw [List.length_set]; omega)]; rfl
   rw [this, Rp]; trivial
 ·have : Qp (tl.set x (.box 0 0)) k = Qp tl k := by
   unfold Qp
   rw [List.getD_eq_getElem?_getD, List.getD_eq_getElem?_getD, List.getElem?_set_ne hk]
  rw [this]
  exact Rp_nm hc _ _ (tm_pure hp k) (h k)
end
theorem run_yield1 {P : Program} {w : World} {l : Nat} {r : Loop} {p : Tmp} {v : Value} (h : w.heap[l]? = some (.loop r)) (hp : r.params = #[p]) : (Instr.yield l #[v]).run P w = .ok (.round l r.fn (r.tmps.setIfInBounds p v) r.assign r.body) w := by
 rw [run_yield h (by rw [hp]; rfl), hp]
 simp
theorem enter_facts (w : World) (rec : Loop) : ∃ W1, (w.alloc (.deferred (some []))).alloc (.loop rec) = W1 /\ Below w.heap.size w W1 /\ W1.heap.size = w.heap.size + 2 /\ W1.heap[w.heap.size]? = some (.deferred (some [])) /\ W1.heap[w.heap.size + 1]? = some (.loop rec) := by
 have h1 : (w.alloc (.deferred (some []))).heap.size = w.heap.size + 1 := World.size_alloc ..
 have h2 : ((w.alloc (.deferred (some []))).alloc (.loop rec)).heap.size = w.heap.size + 1 + 1 := by rw [World.size_alloc, h1]
 refine ⟨_, rfl, ((Below.refl _ w).alloc (Nat.le_refl _) _).alloc (by rw [h1]; omega) _, h2, (Below.heap_alloc _ _ _ (by rw [h1]; omega)).trans (World.alloc_heap_new w _), ?_⟩
 have := World.alloc_heap_new (w.alloc (.deferred (some []))) (.loop rec)
 rwa [h1] at this
theorem wpIn_range_fr {P : Program} {g : Operand} {ps : Array Tmp} {assign body : Code} {Q : Exit -> Act -> World -> Prop} {a : Act} {w : World} {gf : Nat} {lb : Array Value} (hg : a.eval g = .func (.func gf) #[] lb) (eg : ∀ args w, (callFunc gf args).run P w = .ok (.enter gf args) w)
  (h : ∀ (fn : FuncId) (rec : Loop) (W1 : World), rec = ⟨.ready, none, fn, a.tmps, ps, assign, body, w.heap.size⟩ -> Below w.heap.size w W1 -> W1.heap.size = w.heap.size + 2 -> W1.heap[w.heap.size]? = some (.deferred (some [])) -> W1.heap[w.heap.size + 1]? = some (.loop rec) ->
   Calls P gf (#[.func (.yield (w.heap.size + 1)) #[] #[]] ++ lb) W1 (rangePost (Fr none) 0 P (w.heap.size + 1) Q { a with defers := { target := .collected w.heap.size, args := #[] } :: a.defers })) : (Code.rangeFunc g ps assign body).wpIn (Fr none) 0 P Q a w := by
 refine wpIn_rangeFunc ?_
 intro fn _
 obtain ⟨W1, hW1, hbel, hsz1, hD1, hl1⟩ := enter_facts w ⟨.ready, none, fn, a.tmps, ps, assign, body, w.heap.size⟩
 refine ⟨w.heap.size + 1, [{ target := .collected w.heap.size, args := #[] }], W1, { target := .fn (.func gf) lb, args := #[.func (.yield (w.heap.size + 1)) #[] #[]] }, W1, gf, #[.func (.yield (w.heap.size + 1)) #[] #[]] ++ lb, W1, ?_, ?_, fun _ _ => trivial, ?_, fun hh => ?_, ?_⟩
 ·rw [<- hW1]; exact run_enterLoop_outer _ _ _ _ _
 ·have hm : (#[] : Array Value) ++ Array.map a.eval #[Operand.const (Value.func (Fn.yield (w.heap.size + 1)) #[] #[])] = #[Value.func (Fn.yield (w.heap.size + 1)) #[] #[]] := by simp [Act.eval]
  simp only [resolve, hg, Deferred.ofValue, Sem.run_pure, hm]
 ·have := eg (#[.func (.yield (w.heap.size + 1)) #[] #[]] ++ lb) W1
  exact this
 ·cases hh
 ·refine callsIn_fr ?_
  exact h fn _ W1 rfl hbel hsz1 hD1 hl1
end Go.Proofs.YtgloldepdhgfaaaGreatDoor
namespace Go.Proofs.YtgloldepdhgfaaaGreatDoor
set_option linter.unusedSimpArgs false
set_option linter.unusedVariables false
set_option linter.unusedSimpArgs false
set_option linter.unusedVariables false
set_option maxHeartbeats 10000000
set_option maxRecDepth 20000
open Go.RowKit
attribute [local simp] Qb Qc Xd Xm opD Qp Ql Qi Qk hOf Wz Xn Xk TK.isAgg TK.known Xf Xe Wt Qr D.ofV inB Wm Xc binX binD binE Xl bndD capB IntKind.min IntKind.max IntKind.signed IntKind.bits Wx late
def tlM (l : List C) (t : T) (x4 x5 x8 x11 : D) : List D := [.junk, .junk, .ref (Cs l), .ref (Qv t), x4, x5, .junk, .junk, x8, .junk, .fn (.func 87) [] [.ref (Qv t)], x11, .junk, .junk, .junk, .junk, .junk, .junk, .junk, .junk]
theorem cells_bool1 {ρ : Rho} {w : World} {b f : Nat} {v : Bool} (h : ObjAt ρ w b f (.cells 4 [.bool v])) : w.heap[b]? = some (.cells #[.bool v] 4 (0, 0)) := by
 obtain ⟨-, vs, h1, h2⟩ := h
 rw [RpL_cons] at h2
 obtain ⟨u, us, rfl, h3, h4⟩ := h2
 rw [Wq] at h4
 rw [Rp] at h3
 subst h3
 subst h4
 exact h1
theorem normal_spec {l : List C} (hcs : okCs l) {t : T} (ht : okT t) (hn : t.pot <= 20000) : Qt Tryz.prog glob 15 [Cs l, Qv t] [] (fun o _ => o.fgt = .ret (.bool (normB l t))) := by
 intro ρ0 w0 vs hR0 hvs
 refine ⟨Qy _ _ Tryz.func15 rfl (by decide) _ _, ?_⟩
 have hst0 := st_enter (G := glob) (h := hOf []) hR0 hvs 20
 refine (callsIn_wide (n := 0)).1 (callsIn_of_wp_marks Tryz.func15 rfl trivial ?_)
 refine (?_ : ∀ a, St glob ρ0 w0 (hOf []) 20 [] ρ0 w0 a (Qp ([Cs l, Qv t] ++ List.replicate 18 (D.tuple []))) (hOf []) -> Code.wpIn (Fr none) 0 _ _ _ a w0) _ hst0
 intro a hst
 refine wpIn_seq ?_
 refine wpIn_regionF Wb (K := fun tl' hl' _ => leT ([.junk, .junk, .box 0 0, .box 1 0, .box 2 0] ++ List.replicate 15 .junk) tl' /\ hl' = [.cells 22 [Cs l], .cells 27 [.int .i64 t.k, .int .i64 t.n, .int .i64 t.a, .slice (t.ls.map Wp) .any, .slice (t.ks.map Qv) .any], .cells 4 [.bool false]]) (noDef_spec (by rfl)) ?_ ?_ hst rfl
 ·rw [Qd t]
  unfold Cs
  simp
  (repeat (rw [Qa]; simp))
  simp [wpS_nil, leT]
 rintro tl1 hl1 ρ1 w1 a1 ⟨hle1, rfl⟩ - hst1
 have hnm : ∀ i, 3 <= i -> ρ0.nm i = none := fun i hi => hR0.free i (by unfold hOf; simp)
 refine wpIn_seq ?_
 refine wpIn_seq ?_
 replace hst1 := hst1.le0 hle1
 have hin1 : InSt glob ρ0 w0 (hOf []) 20 ρ1 w1 a1 (Qp ([.junk, .junk, .box 0 0, .box 1 0, .box 2 0] ++ List.replicate 15 .junk)) (hOf [.cells 22 [Cs l], .cells 27 [.int .i64 t.k, .int .i64 t.n, .int .i64 t.a, .slice (t.ls.map Wp) .any, .slice (t.ks.map Qv) .any], .cells 4 [.bool false]]) [] := ⟨hst1.rel, hst1.ex, hst1.tmp, hst1.size, hst1.df⟩
 have hw := within_spec t
 refine wpIn_mono (wpIn_wide.2 ((?_ : wpD Tryz.prog glob 3 _ (fun x tl' hl' df' => x = .nrm /\ df' = [] /\ leT (tlM l t (.box 2 0) .junk .junk .junk) tl' /\ hl' = [.dead, .dead, .cells 4 [.bool false]]) ([.junk, .junk, .box 0 0, .box 1 0, .box 2 0] ++ List.replicate 15 .junk) [.cells 22 [Cs l], .cells 27 [.int .i64 t.k, .int .i64 t.n, .int .i64 t.a, .slice (t.ls.map Wp) .any, .slice (t.ks.map Qv) .any], .cells 4 [.bool false]] []) ρ0 w0 (hOf []) ρ1 w1 a1 hnm hin1)) ?_
 ·rw [Qd t] at hw
  unfold tlM
  rw [Qd t]
  unfold Cs
  simp
  (refine wpD_stay (T := Wa) 0 (ty := 22) (ds := [.slice (l.map encC) .any]) rfl rfl (by first | exact ⟨rfl, .inr ⟨_, rfl, rfl⟩⟩ | exact ⟨rfl, .inl rfl⟩) ?_; simp [D.frzs, D.frz, HO.frz, dfFrz, refOf, TK.isAgg, FK.isB, FK.isM, FK.isO, D.isLen])
  (refine wpD_stay (T := Wa) 1 (ty := 27) (ds := [.int .i64 t.k, .int .i64 t.n, .int .i64 t.a, .slice (t.ls.map Wp) .any, .slice (t.ks.map Qv) .any]) rfl rfl (by first | exact ⟨rfl, .inr ⟨_, rfl, rfl⟩⟩ | exact ⟨rfl, .inl rfl⟩) ?_; simp [D.frzs, D.frz, HO.frz, dfFrz, refOf, TK.isAgg, FK.isB, FK.isM, FK.isO, D.isLen])
  refine Qz Wb ?_
  ((try simp only [Qb, Qc, Ql, Qi, Qk]); (repeat (rw [Qa]; simp)); (try simp only [zs]))
  refine cXp (hw) ?_
  ((try simp only [Qb, Qc, Ql, Qi, Qk]); (repeat (rw [Qa]; simp)); (try simp only [zs]))
  simp [leT]
 rintro e a w ⟨x, tl, hl, df, ρ, ⟨rfl, rfl, hle, rfl⟩, hx, hlen, hin⟩
 cases hx
 have hstM : St glob ρ0 w0 (hOf []) 20 [] ρ w a (Qp tl) (hOf [.dead, .dead, .cells 4 [.bool false]]) := ⟨hin.rel, hin.ex, hin.tmp, hin.size, hin.df⟩
 replace hstM := hstM.le0 hle
 clear hin hle hlen tl hin1 hst1
 have hb4 := hstM.tmp 4
 rw [show Qp (tlM l t (.box 2 0) .junk .junk .junk) 4 = .box 2 0 from rfl, Rp] at hb4
 obtain ⟨b, f, hnm2, hv4⟩ := hb4
 have hcells : ObjAt ρ w b f (.cells 4 [.bool false]) := hstM.rel.obj 2 b f hnm2
 have hcb : ρ.c b = some 0 := hcells.1
 have hvb : w.heap[b]? = some (.cells #[.bool false] 4 (0, 0)) := cells_bool1 hcells
 have hb0 : w0.heap.size <= b := by
  by_cases h : b < w0.heap.size
  ·obtain ⟨i, f', h1, h2⟩ := hstM.ex.live b ⟨2, f, hnm2, rfl⟩ h
   cases h2
  ·omega
 have hbw : b < w.heap.size := hcells.lt rfl
 obtain ⟨nmB, hnmB⟩ : ∃ nmB : Nat -> Option (Nat × Nat), nmB = fun i => if i = 0 then some (b, f) else none := ⟨_, rfl⟩
 have hnB0 : nmB 0 = some (b, f) := by rw [hnmB]; rfl
 have hRC : Rel glob ⟨ρ.c, nmB⟩ w (hOf [.cells 4 [.bool false]]) := by rw [hnmB]; exact Rel.only Qe hstM.rel (.inr ⟨_, _, rfl, by simp [D.pures, D.pure], hcells⟩)
 have hRD : Rel glob ⟨ρ.c, nmB⟩ w (hOf [.dead]) := by rw [hnmB]; exact Rel.only Qe hstM.rel (.inl rfl)
 have htm : ∀ k, Rp ⟨ρ.c, nmB⟩ w (Qp (tlM l t (.box 0 0) .junk .junk .junk) k) (a.tmps.getD k undef) := by
  have h1 : ∀ k, Rp ρ w (Qp (tlM l t .junk .junk .junk .junk) k) (a.tmps.getD k undef) := fun k => (hstM.le0 (tl' := tlM l t .junk .junk .junk .junk) (by simp [leT, tlM])).tmp k
  exact tm_box (ρ := ρ) (ρ' := ⟨ρ.c, nmB⟩) rfl (by simp [tlM, D.pures, D.pure, Cs, encC_pure, encT_pure, D.pures_map, Cp.free]) h1 hnB0 hv4
 have hstC : St glob ⟨ρ.c, nmB⟩ w (hOf [.cells 4 [.bool false]]) 20 [] ⟨ρ.c, nmB⟩ w a (Qp (tlM l t (.box 0 0) .junk .junk .junk)) (hOf [.cells 4 [.bool false]]) := ⟨hRC, Ex.refl _ _ _, htm, hstM.size, hstM.df⟩
 have hstD : St glob ⟨ρ.c, nmB⟩ w (hOf [.dead]) 20 [] ⟨ρ.c, nmB⟩ w a (Qp (tlM l t (.box 0 0) .junk .junk .junk)) (hOf [.dead]) := ⟨hRD, Ex.refl _ _ _, htm, hstM.size, hstM.df⟩
 have h10 := hstM.tmp 10
 rw [show Qp (tlM l t (.box 2 0) .junk .junk .junk) 10 = .fn (.func 87) [] [.ref (Qv t)] from rfl, Rp] at h10
 obtain ⟨us, vc, hv10, h11, h12⟩ := h10
 rw [Wq] at h11
 subst h11
 refine wpIn_block ?_
 refine wpIn_range_fr (gf := 87) (lb := vc.toArray) hv10 (Qy _ Tryz.f87 Tryz.func87 rfl (by decide)) ?_
 intro fn rec W1 hrec hbel hsz1 hD1 hl1
 have hfresh := hstM.rel.fresh
 have hB0 : Below w0.heap.size w0 w := ⟨hstM.ex.grow.os, hstM.ex.grow.tape, hstM.ex.grow.output, hstM.ex.grow.size, fun k hk => (hstM.ex.frame k hk (fun ⟨i, f', h1, h2⟩ => by cases h2)).1⟩
 have hs0 := hB0.size
 obtain ⟨c1, hc1⟩ : ∃ c1 : Nat -> Option Nat, c1 = fun k => if k = w.heap.size + 1 then some 0 else ρ.c k := ⟨_, rfl⟩
 have hc1a : ∀ k, k < w.heap.size -> c1 k = ρ.c k := fun k hk => by rw [hc1]; exact if_neg (by omega)
 have hc1b : ∀ k, W1.heap.size <= k -> c1 k = none := fun k hk => by rw [hc1]; show (if _ then _ else _) = _; rw [if_neg (by omega)]; exact hfresh k (by omega)
 have hc1l : c1 (w.heap.size + 1) = some 0 := by rw [hc1]; exact if_pos rfl
 have hover := hstD.over hbel hc1a hc1b
 have hcaps : RpL ⟨c1, fun _ => none⟩ W1 [.ref (Qv t)] vc := RpL_nm (ρ := ⟨c1, ρ.nm⟩) (ρ' := ⟨c1, fun _ => none⟩) rfl _ _ (by simp [D.pures, D.pure, encT_pure]) (RpL.grow (hstM.over hbel hc1a hc1b).2.grow _ _ h12)
 obtain ⟨X, hX⟩ : ∃ X : World -> Prop, ∀ W', X W' ↔ (∃ s, s ∈ t.subs /\ (Wo l s).isSome = true) /\ Below w0.heap.size w0 W' /\ W'.heap[b]? = some (.cells #[.bool false] 4 (0, 0)) /\ W'.heap[w.heap.size]? = some (.deferred (some [])) /\ W'.heap[w.heap.size + 1]? = some (.loop { rec with state := .done, pending := some .ret }) := ⟨_, fun _ => Iff.rfl⟩
 refine (within_iter (by have := nsz_pot t; omega) (fun s => (Wo l s).isSome = false) (w.heap.size + 1) rec ⟨c1, fun _ => none⟩ W1 vc X (Rel.bare Qe hover.1) hc1l (by omega) hl1 hcaps ?_ ?_).mono ?_
 ·intro W2 W3 h2 hb
  obtain ⟨h1, h2, h3, h4, h5⟩ := (hX _).1 h2
  exact (hX _).2 ⟨h1, h2.trans (hb.mono (by omega)), (hb.block _ (by omega)).trans h3, (hb.block _ (by omega)).trans h4, (hb.block _ (by omega)).trans h5⟩
 ·intro x ρ1 W2 v hx hk hl2 hcc hfr hv
  have hb2 : Below w.heap.size w W2 := ⟨hk.os.trans hbel.os, hk.tape.trans hbel.tape, hk.output.trans hbel.output, Nat.le_trans hbel.size hk.size, fun k hk2 => (hk.same k (by omega) (by omega)).trans (hbel.block k hk2)⟩
  have hover2 := hstD.over hb2 (c' := ρ1.c) (fun k hk2 => (hcc k (by omega)).trans (hc1a k hk2)) hfr
  have hst2 : St glob ⟨ρ1.c, nmB⟩ W2 (hOf [.dead]) 20 [] ⟨ρ1.c, nmB⟩ W2 { tmps := a.tmps, defers := [] } (Qp (tlM l t (.box 0 0) .junk .junk .junk)) (hOf [.dead]) := ⟨hover2.1, Ex.refl _ _ _, fun k => (htm k).grow hover2.2.grow, hstM.size, rfl⟩
  replace hst2 := hst2.put (tl := tlM l t (.box 0 0) .junk .junk .junk) (some 11) (d := Qv x) (u := v) (up := []) (Rp_nm (ρ := ρ1) (ρ' := ⟨ρ1.c, nmB⟩) rfl _ _ (encT_pure x) hv) hst2.rel (Ex.refl _ _ _)
  replace hst2 := hst2.le (tl' := tlM l t (.box 0 0) .junk .junk (Qv x)) (m := 20) (by simp [leT, tlM, Ql]) rfl
  have hrt : rec.tmps = a.tmps := by rw [hrec]
  have hra := congrArg Loop.assign hrec
  have hrb := congrArg Loop.body hrec
  dsimp only at hra hrb
  refine ⟨_, _, _, _, run_yield1 hl2 (p := 11) (by rw [hrec]), roundIn_of_wpIn trivial ?_⟩
  rw [hrt, hra, hrb]
  show Code.wpIn (Fr (some (w.heap.size + 1))) 0 _ _ _ (({ tmps := a.tmps, defers := [] } : Act).put (some 11) v) W2
  generalize ({ tmps := a.tmps, defers := [] } : Act).put (some 11) v = a2 at hst2
  refine wpIn_regionF Wb (K := fun tl' hl' _ => leT (tlM l t (.box 0 0) (.box 1 0) .junk .junk) tl' /\ hl' = [.dead, .cells 27 [.int .i64 x.k, .int .i64 x.n, .int .i64 x.a, .slice (x.ls.map Wp) .any, .slice (x.ks.map Qv) .any]]) (noDef_spec (by rfl)) ?_ ?_ hst2 rfl
  ·simp only [tlM, Qd x]
   (repeat (rw [Qa]; simp))
   simp [wpS_nil, leT]
  rintro tl3 hl3 ρ3 w3 a3 ⟨hle3, rfl⟩ - hst3
  replace hst3 := hst3.le0 hle3
  have hnl : ∀ k, ¬ Live ⟨ρ1.c, nmB⟩ (hOf [.dead]) k := by
   rintro k ⟨i, f', h1, h2⟩
   cases i with
   | zero => cases h2
   | succ i => cases h2
  have hlt2 : w.heap.size + 1 < W2.heap.size := by have := hk.size; omega
  have hi2 : It (w.heap.size + 1) rec ⟨ρ1.c, nmB⟩ W2 ⟨ρ1.c, nmB⟩ W2 (hOf [.dead]) := ⟨Kept.refl _ _, hl2, fun _ _ => rfl, fun k hv => (hnl k hv).elim⟩
  have hi3 := hi2.ex hlt2 hst3.ex
  have hc3 : ρ3.c (w.heap.size + 1) = some 0 := (hi3.c _ hlt2).trans ((hcc _ (by omega)).trans hc1l)
  have hn3 : ρ3.nm 0 = some (b, f) := hst3.ex.grow.nm 0 _ hnB0
  refine ⟨_, run_beginRound hi3.lp (by rw [hrec]), ?_⟩
  obtain ⟨W4, hW4⟩ : ∃ W4, W4 = w3.putObj (w.heap.size + 1) (.loop { rec with state := .busy }) := ⟨_, rfl⟩
  rw [<- hW4]
  have hlt3 : w.heap.size + 1 < w3.heap.size := Nat.lt_of_lt_of_le hlt2 hi3.kept.size
  have hk4 : Kept (w.heap.size + 1) w3 W4 := by
   rw [hW4]
   exact ⟨rfl, rfl, rfl, by simp, fun k _ hne => World.putObj_heap_other hne⟩
  have hl4 : W4.heap[w.heap.size + 1]? = some (.loop { rec with state := .busy }) := by rw [hW4]; exact World.putObj_heap_same hlt3
  obtain ⟨hR4, g4⟩ := Kept.rel hst3.rel hk4 hi3.lp hc3 (fun hv => by have := hi3.live _ hv; omega)
  have hst4 : St glob ρ3 W4 _ 20 [] ρ3 W4 a3 (Qp (tlM l t (.box 0 0) (.box 1 0) .junk .junk)) _ := ⟨hR4, Ex.refl _ _ _, fun k => (hst3.tmp k).grow g4, hst3.size, hst3.df⟩
  have hi4 : It (w.heap.size + 1) { rec with state := .busy } ⟨ρ1.c, nmB⟩ W2 ρ3 W4 _ := ⟨hi3.kept.trans hk4, hl4, hi3.c, hi3.live⟩
  show Code.wpIn (Fr (some (w.heap.size + 1))) 0 _ _ _ a3 W4
  refine wpIn_block ?_
  refine wpIn_seq ?_
  have hxo := subs_ok t ht x hx
  obtain ⟨c, hspec⟩ := hsb_spec hcs hxo.1 (Nat.le_trans (subs_pot t x hx) hn)
  generalize hb : (Wo l x).isSome = bb at hspec
  refine wpIn_regionF Wb (K := fun tl' hl' _ => leT (tlM l t (.box 0 0) .junk (.bool bb) .junk) tl') (noDef_spec (by rfl)) ?_ ?_ hst4 rfl
  ·rw [Qd x, Qd (stepH l x)] at hspec
   unfold Cs at hspec
   simp only [tlM, Cs]
   ((try simp only [Qb, Qc, Ql, Qi, Qk]); (repeat (rw [Qa]; simp)); (try simp only [zs]))
   refine cXp (hspec) ?_
   ((try simp only [Qb, Qc, Ql, Qi, Qk]); (repeat (rw [Qa]; simp)); (try simp only [zs]))
   simp [leT]
  rintro tl5 hl5 ρ5 w5 a5 hle5 - hst5
  replace hst5 := hst5.le0 hle5
  have hi5 := hi4.ex hlt2 hst5.ex
  have hn5 : ρ5.nm 0 = some (b, f) := hst5.ex.grow.nm 0 _ hn3
  replace hst5 := hst5.le (m := 20) (leT_refl _) rfl
  refine wpIn_seq ?_
  refine wpIn_regionF Wb (K := fun tl' hl' _ => leT ((tlM l t (.box 0 0) .junk .junk .junk).set 19 (.bool bb)) tl' /\ hl' = hl5) (noDef_spec (by rfl)) ?_ ?_ hst5 rfl
  ·simp only [tlM]
   (repeat (rw [Qa]; simp))
   simp [wpS_nil, leT]
  rintro tl6 hl6 ρ6 w6 a6 ⟨hle6, rfl⟩ - hst6
  replace hst6 := hst6.le0 hle6
  have hi6 := hi5.ex hlt2 hst6.ex
  have hn6 : ρ6.nm 0 = some (b, f) := hst6.ex.grow.nm 0 _ hn5
  replace hst6 := hst6.le (m := 20) (leT_refl _) rfl
  have h19 := hst6.tmp 19
  rw [show Qp ((tlM l t (.box 0 0) .junk .junk .junk).set 19 (.bool bb)) 19 = .bool bb from rfl, Rp] at h19
  have hlt6 : w.heap.size + 1 < w6.heap.size := Nat.lt_of_lt_of_le hlt2 hi6.kept.size
  cases bb with
  | false =>
   refine wpIn_cond_false h19 (wpIn_skip ?_)
   refine ⟨_, _, run_endRound none hi6.lp, .inl ⟨rfl, hb, ?_, ?_⟩⟩
   ·refine hi6.kept.trans ⟨rfl, rfl, rfl, by simp, fun k _ hne => World.putObj_heap_other hne⟩
   ·rw [World.putObj_heap_same hlt6, hrec]
    rfl
  | true =>
   refine wpIn_cond_true h19 ?_
   have h4 := hst6.tmp 4
   rw [show Qp ((tlM l t (.box 0 0) .junk .junk .junk).set 19 (.bool true)) 4 = .box 0 0 from rfl, Rp] at h4
   obtain ⟨b', f', h41, h42⟩ := h4
   rw [hn6] at h41
   cases h41
   have hv6 : w6.heap[b]? = some (.cells #[.bool false] 4 (0, 0)) := (hi6.kept.same b (by omega) (by omega)).trans ((hb2.block b hbw).trans hvb)
   have hc6 : ρ6.c b = some 0 := (hi6.c b (by omega)).trans ((hcc b (by omega)).trans ((hc1a b hbw).trans hcb))
   have hR6 : Rel glob ⟨ρ6.c, nmB⟩ w6 (hOf [.cells 4 [.bool false]]) := by rw [hnmB]; exact Rel.only Qe hst6.rel (.inr ⟨_, _, rfl, by simp [D.pures, D.pure], hc6, [.bool false], hv6, We.2 ⟨by rw [Rp], Wq.2 rfl⟩⟩)
   have hst7 : St glob ⟨ρ6.c, nmB⟩ w6 (hOf [.cells 4 [.bool false]]) 20 [] ⟨ρ6.c, nmB⟩ w6 a6 (Qp ((List.replicate 20 D.junk).set 4 (.box 0 0))) (hOf [.cells 4 [.bool false]]) := ⟨hR6, Ex.refl _ _ _, tm_box (ρ := ρ6) (ρ' := ⟨ρ6.c, nmB⟩) rfl (by simp [D.pures, D.pure, List.replicate]) (fun k => (hst6.le0 (tl' := List.replicate 20 D.junk) (by simp [leT, tlM, List.replicate])).tmp k) hnB0 h42, hst6.size, hst6.df⟩
   refine wpIn_seq ?_
   refine wpIn_regionF Wb (K := fun tl' hl' _ => hl' = [.cells 4 [.bool false]]) (noDef_spec (by rfl)) ?_ ?_ hst7 rfl
   ·simp only [List.replicate, List.set]
    (repeat (rw [Qa]; simp))
    try simp [wpS_nil]
   rintro tl8 hl8 ρ8 w8 a8 rfl - hst8
   have hn8 : ρ8.nm 0 = some (b, f) := hst8.ex.grow.nm 0 _ hnB0
   have hv8 : w8.heap[b]? = some (.cells #[.bool false] 4 (0, 0)) := cells_bool1 (hst8.rel.obj 0 b f hn8)
   have hnl8 : ∀ k, k ≠ b -> ¬ Live ⟨ρ6.c, nmB⟩ (hOf [.cells 4 [.bool false]]) k := by
    rintro k hk ⟨i, f', h1, h2⟩
    cases i with
    | zero => rw [show (⟨ρ6.c, nmB⟩ : Rho).nm 0 = some (b, f) from hnB0] at h1; cases h1; exact hk rfl
    | succ i => cases h2
   have hsame8 : ∀ k, k < W2.heap.size -> k ≠ b -> k ≠ w.heap.size + 1 -> w8.heap[k]? = W2.heap[k]? := fun k hk1 hk2 hk3 => ((hst8.ex.frame k (by have := hi6.kept.size; omega) (hnl8 k hk2)).1).trans (hi6.kept.same k hk1 hk3)
   have hl8 := ((hst8.ex.frame (w.heap.size + 1) hlt6 (hnl8 _ (by omega))).1).trans hi6.lp
   have hlt8 : w.heap.size + 1 < w8.heap.size := Nat.lt_of_lt_of_le hlt6 hst8.ex.grow.size
   refine wpIn_ret ?_
   refine ⟨_, _, run_endRound (some .ret) hl8, .inr ⟨rfl, (hX _).2 ⟨⟨x, hx, hb⟩, ?_, ?_, ?_, ?_⟩⟩⟩
   ·have h1 := hk.size
    have h2 := hi6.kept.size
    have h3 := hst8.ex.grow.size
    refine ⟨?_, ?_, ?_, ?_, fun k hk0 => ?_⟩
    ·exact (hst8.ex.grow.os.trans hi6.kept.os).trans (hb2.os.trans hB0.os)
    ·exact (hst8.ex.grow.tape.trans hi6.kept.tape).trans (hb2.tape.trans hB0.tape)
    ·exact (hst8.ex.grow.output.trans hi6.kept.output).trans (hb2.output.trans hB0.output)
    ·simp; omega
    ·rw [World.putObj_heap_other (by omega), hsame8 k (by omega) (by omega) (by omega), hb2.block k (by omega)]
     exact hB0.block k hk0
   ·rw [World.putObj_heap_other (by omega)]; exact hv8
   ·rw [World.putObj_heap_other (by omega), hsame8 _ (by omega) (by omega) (by omega), hk.same _ (by omega) (by omega)]; exact hD1
   ·rw [World.putObj_heap_same hlt8]
    rfl
 ·rintro e W' ⟨⟨v, rfl⟩, hor⟩
  have hres : ∀ (fn : Func) (W5 : World) (tm : Array Value) (bb : Bool), fn.results = #[.cell 4 4] -> tm.getD 4 undef = .pointer (some ⟨b, 0, none⟩) -> W5.heap[b]? = some (.cells #[.bool bb] 4 (0, 0)) -> (results fn tm).run Tryz.prog W5 = .ok (.bool bb) W5 := by
   intro fn W5 tm bb hfn ht hh
   have h1 := run_loadVar (P := Tryz.prog) (T := Wa) (Wb 4) (by rfl) (b := b) (o := 0) (vs := [.bool bb]) (by rfl) (by intro _; rfl) (w := W5) (fun j u hu => by
    cases j with
    | zero => simp at hu; subst hu; simp [World.cell?, hh]
    | succ j => simp at hu)
   have ht' : tm[4]?.getD undef = .pointer (some ⟨b, 0, none⟩) := by simpa using ht
   have h2 : (if (Wa 4).k.isAgg then Value.agg [Value.bool bb].toArray else [Value.bool bb].headD undef) = .bool bb := by rfl
   rw [h2] at h1
   simp [results, hfn, ht', asAddr, h1]
  have hout : ∀ (W4 : World) (a4 : Act) (bb : Bool), a4.tmps.getD 4 undef = .pointer (some ⟨b, 0, none⟩) -> a4.defers = [{ target := .collected w.heap.size, args := #[] }] -> Below w0.heap.size w0 W4 -> W4.heap[b]? = some (.cells #[.bool bb] 4 (0, 0)) ->
    W4.heap[w.heap.size]? = some (.deferred (some [])) -> bb = normB l t -> LeavesInM (Fr none) 0 Tryz.prog Tryz.f15 a4.tmps (fun e w' => ∃ ρ' out hc', out.fgt = .ret (.bool (normB l t)) /\ OutM ρ' w' out e /\ Rel glob ρ' w' (hOf hc') /\ Ex ρ0 w0 (hOf []) ρ' w' (hOf hc')) a4.defers .returning W4 := by
   intro W4 a4 bb h4 hdf hB4 hv hD hbb
   rw [hdf]
   refine ⟨by simp, .inl ⟨_, _, rfl, run_takeDeferred hD, ?_⟩⟩
   have hlt : w.heap.size < W4.heap.size := (Array.getElem?_eq_some_iff.1 hD).1
   refine ⟨_, hres _ _ _ bb rfl h4 (by rw [World.putObj_heap_other (by omega)]; exact hv), ?_⟩
   have hB5 : Below w0.heap.size w0 (W4.putObj w.heap.size (.deferred none)) := ⟨hB4.os, hB4.tape, hB4.output, by simpa using hB4.size, fun k hk => by rw [World.putObj_heap_other (by omega)]; exact hB4.block k hk⟩
   have hov := hst.over hB5 (c' := ρ0.c) (fun _ _ => rfl) (fun k hk => hR0.fresh k (by have := hB5.size; omega))
   exact ⟨_, .ret (.bool bb), [], by rw [hbb]; rfl, ⟨_, rfl, by rw [Rp]⟩, hov.1, hov.2⟩
  rcases hor with ⟨hall, hk, hlp⟩ | hx
  ·have hN : normB l t = true := by
    unfold normB
    rw [List.all_eq_true]
    intro s hs
    have : (Wo l s).isSome = false := hall s hs
    cases hh : Wo l s with
    | none => rfl
    | some q => rw [hh] at this; cases this
   refine ⟨_, _, run_endLoop hlp (by rw [hrec]; simp), ?_⟩
   have hpend : rec.pending = none := by rw [hrec]
   obtain ⟨W4, hW4⟩ : ∃ W4, W4 = W'.putObj (w.heap.size + 1) (.loop { rec with state := .exhausted }) := ⟨_, rfl⟩
   have hlt' : w.heap.size + 1 < W'.heap.size := (Array.getElem?_eq_some_iff.1 hlp).1
   have hb4w : Below w.heap.size w W4 := by
    rw [hW4]
    refine ⟨hk.os.trans hbel.os, hk.tape.trans hbel.tape, hk.output.trans hbel.output, by simp; omega, fun k hk0 => ?_⟩
    rw [World.putObj_heap_other (by omega), hk.same k (by omega) (by omega)]
    exact hbel.block k hk0
   have hD4 : W4.heap[w.heap.size]? = some (.deferred (some [])) := by
    rw [hW4, World.putObj_heap_other (by omega), hk.same _ (by omega) (by omega)]
    exact hD1
   have hov := hstC.over hb4w (c' := ρ.c) (fun _ _ => rfl) (fun k hk0 => hfresh k (by have := hb4w.size; omega))
   rw [<- hW4, hpend]
   have hst4 : St glob ⟨ρ.c, nmB⟩ W4 (hOf [.cells 4 [.bool false]]) 20 [{ target := .collected w.heap.size, args := #[] }] ⟨ρ.c, nmB⟩ W4 { a with defers := { target := .collected w.heap.size, args := #[] } :: a.defers } (Qp (tlM l t (.box 0 0) .junk .junk .junk)) (hOf [.cells 4 [.bool false]]) := ⟨hov.1, Ex.refl _ _ _, fun k => (htm k).grow hov.2.grow, hstM.size, by have := hstM.df; simp [this]⟩
   show Code.wpIn (Fr none) 0 _ _ _ _ W4
   refine wpIn_seq ?_
   refine wpIn_regionF Wb (K := fun tl' hl' _ => leT (tlM l t (.box 0 0) .junk .junk .junk) tl' /\ hl' = [.cells 4 [.bool true]]) (noDef_spec (by rfl)) ?_ ?_ hst4 rfl
   ·simp only [tlM]
    (repeat (rw [Qa]; simp))
    try simp [wpS_nil, leT]
   rintro tl8 hl8 ρ8 w8 a8 ⟨hle8, rfl⟩ - hst8
   replace hst8 := hst8.le0 hle8
   have hn8 : ρ8.nm 0 = some (b, f) := hst8.ex.grow.nm 0 _ hnB0
   have hv8 : w8.heap[b]? = some (.cells #[.bool true] 4 (0, 0)) := cells_bool1 (hst8.rel.obj 0 b f hn8)
   have hnl8 : ∀ k, k ≠ b -> ¬ Live ⟨ρ.c, nmB⟩ (hOf [.cells 4 [.bool false]]) k := by
    rintro k hk ⟨i, f', h1, h2⟩
    cases i with
    | zero => rw [show (⟨ρ.c, nmB⟩ : Rho).nm 0 = some (b, f) from hnB0] at h1; cases h1; exact hk rfl
    | succ i => cases h2
   have hsame8 : ∀ k, k < W4.heap.size -> k ≠ b -> w8.heap[k]? = W4.heap[k]? := fun k hk1 hk2 => (hst8.ex.frame k hk1 (hnl8 k hk2)).1
   have hs4 := hb4w.size
   have hlt4 : w.heap.size < W4.heap.size := (Array.getElem?_eq_some_iff.1 hD4).1
   have h4 := hst8.tmp 4
   rw [show Qp (tlM l t (.box 0 0) .junk .junk .junk) 4 = .box 0 0 from rfl, Rp] at h4
   obtain ⟨b', f', h41, h42⟩ := h4
   rw [hn8] at h41
   cases h41
   refine wpIn_ret ?_
   refine hout w8 a8 true h42 hst8.df ?_ hv8 ((hsame8 _ hlt4 (by omega)).trans hD4) hN.symm
   refine ⟨?_, ?_, ?_, ?_, fun k hk0 => ?_⟩
   ·exact hst8.ex.grow.os.trans (hb4w.os.trans hB0.os)
   ·exact hst8.ex.grow.tape.trans (hb4w.tape.trans hB0.tape)
   ·exact hst8.ex.grow.output.trans (hb4w.output.trans hB0.output)
   ·have := hst8.ex.grow.size; omega
   ·rw [hsame8 k (by omega) (by omega), hb4w.block k (by omega)]
    exact hB0.block k hk0
  ·obtain ⟨⟨s, hs, hst⟩, hB', hv', hD', hlp'⟩ := (hX _).1 hx
   have hN : normB l t = false := by
    unfold normB
    rw [Bool.eq_false_iff]
    intro hh
    have := List.all_eq_true.1 hh s hs
    cases hq : Wo l s with
    | none => rw [hq] at hst; cases hst
    | some q => rw [hq] at this; cases this
   refine ⟨_, _, run_endLoop hlp' (by simp), ?_⟩
   show Code.wpIn (Fr none) 0 _ Code.ret _ _ _
   have h4 : a.tmps.getD 4 undef = .pointer (some ⟨b, 0, none⟩) := hv4
   have hlt' : w.heap.size + 1 < W'.heap.size := (Array.getElem?_eq_some_iff.1 hlp').1
   refine wpIn_ret ?_
   refine hout _ { a with defers := { target := .collected w.heap.size, args := #[] } :: a.defers } false h4 (by have := hstM.df; simp [this]) ?_ ?_ ?_ hN.symm
   ·exact ⟨hB'.os, hB'.tape, hB'.output, by simpa using hB'.size, fun k hk0 => by rw [World.putObj_heap_other (by omega)]; exact hB'.block k hk0⟩
   ·rw [World.putObj_heap_other (by omega)]; exact hv'
   ·rw [World.putObj_heap_other (by omega)]; exact hD'
end Go.Proofs.YtgloldepdhgfaaaGreatDoor
namespace Go.Proofs.YtgloldepdhgfaaaGreatDoor
set_option linter.unusedSimpArgs false
set_option linter.unusedVariables false
set_option maxHeartbeats 10000000
set_option maxRecDepth 20000
open Go.RowKit
attribute [local simp] Qb Qc Xd Xm opD Qp Ql Qi Qk hOf Wz Xn Xk TK.isAgg TK.known Xf Xe Wt Qr D.ofV inB Wm Xc binX binD binE Xl bndD capB IntKind.min IntKind.max IntKind.signed IntKind.bits Wx late
theorem eqB_self (t : T) : t.eqB t = true := (T.eqB_iff t t).2 rfl
end Go.Proofs.YtgloldepdhgfaaaGreatDoor
namespace Go.Proofs.YtgloldepdhgfaaaGreatDoor
set_option linter.unusedSimpArgs false
set_option linter.unusedVariables false
open Go.RowKit
def kid6 (k : Int) : Prop := k = 4 \/ k = 5 \/ k = 12 \/ k = 13 \/ k = 16 \/ k = 17
theorem kid6_stop (l : List C) {k : Int} (hk : kid6 k) (a b : T) : Wo l (ofT k [a, b]) = none /\ (ofT k [a, b]).trunc = ofT k [a, b] := by
 rcases hk with rfl | rfl | rfl | rfl | rfl | rfl <;> exact ⟨by rw [hstep_none rfl]; rfl, trunc_none rfl⟩
theorem kid6_hd (l : List C) {k : Int} (hk : kid6 k) (a b : T) : Hd l (ofT k [a, b]) 0 (ofT k [a, b]) := by
 obtain ⟨h1, h2⟩ := kid6_stop l hk a b
 have := Hd.stop h1
 rwa [h2] at this
theorem nms_pot {l : List C} {h n : Nat} {ts xs : List T} (H : Nms l h ts n xs) : T.pots xs <= T.pots ts + 7 * n := by
 induction H with
 | nil => simp
 | @cons h t u r ks xs m n p hd hk hr ih1 ih2 =>
  have h1 := hd.pot
  have h2 : (u.withKs ks).pot <= u.pot + 7 * n := by
   cases u with
   | mk k' n' a' ls' ks' =>
    have e : (T.mk k' n' a' ls' ks').withKs ks = .mk k' n' a' ls' ks := rfl
    have ih1 : T.pots ks <= T.pots ks' + 7 * n := ih1
    have e3 : ks.length = ks'.length := hk.len
    rw [e, T.pot, T.pot, e3]
    omega
  rw [T.pots, T.pots]
  omega
theorem normB_iff (l : List C) (t : T) : normB l t = true ↔ NrmT l t := by
 unfold normB
 rw [List.all_eq_true]
 induction t using T.ind with
 | h k n a ls ks ih =>
  constructor
  ·intro H
   refine .mk ?_ fun x hx => (ih x hx).1 fun s hs => H s ?_
   ·have := H (.mk k n a ls ks) (by rw [subs_eq]; exact List.mem_cons_self ..)
    cases hh : Wo l (.mk k n a ls ks) with
    | none => rfl
    | some v => rw [hh] at this; cases this
   ·exact subs_trans _ (kid_subs hx) hs
  ·intro H s hs
   cases H with
   | mk h hk =>
    rw [subs_eq, List.mem_cons] at hs
    rcases hs with rfl | hs
    ·rw [h]; rfl
    ·obtain ⟨q, hq, hs⟩ := mem_subss.1 hs
     exact (ih q hq).2 (hk q hq) s hs
def app7 : T := .mk 6 0 0 [] [lam6, vT 0]
def tA7 : T := .mk 5 0 0 [] [finN 2, app7]
theorem app7_step : Wo [] app7 = some (vT 0, 1) := by
 have h0 : Wo [] lam6 = none := by rw [hstep_none rfl]; rfl
 have ht : T.trunc lam6 = lam6 := trunc_none rfl
 have := hstep_at (l := []) (t := app7) (i := 0) (many := 2) rfl (by decide) h0
 rw [show app7.ks[0]'(by decide) = lam6 from rfl, ht] at this
 rw [this]
 rfl
theorem v0_stop : Wo [] (vT 0) = none /\ T.trunc (vT 0) = vT 0 := ⟨by rw [hstep_none rfl]; rfl, trunc_none rfl⟩
theorem fin2_stop : Wo [] (finN 2) = none /\ T.trunc (finN 2) = finN 2 := ⟨by rw [hstep_none rfl]; rfl, trunc_none rfl⟩
theorem tA7_nms : Nms [] 3 [tA7] 1 [lam6] := by
 have a1 : Hd [] tA7 0 tA7 := kid6_hd [] (.inr (.inl rfl)) _ _
 have a2 : Hd [] (finN 2) 0 (finN 2) := by have := Hd.stop fin2_stop.1; rwa [fin2_stop.2] at this
 have a3 : Hd [] app7 1 (vT 0) := by have := Hd.step app7_step (.stop v0_stop.1); rwa [v0_stop.2] at this
 have b1 : Nms [] 2 [finN 2, app7] 1 [finN 2, vT 0] := .cons (m := 0) (n := 0) (p := 1) a2 .nil (.cons (m := 1) (n := 0) (p := 0) a3 .nil .nil)
 exact .cons (m := 0) (n := 1) (p := 0) a1 b1 .nil
theorem lam6_norm : normB [] lam6 = true := (normB_iff _ _).2 (nms_norm tA7_nms lam6 (List.mem_singleton.2 rfl)).1
theorem tA7_norm : normB [] tA7 = false := by
 cases h : normB [] tA7 with
 | false => rfl
 | true =>
  have := nrm_cost tA7_nms fun t ht => by rw [List.mem_singleton.1 ht]; exact (normB_iff _ _).1 h
  omega
theorem ok_tA7 : okT tA7 := ok_two i64c i64c i64c (ok_finN 2 i64c) (ok_two i64c i64c i64c (ok_two i64c i64c i64c (ok_finN 2 i64c) ok_v) ok_v)
theorem ok_lam6 : okT lam6 := ok_two i64c i64c i64c (ok_finN 2 i64c) ok_v
theorem tA7_nmr : NmR [] 3 [tA7] 3 (some ([lam6], 2)) := by
 have := NmR.fin (f := 3) tA7_nms (by omega)
 rwa [show (3 : Int) - ((1 : Nat) : Int) = 2 by omega] at this
end Go.Proofs.YtgloldepdhgfaaaGreatDoor
namespace Go.Proofs.YtgloldepdhgfaaaGreatDoor
set_option linter.unusedSimpArgs false
set_option linter.unusedVariables false
set_option linter.unusedSimpArgs false
set_option linter.unusedVariables false
set_option maxHeartbeats 10000000
set_option maxRecDepth 20000
open Go.RowKit
attribute [local simp] Qb Qc Xd Xm opD Qp Ql Qi Qk hOf Wz Xn Xk TK.isAgg TK.known Xf Xe Wt Qr D.ofV inB Wm Xc binX binD binE Xl bndD capB IntKind.min IntKind.max IntKind.signed IntKind.bits Wx late
theorem v7_spec (n : Int) : Qt Tryz.prog glob 39 [.int .i64 n] [] (fun o _ => o.fgt = .ret (Qv (vT n))) := by
 unfold vT
 rw [encT_mk]
 refine Qt.movd Qe (Qq Wb Tryz.func39 rfl (Qy _ _ Tryz.func39 rfl (by decide)) rfl rfl ?_)
 (refine sR fun K hK => ?_; ((repeat (rw [Qa]; simp)); (try simp only [zs])); refine hK _ _ _ ?_; clear hK K)
 (refine sR fun K hK => ?_; ((repeat (rw [Qa]; simp)); (try simp only [zs])); refine hK _ _ _ ?_; clear hK K)
 (refine Qj ?_; (try simp only [zs]); refine Wc.ret rfl (.inl ?_); simp [Qp, Out.fgt, D.fgt, D.fgts])
theorem fin7_spec (n : Int) : Qt Tryz.prog glob 37 [.int .i64 n] [] (fun o _ => o.fgt = .ret (Qv (finN n))) := by
 unfold finN
 rw [encT_mk]
 refine Qt.movd Qe (Qq Wb Tryz.func37 rfl (Qy _ _ Tryz.func37 rfl (by decide)) rfl rfl ?_)
 (refine sR fun K hK => ?_; ((repeat (rw [Qa]; simp)); (try simp only [zs])); refine hK _ _ _ ?_; clear hK K)
 (refine sR fun K hK => ?_; ((repeat (rw [Qa]; simp)); (try simp only [zs])); refine hK _ _ _ ?_; clear hK K)
 (refine Qj ?_; (try simp only [zs]); refine Wc.ret rfl (.inl ?_); simp [Qp, Out.fgt, D.fgt, D.fgts])
theorem of7_spec (k : Int) (ks : List T) : Qt Tryz.prog glob 10 [.int .i64 k, .slice (ks.map Qv) .any] [] (fun o _ => o.fgt = .ret (Qv (.mk k 0 0 [] ks))) := by
 rw [encT_mk]
 refine Qt.movd Qe (Qq Wb Tryz.func10 rfl (Qy _ _ Tryz.func10 rfl (by decide)) rfl rfl ?_)
 (refine sR fun K hK => ?_; ((repeat (rw [Qa]; simp)); (try simp only [zs])); refine hK _ _ _ ?_; clear hK K)
 (refine sR fun K hK => ?_; ((repeat (rw [Qa]; simp)); (try simp only [zs])); refine hK _ _ _ ?_; clear hK K)
 (refine Qj ?_; (try simp only [zs]); refine Wc.ret rfl (.inl ?_); simp [Qp, Out.fgt, D.fgt, D.fgts])
theorem id7_spec : Qt Tryz.prog glob 38 [] [] (fun o _ => o.fgt = .ret (Qv lam6)) := by
 have f2 := fin7_spec 2
 have v0 := v7_spec 0
 have o1 := of7_spec 5 [finN 2, vT 0]
 rw [show T.mk 5 0 0 [] [finN 2, vT 0] = lam6 from rfl] at o1
 simp only [List.map_cons, List.map_nil] at o1
 have L2 : 2 <= Wd := by unfold Wd; omega
 have e : Qv lam6 = .agg [.int .i64 5, .int .i64 0, .int .i64 0, .slice [] .any, .slice [Qv (finN 2), Qv (vT 0)] .any] := by
  unfold lam6
  rw [encT_mk]
  rfl
 rw [e] at o1 ⊢
 generalize finN 2 = F2 at f2 o1 ⊢
 generalize vT 0 = V0 at v0 o1 ⊢
 have hF2 := Qd F2
 have hV0 := Qd V0
 simp only [hF2, hV0] at f2 v0 o1 ⊢
 refine Qt.movd Qe (Qq Wb Tryz.func38 rfl (Qy _ _ Tryz.func38 rfl (by decide)) rfl rfl ?_)
 (refine sR fun K hK => ?_; ((repeat (rw [Qa]; simp)); (try simp only [zs])); refine hK _ _ _ ?_; clear hK K)
 (refine sR fun K hK => ?_; ((repeat (rw [Qa]; simp)); (try simp only [zs])))
 refine cXp (f2) ?_
 ((try simp only [Qb, Qc, Ql, Qi, Qk]); (repeat (rw [Qa]; simp)); (try simp only [zs]))
 refine cXp (v0) ?_
 ((try simp only [Qb, Qc, Ql, Qi, Qk]); (repeat (rw [Qa]; simp [L2])); (try simp only [zs]))
 refine Xi.pureD Qe (o1) ?_ (by simp [D.deeps, D.deep, D.fgts, D.fgt]) (by simp [D.pures, D.pure, Cp.free, D.pures_map]) (by simp [Out.pure, D.pure, D.pures, Cp.free, D.pures_map])
 ((try simp only [Qb, Qc, Ql, Qi, Qk]); (repeat (rw [Qa]; simp)); (try simp only [zs]))
 (refine hK _ _ _ ?_; clear hK K)
 (refine Qj ?_; (try simp only [zs]); refine Wc.ret rfl (.inl ?_); simp [Qp, Out.fgt, D.fgt, D.fgts])
theorem awake7_spec : Qt Tryz.prog glob 9 [] [] (fun o _ => o.fgt = .ret (.bool true)) := by
 have f2 := fin7_spec 2
 have v0 := v7_spec 0
 have i0 := id7_spec
 have o1 := of7_spec 6 [lam6, vT 0]
 have o2 := of7_spec 5 [finN 2, app7]
 rw [show T.mk 6 0 0 [] [lam6, vT 0] = app7 from rfl] at o1
 rw [show T.mk 5 0 0 [] [finN 2, app7] = tA7 from rfl] at o2
 have w1 := normT_spec okCs_nil (f := 3) (by omega) (by omega) ⟨ok_tA7, by decide⟩ tA7_nmr
 have s1 := eqT_spec lam6 lam6 ok_lam6 ok_lam6
 rw [eqB_self] at s1
 have n1 := normal_spec okCs_nil ok_lam6 (by decide)
 have n2 := normal_spec okCs_nil ok_tA7 (by decide)
 rw [lam6_norm] at n1
 rw [tA7_norm] at n2
 unfold normD at w1
 have L2 : 2 <= Wd := by unfold Wd; omega
 simp only [List.map_cons, List.map_nil] at o1 o2
 generalize finN 2 = F2 at f2 o2
 generalize vT 0 = V0 at v0 o1
 generalize lam6 = L at i0 o1 w1 s1 n1
 generalize app7 = A at o1 o2
 generalize tA7 = S at o2 w1 n2
 have hF2 := Qd F2
 have hV0 := Qd V0
 have hL := Qd L
 have hA := Qd A
 have hS := Qd S
 unfold Cs at w1 n1 n2
 simp only [List.map_nil] at w1 n1 n2
 simp only [hF2, hV0, hL, hA, hS] at f2 v0 i0 o1 o2 w1 s1 n1 n2
 refine Qt.movd Qe (Qq Wb Tryz.func9 rfl (Qy _ _ Tryz.func9 rfl (by decide)) rfl rfl ?_)
 (refine sR fun K hK => ?_; ((repeat (rw [Qa]; simp)); (try simp only [zs])); refine hK _ _ _ ?_; clear hK K)
 (refine sR fun K hK => ?_; ((repeat (rw [Qa]; simp)); (try simp only [zs])))
 refine cXp (f2) ?_
 ((try simp only [Qb, Qc, Ql, Qi, Qk]); (repeat (rw [Qa]; simp)); (try simp only [zs]))
 refine cXp (i0) ?_
 ((try simp only [Qb, Qc, Ql, Qi, Qk]); (repeat (rw [Qa]; simp)); (try simp only [zs]))
 refine cXp (v0) ?_
 ((try simp only [Qb, Qc, Ql, Qi, Qk]); (repeat (rw [Qa]; simp [L2])); (try simp only [zs]))
 refine Xi.pureD Qe (o1) ?_ (by simp [D.deeps, D.deep, D.fgts, D.fgt]) (by simp [D.pures, D.pure, Cp.free, D.pures_map]) (by simp [Out.pure, D.pure, D.pures, Cp.free, D.pures_map])
 ((try simp only [Qb, Qc, Ql, Qi, Qk]); (repeat (rw [Qa]; simp [L2])); (try simp only [zs]))
 refine Xi.pureD Qe (o2) ?_ (by simp [D.deeps, D.deep, D.fgts, D.fgt]) (by simp [D.pures, D.pure, Cp.free, D.pures_map]) (by simp [Out.pure, D.pure, D.pures, Cp.free, D.pures_map])
 ((try simp only [Qb, Qc, Ql, Qi, Qk]); (repeat (rw [Qa]; simp)); (try simp only [zs]))
 (refine hK _ _ _ ?_; clear hK K)
 (refine sR fun K hK => ?_; ((repeat (rw [Qa]; simp)); (try simp only [zs])))
 refine cXp (w1) ?_
 ((try simp only [Qb, Qc, Ql, Qi, Qk]); (repeat (rw [Qa]; simp)); (try simp only [zs]))
 (refine hK _ _ _ ?_; clear hK K)
 (refine Qf fun K hK => ?_; refine dR fun KT hKT => ?_; ((repeat (rw [Qh]; simp)); (try simp only [Qm])))
 refine cYp (i0) ?_
 ((try simp only [Qn, Qo, Ql, Qi, Qk]); (repeat (rw [Qh]; simp)); (try simp only [Qm]))
 refine cYp (s1) ?_
 ((try simp only [Qn, Qo, Ql, Qi, Qk]); (repeat (rw [Qh]; simp)); (try simp only [Qm]))
 refine cYp (n1) ?_
 ((try simp only [Qn, Qo, Ql, Qi, Qk]); (repeat (rw [Qh]; simp)); (try simp only [Qm]))
 refine cYp (n2) ?_
 ((try simp only [Qn, Qo, Ql, Qi, Qk]); (repeat (rw [Qh]; simp)); (try simp only [Qm]))
 (refine hKT _ _ _ _ (by kernel_rfl) ?_; clear hKT KT; (try simp only [zs]))
 (refine hK _ _ _ ?_; clear hK K)
 (refine Qj ?_; (try simp only [zs]); refine Wc.ret rfl (.inl ?_); simp [Qp, Out.fgt, D.fgt, D.fgts])
theorem normD_cases7 {l : List C} (hl : ∀ c, c ∈ l -> okC c) {h : Nat} {t : T} {f : Int} {r : Option (List T × Int)} (ht : okT t) (H : NmR l h [t] f r) : ∃ x g e, normD r = .tuple [Qv x, .int .i64 g, .int .i64 e] /\ okT x /\ (e = 0 -> ∃ g', NmR l h [t] f (some ([x], g'))) := by
 cases r with
 | none => exact ⟨Wh, 0, 5, rfl, zero_ok, fun e => absurd e (by omega)⟩
 | some v =>
  obtain ⟨xs, g⟩ := v
  obtain ⟨x, rfl⟩ : ∃ x, xs = [x] := by
   generalize ho : some (xs, g) = o at H
   cases H with
   | fin H hn => cases ho; exact List.length_eq_one_iff.1 H.len
   | gone H => cases ho
  exact ⟨x, g, 0, rfl, nmT_ok hl ht H, fun _ => ⟨g, H⟩⟩
theorem wpD_seqh {P : Program} {G : Nat -> Option D} {M : Nat} {Q : DX -> List D -> List HO -> Df -> Prop} {tl : List D} {hl : List HO} {df : Df} {x y : Code} (W : List Nat) (ds : List D) (h1 : wpD P G M y Q (Qr tl W ds) hl df)
  (h2 : ∀ K : List D -> List HO -> Df -> Prop, (∀ tl', leT (Qr tl W ds) tl' -> K tl' hl df) -> wpD P G M x (Xe K Q) tl hl df) : wpD P G M (.seq x y) Q tl hl df := wpD_seqf W ds hl h1 h2
theorem nmR_one {l : List C} {h : Nat} {t x : T} {f g : Int} (H : NmR l h [t] f (some ([x], g))) : ∃ n : Nat, Nms l h [t] n [x] /\ (n : Int) <= f /\ g = f - n := by
 generalize ho : some ([x], g) = o at H
 cases H with
 | fin H hn => cases ho; exact ⟨_, H, hn, rfl⟩
 | gone H => cases ho
theorem nms_pot1 {l : List C} {h n : Nat} {t x : T} (H : Nms l h [t] n [x]) : x.pot <= t.pot + 7 * n := by
 have := nms_pot H
 rw [T.pots, T.pots, T.pots, T.pots] at this
 omega
theorem hstepC_spec {l : List C} (hcs : okCs l) {t : T} (ht : okT t) (hp : t.pot <= 20000) : ∃ c : Nat, c <= 1000000000 /\ (∀ u c', Wo l t = some (u, c') -> c' = c) /\ Qt Tryz.prog glob 16 [Cs l, Qv t] [] (fun o _ => o.fgt = .ret (.tuple [Qv (stepH l t), .int .i64 c, .bool (Wo l t).isSome])) := by
 have hS : okS t := ⟨ht, by unfold PM; omega⟩
 unfold stepH
 cases hst : Wo l t with
 | none => exact ⟨0, by omega, (fun u c' h => by cases h), hstep_fin hcs hS hst⟩
 | some v =>
  obtain ⟨u, c⟩ := v
  have hb := hstep_bound (B := 1048576) hcs.bo t hp hst
  exact ⟨c, by omega, (fun u c' h => by cases h; rfl), hstep_more hcs hS hst (by unfold DM; omega)⟩
theorem one7_main {l : List C} (hcs : okCs l) {n sc f g : Int} {t x : T} {way : List Int} {h : Nat} (ht : okT t) (sz : t.nsz <= 300) (h0 : 0 <= f) (h1 : f <= 2000) (hwl : way.length <= 1048576) (hsc : sc <= 1000) (R1 : NmR l h [t] f (some ([x], g))) :
  ∃ (u y w z : T) (c : Nat) (less ge g8 h8 : Int) (s bn sxy sm : Bool),
   Qt Tryz.prog glob 13 [Cs l, Qv x, .int .i64 3] [] (fun o _ => o.fgt = .ret (.tuple [Qv x, .int .i64 3, .int .i64 0])) /\
   Qt Tryz.prog glob 15 [Cs l, Qv x] [] (fun o _ => o.fgt = .ret (.bool true)) /\
   Qt Tryz.prog glob 14 [Qv x, Qv x] [] (fun o _ => o.fgt = .ret (.bool true)) /\
   g <= f /\ Qt Tryz.prog glob 15 [Cs l, Qv t] [] (fun o _ => o.fgt = .ret (.bool bn)) /\ (bn = true -> g = f) /\
   Qt Tryz.prog glob 16 [Cs l, Qv t] [] (fun o _ => o.fgt = .ret (.tuple [Qv u, .int .i64 c, .bool s])) /\ c <= 1000000000 /\
   Qt Tryz.prog glob 13 [Cs l, Qv u, .int .i64 (max (f - c) 0)] [] (fun o _ => o.fgt = .ret (.tuple [Qv y, .int .i64 less, .int .i64 ge])) /\
   Qt Tryz.prog glob 14 [Qv x, Qv y] [] (fun o _ => o.fgt = .ret (.bool sxy)) /\ (s = true -> ge = 0 /\ less = g /\ sxy = true) /\
   Qt Tryz.prog glob 18 [Cs l, Qv t, Ints way] [] (fun o _ => o.fgt = .ret (Qv w)) /\
   Qt Tryz.prog glob 13 [Cs l, Qv w, .int .i64 2000] [] (fun o _ => o.fgt = .ret (.tuple [Qv z, .int .i64 g8, .int .i64 h8])) /\
   Qt Tryz.prog glob 19 [Qv x, Qv z] [] (fun o _ => o.fgt = .ret (.bool sm)) /\
   (rightL l n sc t = true -> (g = f -> bn = true) /\ (h8 = 0 -> sm = true)) := by
 obtain ⟨n1, H, hn, hg⟩ := nmR_one R1
 have hx := nmT_ok hcs.ok ht R1
 have hpt := pot_le t
 have hpx := nms_pot1 H
 obtain ⟨nx, wx⟩ := nms_norm H x (List.mem_singleton.2 rfl)
 obtain ⟨d2, H2⟩ := norm_zero nx wx
 have R2 : NmR l d2 [x] 3 (some ([x], 3)) := by
  have := NmR.fin (f := 3) H2 (by omega)
  rwa [show (3 : Int) - ((0 : Nat) : Int) = 3 by omega] at this
 have n2 : (2000 : Int).toNat = 2000 := rfl
 have n3 : (3 : Int).toNat = 3 := rfl
 have c1 := normT_spec hcs (by omega) (by omega) ⟨hx, by unfold PM; omega⟩ R2
 have c2 := normal_spec hcs hx (by omega)
 rw [(normB_iff l x).2 nx] at c2
 have c3 := eqT_spec x x hx hx
 rw [eqB_self] at c3
 have c4 := normal_spec hcs ht (by omega)
 obtain ⟨c, hc, hcu, c5⟩ := hstepC_spec hcs ht (by omega)
 have huo := stepW_ok hcs [] ht
 have hup := stepW_pot (A := 2100) hcs.bo [] (t := t) (by omega)
 have e0 : stepW l t [] = stepH l t := by rw [stepW]
 rw [e0] at huo hup
 have hmx : 0 <= max (f - c) 0 /\ max (f - c) 0 <= 2000 := by omega
 have ou : okP 2000 (stepH l t) := ⟨huo, by unfold PM; omega⟩
 have key : ∃ (y : T) (less ge : Int), Qt Tryz.prog glob 13 [Cs l, Qv (stepH l t), .int .i64 (max (f - c) 0)] [] (fun o _ => o.fgt = .ret (.tuple [Qv y, .int .i64 less, .int .i64 ge])) /\ okT y /\ ((Wo l t).isSome = true -> ge = 0 /\ less = g /\ y = x) := by
  cases hst : Wo l t with
  | none =>
   obtain ⟨d3, r3, R3⟩ := nmR_total l (stepH l t) (max (f - c) 0) hmx.1
   have c6 := normT_spec hcs hmx.1 (by omega) (ou.le hmx.2) R3
   obtain ⟨y, g3, e3, q3, q4, -⟩ := normD_cases7 hcs.ok huo R3
   rw [q3] at c6
   exact ⟨y, g3, e3, c6, q4, fun e => by cases e⟩
  | some v =>
   obtain ⟨u, c'⟩ := v
   have hcc := hcu u c' hst
   subst hcc
   obtain ⟨m, em, Hu⟩ := nms_step H hst
   have eu : stepH l t = u := by unfold stepH; rw [hst]
   have hm : (m : Int) <= max (f - c') 0 := by omega
   have R3 := NmR.fin Hu hm
   rw [<- eu] at R3
   have c6 := normT_spec hcs hmx.1 (by omega) (ou.le hmx.2) R3
   exact ⟨x, _, 0, c6, hx, fun _ => ⟨rfl, by omega, rfl⟩⟩
 obtain ⟨y, less, ge, c6, hy, hs⟩ := key
 have c7 := eqT_spec x y hx hy
 have hwo := stepW_ok hcs way ht
 have hwp := stepW_pot (A := 2100) hcs.bo way (t := t) (by omega)
 have c8 := step7_spec hcs way (by unfold Wd; omega) ht (by omega)
 have ow : okP 2000 (stepW l t way) := ⟨hwo, by unfold PM; omega⟩
 obtain ⟨d9, r9, R9⟩ := nmR_total l (stepW l t way) 2000 (by omega)
 have c9 := normT_spec hcs (by omega) (by omega) ow R9
 obtain ⟨z, g8, h8, q3, q4, q5⟩ := normD_cases7 hcs.ok hwo R9
 rw [q3] at c9
 have c10 := sameT_spec x z hx q4
 refine ⟨stepH l t, y, stepW l t way, z, c, less, ge, g8, h8, _, _, _, _, c1, c2, c3, by omega, c4, fun hb => ?_, c5, hc, c6, c7, fun e => ?_, c8, c9, c10, fun hr => ?_⟩
 ·have := nrm_cost H fun q hq => by rw [List.mem_singleton.1 hq]; exact (normB_iff _ _).1 hb
  omega
 ·obtain ⟨e1, e2, e3⟩ := hs e
  exact ⟨e1, e2, by rw [e3]; exact eqB_self x⟩
 ·obtain ⟨hB, s0, hs0, wt⟩ := rightL_ws hcs.bo hsc (by omega) hr
  refine ⟨fun e => ?_, fun e => ?_⟩
  ·refine (normB_iff _ _).2 (cost_nrm H (by omega) (fun q hq => ?_) t (List.mem_singleton.2 rfl))
   rw [List.mem_singleton.1 hq]
   exact ⟨s0, wt⟩
  ·obtain ⟨g9, N9⟩ := q5 e
   obtain ⟨n9, H9, hn9, -⟩ := nmR_one N9
   have hdt := deep_pot t
   obtain ⟨pw, ww⟩ := stepW_pars hB way wt (by unfold SB; omega)
   have px : Pars l t x := nms_pars hB H (fun q hq => by rw [List.mem_singleton.1 hq]; exact ⟨s0, wt, by rw [Int.toNat_natCast]; unfold SB; omega⟩) 0 (by simp)
   have pz : Pars l (stepW l t way) z := nms_pars hB H9 (fun q hq => by rw [List.mem_singleton.1 hq]; exact ⟨s0, ww, by rw [Int.toNat_natCast]; unfold SB; omega⟩) 0 (by simp)
   have := norm_meet hB wt (by unfold SB; omega) ww (by unfold SB; omega) pw H H9 px pz
   rw [<- this]
   exact T.same_refl x
set_option maxHeartbeats 16000000 in
theorem one7_spec {l : List C} (hcs : okCs l) (hq : (cosz l : Int) <= QB) {n sc f : Int} {t : T} {way : List Int} (ht : okT t) (htq : (t.tsz : Int) < QB) (hwl : way.length <= 1048576) :
  Qt Tryz.prog glob 4 [Cs l, .int .i64 n, .int .i64 sc, Qv t, Ints way, .int .i64 f] [] (fun o _ => o.fgt = .ret (.bool true)) := by
 have aw := awake7_spec
 obtain ⟨gb, gr, hgr⟩ := great7_spec l t hcs.len hcs.ok ht
 have rat := right7_spec (n := n) (sc := sc) hcs ht
 have zz := eqT_spec Wh Wh zero_ok zero_ok
 rw [eqB_self] at zz
 have hmain : gb = false -> 0 <= f -> f <= 2000 -> sc <= 1000 -> 
   (Qt Tryz.prog glob 13 [Cs l, Qv t, .int .i64 f] [] (fun o _ => o.fgt = .ret (.tuple [Qv Wh, .int .i64 0, .int .i64 5]))) \/
   ∃ (x u y w z : T) (c : Nat) (g less ge g8 h8 : Int) (s bn sxy sm : Bool),
   Qt Tryz.prog glob 13 [Cs l, Qv t, .int .i64 f] [] (fun o _ => o.fgt = .ret (.tuple [Qv x, .int .i64 g, .int .i64 0])) /\
   Qt Tryz.prog glob 13 [Cs l, Qv x, .int .i64 3] [] (fun o _ => o.fgt = .ret (.tuple [Qv x, .int .i64 3, .int .i64 0])) /\
   Qt Tryz.prog glob 15 [Cs l, Qv x] [] (fun o _ => o.fgt = .ret (.bool true)) /\
   Qt Tryz.prog glob 14 [Qv x, Qv x] [] (fun o _ => o.fgt = .ret (.bool true)) /\
   g <= f /\ Qt Tryz.prog glob 15 [Cs l, Qv t] [] (fun o _ => o.fgt = .ret (.bool bn)) /\ (bn = true -> g = f) /\
   Qt Tryz.prog glob 16 [Cs l, Qv t] [] (fun o _ => o.fgt = .ret (.tuple [Qv u, .int .i64 c, .bool s])) /\ c <= 1000000000 /\
   Qt Tryz.prog glob 13 [Cs l, Qv u, .int .i64 (max (f - c) 0)] [] (fun o _ => o.fgt = .ret (.tuple [Qv y, .int .i64 less, .int .i64 ge])) /\
   Qt Tryz.prog glob 14 [Qv x, Qv y] [] (fun o _ => o.fgt = .ret (.bool sxy)) /\ (s = true -> ge = 0 /\ less = g /\ sxy = true) /\
   Qt Tryz.prog glob 18 [Cs l, Qv t, Ints way] [] (fun o _ => o.fgt = .ret (Qv w)) /\
   Qt Tryz.prog glob 13 [Cs l, Qv w, .int .i64 2000] [] (fun o _ => o.fgt = .ret (.tuple [Qv z, .int .i64 g8, .int .i64 h8])) /\
   Qt Tryz.prog glob 19 [Qv x, Qv z] [] (fun o _ => o.fgt = .ret (.bool sm)) /\
   (rightL l n sc t = true -> (g = f -> bn = true) /\ (h8 = 0 -> sm = true)) := by
  intro hgb h0 h1 hsc
  have sm := small7_of hq htq (hgr hgb)
  have pt := pot_le t
  have n2 : (2000 : Int).toNat = 2000 := rfl
  have ot : okP 2000 t := ⟨ht, by unfold PM; omega⟩
  obtain ⟨d1, r1, R1⟩ := nmR_total l t f h0
  have c1 := normT_spec hcs h0 (by omega) (ot.le h1) R1
  cases r1 with
  | none => exact .inl c1
  | some v =>
   obtain ⟨xs, g⟩ := v
   obtain ⟨x, rfl⟩ : ∃ x, xs = [x] := by
    generalize ho : some (xs, g) = o at R1
    cases R1 with
    | fin H hn => cases ho; exact List.length_eq_one_iff.1 H.len
    | gone H => cases ho
   obtain ⟨u, y, w, z, c, less, ge, g8, h8, s, bn, sxy, sm', k1, k2, k3, k4, k5, k6, k7, k8, k9, k10, k11, k12, k13, k14, k15⟩ := one7_main (n := n) (sc := sc) (way := way) hcs ht sm h0 h1 hwl hsc R1
   exact .inr ⟨x, u, y, w, z, c, g, less, ge, g8, h8, s, bn, sxy, sm', c1, k1, k2, k3, k4, k5, k6, k7, k8, k9, k10, k11, k12, k13, k14, k15⟩
 clear hgr
 generalize rightL l n sc t = ra at rat hmain
 have hwl' : way.length <= Wd := by unfold Wd; omega
 have hEt := Qd t
 rw [hEt] at gr hmain rat
 rw [encZ] at zz hmain
 unfold Cs at gr hmain rat
 unfold Ints at hmain
 unfold Cs Ints
 rw [hEt]
 clear hEt ht htq hq hcs
 refine Qt.movd Qe (Qq Wb Tryz.func4 rfl (Qy _ _ Tryz.func4 rfl (by decide)) rfl rfl ?_)
 (refine sR fun K hK => ?_; ((repeat (rw [Qa]; simp)); (try simp only [zs])); refine hK _ _ _ ?_; clear hK K)
 refine Qf fun K1 hK1 => ?_
 (refine sR fun K hK => ?_; ((repeat (rw [Qa]; simp)); (try simp only [zs])))
 refine cXp (aw) ?_
 ((try simp only [Qb, Qc, Ql, Qi, Qk]); (repeat (rw [Qa]; simp)); (try simp only [zs]))
 (refine hK _ _ _ ?_; clear hK K)
 refine pF rfl ?_
 refine Qs (hK1 _ _ _ ?_)
 clear hK1 K1 aw
 refine Qf fun K1 hK1 => ?_
 cases gb with
 | true =>
  (refine sR fun K hK => ?_; ((repeat (rw [Qa]; simp)); (try simp only [zs])))
  refine cXp (gr) ?_
  ((try simp only [Qb, Qc, Ql, Qi, Qk]); (repeat (rw [Qa]; simp)); (try simp only [zs]))
  (refine hK _ _ _ ?_; clear hK K)
  refine pT rfl ?_
  (refine sR fun K hK => ?_; ((repeat (rw [Qa]; simp)); (try simp only [zs])); refine hK _ _ _ ?_; clear hK K)
  (refine Qj ?_; (try simp only [zs]); refine Wc.ret rfl (.inl ?_); simp [Qp, Out.fgt, D.fgt, D.fgts])
 | false =>
 by_cases f1 : f < 0
 ·(refine sR fun K hK => ?_; ((repeat (rw [Qa]; simp [f1])); (try simp only [zs])))
  refine cXp (gr) ?_
  ((try simp only [Qb, Qc, Ql, Qi, Qk]); (repeat (rw [Qa]; simp [f1])); (try simp only [zs]))
  (refine hK _ _ _ ?_; clear hK K)
  refine pT rfl ?_
  (refine sR fun K hK => ?_; ((repeat (rw [Qa]; simp)); (try simp only [zs])); refine hK _ _ _ ?_; clear hK K)
  (refine Qj ?_; (try simp only [zs]); refine Wc.ret rfl (.inl ?_); simp [Qp, Out.fgt, D.fgt, D.fgts])
 by_cases f2 : 2000 < f
 ·(refine sR fun K hK => ?_; ((repeat (rw [Qa]; simp [f1, f2])); (try simp only [zs])))
  refine cXp (gr) ?_
  ((try simp only [Qb, Qc, Ql, Qi, Qk]); (repeat (rw [Qa]; simp [f1, f2])); (try simp only [zs]))
  (refine hK _ _ _ ?_; clear hK K)
  refine pT rfl ?_
  (refine sR fun K hK => ?_; ((repeat (rw [Qa]; simp)); (try simp only [zs])); refine hK _ _ _ ?_; clear hK K)
  (refine Qj ?_; (try simp only [zs]); refine Wc.ret rfl (.inl ?_); simp [Qp, Out.fgt, D.fgt, D.fgts])
 by_cases f3 : 60 < (way.length : Int)
 ·(refine sR fun K hK => ?_; ((repeat (rw [Qa]; simp [f1, f2, f3])); (try simp only [zs])))
  refine cXp (gr) ?_
  ((try simp only [Qb, Qc, Ql, Qi, Qk]); (repeat (rw [Qa]; simp [f1, f2, f3])); (try simp only [zs]))
  (refine hK _ _ _ ?_; clear hK K)
  refine pT rfl ?_
  (refine sR fun K hK => ?_; ((repeat (rw [Qa]; simp)); (try simp only [zs])); refine hK _ _ _ ?_; clear hK K)
  (refine Qj ?_; (try simp only [zs]); refine Wc.ret rfl (.inl ?_); simp [Qp, Out.fgt, D.fgt, D.fgts])
 by_cases f4 : 1000 < sc
 ·(refine sR fun K hK => ?_; ((repeat (rw [Qa]; simp [f1, f2, f3, f4])); (try simp only [zs])))
  refine cXp (gr) ?_
  ((try simp only [Qb, Qc, Ql, Qi, Qk]); (repeat (rw [Qa]; simp [f1, f2, f3, f4])); (try simp only [zs]))
  (refine hK _ _ _ ?_; clear hK K)
  refine pT rfl ?_
  (refine sR fun K hK => ?_; ((repeat (rw [Qa]; simp)); (try simp only [zs])); refine hK _ _ _ ?_; clear hK K)
  (refine Qj ?_; (try simp only [zs]); refine Wc.ret rfl (.inl ?_); simp [Qp, Out.fgt, D.fgt, D.fgts])
 (refine sR fun K hK => ?_; ((repeat (rw [Qa]; simp [f1, f2, f3, f4])); (try simp only [zs])))
 refine cXp (gr) ?_
 ((try simp only [Qb, Qc, Ql, Qi, Qk]); (repeat (rw [Qa]; simp [f1, f2, f3, f4])); (try simp only [zs]))
 (refine hK _ _ _ ?_; clear hK K)
 refine pF rfl ?_
 refine Qs (hK1 _ _ _ ?_)
 clear hK1 K1 gr
 rcases hmain rfl (by omega) (by omega) (by omega) with c0 | ⟨x, u, y, w, z, c, g, less, ge, g8, h8, s, bn, sxy, sm, k0, k1, k2, k3, k4, k5, k6, k7, k8, k9, k10, k11, k12, k13, k14, k15⟩
 ·clear hmain
  (refine sR fun K hK => ?_; ((repeat (rw [Qa]; simp)); (try simp only [zs])))
  refine cXp (c0) ?_
  ((try simp only [Qb, Qc, Ql, Qi, Qk]); (repeat (rw [Qa]; simp)); (try simp only [zs]))
  (refine hK _ _ _ ?_; clear hK K)
  refine Qf fun K1 hK1 => ?_
  (refine sR fun K hK => ?_; ((repeat (rw [Qa]; simp)); (try simp only [zs])); refine hK _ _ _ ?_; clear hK K)
  refine pT rfl ?_
  (refine sR fun K hK => ?_; ((repeat (rw [Qa]; simp)); (try simp only [zs])))
  refine cXp (zz) ?_
  ((try simp only [Qb, Qc, Ql, Qi, Qk]); (repeat (rw [Qa]; simp)); (try simp only [zs]))
  (refine hK _ _ _ ?_; clear hK K)
  (refine Qj ?_; (try simp only [zs]); refine Wc.ret rfl (.inl ?_); simp [Qp, Out.fgt, D.fgt, D.fgts])
 clear hmain
 have hEx := Qd x
 have hEu := Qd u
 have hEy := Qd y
 have hEw := Qd w
 have hEz := Qd z
 rw [hEx] at k0 k1 k2 k3 k10 k14
 rw [hEu] at k7 k9
 rw [hEy] at k9 k10
 rw [hEw] at k12 k13
 rw [hEz] at k13 k14
 clear hEx hEu hEy hEw hEz
 have hgf : ¬ f < g := by omega
 (refine sR fun K hK => ?_; ((repeat (rw [Qa]; simp)); (try simp only [zs])))
 refine cXp (k0) ?_
 ((try simp only [Qb, Qc, Ql, Qi, Qk]); (repeat (rw [Qa]; simp)); (try simp only [zs]))
 (refine hK _ _ _ ?_; clear hK K)
 refine Qf fun K1 hK1 => ?_
 (refine sR fun K hK => ?_; ((repeat (rw [Qa]; simp)); (try simp only [zs])); refine hK _ _ _ ?_; clear hK K)
 refine pF rfl ?_
 refine Qs (hK1 _ _ _ ?_)
 clear hK1 K1
 (refine sR fun K hK => ?_; ((repeat (rw [Qa]; simp)); (try simp only [zs])))
 refine cXp (k1) ?_
 ((try simp only [Qb, Qc, Ql, Qi, Qk]); (repeat (rw [Qa]; simp)); (try simp only [zs]))
 (refine hK _ _ _ ?_; clear hK K)
 refine wpD_seqh [79, 80, 81, 82, 83, 84, 85, 86, 87, 88, 89, 90, 91, 92, 93, 94, 95, 96, 97, 98, 99, 100, 101, 102, 103, 104, 105, 106, 107, 108, 109, 110, 111] [.junk, .junk, .junk, .junk, .junk, .junk, .junk, .junk, .junk, .junk, .junk, .junk, .junk, .junk, .junk, .junk, .junk, .junk, .junk, .junk, .junk, .junk, .junk, .junk, .junk, .junk, .junk, .junk, .junk, .junk, .junk, .junk, .junk] ?_ ?_; rotate_left
 ·intro K1 hK1
  cases bn with
  | true =>
   have hgf2 := k6 rfl
   subst hgf2
   (refine sR fun K hK => ?_; ((repeat (rw [Qa]; simp)); (try simp only [zs])))
   refine cXp (k2) ?_
   ((try simp only [Qb, Qc, Ql, Qi, Qk]); (repeat (rw [Qa]; simp)); (try simp only [zs]))
   refine cXp (k3) ?_
   ((try simp only [Qb, Qc, Ql, Qi, Qk]); (repeat (rw [Qa]; simp)); (try simp only [zs]))
   refine cXp (k5) ?_
   ((try simp only [Qb, Qc, Ql, Qi, Qk]); (repeat (rw [Qa]; simp)); (try simp only [zs]))
   (refine hK _ _ _ ?_; clear hK K)
   refine pF rfl ?_
   refine Qs (hK1 _ ?_)
   simp [leT, Qr]
  | false =>
   (refine sR fun K hK => ?_; ((repeat (rw [Qa]; simp)); (try simp only [zs])))
   refine cXp (k2) ?_
   ((try simp only [Qb, Qc, Ql, Qi, Qk]); (repeat (rw [Qa]; simp)); (try simp only [zs]))
   refine cXp (k3) ?_
   ((try simp only [Qb, Qc, Ql, Qi, Qk]); (repeat (rw [Qa]; simp [hgf])); (try simp only [zs]))
   refine cXp (k5) ?_
   ((try simp only [Qb, Qc, Ql, Qi, Qk]); (repeat (rw [Qa]; simp [hgf])); (try simp only [zs]))
   (refine hK _ _ _ ?_; clear hK K)
   refine pF rfl ?_
   refine Qs (hK1 _ ?_)
   simp [leT, Qr]
 simp only [Qr, List.set_cons_zero, List.set_cons_succ]
 clear k2 k3
 (refine sR fun K hK => ?_; ((repeat (rw [Qa]; simp)); (try simp only [zs])))
 refine cXp (k7) ?_
 ((try simp only [Qb, Qc, Ql, Qi, Qk]); (repeat (rw [Qa]; simp)); (try simp only [zs]))
 (refine hK _ _ _ ?_; clear hK K)
 have hw1 : IntKind.i64.wrap (f - c) = f - c := i64w (by omega) (by omega)
 (refine sR fun K hK => ?_; ((repeat (rw [Qa]; simp [hw1])); (try simp only [zs])))
 refine cXp (k9) ?_
 ((try simp only [Qb, Qc, Ql, Qi, Qk]); (repeat (rw [Qa]; simp)); (try simp only [zs]))
 (refine hK _ _ _ ?_; clear hK K)
 refine wpD_seqh [130, 131, 132, 133, 134, 135, 136, 137, 138, 139, 140, 141, 142, 143, 144, 145] [.junk, .junk, .junk, .junk, .junk, .junk, .junk, .junk, .junk, .junk, .junk, .junk, .junk, .junk, .junk, .junk] ?_ ?_; rotate_left
 ·intro K1 hK1
  cases s with
  | true =>
   obtain ⟨rfl, rfl, rfl⟩ := k11 rfl
   (refine sR fun K hK => ?_; ((repeat (rw [Qa]; simp)); (try simp only [zs])))
   refine cXp (k10) ?_
   ((try simp only [Qb, Qc, Ql, Qi, Qk]); (repeat (rw [Qa]; simp)); (try simp only [zs]))
   (refine hK _ _ _ ?_; clear hK K)
   refine pF rfl ?_
   refine Qs (hK1 _ ?_)
   simp [leT, Qr]
  | false =>
   (refine sR fun K hK => ?_; ((repeat (rw [Qa]; simp)); (try simp only [zs])); refine hK _ _ _ ?_; clear hK K)
   refine pF rfl ?_
   refine Qs (hK1 _ ?_)
   simp [leT, Qr]
 simp only [Qr, List.set_cons_zero, List.set_cons_succ]
 clear k7 k9 k10 k11
 refine Qf fun K1 hK1 => ?_
 cases ra with
 | false =>
  (refine sR fun K hK => ?_; ((repeat (rw [Qa]; simp)); (try simp only [zs])))
  refine cXp (rat) ?_
  ((try simp only [Qb, Qc, Ql, Qi, Qk]); (repeat (rw [Qa]; simp)); (try simp only [zs]))
  (refine hK _ _ _ ?_; clear hK K)
  refine pT rfl ?_
  (refine sR fun K hK => ?_; ((repeat (rw [Qa]; simp)); (try simp only [zs])); refine hK _ _ _ ?_; clear hK K)
  (refine Qj ?_; (try simp only [zs]); refine Wc.ret rfl (.inl ?_); simp [Qp, Out.fgt, D.fgt, D.fgts])
 | true =>
 (refine sR fun K hK => ?_; ((repeat (rw [Qa]; simp)); (try simp only [zs])))
 refine cXp (rat) ?_
 ((try simp only [Qb, Qc, Ql, Qi, Qk]); (repeat (rw [Qa]; simp)); (try simp only [zs]))
 (refine hK _ _ _ ?_; clear hK K)
 refine pF rfl ?_
 refine Qs (hK1 _ _ _ ?_)
 clear hK1 K1 rat
 obtain ⟨m1, m2⟩ := k15 rfl
 clear k15
 refine wpD_seqh [152, 153, 154, 155, 156, 157, 158, 159, 160] [.junk, .junk, .junk, .junk, .junk, .junk, .junk, .junk, .junk] ?_ ?_; rotate_left
 ·intro K1 hK1
  by_cases hgf3 : g = f
  ·have hb := m1 hgf3
   subst hb
   subst hgf3
   (refine sR fun K hK => ?_; ((repeat (rw [Qa]; simp)); (try simp only [zs])))
   refine cXp (k5) ?_
   ((try simp only [Qb, Qc, Ql, Qi, Qk]); (repeat (rw [Qa]; simp)); (try simp only [zs]))
   (refine hK _ _ _ ?_; clear hK K)
   refine pF rfl ?_
   refine Qs (hK1 _ ?_)
   simp [leT, Qr]
  ·(refine sR fun K hK => ?_; ((repeat (rw [Qa]; simp [hgf3])); (try simp only [zs])); refine hK _ _ _ ?_; clear hK K)
   refine pF rfl ?_
   refine Qs (hK1 _ ?_)
   simp [leT, Qr]
 simp only [Qr, List.set_cons_zero, List.set_cons_succ]
 clear k5 m1
 (refine sR fun K hK => ?_; ((repeat (rw [Qa]; simp)); (try simp only [zs])))
 refine cXp (k12) ?_
 ((try simp only [Qb, Qc, Ql, Qi, Qk]); (repeat (rw [Qa]; simp)); (try simp only [zs]))
 (refine hK _ _ _ ?_; clear hK K)
 (refine sR fun K hK => ?_; ((repeat (rw [Qa]; simp)); (try simp only [zs])))
 refine cXp (k13) ?_
 ((try simp only [Qb, Qc, Ql, Qi, Qk]); (repeat (rw [Qa]; simp)); (try simp only [zs]))
 (refine hK _ _ _ ?_; clear hK K)
 by_cases h8 : h8 = 0
 ·have hs := m2 h8
  subst hs
  subst h8
  (refine sR fun K hK => ?_; ((repeat (rw [Qa]; simp)); (try simp only [zs])))
  refine cXp (k14) ?_
  ((try simp only [Qb, Qc, Ql, Qi, Qk]); (repeat (rw [Qa]; simp)); (try simp only [zs]))
  (refine hK _ _ _ ?_; clear hK K)
  (refine Qj ?_; (try simp only [zs]); refine Wc.ret rfl (.inl ?_); simp [Qp, Out.fgt, D.fgt, D.fgts])
 ·(refine sR fun K hK => ?_; ((repeat (rw [Qa]; simp [h8])); (try simp only [zs])); refine hK _ _ _ ?_; clear hK K)
  (refine Qj ?_; (try simp only [zs]); refine Wc.ret rfl (.inl ?_); simp [Qp, Out.fgt, D.fgt, D.fgts])
end Go.Proofs.YtgloldepdhgfaaaGreatDoor
namespace Go.Proofs.YtgloldepdhgfaaaGreatDoor
set_option linter.unusedSimpArgs false
set_option linter.unusedVariables false
open Go.RowKit
def flat0 : DataW Unit -> List Value
 | .lit (.bool b) => [.bool b]
 | .lit (.int k n) => [.int k n]
 | _ => []
def flat1 : DataW Unit -> List Value
 | .agg l => l.flatMap flat0
 | _ => []
def flat2 : DataW Unit -> List Value
 | .agg l => l.flatMap flat1
 | _ => []
theorem chunks (m : Nat) : ∀ (n : Nat) (cs : List Value), cs.length = n * m -> cs = (List.range n).flatMap fun i => (cs.drop (i * m)).take m
 | 0, cs, h => by have : cs = [] := List.eq_nil_of_length_eq_zero (by simpa using h); subst this; rfl
 | n + 1, cs, h => by
  have h' : cs.length = n * m + m := by rw [h, Nat.add_mul, Nat.one_mul]
  have ih := chunks m n (cs.take (n * m)) (by rw [List.length_take]; omega)
  rw [List.range_succ, List.flatMap_append]
  have h1 : ((List.range n).flatMap fun i => (cs.drop (i * m)).take m) = cs.take (n * m) := by
   rw [ih]
   rw [List.flatMap_def, List.flatMap_def]
   congr 1
   apply List.map_congr_left
   intro i hi
   have hi := List.mem_range.1 hi
   have hle : i * m + m <= n * m := by
    have := Nat.mul_le_mul_right m (show i + 1 <= n by omega)
    rwa [Nat.add_mul, Nat.one_mul] at this
   rw [List.drop_take, List.take_take, Nat.min_eq_left (by omega)]
  rw [h1]
  simp only [List.flatMap_cons, List.flatMap_nil, List.append_nil]
  rw [List.take_of_length_le (l := cs.drop (n * m)) (by rw [List.length_drop]; omega), List.take_append_drop]
section
variable {enc : TypeId × Value -> Unit} {P : Program} {w : World} {base : Nat} {sp : Nat -> Bool} {held : Bool}
theorem flat_int {fuel : Nat} {t : TypeId} {cs : List Value} {d : DataW Unit} {ps : List MemPlace} (ht : P.underlying t = some (.int .i64)) (h : DataW.trod enc P w base sp held fuel t cs = some (d, ps)) : cs = flat0 d := by
 cases fuel with
 | zero => simp [DataW.trod] at h
 | succ fuel =>
  unfold DataW.trod at h
  rw [ht] at h
  rcases cs with _ | ⟨v, _ | ⟨v2, r⟩⟩
  ·simp at h
  ·cases v <;> simp at h
   obtain ⟨⟨rfl, -⟩, rfl, -⟩ := h
   rfl
  ·simp at h
theorem flat_bool {fuel : Nat} {t : TypeId} {cs : List Value} {d : DataW Unit} {ps : List MemPlace} (ht : P.underlying t = some .bool) (h : DataW.trod enc P w base sp held fuel t cs = some (d, ps)) : cs = flat0 d := by
 cases fuel with
 | zero => simp [DataW.trod] at h
 | succ fuel =>
  unfold DataW.trod at h
  rw [ht] at h
  rcases cs with _ | ⟨v, _ | ⟨v2, r⟩⟩
  ·simp at h
  ·cases v <;> simp at h
   obtain ⟨rfl, -⟩ := h
   rfl
  ·simp at h
theorem trod_array {fuel n : Nat} {t e : TypeId} {cs : List Value} {d : DataW Unit} {ps : List MemPlace} (ht : P.underlying t = some (.array n e)) (h : DataW.trod enc P w base sp held fuel t cs = some (d, ps)) :
  ∃ fuel' xs, cs.length = P.cellsOf t /\ d = .agg (xs.map (·.1)) /\ (List.range n).mapM (fun i => DataW.trod enc P w base sp held fuel' e ((cs.drop (i * P.cellsOf e)).take (P.cellsOf e))) = some xs := by
 cases fuel with
 | zero => simp [DataW.trod] at h
 | succ fuel =>
  unfold DataW.trod at h
  rw [ht] at h
  dsimp only at h
  split at h
  ·rename_i hl
   rw [Option.map_eq_some_iff] at h
   obtain ⟨xs, hm, h4⟩ := h
   simp only [Prod.mk.injEq] at h4
   exact ⟨fuel, xs, hl, h4.1.symm, hm⟩
  ·cases h
end
theorem flat_has {enc : TypeId × Value -> Unit} {w : World} {base : Nat} {sp : Nat -> Bool} {held : Bool} {fuel : Nat} {cs : List Value} {d : DataW Unit} {ps : List MemPlace} (h : DataW.trod enc Tryz.prog w base sp held fuel 222 cs = some (d, ps)) : cs = flat1 d := by
 obtain ⟨f, ds, rfl, h1, rfl, h3, h4⟩ := trod_struct (show Tryz.prog.underlying 222 = some (.struct (Tryz.prog.fieldsOf 222)) by kernel_rfl) h
 have hf : (Tryz.prog.fieldsOf 222).toList.map (fun f => (f.type, f.offset)) = [(4, 0), (4, 1), (3, 2), (3, 3), (3, 4)] := by kernel_rfl
 rw [show Tryz.prog.cellsOf 222 = 5 from by kernel_rfl] at h1
 obtain ⟨c0, c1, c2, c3, c4, rfl⟩ := len5 h1
 generalize (Tryz.prog.fieldsOf 222).toList = fs at hf h3 h4
 have hlen : fs.length = 5 := by simpa using congrArg List.length hf
 have key : ∀ i (hi : i < 5), ∃ p, DataW.trod enc Tryz.prog w base sp held f ([(4, 0), (4, 1), (3, 2), (3, 3), (3, 4)][i]).1 ((([c0, c1, c2, c3, c4] : List Value).drop ([(4, 0), (4, 1), (3, 2), (3, 3), (3, 4)][i]).2).take (Tryz.prog.cellsOf ([(4, 0), (4, 1), (3, 2), (3, 3), (3, 4)][i]).1)) = some (ds[i]'(by omega), p) := fun i hi => by
  obtain ⟨p, hp⟩ := h4 i (by omega) (by omega)
  have := List.getElem_of_eq hf (i := i) (by simpa using (by omega : i < fs.length))
  simp only [List.getElem_map] at this
  rw [<- this]
  exact ⟨p, hp⟩
 obtain ⟨p0, e0⟩ := key 0 (by omega)
 obtain ⟨p1, e1⟩ := key 1 (by omega)
 obtain ⟨p2, e2⟩ := key 2 (by omega)
 obtain ⟨p3, e3⟩ := key 3 (by omega)
 obtain ⟨p4, e4⟩ := key 4 (by omega)
 simp only [List.getElem_cons_zero, List.getElem_cons_succ] at e0 e1 e2 e3 e4
 rw [show Tryz.prog.cellsOf 3 = 1 from by kernel_rfl] at e2 e3 e4
 rw [show Tryz.prog.cellsOf 4 = 1 from by kernel_rfl] at e0 e1
 have g0 := flat_bool (show Tryz.prog.underlying 4 = some .bool by kernel_rfl) e0
 have g1 := flat_bool (show Tryz.prog.underlying 4 = some .bool by kernel_rfl) e1
 have g2 := flat_int Tryz.underlying3 e2
 have g3 := flat_int Tryz.underlying3 e3
 have g4 := flat_int Tryz.underlying3 e4
 simp only [List.drop_zero, List.drop_succ_cons, List.take_succ_cons, List.take_zero] at g0 g1 g2 g3 g4
 obtain ⟨x0, r0, rfl⟩ := List.exists_cons_of_ne_nil (l := ds) (by rintro rfl; simp at h3; omega)
 obtain ⟨x1, r1, rfl⟩ := List.exists_cons_of_ne_nil (l := r0) (by rintro rfl; simp at h3; omega)
 obtain ⟨x2, r2, rfl⟩ := List.exists_cons_of_ne_nil (l := r1) (by rintro rfl; simp at h3; omega)
 obtain ⟨x3, r3, rfl⟩ := List.exists_cons_of_ne_nil (l := r2) (by rintro rfl; simp at h3; omega)
 obtain ⟨x4, r4, rfl⟩ := List.exists_cons_of_ne_nil (l := r3) (by rintro rfl; simp at h3; omega)
 have hr : r4 = [] := List.eq_nil_of_length_eq_zero (by simp at h3; omega)
 subst hr
 simp only [List.getElem_cons_zero, List.getElem_cons_succ] at g0 g1 g2 g3 g4
 simp [flat1, <- g0, <- g1, <- g2, <- g3, <- g4]
def kindVals : List Value := kindRowsD.flatMap fun r => [.bool r.1, .bool r.2.1, .int .i64 r.2.2.1, .int .i64 r.2.2.2.1, .int .i64 r.2.2.2.2]
theorem kinds_lie {W : World} (h : laidMet Tryz.prog [("spandrel/term.kinds", Rows.laid_spandrel_term_kinds)] W) : ∀ i u, kindVals[i]? = some u -> W.cell? ⟨0, 0 + i, none⟩ = some u := by
 obtain ⟨ps, ⟨g', t', cs, fuel, p, q, hg', ht', hvar, hd, _, _⟩, _⟩ := h
 obtain rfl := Option.some.inj ((show Tryz.prog.globalNamed "spandrel/term.kinds" = some 0 by kernel_rfl).symm.trans hg')
 obtain rfl := Option.some.inj ((show (Tryz.prog.globals[0]?).map (·.type) = some 223 by kernel_rfl).symm.trans ht')
 obtain ⟨f, xs, h1, h2, h3⟩ := trod_array Tryz.underlying223 hd
 rw [show Tryz.prog.cellsOf 223 = 25 * 5 from by kernel_rfl] at h1
 rw [show Tryz.prog.cellsOf 222 = 5 from by kernel_rfl] at h3
 obtain ⟨h4, h5⟩ := mapM_some h3
 simp only [List.length_range] at h4
 have hcs : cs.toList = flat2 Rows.laid_spandrel_term_kinds := by
  rw [chunks 5 25 cs.toList h1, h2]
  show _ = (xs.map (·.1)).flatMap flat1
  rw [show (List.range 25).flatMap (fun i => (cs.toList.drop (i * 5)).take 5) = ((List.range 25).map fun i => (cs.toList.drop (i * 5)).take 5).flatten from by rw [List.flatMap_def]]
  rw [List.flatMap_def, List.map_map]
  congr 1
  apply List.ext_getElem (by simp [h4])
  intro i hi hi'
  simp only [List.length_map, List.length_range] at hi
  simp only [List.getElem_map, List.getElem_range, Function.comp_apply]
  have := h5 i (by simpa using hi) (by omega)
  simp only [List.getElem_range] at this
  exact flat_has this
 have hkc : flat2 Rows.laid_spandrel_term_kinds = kindVals := by kernel_rfl
 rw [hkc] at hcs
 have hcell := World.var?_cell (show Tryz.prog.globalNamed "spandrel/term.kinds" = some 0 by kernel_rfl) hvar
 intro i u hu
 have := hcell i
 rw [Nat.zero_add, this, <- hu, <- hcs, Array.getElem?_toList]
def litV : D -> Option Value
 | .bool b => some (.bool b)
 | .int k n => if k.min <= n /\ n <= k.max then some (.int k n) else none
 | _ => none
theorem RpL_lit {w : World} : ∀ {ds : List D} {vs : List Value}, ds.map litV = vs.map some -> RpL rho0 w ds vs
 | [], [], _ => by rw [RpL]
 | [], _ :: _, h => by simp at h
 | _ :: _, [], h => by simp at h
 | d :: r, v :: s, h => by
  simp only [List.map_cons, List.cons.injEq] at h
  refine We.2 ⟨?_, RpL_lit h.2⟩
  have h1 := h.1
  cases d <;> simp [litV] at h1
  ·rw [Rp]; exact ⟨h1.2.symm, h1.1⟩
  ·rw [Rp]; exact h1.symm
theorem rel_kinds {W : World} (h : laidMet Tryz.prog [("spandrel/term.kinds", Rows.laid_spandrel_term_kinds)] W) : Rel glob rho0 W (hOf []) := by
 refine ⟨fun _ _ => rfl, fun _ _ => rfl, (fun _ _ _ h => nomatch h), (fun _ _ _ _ _ h => nomatch h), fun g d hd => ?_⟩
 unfold glob at hd
 split at hd
 ·rename_i hg
  subst hg
  cases hd
  exact RpC_mk (RpL_lit (vs := kindVals) (by kernel_rfl)) (by kernel_rfl) (kinds_lie h)
 ·cases hd
theorem calls_trueK {f : FuncId} {args : List D} {vs : List Value} {w : World} (hR : Rel glob rho0 w (hOf [])) (h : Qt Tryz.prog glob f args [] (fun o _ => o.fgt = .ret (.bool true))) (hv : RpL rho0 w args vs) :
  Calls Tryz.prog f vs.toArray w fun e w' => e = .returned (.bool true) /\ Below w.heap.size w w' := by
 refine (h rho0 w vs hR hv).2.mono ?_
 rintro e w' ⟨ρ', out, hc', ho, hm, -, hx⟩
 refine ⟨?_, ex_below hx⟩
 cases out with
 | pan d => cases ho
 | ret d =>
  obtain ⟨u, rfl, hu⟩ := hm
  have hd : d = .bool true := by
   cases d <;> simp [Out.fgt, D.fgt] at ho
   subst ho; rfl
  subst hd
  rw [Rp] at hu
  rw [hu]
noncomputable def laidWorld (os : Os) : World :=
 { World.holding Tryz.prog os ⟨#[], #[], []⟩ with heap := (World.holding Tryz.prog os ⟨#[], #[], []⟩).heap.modify 0 fun
   | .cells _ t frozen => .cells kindVals.toArray t frozen
   | o => o }
end Go.Proofs.YtgloldepdhgfaaaGreatDoor
