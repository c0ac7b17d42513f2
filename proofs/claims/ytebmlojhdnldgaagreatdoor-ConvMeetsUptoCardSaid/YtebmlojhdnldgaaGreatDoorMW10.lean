/-
  MW10: the texts Dcard Dot Dox Doy, one behind the other.
-/
import Derived.Carry
import Derived.Below
import Derived.Test.YtebmlojhdnldgaaGreatDoorMW9
namespace Go.Proofs.YtebmlojhdnldgaaGreatDoor
set_option linter.unusedSimpArgs false
set_option linter.unusedVariables false
open Go.RowKit Go.WideShapes Go.ChangeShapes
theorem ex_below {w w' : World} {ρ' : Rho} {H : Nat -> HO} (h : Ex rho0 w (hOf []) ρ' w' H) : Below w.heap.size w w' :=
 ⟨h.grow.os, h.grow.tape, h.grow.output, h.grow.size, fun k hk => (h.grow.whole k hk rfl).2⟩
theorem laidOut : laidOutB Tryz.prog = true := by kernel_rfl
section
variable {H : Type} {enc : TypeId × Value -> H} {P : Program}
theorem trodAll_stays (hl : laidOutB P = true) {W W' : World} {sp : Nat -> Bool} (hb : Below W.heap.size W W') : ∀ (ts : List TypeId) (vs : List Value) (ds : List (DataW H)) (ps : List MemPlace), (∀ t, t ∈ ts -> P.readableRec t = true /\ t < P.types.size) ->
  DataW.TrodAll enc P W 0 (fun _ => true) true ts vs ds ps -> (∀ x ∈ ps, x.block < W.heap.size) -> (∀ x ∈ ps, sp x.block = true) -> DataW.TrodAll enc P W' 0 sp true ts vs ds ps
 | [], [], [], ps, _, h, _, _ => h
 | t :: ts, v :: vs, d :: ds, ps, ht, h, hlt, hsp => by
  obtain ⟨p, q, h1, h2, rfl⟩ := h
  obtain ⟨r1, r2⟩ := ht t List.mem_cons_self
  exact ⟨p, q, WideElems.Trod_stays hl r1 r2 h1 (fun x hx => hb.same (hlt x (List.mem_append_left _ hx))) (fun x hx => hsp x (List.mem_append_left _ hx)),
   trodAll_stays hl hb ts vs ds q (fun t h => ht t (List.mem_cons_of_mem _ h)) h2 (fun x hx => hlt x (List.mem_append_right _ hx)) (fun x hx => hsp x (List.mem_append_right _ hx)), rfl⟩
 | [], [], _ :: _, _, _, h, _, _ => h.elim
 | [], _ :: _, _, _, _, h, _, _ => h.elim
 | _ :: _, [], _, _, _, h, _, _ => h.elim
 | _ :: _, _ :: _, [], _, _, h, _, _ => h.elim
theorem post_of_below {f : Func} {s : ChangeSpec} {apart fresh handsOn again : Bool} {W W' : World} {args : Array Value} {v : Value} {ds gs : List (DataW H)} {before pa pv : List MemPlace}
  (hW : DataW.Whole enc P f.params.toList s.vars apart W args.toList ds gs before)
  (hres : ∀ (b : Nat) (sp : Nat -> Bool) (hd : Bool), DataW.TrodAll enc P W' b sp hd f.resultTypes.toList (v.resultList f.resultTypes.size) (s.fn H (ds ++ gs)).results [])
  (hargs : ∀ sp : Nat -> Bool, (∀ p ∈ before, sp p.block = true) -> DataW.TrodAll enc P W' 0 sp true f.params.toList args.toList (s.fn H (ds ++ gs)).args pa)
  (hvars : ∀ sp : Nat -> Bool, (∀ p ∈ before, sp p.block = true) -> DataW.TrodVars enc P W' sp s.vars (s.fn H (ds ++ gs)).vars pv)
  (hps : before = pa ++ pv) (hb : Below W.heap.size W W')
  (hok : ∀ (j : Nat) (t : TypeId) (r : Value), f.resultTypes[j]? = some t -> (v.resultList f.resultTypes.size)[j]? = some r -> Value.okWide P W' .any 0 t r) :
  s.post enc P f apart fresh handsOn again W args v W' := by
 have hlt : ∀ p ∈ before, p.block < W.heap.size := fun p hp => hW.lt p hp
 have hold : ∀ p ∈ before, (fun b => decide (b < W.heap.size)) p.block = true := fun p hp => by simpa using hlt p hp
 refine ⟨ds, gs, before, [], pa, pv, hW, hres _ _ _, hargs _ hold, hvars _ hold, World.keptBut_mono (fun p hp => ⟨hp, ?_⟩) (hb.frame (· ∈ before)), fun _ => ?_⟩
 ·rw [hps, List.mem_append] at hp
  exact Or.inr hp
 ·obtain ⟨_, _, _, _, _, hz, hn⟩ := hW
  refine ⟨hok, _, _, ([] ++ pa) ++ pv, ⟨[] ++ pa, pv, trodAll_append (hargs _ (fun _ _ => rfl)) (hres _ _ _), hvars _ (fun _ _ => rfl), rfl, ?_, ?_⟩, ?_⟩
  ·intro b off hp
   have hin : MemPlace.cell b off ∈ before := by rw [hps]; simpa using hp
   rw [hb.frozen (hlt _ hin)]
   exact hz b off hin
  ·intro ha
   have := hn ha
   rw [hps] at this
   simpa using this
  ·intro p hp _
   rw [hps]
   simpa using hp
theorem post_law {f : Func} {s : ChangeSpec} {apart fresh handsOn again : Bool} {W W' : World} {args : Array Value} {ds gs : List (DataW H)} {before : List MemPlace} {tb : TypeId} (hl : laidOutB P = true) (htb : P.underlying tb = some .bool) (hrt : f.resultTypes = #[tb]) (hsv : s.vars = [])
  (hts : ∀ t, t ∈ f.params.toList -> P.readableRec t = true /\ t < P.types.size) (hW : DataW.Whole enc P f.params.toList s.vars apart W args.toList ds gs before) (hs : gs = [] -> s.fn H (ds ++ gs) = { results := [.lit (.bool true)], args := ds }) (hb : Below W.heap.size W W') :
  s.post enc P f apart fresh handsOn again W args (.bool true) W' := by
 have hW' := hW
 obtain ⟨p, q, hA, hV, hbf, -, -⟩ := hW
 rw [hsv] at hV
 obtain ⟨rfl, rfl⟩ := trodVars_none hV
 have hs' := hs rfl
 have hlt : ∀ x ∈ p, x.block < W.heap.size := fun x hx => hW'.lt x (by rw [hbf]; simpa using hx)
 refine post_of_below (pa := p) (pv := []) hW' (fun b sp hd => ?_) (fun sp hsp => ?_) (fun sp hsp => ?_) (by rw [hbf]) hb ?_
 ·rw [hrt, hs']
  exact trodAll_cons_mk (shut_bool htb _) trodAll_mk0
 ·rw [hs']
  exact trodAll_stays hl hb _ _ _ _ hts hA hlt (fun x hx => hsp x (by rw [hbf]; simpa using hx))
 ·rw [hs', hsv]; rfl
 ·exact ok_one hrt rfl (okWide_bool_mk htb _)
theorem arg_agg {W : World} {base : Nat} {t : TypeId} {v : Value} {fs : Array Field} (ht : P.underlying t = some (.struct fs)) (h : Value.okWide P W .any base t v) : ∃ cs : Array Value, v = .agg cs := by
 unfold Value.okWide at h
 rw [ht] at h
 obtain ⟨cs, h, -⟩ := h
 exact ⟨cs, h⟩
end
section
variable {H : Type} {enc : TypeId × Value -> H} {W : World} {base b0 : Nat} {sp : Nat -> Bool} {held : Bool} {v : Value} {d : DataW H} {p : List MemPlace}
set_option maxRecDepth 100000 in
theorem arg_ints (hk : Rows.uptoBulk d <= 1048576) (hv : Value.okWide Tryz.prog W .any base 38 v) (h : DataW.Trod enc Tryz.prog W b0 sp held 38 v d p) : ∃ ns : List Int, Rp rho0 W (Ints ns) v /\ ns.length <= 1048576 := by
 obtain ⟨a, len, cap, rfl⟩ := okWide_slice Tryz.underlying38 hv
 obtain ⟨fuel, hf⟩ := h
 obtain ⟨v', ns, he, hr, hl⟩ := open_ints hk hf
 have : v' = .slice a len cap := by
  have : ([Value.slice a len cap] : List Value) = [v'] := he
  simpa using this.symm
 subst this
 exact ⟨ns, hr, hl⟩
end
end Go.Proofs.YtebmlojhdnldgaaGreatDoor
namespace Go.Proofs.YtebmlojhdnldgaaGreatDoor
set_option linter.unusedSimpArgs false
set_option linter.unusedVariables false
open Go.RowKit Go.WideShapes Go.ChangeShapes
set_option maxRecDepth 100000
theorem sum_bulk {H α : Type} : ∀ (xs : List α) (elems : List (DataW H)) (μ : α -> Nat), xs.length = elems.length -> (∀ i (h : i < xs.length) (h' : i < elems.length), μ xs[i] <= Rows.uptoBulk elems[i]) -> (xs.map μ).sum <= Rows.uptoBulkAll elems
 | [], [], μ, _, _ => by simp
 | [], _ :: _, μ, h, _ => by simp at h
 | _ :: _, [], μ, h, _ => by simp at h
 | x :: r, e :: s, μ, h, h2 => by
  simp only [List.map_cons, List.sum_cons, Rows.uptoBulkAll]
  have h3 := h2 0 (by simp) (by simp)
  simp only [List.getElem_cons_zero] at h3
  have h4 := sum_bulk r s μ (by simpa using h) (fun i h5 h6 => by
   have := h2 (i + 1) (by simpa using h5) (by simpa using h6)
   simpa using this)
  omega
theorem nszs_sum : ∀ l : List T, T.nszs l = (l.map T.nsz).sum
 | [] => by rw [T.nszs]; rfl
 | t :: r => by rw [T.nszs, nszs_sum r]; rfl
section
variable {H : Type} {enc : TypeId × Value -> H} {w : World} {base : Nat} {sp : Nat -> Bool} {held : Bool}
theorem open_sl2 {α : Type} (en : α -> D) {t e : TypeId} {sz : Nat} (ht : Tryz.prog.underlying t = some (.slice e)) (he : Tryz.prog.cellsOf e = sz) (hsz : 0 < sz) (hes : ∀ x, (en x).size = sz /\ (en x).cells.all D.one = true) (M : Nat -> α -> Prop) {fuel : Nat} {cs : List Value} {d : DataW H} {ps : List MemPlace} (hb : Rows.uptoBulk d <= 1048576)
  (hE : ∀ f ecs de p, f < fuel -> Rows.uptoBulk de < Rows.uptoBulk d -> DataW.trod enc Tryz.prog w base sp held f e ecs = some (de, p) -> ∃ x, RpL rho0 w (en x).cells ecs /\ M (Rows.uptoBulk de) x) (hM : ∀ x m n, m <= n -> M m x -> M n x)
  (h : DataW.trod enc Tryz.prog w base sp held fuel t cs = some (d, ps)) : ∃ (v : Value) (xs : List α), cs = [v] /\ Rp rho0 w (.slice (xs.map en) .any) v /\ xs.length < Rows.uptoBulk d + 1 /\ (∀ x, x ∈ xs -> M (Rows.uptoBulk d - 1) x) /\ ∀ μ : α -> Nat, (∀ x m, M m x -> μ x <= m) -> (xs.map μ).sum + 1 <= Rows.uptoBulk d := by
 rcases trod_slice ht h with rfl | ⟨fuel', a, len, cap, elems, rest, rfl, rfl, h1, h2, rfl, h3, h4⟩
 ·refine ⟨_, [], rfl, ?_, by simp, (fun x hx => nomatch hx), fun μ _ => by have := bulk_one d; simp; omega⟩
  rw [Rp]
  exact ⟨none, 0, sz, rfl, by simp, by simp, by simp, (fun e he => nomatch he), trivial, fun h => absurd rfl h⟩
 ·have hlen : elems.length + 1 <= Rows.uptoBulk (.slice elems rest) := by
   have := bulk_len elems
   simp only [Rows.uptoBulk]; omega
  have key : ∀ i (hi : i < elems.length), ∃ x ecs, w.cells? base (a.add (i * sz)) sz = some ecs /\ RpL rho0 w (en x).cells ecs /\ M (Rows.uptoBulk (DataW.slice elems rest) - 1) x /\ M (Rows.uptoBulk elems[i]) x := fun i hi => by
   obtain ⟨ecs, p, h5, h6⟩ := h4 i hi
   have hlt : Rows.uptoBulk elems[i] < Rows.uptoBulk (.slice elems rest) := by
    have := bulk_part (List.getElem_mem (l := elems) hi)
    simp only [Rows.uptoBulk]; omega
   obtain ⟨x, h7, h8⟩ := hE fuel' ecs elems[i] p (by omega) hlt h6
   exact ⟨x, ecs, by rw [<- he]; exact h5, h7, hM _ _ _ (by omega) h8, h8⟩
  let xs : List α := List.ofFn (n := elems.length) fun i => (key i.1 i.2).choose
  have hxl : xs.length = elems.length := by simp [xs]
  have hget : ∀ i (hi : i < elems.length), xs[i]? = some (key i hi).choose := fun i hi => by simp [xs, List.getElem?_ofFn, hi]
  refine ⟨_, xs, rfl, ?_, by omega, ?_, ?_⟩
  ·rw [Rp]
   refine ⟨some a, cap, sz, by rw [List.length_map, hxl, h3], by rw [List.length_map]; omega, h2, by rw [List.length_map]; unfold Wd; omega, fun e he => ?_, trivial, fun hne => ?_⟩
   ·obtain ⟨x, -, rfl⟩ := List.mem_map.1 he
    exact (hes x).1
   ·have h0 : 0 < elems.length := by
     rcases Nat.eq_zero_or_pos elems.length with h | h
     ·exact absurd (List.eq_nil_of_length_eq_zero (by rw [List.length_map]; omega)) hne
     ·exact h
    obtain ⟨ecs0, c0, -⟩ := (key 0 h0).choose_spec
    rw [show a.add (0 * sz) = a from by simp [Addr.add]] at c0
    obtain ⟨b, o, rfl, hlt, -, -⟩ := cells_at c0 hsz
    refine ⟨b, o, rfl, RpE_mk (sz := sz) (fun e he => ?_) fun i hi => ?_⟩
    ·obtain ⟨x, -, rfl⟩ := List.mem_map.1 he
     exact hes x
    ·have hi' : i < elems.length := by rw [List.length_map] at hi; omega
     have hx := hget i hi'
     have hx' : (xs.map en)[i] = en (key i hi').choose := by
      rw [List.getElem_map]
      have := List.getElem?_eq_some_iff.1 hx
      exact congrArg en this.2
     rw [hx']
     obtain ⟨ecs, c1, c2, -⟩ := (key i hi').choose_spec
     have hadd : (⟨b, o, none⟩ : Addr).add (i * sz) = ⟨b, o + i * sz, none⟩ := by unfold Addr.add; split <;> simp_all
     rw [hadd] at c1
     obtain ⟨b', o', e, -, c3, c4⟩ := cells_at c1 hsz
     simp only [Addr.mk.injEq, and_true] at e
     obtain ⟨rfl, rfl⟩ := e
     exact ⟨ecs, c2, c4⟩
  ·intro x hx
   obtain ⟨i, hi, rfl⟩ := List.getElem_of_mem hx
   have hi' : i < elems.length := by rw [<- hxl]; exact hi
   have := hget i hi'
   rw [List.getElem?_eq_getElem hi] at this
   simp only [Option.some.injEq] at this
   rw [this]
   obtain ⟨-, -, -, c, -⟩ := (key i hi').choose_spec
   exact c
  ·intro μ hμ
   have := sum_bulk xs elems μ hxl fun i h1 h2 => by
    have := hget i h2
    rw [List.getElem?_eq_getElem h1] at this
    simp only [Option.some.injEq] at this
    rw [this]
    obtain ⟨-, -, -, -, c⟩ := (key i h2).choose_spec
    exact hμ _ _ c
   simp only [Rows.uptoBulk]
   omega
theorem ok_bounds {n : Int} (h : IntKind.i64.min <= n /\ n <= IntKind.i64.max) : I64 n := by
 simp [IntKind.min, IntKind.max, IntKind.signed, IntKind.bits] at h
 unfold I64
 omega
theorem open_part2 {fuel : Nat} {cs : List Value} {d : DataW H} {ps : List MemPlace} (h : DataW.trod enc Tryz.prog w base sp held fuel 99 cs = some (d, ps)) : ∃ p : Int × Int, RpL rho0 w (Xp p).cells cs /\ I64 p.1 /\ I64 p.2 := by
 obtain ⟨h1, h2⟩ := trod_fields (l := [(3, 0), (3, 1)]) part_under (by kernel_rfl) h
 rw [show Tryz.prog.cellsOf 99 = 2 from by kernel_rfl] at h1
 obtain ⟨f0, d0, p0, -, -, e0⟩ := h2 0 _ _ rfl
 obtain ⟨f1, d1, p1, -, -, e1⟩ := h2 1 _ _ rfl
 rw [show Tryz.prog.cellsOf 3 = 1 from by kernel_rfl] at e0 e1
 obtain ⟨c0, c1, rfl⟩ := len2 h1
 obtain ⟨n0, k0, b0⟩ := trod_int Tryz.underlying3 e0
 obtain ⟨n1, k1, b1⟩ := trod_int Tryz.underlying3 e1
 simp at k0 k1
 subst k0; subst k1
 refine ⟨(n0, n1), ?_, ok_bounds b0, ok_bounds b1⟩
 show RpL rho0 w [.int .i64 n0, .int .i64 n1] _
 simp only [RpL, Rp]
 exact ⟨_, _, rfl, ⟨rfl, b0⟩, _, _, rfl, ⟨rfl, b1⟩, rfl⟩
theorem open_level2 {fuel : Nat} {cs : List Value} {d : DataW H} {ps : List MemPlace} (hb : Rows.uptoBulk d <= 1048576) (h : DataW.trod enc Tryz.prog w base sp held fuel 82 cs = some (d, ps)) : ∃ l : LV, RpL rho0 w (Wm l).cells cs /\ okL l /\ l.length <= Rows.uptoBulk d := by
 obtain ⟨h1, h2⟩ := trod_fields (l := [(80, 0)]) level_under (by kernel_rfl) h
 rw [show Tryz.prog.cellsOf 82 = 1 from by kernel_rfl] at h1
 obtain ⟨f0, d0, p0, -, hb0, e0⟩ := h2 0 _ _ rfl
 rw [show Tryz.prog.cellsOf 80 = 1 from by kernel_rfl] at e0
 obtain ⟨c0, rfl⟩ := len1 h1
 obtain ⟨v, xs, k0, hs, hl, hm⟩ := open_sl Xp (sz := 2) Tryz.underlying80 (by kernel_rfl) (by omega) (fun x => ⟨rfl, rfl⟩) (fun _ p => I64 p.1 /\ I64 p.2) (by omega) (fun f ecs de p _ _ he => (open_part2 he).imp fun _ h => h) (fun _ _ _ _ h => h) e0
 simp at k0
 subst k0
 refine ⟨xs, ?_, ⟨by unfold Wd; omega, hm⟩, by omega⟩
 show RpL rho0 w [.slice (xs.map Xp) .any] _
 rw [RpL]
 exact ⟨_, [], rfl, hs, by rw [RpL]⟩
theorem open_levels2 {fuel : Nat} {cs : List Value} {d : DataW H} {ps : List MemPlace} (hb : Rows.uptoBulk d <= 1048576) (h : DataW.trod enc Tryz.prog w base sp held fuel 24 cs = some (d, ps)) : ∃ v ls, cs = [v] /\ Rp rho0 w (Lvs ls) v /\ ls.length <= 1048576 /\ ∀ l, l ∈ ls -> okL l /\ l.length <= 1048576 := by
 obtain ⟨v, xs, k0, hs, hl, hm⟩ := open_sl Wm (sz := 1) Tryz.underlying24 (by kernel_rfl) (by omega) (fun x => ⟨rfl, rfl⟩) (fun m l => okL l /\ l.length <= m) hb (fun f ecs de p _ hlt he => (open_level2 (by omega) he).imp fun _ h => h) (fun _ _ _ h1 h2 => ⟨h2.1, Nat.le_trans h2.2 h1⟩) h
 exact ⟨v, xs, k0, hs, by omega, fun l hl => by have := hm l hl; exact ⟨this.1, by omega⟩⟩
theorem term_under : Tryz.prog.underlying 27 = some (.struct (Tryz.prog.fieldsOf 27)) := by kernel_rfl
theorem kind_under : Tryz.prog.underlying 23 = some (.int .i64) := by kernel_rfl
theorem encT_ones (t : T) : (Qx t).cells.all D.one = true := by rw [encT_cells]; rfl
variable {W : World} {b0 : Nat} {v : Value} {d : DataW H} {p : List MemPlace}
theorem argIs (hk : Rows.uptoBulk d <= 1048576) (hv : Value.okWide Tryz.prog W .any base 38 v) (h : DataW.Trod enc Tryz.prog W b0 sp held 38 v d p) : ∃ ns : List Int, Rp rho0 W (Ints ns) v /\ ns.length <= 1048576 := arg_ints hk hv h
theorem argI (hv : Value.okWide Tryz.prog W .any base 3 v) (h : DataW.Trod enc Tryz.prog W b0 sp held 3 v d p) : ∃ n : Int, Rp rho0 W (.int .i64 n) v /\ I64 n := by
 obtain ⟨n, rfl⟩ := Go.WideShapes.okWide_int Tryz.underlying3 hv
 obtain ⟨fuel, hf⟩ := h
 obtain ⟨n', hn, hb⟩ := trod_int Tryz.underlying3 hf
 have hn : ([Value.int .i64 n] : List Value) = [.int .i64 n'] := hn
 have : n = n' := by simpa using hn
 subst this
 exact ⟨n, by rw [Rp]; exact ⟨rfl, hb⟩, ok_bounds hb⟩
end
end Go.Proofs.YtebmlojhdnldgaaGreatDoor
namespace Go.Proofs.YtebmlojhdnldgaaGreatDoor
set_option linter.unusedSimpArgs false
set_option linter.unusedVariables false
open Go.RowKit Go.WideShapes Go.ChangeShapes
set_option maxRecDepth 100000
def ZB : Nat := 1099512676353
theorem lvSz_le : ∀ (ls : List LV), (∀ l, l ∈ ls -> l.length <= 1048576) -> lvSz ls <= ls.length * 1048577
 | [], _ => by simp [lvSz]
 | l :: r, h => by
  rw [lvSz, List.length_cons]
  have := h l (List.mem_cons_self ..)
  have := lvSz_le r fun x hx => h x (List.mem_cons_of_mem _ hx)
  omega
theorem tszs_le : ∀ (ks : List T), (∀ t, t ∈ ks -> t.tsz <= t.nsz * ZB) -> T.tszs ks <= T.nszs ks * ZB
 | [], _ => by simp [T.tszs]
 | t :: r, h => by
  rw [T.tszs, T.nszs, Nat.add_mul]
  have := h t (List.mem_cons_self ..)
  have := tszs_le r fun x hx => h x (List.mem_cons_of_mem _ hx)
  omega
theorem cosz_le : ∀ (l : List C), (∀ c, c ∈ l -> c.ty.tsz <= c.ty.nsz * ZB /\ c.bo.tsz <= c.bo.nsz * ZB) -> cosz l <= l.length + 2 * ((l.map fun c => max c.ty.nsz c.bo.nsz).sum * ZB)
 | [], _ => by simp [cosz]
 | c :: r, h => by
  rw [cosz, List.length_cons, List.map_cons, List.sum_cons, Nat.add_mul]
  obtain ⟨h1, h2⟩ := h c (List.mem_cons_self ..)
  have := cosz_le r fun x hx => h x (List.mem_cons_of_mem _ hx)
  have h3 : c.ty.nsz * ZB <= (max c.ty.nsz c.bo.nsz) * ZB := Nat.mul_le_mul_right _ (Nat.le_max_left ..)
  have h4 : c.bo.nsz * ZB <= (max c.ty.nsz c.bo.nsz) * ZB := Nat.mul_le_mul_right _ (Nat.le_max_right ..)
  omega
theorem trod_bool {H : Type} {enc : TypeId × Value -> H} {P : Program} {w : World} {base : Nat} {sp : Nat -> Bool} {held : Bool} {fuel : Nat} {t : TypeId} {cs : List Value} {d : DataW H} {ps : List MemPlace} (ht : P.underlying t = some .bool) (h : DataW.trod enc P w base sp held fuel t cs = some (d, ps)) : ∃ b, cs = [.bool b] := by
 cases fuel with
 | zero => simp [DataW.trod] at h
 | succ fuel =>
  unfold DataW.trod at h
  rw [ht] at h
  rcases cs with _ | ⟨v, _ | ⟨v2, r⟩⟩
  ·simp at h
  ·cases v <;> simp at h
   exact ⟨_, rfl⟩
  ·simp at h
theorem len12 {l : List Value} (h : l.length = 12) : ∃ a b c d e f g i j k m n, l = [a, b, c, d, e, f, g, i, j, k, m, n] := by
 rcases l with _ | ⟨a, _ | ⟨b, r⟩⟩
 ·cases h
 ·simp at h
 rcases r with _ | ⟨c, _ | ⟨d, _ | ⟨e, _ | ⟨f, _ | ⟨g, r⟩⟩⟩⟩⟩
 ·simp at h
 ·simp at h
 ·simp at h
 ·simp at h
 ·simp at h
 obtain ⟨i, j, k, m, n, rfl⟩ := len5 (l := r) (by simpa using h)
 exact ⟨a, b, c, d, e, f, g, i, j, k, m, n, rfl⟩
section
variable {H : Type} {enc : TypeId × Value -> H} {w : World} {base : Nat} {sp : Nat -> Bool} {held : Bool}
theorem open_term3 : ∀ (fuel : Nat) {cs : List Value} {d : DataW H} {ps : List MemPlace}, Rows.uptoBulk d <= 1048576 -> DataW.trod enc Tryz.prog w base sp held fuel 27 cs = some (d, ps) -> ∃ t : T, RpL rho0 w (Qx t).cells cs /\ okT t /\ t.nsz <= Rows.uptoBulk d /\ t.tsz <= t.nsz * ZB := by
 intro fuel
 induction fuel using Nat.strongRecOn with
 | ind fuel ih =>
  intro cs d ps hb h
  obtain ⟨h1, h2⟩ := trod_fields (l := [(23, 0), (3, 1), (3, 2), (24, 3), (25, 4)]) term_under (by kernel_rfl) h
  rw [show Tryz.prog.cellsOf 27 = 5 from by kernel_rfl] at h1
  obtain ⟨f0, d0, p0, -, -, e0⟩ := h2 0 _ _ rfl
  obtain ⟨f1, d1, p1, -, -, e1⟩ := h2 1 _ _ rfl
  obtain ⟨f2, d2, p2, -, -, e2⟩ := h2 2 _ _ rfl
  obtain ⟨f3, d3, p3, -, hb3, e3⟩ := h2 3 _ _ rfl
  obtain ⟨f4, d4, p4, hf4, hb4, e4⟩ := h2 4 _ _ rfl
  rw [show Tryz.prog.cellsOf 3 = 1 from by kernel_rfl] at e1 e2
  rw [show Tryz.prog.cellsOf 23 = 1 from by kernel_rfl] at e0
  rw [show Tryz.prog.cellsOf 24 = 1 from by kernel_rfl] at e3
  rw [show Tryz.prog.cellsOf 25 = 1 from by kernel_rfl] at e4
  obtain ⟨c0, c1, c2, c3, c4, rfl⟩ := len5 h1
  obtain ⟨n0, k0, b0⟩ := trod_int kind_under e0
  obtain ⟨n1, k1, b1⟩ := trod_int Tryz.underlying3 e1
  obtain ⟨n2, k2, b2⟩ := trod_int Tryz.underlying3 e2
  obtain ⟨v3, ls, k3, hl, ll, hls⟩ := open_levels2 (by omega) e3
  obtain ⟨v4, ks, k4, hk, lk, hks, hsum⟩ := open_sl2 Qx (sz := 5) Tryz.underlying25 (by kernel_rfl) (by omega) (fun x => ⟨encT_size x, encT_ones x⟩) (fun m t => okT t /\ t.nsz <= m /\ t.tsz <= t.nsz * ZB) (by omega)
   (fun f ecs de p hf hlt he => (ih f (by omega) (by omega) he).imp fun _ h => h) (fun x m n hmn hx => ⟨hx.1, by omega, hx.2.2⟩) e4
  simp at k0 k1 k2 k3 k4
  subst k0; subst k1; subst k2; subst k3; subst k4
  refine ⟨.mk n0 n1 n2 ls ks, ?_, .mk (ok_bounds b0) (ok_bounds b1) (ok_bounds b2) (by unfold Wd; omega) (fun l h => (hls l h).1) (by unfold Wd; omega) (fun t h => (hks t h).1), ?_, ?_⟩
  ·rw [encT_cells]
   simp only [T.k_mk, T.n_mk, T.a_mk, T.ls_mk, T.ks_mk]
   refine Wf.2 ⟨by rw [Rp]; exact ⟨rfl, b0⟩, Wf.2 ⟨by rw [Rp]; exact ⟨rfl, b1⟩, Wf.2 ⟨by rw [Rp]; exact ⟨rfl, b2⟩, Wf.2 ⟨hl, Wf.2 ⟨hk, by rw [RpL]⟩⟩⟩⟩⟩
  ·rw [T.nsz, nszs_sum]
   have := hsum T.nsz (fun x m h => h.2.1)
   omega
  ·rw [T.nsz, T.tsz, Nat.add_mul]
   have a1 := lvSz_le ls fun l h => (hls l h).2
   have a2 := tszs_le ks fun t h => (hks t h).2.2
   have a3 : ls.length * 1048577 <= 1048576 * 1048577 := Nat.mul_le_mul_right _ ll
   have : 1 * ZB = 1099512676353 := rfl
   omega
theorem core_under : Tryz.prog.underlying 46 = some (.struct (Tryz.prog.fieldsOf 46)) := by kernel_rfl
theorem encC_ones (c : C) : (encC c).cells.all D.one = true := by rw [encC_cells]; rfl
theorem open_core {fuel : Nat} {cs : List Value} {d : DataW H} {ps : List MemPlace} (hb : Rows.uptoBulk d <= 1048576) (h : DataW.trod enc Tryz.prog w base sp held fuel 46 cs = some (d, ps)) : ∃ c : C, RpL rho0 w (encC c).cells cs /\ okC c /\ max c.ty.nsz c.bo.nsz <= Rows.uptoBulk d /\ c.ty.tsz <= c.ty.nsz * ZB /\ c.bo.tsz <= c.bo.nsz * ZB := by
 obtain ⟨h1, h2⟩ := trod_fields (l := [(3, 0), (27, 1), (4, 6), (27, 7)]) core_under (by kernel_rfl) h
 rw [show Tryz.prog.cellsOf 46 = 12 from by kernel_rfl] at h1
 obtain ⟨f0, d0, p0, -, -, e0⟩ := h2 0 _ _ rfl
 obtain ⟨f1, d1, p1, -, hb1, e1⟩ := h2 1 _ _ rfl
 obtain ⟨f2, d2, p2, -, -, e2⟩ := h2 2 _ _ rfl
 obtain ⟨f3, d3, p3, -, hb3, e3⟩ := h2 3 _ _ rfl
 rw [show Tryz.prog.cellsOf 3 = 1 from by kernel_rfl] at e0
 rw [show Tryz.prog.cellsOf 4 = 1 from by kernel_rfl] at e2
 rw [show Tryz.prog.cellsOf 27 = 5 from by kernel_rfl] at e1 e3
 obtain ⟨a, b, c, d, e, f, g, i, j, k, m, n, rfl⟩ := len12 h1
 obtain ⟨n0, k0, b0⟩ := trod_int Tryz.underlying3 e0
 obtain ⟨t1, r1, o1, s1, z1⟩ := open_term3 f1 (by omega) e1
 obtain ⟨b2, k2⟩ := trod_bool Tryz.underlying4 e2
 obtain ⟨t3, r3, o3, s3, z3⟩ := open_term3 f3 (by omega) e3
 simp at k0 k2
 subst k0; subst k2
 refine ⟨⟨n0, t1, b2, t3⟩, ?_, ⟨ok_bounds b0, o1, o3⟩, by have := Nat.max_le.2 ⟨Nat.le_of_lt (Nat.lt_of_le_of_lt s1 hb1), Nat.le_of_lt (Nat.lt_of_le_of_lt s3 hb3)⟩; exact this, z1, z3⟩
 rw [encT_cells] at r1 r3
 have r1 : RpL rho0 w _ [b, c, d, e, f] := r1
 have r3 : RpL rho0 w _ [i, j, k, m, n] := r3
 rw [Wf, Wf, Wf, Wf, Wf] at r1 r3
 obtain ⟨q1, q2, q3, q4, q5, -⟩ := r1
 obtain ⟨u1, u2, u3, u4, u5, -⟩ := r3
 rw [encC_cells]
 refine Wf.2 ⟨by rw [Rp]; exact ⟨rfl, b0⟩, Wf.2 ⟨q1, Wf.2 ⟨q2, Wf.2 ⟨q3, Wf.2 ⟨q4, Wf.2 ⟨q5, Wf.2 ⟨by rw [Rp], Wf.2 ⟨u1, Wf.2 ⟨u2, Wf.2 ⟨u3, Wf.2 ⟨u4, Wf.2 ⟨u5, by rw [RpL]⟩⟩⟩⟩⟩⟩⟩⟩⟩⟩⟩⟩
theorem open_cores {fuel : Nat} {cs : List Value} {d : DataW H} {ps : List MemPlace} (hb : Rows.uptoBulk d <= 1048576) (h : DataW.trod enc Tryz.prog w base sp held fuel 22 cs = some (d, ps)) :
  ∃ v l, cs = [v] /\ Rp rho0 w (Cs l) v /\ okCs l /\ (cosz l : Int) <= QB := by
 obtain ⟨v, l, k, hs, hl, hd, hsum⟩ := open_sl2 encC (sz := 12) Tryz.underlying22 (by kernel_rfl) (by omega) (fun x => ⟨encC_size x, encC_ones x⟩) (fun m c => okC c /\ max c.ty.nsz c.bo.nsz <= m /\ c.ty.tsz <= c.ty.nsz * ZB /\ c.bo.tsz <= c.bo.nsz * ZB) hb
  (fun f ecs de p hf hlt he => (open_core (by omega) he).imp fun _ h => h) (fun x m n hmn hx => ⟨hx.1, Nat.le_trans hx.2.1 hmn, hx.2.2⟩) h
 refine ⟨v, l, k, hs, ⟨by unfold Wd; omega, fun c hc => (hd c hc).1, fun c hc => ?_, fun c hc => ?_⟩, ?_⟩
 ·have := (hd c hc).2.1
  have := Nat.le_max_right c.ty.nsz c.bo.nsz
  omega
 ·have := (hd c hc).2.1
  have := Nat.le_max_left c.ty.nsz c.bo.nsz
  omega
 ·have a1 := cosz_le l fun c hc => (hd c hc).2.2
  have a2 := hsum (fun c => max c.ty.nsz c.bo.nsz) (fun x m h => h.2.1)
  have a3 : (l.map fun c => max c.ty.nsz c.bo.nsz).sum * ZB <= 1048575 * 1099512676353 := Nat.mul_le_mul_right _ (by omega)
  unfold QB
  omega
variable {W : World} {b0 : Nat} {v : Value} {d : DataW H} {p : List MemPlace}
theorem argCs (hk : Rows.uptoBulk d <= 1048576) (hv : Value.okWide Tryz.prog W .any base 22 v) (h : DataW.Trod enc Tryz.prog W b0 sp held 22 v d p) : ∃ l : List C, Rp rho0 W (Cs l) v /\ okCs l /\ (cosz l : Int) <= QB := by
 obtain ⟨a, len, cap, rfl⟩ := okWide_slice Tryz.underlying22 hv
 obtain ⟨fuel, hf⟩ := h
 obtain ⟨v', ls, he, hr, hl, hm⟩ := open_cores hk hf
 have : v' = .slice a len cap := by
  have : ([Value.slice a len cap] : List Value) = [v'] := he
  simpa using this.symm
 subst this
 exact ⟨ls, hr, hl, hm⟩
end
end Go.Proofs.YtebmlojhdnldgaaGreatDoor
namespace Go.Proofs.YtebmlojhdnldgaaGreatDoor
set_option linter.unusedSimpArgs false
set_option linter.unusedVariables false
open Go.RowKit Go.WideShapes Go.ChangeShapes
set_option maxRecDepth 100000
section
variable {H : Type} {enc : TypeId × Value -> H} {w : World} {base : Nat} {sp : Nat -> Bool} {held : Bool}
variable {W : World} {b0 : Nat} {v : Value} {d : DataW H} {p : List MemPlace}
theorem argT4 (hk : Rows.uptoBulk d <= 1048576) (hv : Value.okWide Tryz.prog W .any base 27 v) (h : DataW.Trod enc Tryz.prog W b0 sp held 27 v d p) : ∃ t : T, Rp rho0 W (Qx t) v /\ okT t /\ t.tsz <= 1152922604119523328 := by
 obtain ⟨cs, rfl⟩ := arg_agg term_under hv
 obtain ⟨fuel, hf⟩ := h
 obtain ⟨t, ht, h1, h2, h3⟩ := open_term3 fuel hk hf
 refine ⟨t, ?_, h1, ?_⟩
 ·rw [encT_cells] at ht
  rw [Qd, Rp]
  exact ⟨_, (by cases cs; rfl), ht⟩
 ·have a3 : t.nsz * ZB <= 1048576 * 1099512676353 := Nat.mul_le_mul_right _ (by omega)
  omega
end
theorem cores_law4 : ∀ (l : List C) (s : Int), 0 <= s -> s + (cosz l : Int) <= QB -> s <= cntF coSt4 400 l s /\ cntF coSt4 400 l s <= s + (cosz l : Int) /\ (cntF coSt4 400 l s <= 400 -> cntF coSt4 400 l s = s + (cosz l : Int))
 | [], s, h0, h1 => by simp only [cntF, cosz]; omega
 | c :: r, s, h0, h1 => by
  rw [cntF]
  rw [cosz] at h1 ⊢
  split
  ·rename_i hs
   have h2 := h1
   unfold QB at h2
   have hq : (0 : Int) <= 400 /\ (400 : Int) <= QB := ⟨by omega, by unfold QB; omega⟩
   obtain ⟨a1, a2, a3⟩ := tof_law c.ty 400 (by unfold QB; omega) hq
   obtain ⟨c1, c2, c3⟩ := tof_law c.bo 400 (by unfold QB; omega) hq
   have e : coSt4 c s = s + 1 + c.ty.tof 400 + c.bo.tof 400 := by
    unfold coSt4
    rw [i64w (n := s + 1) (by omega) (by omega), i64w (n := s + 1 + c.ty.tof 400) (by omega) (by omega), i64w (by omega) (by omega)]
   rw [e]
   obtain ⟨b1, b2, b3⟩ := cores_law4 r (s + 1 + c.ty.tof 400 + c.bo.tof 400) (by omega) (by unfold QB; omega)
   refine ⟨by omega, by omega, fun h => ?_⟩
   have := b3 h
   have := a3 (by omega)
   have := c3 (by omega)
   omega
  ·omega
theorem small8_of {l : List C} {a b : T} (hq : (cosz l : Int) <= QB) (ha : a.tsz <= 1152922604119523328) (hb : b.tsz <= 1152922604119523328) (h4 : ¬ IntKind.i64.wrap (cntF coSt4 400 l 0 + T.tofs [a, b] 0 400) > 400) : a.nsz <= 400 /\ b.nsz <= 400 /\ ∀ c, c ∈ l -> c.bo.nsz <= 400 := by
 have hq6 : (0 : Int) <= 400 /\ (400 : Int) <= QB := ⟨by omega, by unfold QB; omega⟩
 have hts : T.tszs [a, b] = a.tsz + b.tsz := by rw [T.tszs, T.tszs, T.tszs]; omega
 obtain ⟨a1, a2, a3⟩ := tofs_law [a, b] 0 400 (by omega) (by rw [hts]; unfold QB; omega) hq6
 obtain ⟨b1, b2, b3⟩ := cores_law4 l 0 (by omega) (by omega)
 rw [hts] at a2 a3
 have hq' := hq
 unfold QB at hq'
 have h5 : cntF coSt4 400 l 0 + T.tofs [a, b] 0 400 <= 400 := by
  generalize cntF coSt4 400 l 0 = x at h4 b1 b2 ⊢
  generalize T.tofs [a, b] 0 400 = y at h4 a1 a2 ⊢
  rw [i64w (by omega) (by omega)] at h4
  omega
 have h6 := a3 (by omega)
 have h7 := b3 (by omega)
 have := nsz_tsz a
 have := nsz_tsz b
 refine ⟨by omega, by omega, fun c hc => ?_⟩
 have := cosz_mem hc
 have := nsz_tsz c.bo
 omega
end Go.Proofs.YtebmlojhdnldgaaGreatDoor
