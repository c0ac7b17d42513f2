/-
  From a function's Spec to a row of a law: true is told, memory has grown.
-/
import Derived.Test.YtbjgdeednmhpfaaDopen
import Derived.Carry
import Derived.Below
namespace Go.Proofs.Ytbjgdeednmhpfaa
open Go.RowKit Go.WideShapes Go.ChangeShapes

theorem rel0 (w : World) : Rel glob rho0 w (hOf []) := ⟨fun _ _ => rfl, fun _ _ => rfl, (fun _ _ _ h => nomatch h), (fun _ _ _ _ _ h => nomatch h), (fun _ _ h => nomatch h)⟩
theorem ex_below {w w' : World} {ρ' : Rho} {H : Nat → HO} (h : Ex rho0 w (hOf []) ρ' w' H) : Below w.heap.size w w' :=
  ⟨h.grow.os, h.grow.tape, h.grow.output, h.grow.size, fun k hk => (h.grow.whole k hk rfl).2⟩

theorem calls_true {f : FuncId} {args : List D} {vs : List Value} {w : World} (h : Spec Try.prog glob f args [] (fun o _ => o.fgt = .ret (.bool true))) (hv : RpL rho0 w args vs) :
    Calls Try.prog f vs.toArray w fun e w' => e = .returned (.bool true) ∧ Below w.heap.size w w' := by
  refine (h rho0 w vs (rel0 w) hv).2.mono ?_
  rintro e w' ⟨ρ', out, hc', ho, hm, -, hx⟩
  refine ⟨?_, ex_below hx⟩
  cases out with
  | pan d => cases ho
  | ret d =>
    obtain ⟨u, rfl, hu⟩ := hm
    have hd : d = .bool true := by
      cases d <;> simp [Out.fgt, D.fgt] at ho
      subst ho; rfl
    subst hd
    rw [Rp] at hu
    rw [hu]
theorem laidOut : laidOutB Try.prog = true := by kernel_rfl

section
variable {H : Type} {enc : TypeId × Value → H} {P : Program}
theorem trodAll_stays (hl : laidOutB P = true) {W W' : World} {sp : Nat → Bool} (hb : Below W.heap.size W W') : ∀ (ts : List TypeId) (vs : List Value) (ds : List (DataW H)) (ps : List MemPlace), (∀ t, t ∈ ts → P.readableRec t = true ∧ t < P.types.size) →
    DataW.TrodAll enc P W 0 (fun _ => true) true ts vs ds ps → (∀ x ∈ ps, x.block < W.heap.size) → (∀ x ∈ ps, sp x.block = true) → DataW.TrodAll enc P W' 0 sp true ts vs ds ps
  | [], [], [], ps, _, h, _, _ => h
  | t :: ts, v :: vs, d :: ds, ps, ht, h, hlt, hsp => by
    obtain ⟨p, q, h1, h2, rfl⟩ := h
    obtain ⟨r1, r2⟩ := ht t List.mem_cons_self
    exact ⟨p, q, WideElems.Trod_stays hl r1 r2 h1 (fun x hx => hb.same (hlt x (List.mem_append_left _ hx))) (fun x hx => hsp x (List.mem_append_left _ hx)),
      trodAll_stays hl hb ts vs ds q (fun t h => ht t (List.mem_cons_of_mem _ h)) h2 (fun x hx => hlt x (List.mem_append_right _ hx)) (fun x hx => hsp x (List.mem_append_right _ hx)), rfl⟩
  | [], [], _ :: _, _, _, h, _, _ => h.elim
  | [], _ :: _, _, _, _, h, _, _ => h.elim
  | _ :: _, [], _, _, _, h, _, _ => h.elim
  | _ :: _, _ :: _, [], _, _, h, _, _ => h.elim

theorem post_of_below {f : Func} {s : ChangeSpec} {apart fresh handsOn again : Bool} {W W' : World} {args : Array Value} {v : Value} {ds gs : List (DataW H)} {before pa pv : List MemPlace}
    (hW : DataW.Whole enc P f.params.toList s.vars apart W args.toList ds gs before)
    (hres : ∀ (b : Nat) (sp : Nat → Bool) (hd : Bool), DataW.TrodAll enc P W' b sp hd f.resultTypes.toList (v.resultList f.resultTypes.size) (s.fn H (ds ++ gs)).results [])
    (hargs : ∀ sp : Nat → Bool, (∀ p ∈ before, sp p.block = true) → DataW.TrodAll enc P W' 0 sp true f.params.toList args.toList (s.fn H (ds ++ gs)).args pa)
    (hvars : ∀ sp : Nat → Bool, (∀ p ∈ before, sp p.block = true) → DataW.TrodVars enc P W' sp s.vars (s.fn H (ds ++ gs)).vars pv)
    (hps : before = pa ++ pv) (hb : Below W.heap.size W W')
    (hok : ∀ (j : Nat) (t : TypeId) (r : Value), f.resultTypes[j]? = some t → (v.resultList f.resultTypes.size)[j]? = some r → Value.okWide P W' .any 0 t r) :
    s.post enc P f apart fresh handsOn again W args v W' := by
  have hlt : ∀ p ∈ before, p.block < W.heap.size := fun p hp => hW.lt p hp
  have hold : ∀ p ∈ before, (fun b => decide (b < W.heap.size)) p.block = true := fun p hp => by simpa using hlt p hp
  refine ⟨ds, gs, before, [], pa, pv, hW, hres _ _ _, hargs _ hold, hvars _ hold, World.keptBut_mono (fun p hp => ⟨hp, ?_⟩) (hb.frame (· ∈ before)), fun _ => ?_⟩
  · rw [hps, List.mem_append] at hp
    exact Or.inr hp
  · obtain ⟨_, _, _, _, _, hz, hn⟩ := hW
    refine ⟨hok, _, _, ([] ++ pa) ++ pv, ⟨[] ++ pa, pv, trodAll_append (hargs _ (fun _ _ => rfl)) (hres _ _ _), hvars _ (fun _ _ => rfl), rfl, ?_, ?_⟩, ?_⟩
    · intro b off hp
      have hin : MemPlace.cell b off ∈ before := by rw [hps]; simpa using hp
      rw [hb.frozen (hlt _ hin)]
      exact hz b off hin
    · intro ha
      have := hn ha
      rw [hps] at this
      simpa using this
    · intro p hp _
      rw [hps]
      simpa using hp

/-- the row's end: true is told, memory has grown -/
theorem post_law {f : Func} {s : ChangeSpec} {apart fresh handsOn again : Bool} {W W' : World} {args : Array Value} {ds gs : List (DataW H)} {before : List MemPlace} {tb : TypeId} (hl : laidOutB P = true) (htb : P.underlying tb = some .bool) (hrt : f.resultTypes = #[tb]) (hsv : s.vars = [])
    (hts : ∀ t, t ∈ f.params.toList → P.readableRec t = true ∧ t < P.types.size) (hW : DataW.Whole enc P f.params.toList s.vars apart W args.toList ds gs before) (hs : gs = [] → s.fn H (ds ++ gs) = { results := [.lit (.bool true)], args := ds }) (hb : Below W.heap.size W W') :
    s.post enc P f apart fresh handsOn again W args (.bool true) W' := by
  have hW' := hW
  obtain ⟨p, q, hA, hV, hbf, -, -⟩ := hW
  rw [hsv] at hV
  obtain ⟨rfl, rfl⟩ := trodVars_none hV
  have hs' := hs rfl
  have hlt : ∀ x ∈ p, x.block < W.heap.size := fun x hx => hW'.lt x (by rw [hbf]; simpa using hx)
  refine post_of_below (pa := p) (pv := []) hW' (fun b sp hd => ?_) (fun sp hsp => ?_) (fun sp hsp => ?_) (by rw [hbf]) hb ?_
  · rw [hrt, hs']
    exact trodAll_cons_mk (shut_bool htb _) trodAll_mk0
  · rw [hs']
    exact trodAll_stays hl hb _ _ _ _ hts hA hlt (fun x hx => hsp x (by rw [hbf]; simpa using hx))
  · rw [hs', hsv]; rfl
  · exact ok_one hrt rfl (okWide_bool_mk htb _)

/-! an argument -/
theorem arg_agg {W : World} {base : Nat} {t : TypeId} {v : Value} {fs : Array Field} (ht : P.underlying t = some (.struct fs)) (h : Value.okWide P W .any base t v) : ∃ cs : Array Value, v = .agg cs := by
  unfold Value.okWide at h
  rw [ht] at h
  obtain ⟨cs, h, -⟩ := h
  exact ⟨cs, h⟩
end

section
variable {H : Type} {enc : TypeId × Value → H} {W : World} {base b0 : Nat} {sp : Nat → Bool} {held : Bool} {v : Value} {d : DataW H} {p : List MemPlace}
set_option maxRecDepth 100000 in
theorem arg_level (hk : Rows.uptoBulk d ≤ 1048576) (hv : Value.okWide Try.prog W .any base 24 v) (h : DataW.Trod enc Try.prog W b0 sp held 24 v d p) : ∃ l : LV, Rp rho0 W (encL l) v ∧ l.length ≤ 1048576 := by
  obtain ⟨cs, rfl⟩ := arg_agg level_under hv
  obtain ⟨fuel, hf⟩ := h
  obtain ⟨l, hl, hn⟩ := open_level hk hf
  refine ⟨l, ?_, by omega⟩
  unfold encL at hl ⊢
  rw [Rp]
  exact ⟨_, (by cases cs; rfl), hl⟩
set_option maxRecDepth 100000 in
theorem arg_levels (hk : Rows.uptoBulk d ≤ 1048576) (hv : Value.okWide Try.prog W .any base 25 v) (h : DataW.Trod enc Try.prog W b0 sp held 25 v d p) : ∃ ls : List LV, Rp rho0 W (Lvs ls) v ∧ ls.length ≤ 1048576 ∧ ∀ l, l ∈ ls → l.length ≤ 1048576 := by
  obtain ⟨a, len, cap, rfl⟩ := okWide_slice Try.underlying25 hv
  obtain ⟨fuel, hf⟩ := h
  obtain ⟨v', ls, he, hr, hl, hm⟩ := open_levels hk hf
  have : v' = .slice a len cap := by
    have : ([Value.slice a len cap] : List Value) = [v'] := he
    simpa using this.symm
  subst this
  exact ⟨ls, hr, hl, hm⟩
set_option maxRecDepth 100000 in
theorem arg_ints (hk : Rows.uptoBulk d ≤ 1048576) (hv : Value.okWide Try.prog W .any base 34 v) (h : DataW.Trod enc Try.prog W b0 sp held 34 v d p) : ∃ ns : List Int, Rp rho0 W (Ints ns) v ∧ ns.length ≤ 1048576 := by
  obtain ⟨a, len, cap, rfl⟩ := okWide_slice Try.underlying34 hv
  obtain ⟨fuel, hf⟩ := h
  obtain ⟨v', ns, he, hr, hl⟩ := open_ints hk hf
  have : v' = .slice a len cap := by
    have : ([Value.slice a len cap] : List Value) = [v'] := he
    simpa using this.symm
  subst this
  exact ⟨ns, hr, hl⟩
end
end Go.Proofs.Ytbjgdeednmhpfaa
