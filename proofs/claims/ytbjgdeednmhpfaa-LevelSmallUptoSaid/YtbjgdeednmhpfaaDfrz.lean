/-
  An object that is written no more becomes a place that stays: boxes become .ref, maps .mapc.
-/
import Derived.Test.YtbjgdeednmhpfaaDdraw
set_option linter.unusedSimpArgs false
set_option linter.unusedVariables false
namespace Go.Proofs.Ytbjgdeednmhpfaa
open Go.RowKit

inductive FK where
  | kb | mp | ow
def FK.isB : FK → Bool
  | .kb => true
  | _ => false
def FK.isM : FK → Bool
  | .mp => true
  | _ => false
def FK.isO : FK → Bool
  | .ow => true
  | _ => false

/-- a slice so long -/
def D.isLen (n : Nat) : D → Bool
  | .slice els _ => decide (els.length = n)
  | _ => false

mutual
/-- x in the place of the box (the map) of a name -/
def D.frz (bx : FK) (i : Nat) (x : D) : D → D
  | .box j o => if bx.isB && decide (j = i) then (if o = 0 then x else .junk) else .box j o
  | .map j => if bx.isM && decide (j = i) then x else .map j
  | .own j n => if bx.isO && decide (j = i) then (if x.isLen n then x else .junk) else .own j n
  | .ebox j sz k o => if bx.isO && decide (j = i) then .junk else .ebox j sz k o
  | .fn f a b => .fn f (D.frzs bx i x a) (D.frzs bx i x b)
  | .iface t d => .iface t (D.frz bx i x d)
  | .tuple ds => .tuple (D.frzs bx i x ds)
  | .agg ds => .agg (D.frzs bx i x ds)
  | .slice els c => .slice (D.frzs bx i x els) c
  | .ref d => .ref (D.frz bx i x d)
  | .mapc ks vs => .mapc (D.frzs bx i x ks) (D.frzs bx i x vs)
  | d => d
def D.frzs (bx : FK) (i : Nat) (x : D) : List D → List D
  | [] => []
  | d :: r => D.frz bx i x d :: D.frzs bx i x r
end

theorem D.frzs_length (bx : FK) (i : Nat) (x : D) : ∀ ds : List D, (D.frzs bx i x ds).length = ds.length
  | [] => rfl
  | d :: r => by rw [D.frzs, List.length_cons, D.frzs_length bx i x r]; rfl
theorem D.frzs_map (bx : FK) (i : Nat) (x : D) : ∀ ds : List D, D.frzs bx i x ds = ds.map (D.frz bx i x)
  | [] => rfl
  | d :: r => by rw [D.frzs, D.frzs_map bx i x r]; rfl

def D.isAggD : D → Bool
  | .agg _ => true
  | _ => false

theorem D.frz_size {bx : FK} {i : Nat} {x : D} (hx : x.isAggD = false) (d : D) : (D.frz bx i x d).size = d.size ∧ (D.frz bx i x d).isAggD = d.isAggD := by
  have hs : x.size = 1 := by cases x <;> first | rfl | cases hx
  cases d <;> first | exact ⟨rfl, rfl⟩ | skip
  case box j o =>
    rw [D.frz]
    split
    · split
      · exact ⟨hs, hx⟩
      · exact ⟨rfl, rfl⟩
    · exact ⟨rfl, rfl⟩
  case map j =>
    rw [D.frz]
    split
    · exact ⟨hs, hx⟩
    · exact ⟨rfl, rfl⟩
  case own j n =>
    rw [D.frz]
    split
    · split
      · exact ⟨hs, hx⟩
      · exact ⟨rfl, rfl⟩
    · exact ⟨rfl, rfl⟩
  case ebox j sz k o =>
    rw [D.frz]
    split
    · exact ⟨rfl, rfl⟩
    · exact ⟨rfl, rfl⟩
  case agg ds => rw [D.frz]; exact ⟨D.frzs_length bx i x ds, rfl⟩

theorem RpAt_of {ρ : Rho} {w : World} {d : D} {b o : Nat} {u : Value} (h : d.isAggD = false) (hc : cellAt ρ w b o u) (hr : Rp ρ w d u) : RpAt ρ w d b o := by
  cases d <;> first | exact ⟨u, hc, hr⟩ | cases h

structure FrzOK (ρ : Rho) (w : World) (bx : FK) (i : Nat) (x : D) : Prop where
  a : x.isAggD = false
  b : bx.isB = true → ∀ v, Rp ρ w (.box i 0) v → Rp ρ w x v
  m : bx.isM = true → ∀ v, Rp ρ w (.map i) v → Rp ρ w x v
  o : bx.isO = true → ∀ n v, Rp ρ w (.own i n) v → x.isLen n = true → Rp ρ w x v

section
variable {ρ : Rho} {w : World} {bx : FK} {i : Nat} {x : D}
mutual
theorem Rp_frz (H : FrzOK ρ w bx i x) : ∀ (d : D) (v : Value), Rp ρ w d v → Rp ρ w (D.frz bx i x d) v
  | .junk, v, h => h
  | .int _ _, v, h => h
  | .bool _, v, h => h
  | .str _, v, h => h
  | .nilp, v, h => h
  | .nilf, v, h => h
  | .nili, v, h => h
  | .nilm, v, h => h
  | .box j o, v, h => by
    rw [D.frz]
    split
    · rename_i hc
      simp only [Bool.and_eq_true, decide_eq_true_eq] at hc
      split
      · rename_i ho
        subst ho
        obtain ⟨h1, rfl⟩ := hc
        exact H.b h1 v h
      · rw [Rp]; trivial
    · exact h
  | .map j, v, h => by
    rw [D.frz]
    split
    · rename_i hc
      simp only [Bool.and_eq_true, decide_eq_true_eq] at hc
      obtain ⟨h1, rfl⟩ := hc
      exact H.m h1 v h
    · exact h
  | .own j n, v, h => by
    rw [D.frz]
    split
    · rename_i hc
      simp only [Bool.and_eq_true, decide_eq_true_eq] at hc
      split
      · rename_i ho
        obtain ⟨h1, rfl⟩ := hc
        exact H.o h1 n v h ho
      · rw [Rp]; trivial
    · exact h
  | .ebox j sz k o, v, h => by
    rw [D.frz]
    split
    · rw [Rp]; trivial
    · exact h
  | .fn f a b, v, h => by
    rw [D.frz]
    rw [Rp] at h ⊢
    obtain ⟨us, vs, h1, h2, h3⟩ := h
    exact ⟨us, vs, h1, RpL_frz H a us h2, RpL_frz H b vs h3⟩
  | .iface t d, v, h => by
    rw [D.frz]
    rw [Rp] at h ⊢
    obtain ⟨u, h1, h2⟩ := h
    exact ⟨u, h1, Rp_frz H d u h2⟩
  | .tuple ds, v, h => by
    rw [D.frz]
    rw [Rp] at h ⊢
    obtain ⟨u, h1, h2⟩ := h
    exact ⟨u, h1, RpL_frz H ds u h2⟩
  | .agg ds, v, h => by
    rw [D.frz]
    rw [Rp] at h ⊢
    obtain ⟨u, h1, h2⟩ := h
    exact ⟨u, h1, RpL_frz H ds u h2⟩
  | .slice els c, v, h => by
    rw [D.frz]
    rw [Rp] at h ⊢
    obtain ⟨A, cap, sz, h1, h2, h3, h4, h5, h6, h7⟩ := h
    rw [D.frzs_length]
    refine ⟨A, cap, sz, h1, h2, h3, h4, fun e he => ?_, h6, fun hne => ?_⟩
    · rw [D.frzs_map] at he
      obtain ⟨d, hd, rfl⟩ := List.mem_map.1 he
      rw [(D.frz_size H.a d).1]; exact h5 d hd
    · have hne' : els ≠ [] := fun e => hne (by rw [e]; rfl)
      obtain ⟨b, o, h8, h9⟩ := h7 hne'
      exact ⟨b, o, h8, RpE_frz H els b o h9⟩
  | .mapc ks vs, v, h => by
    rw [D.frz]
    rw [Rp] at h ⊢
    obtain ⟨b, ents, clock, h1, h2, h3, h4, h5⟩ := h
    exact ⟨b, ents, clock, h1, h2, h3, RpL_frz H ks _ h4, RpL_frz H vs _ h5⟩
  | .ref d, v, h => by
    rw [D.frz]
    obtain ⟨b, o, h1, h2⟩ := Rp_ref.1 h
    refine Rp_ref.2 ⟨b, o, h1, ?_⟩
    cases d
    case agg cs => rw [D.frz]; exact RpC_frz H cs b o h2
    all_goals
      obtain ⟨u, h3, h4⟩ := h2
      exact RpAt_of ((D.frz_size (bx := bx) (i := i) H.a _).2.trans rfl) h3 (Rp_frz H _ u h4)
theorem RpL_frz (H : FrzOK ρ w bx i x) : ∀ (ds : List D) (vs : List Value), RpL ρ w ds vs → RpL ρ w (D.frzs bx i x ds) vs
  | [], vs, h => h
  | d :: r, vs, h => by
    rw [D.frzs]
    rw [RpL_cons] at h
    obtain ⟨v, us, rfl, h2, h3⟩ := h
    exact RpL_cons'.2 ⟨Rp_frz H d v h2, RpL_frz H r us h3⟩
theorem RpC_frz (H : FrzOK ρ w bx i x) : ∀ (ds : List D) (b o : Nat), RpC ρ w ds b o → RpC ρ w (D.frzs bx i x ds) b o
  | [], b, o, h => h
  | d :: r, b, o, h => by
    rw [D.frzs]
    rw [RpC_cons] at h
    obtain ⟨⟨v, h1, h2⟩, h3⟩ := h
    exact RpC_cons.2 ⟨⟨v, h1, Rp_frz H d v h2⟩, RpC_frz H r b (o + 1) h3⟩
theorem RpE_frz (H : FrzOK ρ w bx i x) : ∀ (ds : List D) (b o : Nat), RpE ρ w ds b o → RpE ρ w (D.frzs bx i x ds) b o
  | [], b, o, h => h
  | d :: r, b, o, h => by
    rw [D.frzs]
    rw [RpE_cons] at h
    refine RpE_cons.2 ⟨?_, ?_⟩
    · have h2 := h.1
      cases d
      case agg cs => rw [D.frz]; exact RpC_frz H cs b o h2
      all_goals
        obtain ⟨u, h3, h4⟩ := h2
        exact RpAt_of ((D.frz_size (bx := bx) (i := i) H.a _).2.trans rfl) h3 (Rp_frz H _ u h4)
    · rw [(D.frz_size H.a d).1]; exact RpE_frz H r b _ h.2
end
end

theorem cells_of_one {d : D} (h : d.isAggD = false) : d.cells = [d] := by cases d <;> first | rfl | cases h
theorem cells_frz {bx : FK} {i : Nat} {x : D} (hx : x.isAggD = false) : ∀ els : List D, (els.map (D.frz bx i x)).flatMap D.cells = D.frzs bx i x (els.flatMap D.cells)
  | [] => rfl
  | e :: r => by
    rw [List.map_cons, List.flatMap_cons, List.flatMap_cons, cells_frz hx r, D.frzs_map, D.frzs_map, List.map_append]
    congr 1
    cases he : e.isAggD with
    | false => rw [cells_of_one he, cells_of_one ((D.frz_size (bx := bx) (i := i) hx e).2.trans he)]; rfl
    | true =>
      cases e <;> first | (cases he; done) | skip
      rw [D.frz, D.frzs_map]; rfl

def HO.frz (bx : FK) (i : Nat) (x : D) : HO → HO
  | .cells ty ds => .cells ty (D.frzs bx i x ds)
  | .mp es => .mp (es.map fun p => (D.frz bx i x p.1, D.frz bx i x p.2))
  | .row sz els => .row sz (els.map (D.frz bx i x))
  | h => h
theorem HO.frz_live (bx : FK) (i : Nat) (x : D) (h : HO) : (HO.frz bx i x h).live = h.live := by cases h <;> rfl

def frzH (bx : FK) (i : Nat) (x : D) (H : Nat → HO) : Nat → HO := fun r => HO.frz bx i x (setH H i .dead r)

section
variable {G : Nat → Option D} {ρ : Rho} {w : World} {H : Nat → HO}

/-- an object's block stays from here on -/
def Rho.stay (ρ : Rho) (b : Nat) : Rho := ⟨fun k => if k = b then none else ρ.c k, ρ.nm⟩

theorem Grow.stay {b : Nat} {k : Nat} (hb : ρ.c b = some k) : Grow ρ w (ρ.stay b) w := by
  refine ⟨rfl, rfl, rfl, Nat.le_refl _, fun r hr h => ⟨?_, rfl⟩, fun r m hr h => ⟨?_, fun vs ty fz hh => ⟨vs, hh, rfl, fun _ _ => rfl⟩⟩, fun _ _ h => h⟩
  · by_cases hrb : r = b
    · simp [Rho.stay, hrb]
    · simp [Rho.stay, hrb, h]
  · by_cases hrb : r = b
    · exact .inr (by simp [Rho.stay, hrb])
    · exact .inl ⟨m, by simp [Rho.stay, hrb, h], Nat.le_refl _⟩

theorem Ex.frz {ρ' : Rho} (hR : Rel G ρ w H) {bx : FK} {i : Nat} {x : D} (g : Grow ρ w ρ' w) (hnm : ρ'.nm = ρ.nm) (hfr : ∀ k, w.heap.size ≤ k → ρ'.c k = none) (hoth : ∀ r b f, r ≠ i → ρ.nm r = some (b, f) → (H r).live = true → ρ'.c b = ρ.c b)
    (hnl : ∀ k, ¬ Live ρ H k → ρ'.c k = ρ.c k) (hF : FrzOK ρ' w bx i x) : Rel G ρ' w (frzH bx i x H) ∧ Ex ρ w H ρ' w (frzH bx i x H) := by
  have hfi : frzH bx i x H i = .dead := by unfold frzH; rw [setH_same]; rfl
  have hfn : ∀ r, r ≠ i → frzH bx i x H r = HO.frz bx i x (H r) := fun r hr => by unfold frzH; rw [setH_ne _ _ hr]
  have hlv : ∀ r, (frzH bx i x H r).live = true → r ≠ i ∧ (H r).live = true := fun r hr => by
    by_cases h : r = i
    · subst h; rw [hfi] at hr; cases hr
    · rw [hfn r h, HO.frz_live] at hr; exact ⟨h, hr⟩
  refine ⟨⟨fun r hr => ?_, fun k hk => hfr k hk, fun r b' f' h1 => ?_, fun r s b' f1 f2 h1 h2 h3 h4 => hR.inj r s b' f1 f2 (hnm ▸ h1) (hnm ▸ h2) (hlv r h3).2 (hlv s h4).2, fun gg d hd => (hR.glob gg d hd).grow g⟩, g, fun k hk hn => ⟨rfl, hnl k hn⟩, fun k hlk hk => ?_⟩
  · by_cases h : r = i
    · subst h; rw [hfi] at hr; cases hr
    · rw [hfn r h] at hr
      rw [hnm]
      refine hR.free r ?_
      cases hh : H r <;> rw [hh] at hr <;> first | rfl | cases hr
  · rw [hnm] at h1
    by_cases h : r = i
    · subst h; rw [hfi]; trivial
    · rw [hfn r h]
      have h2 := hR.obj r b' f' h1
      cases hh : H r with
      | dead => trivial
      | free => trivial
      | tok =>
        rw [hh] at h2
        have hbb := hoth r b' f' h h1 (by rw [hh]; rfl)
        exact ⟨hbb.trans h2.1, h2.2⟩
      | cells ty ds =>
        rw [hh] at h2
        have hbb := hoth r b' f' h h1 (by rw [hh]; rfl)
        obtain ⟨c0, vs, e1, e2⟩ := h2
        exact ⟨hbb.trans c0, vs, e1, RpL_frz hF ds vs (RpL.grow g _ _ e2)⟩
      | row sz els =>
        rw [hh] at h2
        have hbb := hoth r b' f' h h1 (by rw [hh]; rfl)
        obtain ⟨c0, a1, a2, a3, a4, a5, ty, vs, us, e1, e2, e3⟩ := h2
        refine ⟨hbb.trans c0, a1, fun e he => ?_, by rw [List.length_map]; exact a3, a4, by rw [List.length_map]; exact a5, ty, vs, us, e1, ?_, e3⟩
        · obtain ⟨e', he', rfl⟩ := List.mem_map.1 he
          rw [(D.frz_size hF.a e').1]; exact a2 e' he'
        · rw [cells_frz hF.a]
          exact RpL_frz hF _ _ (RpL.grow g _ _ e2)
      | mp es =>
        rw [hh] at h2
        have hbb := hoth r b' f' h h1 (by rw [hh]; rfl)
        obtain ⟨c0, ents, clock, e1, e2, e3, e4⟩ := h2
        refine ⟨hbb.trans c0, ents, clock, e1, ?_, ?_, e4.1, by rw [List.length_map]; exact e4.2⟩
        · have := RpL_frz hF _ _ (RpL.grow g _ _ e2)
          rw [D.frzs_map] at this
          rw [List.map_map]; rw [List.map_map] at this; exact this
        · have := RpL_frz hF _ _ (RpL.grow g _ _ e3)
          rw [D.frzs_map] at this
          rw [List.map_map]; rw [List.map_map] at this; exact this
  · obtain ⟨r, f', h1, h2⟩ := hlk
    exact ⟨r, f', hnm ▸ h1, (hlv r h2).2⟩

theorem Ex.stay (hR : Rel G ρ w H) {bx : FK} {i b f : Nat} {x : D} (hn : ρ.nm i = some (b, f)) (hl : (H i).live = true) (hc : ρ.c b = some 0) (hF : FrzOK (ρ.stay b) w bx i x) :
    Rel G (ρ.stay b) w (frzH bx i x H) ∧ Ex ρ w H (ρ.stay b) w (frzH bx i x H) := by
  refine Ex.frz hR (Grow.stay hc) rfl (fun k hk => ?_) (fun r b' f' hr h1 h2 => ?_) (fun k hk => ?_) hF
  · have := hR.fresh k hk
    by_cases h : k = b
    · simp [Rho.stay, h]
    · simp [Rho.stay, h, this]
  · have hbb : b' ≠ b := fun e => by subst e; exact hr (hR.inj r i b' f' f h1 hn h2 hl)
    simp [Rho.stay, hbb]
  · have : k ≠ b := fun e => hk ⟨i, f, by rw [e]; exact hn, hl⟩
    simp [Rho.stay, this]

/-- what stands in a box, as a place -/
def refOf (T : TypeId → Ty) (ty : TypeId) (ds : List D) : D := if (T ty).k.isAgg then .ref (.agg ds) else match ds with | [d] => .ref d | _ => .junk

variable {P : Program} {T : TypeId → Ty} {Q : DQ} {tl : List D} {hl : List HO} {df : Df} {M : Nat}

def dfFrz (bx : FK) (i : Nat) (x : D) (df : Df) : Df := df.map fun p => (p.1, D.frzs bx i x p.2)

theorem DfM.frz {bx : FK} {i : Nat} {x : D} (hF : FrzOK ρ w bx i x) : ∀ {df : Df} {ds : List Deferred}, DfM ρ w ds df → DfM ρ w ds (dfFrz bx i x df)
  | [], ds, h => h
  | (fn, cs) :: r, ds, ⟨us, ds', h1, h2, h3⟩ => ⟨us, ds', h1, RpL_frz hF _ _ h2, DfM.frz hF h3⟩

theorem InSt.frz {ρ' : Rho} {ρ0 : Rho} {w0 : World} {H0 : Nat → HO} {nt : Nat} {a : Act} {bx : FK} {i : Nat} {x : D} (hst : InSt G ρ0 w0 H0 nt ρ w a (tmOf tl) (hOf hl) df) (hl' : (hOf hl i).live = true) (hF : FrzOK ρ' w bx i x)
    (hE : Rel G ρ' w (frzH bx i x (hOf hl)) ∧ Ex ρ w (hOf hl) ρ' w (frzH bx i x (hOf hl))) :
    InSt G ρ0 w0 H0 nt ρ' w a (tmOf (D.frzs bx i x tl)) (hOf ((hl.set i .dead).map (HO.frz bx i x))) (dfFrz bx i x df) := by
  obtain ⟨h1, h2⟩ := hE
  have g := h2.grow
  have he : hOf ((hl.set i .dead).map (HO.frz bx i x)) = frzH bx i x (hOf hl) := by
    have hi : i < hl.length := by
      rcases Nat.lt_or_ge i hl.length with h | h
      · exact h
      · unfold hOf at hl'; rw [List.getD_eq_getElem?_getD, List.getElem?_eq_none h] at hl'; cases hl'
    funext r
    unfold frzH hOf setH
    dsimp only
    rw [List.getD_eq_getElem?_getD, List.getElem?_map]
    by_cases hr : r = i
    · subst hr; simp [hi]
    · rw [List.getElem?_set_ne (Ne.symm hr)]
      simp only [hr, if_false]
      rw [List.getD_eq_getElem?_getD]
      cases hl[r]? <;> rfl
  rw [he]
  refine ⟨h1, hst.ex.trans h2, fun k => ?_, hst.size, DfM.frz hF (hst.df.grow g)⟩
  have := Rp_frz hF _ _ (Rp.grow g _ _ (hst.tmp k))
  have e : tmOf (D.frzs bx i x tl) k = D.frz bx i x (tmOf tl k) := by
    unfold tmOf
    rw [D.frzs_map, List.getD_eq_getElem?_getD, List.getElem?_map, List.getD_eq_getElem?_getD]
    cases tl[k]? <;> rfl
  rw [e]; exact this

/-- a box is written no more -/
theorem wpD_stay {c : Code} (i : Nat) {ty : TypeId} {ds : List D} (hi : hOf hl i = .cells ty ds) (hone : ds.all D.one = true) (hx : (refOf T ty ds).isAggD = false ∧ (refOf T ty ds = .ref (.agg ds) ∨ ∃ d, ds = [d] ∧ refOf T ty ds = .ref d))
    (h : wpD P G M c Q (D.frzs .kb i (refOf T ty ds) tl) ((hl.set i .dead).map (HO.frz .kb i (refOf T ty ds))) (dfFrz .kb i (refOf T ty ds) df)) : wpD P G M c Q tl hl df := fun ρ0 w0 H0 ρ w a hbs hst => by
  have hlive : (hOf hl i).live = true := by rw [hi]; rfl
  cases hnm : ρ.nm i with
  | none =>
    have hF : FrzOK ρ w .kb i (refOf T ty ds) := ⟨hx.1, (fun _ v hv => by rw [Rp] at hv; obtain ⟨b, f, h1, -⟩ := hv; rw [hnm] at h1; cases h1), (fun h => by cases h), (fun h => by cases h)⟩
    have := h ρ0 w0 H0 ρ w a hbs (by
      rw [D.frzs_length]
      exact hst.frz hlive hF (Ex.frz hst.rel (Grow.refl _ _) rfl hst.rel.fresh (fun _ _ _ _ _ _ => rfl) (fun _ _ => rfl) hF))
    rw [D.frzs_length] at this
    exact this
  | some bf =>
    obtain ⟨b, f⟩ := bf
    have hobj := hst.rel.obj i b f hnm
    rw [hi] at hobj
    obtain ⟨hc, vs, hh, hr⟩ := hobj
    have g : Grow ρ w (ρ.stay b) w := Grow.stay hc
    have hF : FrzOK (ρ.stay b) w .kb i (refOf T ty ds) := ⟨hx.1, fun _ v hv => ?_, (fun h => by cases h), fun h => by cases h⟩
    · have := h ρ0 w0 H0 (ρ.stay b) w a hbs (by
        rw [D.frzs_length]
        exact hst.frz hlive hF (Ex.stay hst.rel hnm hlive hc hF))
      rw [D.frzs_length] at this
      exact this
    · rw [Rp] at hv
      obtain ⟨b', f', h1, rfl⟩ := hv
      have h1' : ρ.nm i = some (b', f') := h1
      rw [hnm] at h1'; cases h1'
      have hcell : ∀ (j : Nat) (d : D), ds[j]? = some d → ∃ u, cellAt (ρ.stay b) w b (0 + j) u ∧ Rp (ρ.stay b) w d u := fun j d hj => by
        obtain ⟨u, e1, e2⟩ := hr.get hj
        have e3 := Rp.grow g _ _ e2
        refine ⟨u, ⟨fun k hk => by simp [Rho.stay] at hk, ?_, D.one_cell (List.all_eq_true.1 hone d (List.mem_of_getElem? hj)) e3⟩, e3⟩
        rw [Nat.zero_add]
        simp [World.cell?, hh, e1]
      rcases hx.2 with e | ⟨d, rfl, e⟩
      · rw [e]; exact Rp_ref.2 ⟨b, 0, rfl, RpC.of hcell⟩
      · rw [e]
        obtain ⟨u, e1, e2⟩ := hcell 0 d rfl
        refine Rp_ref.2 ⟨b, 0, rfl, ?_⟩
        cases d
        case agg cs => simp [D.one] at hone
        all_goals exact ⟨u, e1, e2⟩

/-- a map is written no more -/
theorem wpD_staym {c : Code} (i : Nat) {es : List (D × D)} (hi : hOf hl i = .mp es)
    (h : wpD P G M c Q (D.frzs .mp i (.mapc (es.map (·.1)) (es.map (·.2))) tl) ((hl.set i .dead).map (HO.frz .mp i (.mapc (es.map (·.1)) (es.map (·.2))))) (dfFrz .mp i (.mapc (es.map (·.1)) (es.map (·.2))) df)) : wpD P G M c Q tl hl df := fun ρ0 w0 H0 ρ w a hbs hst => by
  have hlive : (hOf hl i).live = true := by rw [hi]; rfl
  cases hnm : ρ.nm i with
  | none =>
    have hF : FrzOK ρ w .mp i (.mapc (es.map (·.1)) (es.map (·.2))) := ⟨rfl, (fun h => by cases h), (fun _ v hv => by rw [Rp] at hv; obtain ⟨b, f, h1, -⟩ := hv; rw [hnm] at h1; cases h1), fun h => by cases h⟩
    have := h ρ0 w0 H0 ρ w a hbs (by
      rw [D.frzs_length]
      exact hst.frz hlive hF (Ex.frz hst.rel (Grow.refl _ _) rfl hst.rel.fresh (fun _ _ _ _ _ _ => rfl) (fun _ _ => rfl) hF))
    rw [D.frzs_length] at this
    exact this
  | some bf =>
    obtain ⟨b, f⟩ := bf
    have hobj := hst.rel.obj i b f hnm
    rw [hi] at hobj
    obtain ⟨hc, ents, clock, hh, h1, h2, -⟩ := hobj
    have g : Grow ρ w (ρ.stay b) w := Grow.stay hc
    have hF : FrzOK (ρ.stay b) w .mp i (.mapc (es.map (·.1)) (es.map (·.2))) := ⟨rfl, (fun h => by cases h), (fun _ v hv => ?_), fun h => by cases h⟩
    · have := h ρ0 w0 H0 (ρ.stay b) w a hbs (by
        rw [D.frzs_length]
        exact hst.frz hlive hF (Ex.stay hst.rel hnm hlive hc hF))
      rw [D.frzs_length] at this
      exact this
    · rw [Rp] at hv
      obtain ⟨b', f', e1, rfl⟩ := hv
      have e1' : ρ.nm i = some (b', f') := e1
      rw [hnm] at e1'; cases e1'
      rw [Rp]
      exact ⟨b, ents, clock, rfl, by simp [Rho.stay], hh, RpL.grow g _ _ h1, RpL.grow g _ _ h2⟩

/-- a slice of the call's own is written no more -/
theorem frzO (hR : Rel G ρ w H) {i : Nat} {sz : Nat} {els : List D} (hi : H i = .row sz els) : ∃ ρ', FrzOK ρ' w .ow i (.slice els .any) ∧ Grow ρ w ρ' w ∧ Rel G ρ' w (frzH .ow i (.slice els .any) H) ∧ Ex ρ w H ρ' w (frzH .ow i (.slice els .any) H) := by
  have hlive : (H i).live = true := by rw [hi]; rfl
  cases hnm : ρ.nm i with
  | none =>
    have hF : FrzOK ρ w .ow i (.slice els .any) := ⟨rfl, (fun h => by cases h), (fun h => by cases h), fun _ n v hv hn => by
      rw [Rp] at hv
      rcases hv with ⟨rfl, A, rfl⟩ | ⟨b, f, h1, -⟩
      · have : els = [] := by simpa [D.isLen] using hn
        subst this
        rw [Rp]
        exact ⟨A, 0, 0, rfl, Nat.le_refl _, Nat.zero_le _, Nat.zero_le _, (fun _ h => by cases h), trivial, fun h => absurd rfl h⟩
      · rw [hnm] at h1; cases h1⟩
    obtain ⟨r1, r2⟩ := Ex.frz hR (Grow.refl _ _) rfl hR.fresh (fun _ _ _ _ _ _ => rfl) (fun _ _ => rfl) hF
    exact ⟨ρ, hF, Grow.refl _ _, r1, r2⟩
  | some bf =>
    obtain ⟨b, f⟩ := bf
    have hobj := hR.obj i b f hnm
    rw [hi] at hobj
    obtain ⟨hc, a1, a2, a3, a4, a5, ty, vs, us, hh, h1, h2, h5⟩ := hobj
    have g : Grow ρ w (ρ.stay b) w := Grow.stay hc
    have hF : FrzOK (ρ.stay b) w .ow i (.slice els .any) := ⟨rfl, (fun h => by cases h), (fun h => by cases h), fun _ n v hv hn => ?_⟩
    · obtain ⟨r1, r2⟩ := Ex.stay hR hnm hlive hc hF
      exact ⟨ρ.stay b, hF, g, r1, r2⟩
    · have hn' : els.length = n := by simpa [D.isLen] using hn
      subst hn'
      rw [Rp] at hv
      rcases hv with ⟨h0, A, rfl⟩ | ⟨b', f', h3, rfl, h4⟩
      · have : els = [] := List.eq_nil_of_length_eq_zero h0
        subst this
        rw [Rp]
        exact ⟨A, 0, 0, rfl, Nat.le_refl _, Nat.zero_le _, Nat.zero_le _, (fun _ h => by cases h), trivial, fun h => absurd rfl h⟩
      · have h3' : ρ.nm i = some (b', f') := h3
        rw [hnm] at h3'; cases h3'
        rw [Rp]
        refine ⟨_, f, sz, rfl, a3, a4, a5, a2, trivial, fun _ => ⟨b, 0, rfl, RpE.of a2 fun k d hk => ?_⟩⟩
        have hr := RpL.elem h1 a2 hk
        have hdl : d.cells.length = sz := by rw [← a2 d (List.mem_of_getElem? hk)]; cases d <;> rfl
        have hcell : ∀ (j : Nat) (d' : D), d.cells[j]? = some d' → ∃ u, cellAt (ρ.stay b) w b (0 + k * sz + j) u ∧ Rp (ρ.stay b) w d' u := fun j d' hj => by
          obtain ⟨u, e1, e2⟩ := hr.get hj
          have e3 := Rp.grow g _ _ e2
          have hjl : j < sz := by have := (List.getElem?_eq_some_iff.1 hj).1; omega
          rw [List.getElem?_take_of_lt hjl, List.getElem?_drop] at e1
          refine ⟨u, ⟨fun k hk => by simp [Rho.stay] at hk, ?_, h5 u (List.mem_of_getElem? e1)⟩, e3⟩
          have e1l := (List.getElem?_eq_some_iff.1 e1).1
          simp only [Nat.zero_add, World.cell?, hh, Option.isSome_none, Bool.false_eq_true, if_false]
          rw [List.getElem?_toArray, List.getElem?_append_left e1l]; exact e1
        cases hd : d.isAggD with
        | true =>
          cases d <;> first | (cases hd; done) | skip
          rename_i cs
          exact RpC.of hcell
        | false =>
          obtain ⟨u, e1, e2⟩ := hcell 0 d (by rw [cells_of_one hd]; rfl)
          exact RpAt_of hd e1 e2

theorem wpD_stayO {c : Code} (i : Nat) {sz : Nat} {els : List D} (hi : hOf hl i = .row sz els)
    (h : wpD P G M c Q (D.frzs .ow i (.slice els .any) tl) ((hl.set i .dead).map (HO.frz .ow i (.slice els .any))) (dfFrz .ow i (.slice els .any) df)) : wpD P G M c Q tl hl df := fun ρ0 w0 H0 ρ w a hbs hst => by
  obtain ⟨ρ', hF, -, r1, r2⟩ := frzO hst.rel hi
  have := h ρ0 w0 H0 ρ' w a hbs (by
    rw [D.frzs_length]
    exact hst.frz (by rw [hi]; rfl) hF ⟨r1, r2⟩)
  rw [D.frzs_length] at this
  exact this

/-- what is told with a slice of the call's own, read alone -/
theorem Spec.frzO {f : FuncId} {args : List D} {hc : List HO} {Post Post' : Out → List HO → Prop} (h : Spec P G f args hc Post)
    (hp : ∀ o h', Post o h' → Post' o h' ∨ ∃ i sz els d, o = .ret d ∧ hOf h' i = .row sz els ∧ Post' (.ret (D.frz .ow i (.slice els .any) d)) ((h'.set i .dead).map (HO.frz .ow i (.slice els .any)))) : Spec P G f args hc Post' := by
  intro ρ w vs hR hvs
  obtain ⟨h1, h2⟩ := h ρ w vs hR hvs
  refine ⟨h1, h2.mono ?_⟩
  rintro e w' ⟨ρ', o, h', hpo, ho, g1, g2⟩
  rcases hp o h' hpo with hq | ⟨i, sz, els, d, rfl, hi, hq⟩
  · exact ⟨ρ', o, h', hq, ho, g1, g2⟩
  · obtain ⟨ρ2, hF, hg, r1, r2⟩ := Go.Proofs.Ytbjgdeednmhpfaa.frzO g1 hi
    obtain ⟨u, rfl, hu⟩ := ho
    have hH : frzH .ow i (.slice els .any) (hOf h') = hOf ((h'.set i .dead).map (HO.frz .ow i (.slice els .any))) := by
      funext r
      unfold frzH hOf setH
      rw [List.getD_eq_getElem?_getD, List.getElem?_map]
      by_cases hr : r = i
      · subst hr
        rw [if_pos rfl]
        have hlt : r < h'.length := by
          rcases Nat.lt_or_ge r h'.length with h | h
          · exact h
          · unfold hOf at hi; rw [List.getD_eq_getElem?_getD, List.getElem?_eq_none h] at hi; cases hi
        rw [List.getElem?_set_self hlt]; rfl
      · rw [if_neg hr, List.getElem?_set_ne (fun e => hr e.symm)]
        show HO.frz _ _ _ ((h'[r]?).getD HO.free) = _
        cases h'[r]? <;> rfl
    rw [hH] at r1 r2
    exact ⟨ρ2, _, _, hq, ⟨u, rfl, Rp_frz hF _ _ (Rp.grow hg _ _ hu)⟩, r1, g2.trans r2⟩
end
end Go.Proofs.Ytbjgdeednmhpfaa
