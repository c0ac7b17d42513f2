/-
  Objects that are of no more use: forgotten at a round's end.
-/
import Derived.Test.YtbjgdeednmhpfaaDfrz
set_option linter.unusedSimpArgs false
set_option linter.unusedVariables false
namespace Go.Proofs.Ytbjgdeednmhpfaa
open Go.RowKit

def Cp.low (m : Nat) : Cp → Bool
  | .tok i => decide (i < m)
  | _ => true
mutual
/-- does it name objects below m alone? -/
def D.low (m : Nat) : D → Bool
  | .box i _ => decide (i < m)
  | .map i => decide (i < m)
  | .own i _ => decide (i < m)
  | .ebox i _ _ _ => decide (i < m)
  | .fn _ a b => D.lows m a && D.lows m b
  | .iface _ d => D.low m d
  | .tuple ds => D.lows m ds
  | .agg ds => D.lows m ds
  | .slice els c => D.lows m els && c.low m
  | .ref d => D.low m d
  | .mapc ks vs => D.lows m ks && D.lows m vs
  | _ => true
def D.lows (m : Nat) : List D → Bool
  | [] => true
  | d :: r => D.low m d && D.lows m r
end

mutual
theorem Rp_bl {ρ ρ' : Rho} {w : World} {m : Nat} (hn : ∀ i, i < m → ρ'.nm i = ρ.nm i) (hc : ρ'.c = ρ.c) : ∀ (d : D) (v : Value), d.low m = true → Rp ρ w d v → Rp ρ' w d v
  | .junk, v, _, h => by rw [Rp]; trivial
  | .int k n, v, _, h => by rw [Rp] at h ⊢; exact h
  | .bool b, v, _, h => by rw [Rp] at h ⊢; exact h
  | .str s, v, _, h => by rw [Rp] at h ⊢; exact h
  | .nilp, v, _, h => by rw [Rp] at h ⊢; exact h
  | .nilf, v, _, h => by rw [Rp] at h ⊢; exact h
  | .nili, v, _, h => by rw [Rp] at h ⊢; exact h
  | .nilm, v, _, h => by rw [Rp] at h ⊢; exact h
  | .fn f a b, v, p, h => by
    rw [D.low, Bool.and_eq_true] at p
    rw [Rp] at h ⊢
    obtain ⟨us, vs, h1, h2, h3⟩ := h
    exact ⟨us, vs, h1, RpL_bl hn hc a us p.1 h2, RpL_bl hn hc b vs p.2 h3⟩
  | .iface t d, v, p, h => by
    rw [D.low] at p
    rw [Rp] at h ⊢
    obtain ⟨u, h1, h2⟩ := h
    exact ⟨u, h1, Rp_bl hn hc d u p h2⟩
  | .tuple ds, v, p, h => by
    rw [D.low] at p
    rw [Rp] at h ⊢
    obtain ⟨u, h1, h2⟩ := h
    exact ⟨u, h1, RpL_bl hn hc ds u p h2⟩
  | .agg ds, v, p, h => by
    rw [D.low] at p
    rw [Rp] at h ⊢
    obtain ⟨u, h1, h2⟩ := h
    exact ⟨u, h1, RpL_bl hn hc ds u p h2⟩
  | .slice els c, v, p, h => by
    rw [D.low, Bool.and_eq_true] at p
    rw [Rp] at h ⊢
    obtain ⟨A, cap, sz, h1, h2, h3, h4, h5, h6, h7⟩ := h
    refine ⟨A, cap, sz, h1, h2, h3, h4, h5, ?_, fun hne => let ⟨b, o, h8, h9⟩ := h7 hne; ⟨b, o, h8, RpE_bl hn hc els b o p.1 h9⟩⟩
    cases c with
    | any => trivial
    | full => exact h6
    | tok i =>
      have hi : i < m := by simpa [Cp.low] using p.2
      rcases h6 with h6 | ⟨b, o, f, vs, ty, g1, g2, g3, g4⟩
      · exact .inl h6
      · exact .inr ⟨b, o, f, vs, ty, g1, g2, (hn i hi).trans g3, g4⟩
  | .box i off, v, p, h => by
    have hi : i < m := by simpa [D.low] using p
    rw [Rp] at h ⊢
    obtain ⟨b, f, h1, h2⟩ := h
    exact ⟨b, f, (hn i hi).trans h1, h2⟩
  | .map i, v, p, h => by
    have hi : i < m := by simpa [D.low] using p
    rw [Rp] at h ⊢
    obtain ⟨b, f, h1, h2⟩ := h
    exact ⟨b, f, (hn i hi).trans h1, h2⟩
  | .own i n, v, p, h => by
    have hi : i < m := by simpa [D.low] using p
    rw [Rp] at h ⊢
    rcases h with h | ⟨b, f, h1, h2⟩
    · exact .inl h
    · exact .inr ⟨b, f, (hn i hi).trans h1, h2⟩
  | .ebox i sz k off, v, p, h => by
    have hi : i < m := by simpa [D.low] using p
    rw [Rp] at h ⊢
    obtain ⟨b, f, h1, h2⟩ := h
    exact ⟨b, f, (hn i hi).trans h1, h2⟩
  | .mapc ks vs, v, p, h => by
    rw [D.low, Bool.and_eq_true] at p
    rw [Rp] at h ⊢
    obtain ⟨b, ents, clock, h1, h2, h3, h4, h5⟩ := h
    exact ⟨b, ents, clock, h1, by rw [hc]; exact h2, h3, RpL_bl hn hc ks _ p.1 h4, RpL_bl hn hc vs _ p.2 h5⟩
  | .ref d, v, p, h => by
    rw [D.low] at p
    obtain ⟨b, o, h1, h2⟩ := Rp_ref.1 h
    refine Rp_ref.2 ⟨b, o, h1, ?_⟩
    cases d
    case agg cs =>
      rw [D.low] at p
      exact RpC_bl hn hc cs b o p h2
    all_goals
      obtain ⟨u, h3, h4⟩ := h2
      exact ⟨u, cellAt_nm hc h3, Rp_bl hn hc _ u p h4⟩
theorem RpL_bl {ρ ρ' : Rho} {w : World} {m : Nat} (hn : ∀ i, i < m → ρ'.nm i = ρ.nm i) (hc : ρ'.c = ρ.c) : ∀ (ds : List D) (vs : List Value), D.lows m ds = true → RpL ρ w ds vs → RpL ρ' w ds vs
  | [], vs, _, h => by rw [RpL_nil] at h ⊢; exact h
  | d :: r, vs, p, h => by
    rw [D.lows, Bool.and_eq_true] at p
    rw [RpL_cons] at h
    obtain ⟨v, us, rfl, h2, h3⟩ := h
    exact RpL_cons'.2 ⟨Rp_bl hn hc d v p.1 h2, RpL_bl hn hc r us p.2 h3⟩
theorem RpC_bl {ρ ρ' : Rho} {w : World} {m : Nat} (hn : ∀ i, i < m → ρ'.nm i = ρ.nm i) (hc : ρ'.c = ρ.c) : ∀ (ds : List D) (b o : Nat), D.lows m ds = true → RpC ρ w ds b o → RpC ρ' w ds b o
  | [], b, o, _, h => RpC_nil
  | d :: r, b, o, p, h => by
    rw [D.lows, Bool.and_eq_true] at p
    rw [RpC_cons] at h
    obtain ⟨⟨v, h1, h2⟩, h3⟩ := h
    exact RpC_cons.2 ⟨⟨v, cellAt_nm hc h1, Rp_bl hn hc d v p.1 h2⟩, RpC_bl hn hc r b (o + 1) p.2 h3⟩
theorem RpE_bl {ρ ρ' : Rho} {w : World} {m : Nat} (hn : ∀ i, i < m → ρ'.nm i = ρ.nm i) (hc : ρ'.c = ρ.c) : ∀ (ds : List D) (b o : Nat), D.lows m ds = true → RpE ρ w ds b o → RpE ρ' w ds b o
  | [], b, o, _, h => RpE_nil
  | d :: r, b, o, p, h => by
    rw [D.lows, Bool.and_eq_true] at p
    rw [RpE_cons] at h
    refine RpE_cons.2 ⟨?_, RpE_bl hn hc r b _ p.2 h.2⟩
    have h2 := h.1
    cases d
    case agg cs =>
      have p1 := p.1
      rw [D.low] at p1
      exact RpC_bl hn hc cs b o p1 h2
    all_goals
      obtain ⟨u, h3, h4⟩ := h2
      exact ⟨u, cellAt_nm hc h3, Rp_bl hn hc _ u p.1 h4⟩
end


mutual
theorem D.low_pure (m : Nat) : ∀ d : D, d.pure = true → d.low m = true
  | .junk, _ => rfl
  | .int _ _, _ => rfl
  | .bool _, _ => rfl
  | .str _, _ => rfl
  | .nilp, _ => rfl
  | .nilf, _ => rfl
  | .nili, _ => rfl
  | .nilm, _ => rfl
  | .box _ _, h => by simp [D.pure] at h
  | .map _, h => by simp [D.pure] at h
  | .own _ _, h => by simp [D.pure] at h
  | .ebox _ _ _ _, h => by simp [D.pure] at h
  | .fn f a b, h => by
    rw [D.pure, Bool.and_eq_true] at h
    rw [D.low, D.lows_pure m a h.1, D.lows_pure m b h.2]; rfl
  | .iface t d, h => by rw [D.pure] at h; rw [D.low, D.low_pure m d h]
  | .tuple ds, h => by rw [D.pure] at h; rw [D.low, D.lows_pure m ds h]
  | .agg ds, h => by rw [D.pure] at h; rw [D.low, D.lows_pure m ds h]
  | .slice els c, h => by
    rw [D.pure, Bool.and_eq_true] at h
    rw [D.low, D.lows_pure m els h.1]
    cases c <;> first | rfl | simp [Cp.free] at h
  | .ref d, h => by rw [D.pure] at h; rw [D.low, D.low_pure m d h]
  | .mapc ks vs, h => by
    rw [D.pure, Bool.and_eq_true] at h
    rw [D.low, D.lows_pure m ks h.1, D.lows_pure m vs h.2]; rfl
theorem D.lows_pure (m : Nat) : ∀ ds : List D, D.pures ds = true → D.lows m ds = true
  | [], _ => rfl
  | d :: r, h => by
    rw [D.pures, Bool.and_eq_true] at h
    rw [D.lows, D.low_pure m d h.1, D.lows_pure m r h.2]; rfl
end

/-- a temporary, an object, without the names from m on -/
def D.cut (m : Nat) (d : D) : D := if d.low m then d else .junk
def HO.cut (m : Nat) : HO → HO
  | .cells ty ds => if D.lows m ds then .cells ty ds else .dead
  | .mp es => if D.lows m (es.map (·.1)) && D.lows m (es.map (·.2)) then .mp es else .dead
  | .row sz els => if D.lows m (els.flatMap D.cells) then .row sz els else .dead
  | h => h

theorem Rp_cut {ρ ρ' : Rho} {w : World} {m : Nat} (hn : ∀ i, i < m → ρ'.nm i = ρ.nm i) (hc : ρ'.c = ρ.c) {d : D} {v : Value} (h : Rp ρ w d v) : Rp ρ' w (d.cut m) v := by
  unfold D.cut
  split
  · rename_i hb; exact Rp_bl hn hc d v hb h
  · rw [Rp]; trivial

theorem HO.cut_live {m : Nat} {h : HO} (hl : (h.cut m).live = true) : h.live = true ∧ h.cut m = h := by
  cases h with
  | cells ty ds => simp only [HO.cut] at hl ⊢; split at hl <;> simp_all [HO.live]
  | mp es => simp only [HO.cut] at hl ⊢; split at hl <;> simp_all [HO.live]
  | row sz els => simp only [HO.cut] at hl ⊢; split at hl <;> simp_all [HO.live]
  | tok => exact ⟨rfl, rfl⟩
  | dead => cases hl
  | free => cases hl

def Rho.cut (ρ : Rho) (m : Nat) : Rho := ⟨ρ.c, fun i => if i < m then ρ.nm i else none⟩

section
variable {G : Nat → Option D} {ρ0 ρ : Rho} {w0 w : World} {H0 : Nat → HO} {nt : Nat} {a : Act} {tl : List D} {hl : List HO}

/-- the state without the names from m on: these are none of the caller's -/
theorem InSt.cut {m : Nat} (hG : ∀ g d, G g = some d → d.pure = true) (h0 : ∀ i, m ≤ i → ρ0.nm i = none) (h : InSt G ρ0 w0 H0 nt ρ w a (tmOf tl) (hOf hl) []) : InSt G ρ0 w0 H0 nt (ρ.cut m) w a (tmOf (tl.map (D.cut m))) (hOf ((hl.take m).map (HO.cut m))) [] := by
  have hn : ∀ i, i < m → (ρ.cut m).nm i = ρ.nm i := fun i hi => by simp [Rho.cut, hi]
  have hsome : ∀ i x, (ρ.cut m).nm i = some x → i < m ∧ ρ.nm i = some x := fun i x hx => by
    by_cases hi : i < m
    · exact ⟨hi, by rw [← hn i hi]; exact hx⟩
    · simp [Rho.cut, hi] at hx
  have hH : ∀ i, i < m → hOf ((hl.take m).map (HO.cut m)) i = (hOf hl i).cut m := fun i hi => by
    unfold hOf
    rw [List.getD_eq_getElem?_getD, List.getElem?_map, List.getElem?_take_of_lt hi, List.getD_eq_getElem?_getD]
    cases hl[i]? <;> rfl
  have hlive : ∀ i x, (ρ.cut m).nm i = some x → (hOf ((hl.take m).map (HO.cut m)) i).live = true → (hOf hl i).live = true ∧ hOf ((hl.take m).map (HO.cut m)) i = hOf hl i := fun i x hx hv => by
    have hi := (hsome i x hx).1
    rw [hH i hi] at hv ⊢
    exact HO.cut_live hv
  have hL : ∀ b, Live (ρ.cut m) (hOf ((hl.take m).map (HO.cut m))) b → Live ρ (hOf hl) b := fun b ⟨i, f, h1, h2⟩ => ⟨i, f, (hsome i _ h1).2, (hlive i _ h1 h2).1⟩
  have hR := h.rel
  refine ⟨⟨fun i hi => ?_, hR.fresh, fun i b f h1 => ?_, fun i j b f g h1 h2 h3 h4 => hR.inj i j b f g (hsome i _ h1).2 (hsome j _ h2).2 (hlive i _ h1 h3).1 (hlive j _ h2 h4).1, fun g d hd => RpAt_nm (ρ := ρ) (ρ' := ρ.cut m) rfl (hG g d hd) (hR.glob g d hd)⟩, ⟨?_, h.ex.frame, fun b hb hlt => h.ex.live b (hL b hb) hlt⟩, fun k => ?_, h.size, ?_⟩
  · by_cases him : i < m
    · rw [hn i him]
      rw [hH i him] at hi
      refine hR.free i ?_
      cases hh : hOf hl i <;> rw [hh] at hi <;> first | rfl | (simp only [HO.cut] at hi; split at hi <;> cases hi) | cases hi
    · simp [Rho.cut, him]
  · obtain ⟨hi, h2⟩ := hsome i _ h1
    rw [hH i hi]
    have h3 := hR.obj i b f h2
    cases hh : hOf hl i with
    | dead => trivial
    | free => trivial
    | tok => rw [hh] at h3; exact h3
    | cells ty ds =>
      rw [hh] at h3
      simp only [HO.cut]
      split
      · rename_i hb
        obtain ⟨c0, vs, e1, e2⟩ := h3
        exact ⟨c0, vs, e1, RpL_bl hn rfl ds vs hb e2⟩
      · trivial
    | row sz els =>
      rw [hh] at h3
      simp only [HO.cut]
      split
      · rename_i hb
        obtain ⟨c0, a1, a2, a3, a4, a5, ty, vs, us, e1, e2, e3⟩ := h3
        exact ⟨c0, a1, a2, a3, a4, a5, ty, vs, us, e1, RpL_bl hn rfl _ _ hb e2, e3⟩
      · trivial
    | mp es =>
      rw [hh] at h3
      simp only [HO.cut]
      split
      · rename_i hb
        rw [Bool.and_eq_true] at hb
        obtain ⟨c0, ents, clock, e1, e2, e3, e4⟩ := h3
        exact ⟨c0, ents, clock, e1, RpL_bl hn rfl _ _ hb.1 e2, RpL_bl hn rfl _ _ hb.2 e3, e4⟩
      · trivial
  · have g := h.ex.grow
    refine ⟨g.os, g.tape, g.output, g.size, g.whole, g.part, fun i x hx => ?_⟩
    have hi : i < m := by
      rcases Nat.lt_or_ge i m with hi | hi
      · exact hi
      · rw [h0 i hi] at hx; cases hx
    rw [hn i hi]; exact g.nm i x hx
  · have e : tmOf (tl.map (D.cut m)) k = (tmOf tl k).cut m := by
      unfold tmOf
      rw [List.getD_eq_getElem?_getD, List.getElem?_map, List.getD_eq_getElem?_getD]
      cases tl[k]? <;> rfl
    rw [e]; exact Rp_cut hn rfl (h.tmp k)
  · exact h.df

variable {P : Program} {Q : DQ} {M : Nat}

/-- a loop whose rounds make objects: at a round's end they are forgotten -/
theorem wpD_loopC {c : Code} (hG : ∀ g d, G g = some d → d.pure = true) (m : Nat) (hm : m = hl.length) (I : Nat → List D → List HO → Prop) (n : Nat) (h0 : I n tl hl)
    (hr : ∀ n tl' hl', tl'.length = tl.length → I n tl' hl' → wpD P G M c (thenD (fun tl hl df => df = [] ∧ ∃ k, k < n ∧ I k (tl.map (D.cut m)) ((hl.take m).map (HO.cut m))) Q) tl' hl' []) :
    wpD P G M (.loop c) Q tl hl [] := fun ρ0 w0 H0 ρ w a hbs hst => by
  have hbase : ∀ i, m ≤ i → ρ0.nm i = none := fun i hi => by
    have h1 : ρ.nm i = none := hst.rel.free i (by unfold hOf; rw [List.getD_eq_getElem?_getD, List.getElem?_eq_none (hm ▸ hi)]; rfl)
    cases h2 : ρ0.nm i with
    | none => rfl
    | some x => rw [hst.ex.grow.nm i x h2] at h1; cases h1
  intro b k cs
  have key : ∀ n tl' hl' ρ w a, tl'.length = tl.length → I n tl' hl' → InSt G ρ0 w0 H0 tl.length ρ w a (tmOf tl') (hOf hl') [] →
      ∃ e a' w', LiftQ G ρ0 w0 H0 tl.length Q e a' w' ∧ Arrives P (lone (b.at a (.code c :: .inLoop c :: k)) cs w) b k cs e a' w' := by
    intro n
    induction n using Nat.strongRecOn with
    | _ n ih =>
      intro tl' hl' ρ w a hl1 hI hst
      obtain ⟨e, a₁, w₁, hq, harr⟩ := hr n tl' hl' hl1 hI ρ0 w0 H0 ρ w a hbs (hl1 ▸ hst) b (.inLoop c :: k) cs
      rw [hl1] at hq
      obtain ⟨x, tl2, hl2, df2, ρ2, h1, h2, h3, h4⟩ := hq
      cases x with
      | nrm =>
        cases h2
        obtain ⟨rfl, m', hm', hI2⟩ := h1
        obtain ⟨e₂, a₂, w₂, hq₂, harr₂⟩ := ih m' hm' _ _ (ρ2.cut m) w₁ a₁ (by rw [List.length_map]; exact h3) hI2 (h4.cut hG hbase)
        exact ⟨e₂, a₂, w₂, hq₂, .of_steps (Steps.trans harr (.one step_inLoop)) harr₂⟩
      | ret => cases h2; exact ⟨_, a₁, w₁, ⟨.ret, tl2, hl2, df2, ρ2, h1, rfl, h3, h4⟩, .pass (x := .inLoop c) rfl (fun _ _ => .inl (by simp)) harr⟩
      | ext i => cases h2; exact ⟨_, a₁, w₁, ⟨.ext i, tl2, hl2, df2, ρ2, h1, rfl, h3, h4⟩, .pass (x := .inLoop c) rfl (fun _ _ => .inl (by simp)) harr⟩
      | pan d =>
        obtain ⟨u, rfl, hu⟩ := h2
        exact ⟨_, a₁, w₁, ⟨.pan d, tl2, hl2, df2, ρ2, h1, ⟨u, rfl, hu⟩, h3, h4⟩, .pass (x := .inLoop c) rfl (fun _ _ => .inl (by simp)) harr⟩
  obtain ⟨e, a', w', hq, harr⟩ := key n tl hl ρ w a rfl h0 hst
  exact ⟨e, a', w', hq, .of_steps (.one step_loop) harr⟩

theorem wpD_loopV {c : Code} (hG : ∀ g d, G g = some d → d.pure = true) (W : List Nat) (I : Nat → List D → List HO → Prop) (n0 : Nat) (h0 : tl = putAll tl W (getW W tl)) (hI : I n0 (getW W tl) hl)
    (hr : ∀ n ys hl' (A : List D → List HO → Df → Prop), (∀ k tl2 hl2, k < n → tl2.map (D.cut hl.length) = putAll tl W (getW W (tl2.map (D.cut hl.length))) → I k (getW W (tl2.map (D.cut hl.length))) ((hl2.take hl.length).map (HO.cut hl.length)) → A tl2 hl2 []) → I n ys hl' → wpD P G M c (thenD A Q) (putAll tl W ys) hl' []) : wpD P G M (.loop c) Q tl hl [] := by
  refine wpD_loopC hG hl.length rfl (fun n tl2 hl2 => ∃ ys2, tl2 = putAll tl W ys2 ∧ I n ys2 hl2) n0 ⟨_, h0, hI⟩ ?_
  rintro n tl' hl' - ⟨ys, rfl, hIn⟩
  exact hr n ys hl' _ (fun m tl2 hl2 h1 h2 h3 => ⟨rfl, m, h1, _, h2, h3⟩) hIn
end
end Go.Proofs.Ytbjgdeednmhpfaa
