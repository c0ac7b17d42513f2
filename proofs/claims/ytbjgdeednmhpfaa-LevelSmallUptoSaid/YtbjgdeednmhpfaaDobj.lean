/-
  Calls that are handed objects; names kept, names forgotten; rights to grow.
-/
import Derived.Test.YtbjgdeednmhpfaaDren
set_option linter.unusedSimpArgs false
set_option linter.unusedVariables false
namespace Go.Proofs.Ytbjgdeednmhpfaa
open Go.RowKit

def Out.ren (σ : Nat → Nat) : Out → Out
  | .ret d => .ret (d.ren σ)
  | .pan d => .pan (d.ren σ)

theorem OutM.map {ρ ρ' : Rho} {w : World} {σ : Nat → Nat} (h : ∀ d u, Rp ρ w d u → Rp ρ' w (d.ren σ) u) {out : Out} {e : Ending} (ho : OutM ρ w out e) : OutM ρ' w (out.ren σ) e := by
  cases out with
  | ret d => obtain ⟨u, h1, h2⟩ := ho; exact ⟨u, h1, h d u h2⟩
  | pan d => obtain ⟨u, h1, h2⟩ := ho; exact ⟨u, h1, h d u h2⟩

/-- what is handed on, as it is or read alone -/
def handed (f : Bool) (ds : List D) : List D := if f then D.fgts ds else ds
theorem RpL_handed {ρ : Rho} {w : World} (f : Bool) {ds : List D} {vs : List Value} (h : RpL ρ w ds vs) : RpL ρ w (handed f ds) vs := by
  cases f
  · exact h
  · exact RpL_fgt _ _ h
def told (f : Bool) (o : Out) : Out := if f then o.fgt else o
theorem OutM.told {ρ : Rho} {w : World} (f : Bool) {o : Out} {e : Ending} (h : OutM ρ w o e) : OutM ρ w (told f o) e := by
  cases f
  · exact h
  · exact h.fgt

mutual
/-- no room is known, however deep -/
def D.deep : D → D
  | .slice els _ => .slice (D.deeps els) .any
  | .agg ds => .agg (D.deeps ds)
  | .tuple ds => .tuple (D.deeps ds)
  | .iface t d => .iface t (D.deep d)
  | .fn f a b => .fn f (D.deeps a) (D.deeps b)
  | .ref d => .ref (D.deep d)
  | .mapc ks vs => .mapc (D.deeps ks) (D.deeps vs)
  | .junk => .junk
  | .int k n => .int k n
  | .bool b => .bool b
  | .str s => .str s
  | .nilp => .nilp
  | .nilf => .nilf
  | .nili => .nili
  | .nilm => .nilm
  | .box i o => .box i o
  | .map i => .map i
  | .own i n => .own i n
  | .ebox i sz k o => .ebox i sz k o
def D.deeps : List D → List D
  | [] => []
  | d :: r => D.deep d :: D.deeps r
end
theorem D.deeps_map : ∀ ds : List D, D.deeps ds = ds.map D.deep
  | [] => rfl
  | d :: r => by rw [D.deeps, D.deeps_map r]; rfl
theorem D.deeps_length (ds : List D) : (D.deeps ds).length = ds.length := by rw [D.deeps_map, List.length_map]
theorem D.deep_size (d : D) : d.deep.size = d.size := by cases d <;> simp [D.deep, D.size, D.deeps_length]
section
variable {ρ : Rho} {w : World}
mutual
theorem Rp_deep : ∀ (d : D) (v : Value), Rp ρ w d v → Rp ρ w d.deep v
  | .junk, v, h => h
  | .int _ _, v, h => h
  | .bool _, v, h => h
  | .str _, v, h => h
  | .nilp, v, h => h
  | .nilf, v, h => h
  | .nili, v, h => h
  | .nilm, v, h => h
  | .box _ _, v, h => h
  | .map _, v, h => h
  | .own _ _, v, h => h
  | .ebox _ _ _ _, v, h => h
  | .fn f a b, v, h => by
    rw [D.deep]
    rw [Rp] at h ⊢
    obtain ⟨us, vs, h1, h2, h3⟩ := h
    exact ⟨us, vs, h1, RpL_deep a us h2, RpL_deep b vs h3⟩
  | .iface t d, v, h => by
    rw [D.deep]
    rw [Rp] at h ⊢
    obtain ⟨u, h1, h2⟩ := h
    exact ⟨u, h1, Rp_deep d u h2⟩
  | .tuple ds, v, h => by
    rw [D.deep]
    rw [Rp] at h ⊢
    obtain ⟨u, h1, h2⟩ := h
    exact ⟨u, h1, RpL_deep ds u h2⟩
  | .agg ds, v, h => by
    rw [D.deep]
    rw [Rp] at h ⊢
    obtain ⟨u, h1, h2⟩ := h
    exact ⟨u, h1, RpL_deep ds u h2⟩
  | .mapc ks vs, v, h => by
    rw [D.deep]
    rw [Rp] at h ⊢
    obtain ⟨b, ents, clock, h1, h2, h3, h4, h5⟩ := h
    exact ⟨b, ents, clock, h1, h2, h3, RpL_deep ks _ h4, RpL_deep vs _ h5⟩
  | .slice els c, v, h => by
    rw [D.deep]
    rw [Rp] at h ⊢
    obtain ⟨A, cap, sz, h1, h2, h3, h4, h5, h6, h7⟩ := h
    refine ⟨A, cap, sz, by rw [D.deeps_length]; exact h1, by rw [D.deeps_length]; exact h2, h3, by rw [D.deeps_length]; exact h4, fun e he => ?_, trivial, fun hne => ?_⟩
    · rw [D.deeps_map] at he
      obtain ⟨e', he', rfl⟩ := List.mem_map.1 he
      rw [D.deep_size]; exact h5 e' he'
    · have hne' : els ≠ [] := fun h0 => hne (by subst h0; rfl)
      obtain ⟨b, o, h8, h9⟩ := h7 hne'
      exact ⟨b, o, h8, RpE_deep els b o h9⟩
  | .ref d, v, h => by
    rw [D.deep]
    obtain ⟨b, o, h1, h2⟩ := Rp_ref.1 h
    refine Rp_ref.2 ⟨b, o, h1, ?_⟩
    cases d
    case agg cs => rw [D.deep]; exact RpC_deep cs b o h2
    all_goals
      obtain ⟨u, h3, h4⟩ := h2
      have h5 := Rp_deep _ u h4
      exact ⟨u, h3, h5⟩
theorem RpL_deep : ∀ (ds : List D) (vs : List Value), RpL ρ w ds vs → RpL ρ w (D.deeps ds) vs
  | [], vs, h => by rw [D.deeps]; exact h
  | d :: r, vs, h => by
    rw [D.deeps]
    rw [RpL_cons] at h
    obtain ⟨v, us, rfl, h2, h3⟩ := h
    exact RpL_cons'.2 ⟨Rp_deep d v h2, RpL_deep r us h3⟩
theorem RpC_deep : ∀ (ds : List D) (b o : Nat), RpC ρ w ds b o → RpC ρ w (D.deeps ds) b o
  | [], b, o, h => RpC_nil
  | d :: r, b, o, h => by
    rw [D.deeps]
    rw [RpC_cons] at h
    obtain ⟨⟨v, h1, h2⟩, h3⟩ := h
    exact RpC_cons.2 ⟨⟨v, h1, Rp_deep d v h2⟩, RpC_deep r b (o + 1) h3⟩
theorem RpE_deep : ∀ (ds : List D) (b o : Nat), RpE ρ w ds b o → RpE ρ w (D.deeps ds) b o
  | [], b, o, h => RpE_nil
  | d :: r, b, o, h => by
    rw [D.deeps]
    rw [RpE_cons] at h
    refine RpE_cons.2 ⟨?_, by rw [D.deep_size]; exact RpE_deep r b _ h.2⟩
    have h2 := h.1
    cases d
    case agg cs => rw [D.deep]; exact RpC_deep cs b o h2
    all_goals
      obtain ⟨u, h3, h4⟩ := h2
      have h5 := Rp_deep _ u h4
      exact ⟨u, h3, h5⟩
end
end

section
variable {P : Program} {G : Nat → Option D}
theorem CallX.deep {f : FuncId} {args : List D} {hl : List HO} {K : Out → List HO → Prop} (h : CallX P G f (D.deeps args) hl K) : CallX P G f args hl K := by
  obtain ⟨Φ, h1, h2⟩ := h
  exact ⟨Φ, fun ρ w vs hR hvs => h1 ρ w vs hR (RpL_deep _ _ hvs), h2⟩

theorem CallX.objs (hG : ∀ g d, G g = some d → d.pure = true) {f : FuncId} {args args' : List D} {objs : List HO} {Post : Out → List HO → Prop} {hl : List HO} {K : Out → List HO → Prop} (σl : List Nat) (fa : Bool) (h : Spec P G f args objs Post)
    (hK : ∀ out hc, Post out hc → ∃ fr : Bool, K ((told fr out).ren (renO σl hl.length)) (updS hl (upO σl hl.length hc)))
    (hk : ∀ out hc, Post out hc → σl.length ≤ hc.length) (hnd : σl.Nodup) (hlt : (σl.all fun i => decide (i < hl.length)) = true) (hobj : σl.map (fun i => (hOf hl i).ren (renA σl)) = objs) (hok : (σl.all fun i => (hOf hl i).okN (okA σl)) = true)
    (ha : D.rens (renA σl) (handed fa args') = args) (hoka : D.okNs (okA σl) (handed fa args') = true) : CallX P G f args' hl K := by
  have hlt' : ∀ i, i ∈ σl → i < hl.length := fun i hi => by simpa using List.all_eq_true.1 hlt i hi
  refine ⟨fun o up => ∃ out hc fr, Post out hc ∧ K ((told fr out).ren (renO σl hl.length)) (updS hl (upO σl hl.length hc)) ∧ o = (told fr out).ren (renO σl hl.length) ∧ up = upO σl hl.length hc, ?_, ?_⟩
  · intro ρ w vs hR hvs
    have hR' := lent_rel hG hR hnd hobj hok
    have hvs' : RpL (ρ.lent σl) w args vs := by
      rw [← ha]
      exact RpL_ren (p := okA σl) lent_nm rfl _ _ hoka (RpL_handed fa hvs)
    obtain ⟨h1, h2⟩ := h _ w vs hR' hvs'
    refine ⟨h1, h2.mono ?_⟩
    rintro e w' ⟨ρ', out, hc, hp, hout, g1, g2⟩
    obtain ⟨fr, hKK⟩ := hK out hc hp
    obtain ⟨b1, b2, b3⟩ := back (nx := hl.length) hG hR hnd hlt' hobj (fun i hi _ => by unfold hOf; rw [List.getD_eq_getElem?_getD, List.getElem?_eq_none hi]; rfl) (hk _ _ hp) g1 g2
    exact ⟨_, _, _, ⟨out, hc, fr, hp, hKK, rfl, rfl⟩, b1, b2, (hout.told fr).map b3⟩
  · rintro o up ⟨out, hc, fr, hp, hKK, rfl, rfl⟩
    exact hKK

/-- what such a call looks at -/
def rdO (σl : List Nat) (nx : Nat) (hc : List HO) : List Nat := (List.range hc.length).map (renO σl nx)

theorem CallY.objs (hG : ∀ g d, G g = some d → d.pure = true) {f : FuncId} {args args' : List D} {objs : List HO} {Post : Out → List HO → Prop} {hl : List HO} {K : Out → List Nat → List (Nat × HO) → Prop} (σl : List Nat) (fa fr : Bool) {out : Out} {hc : List HO} (h : Spec P G f args objs Post)
    (hP : ∀ o h', Post o h' → told fr o = out ∧ h' = hc) (hK : K (out.ren (renO σl hl.length)) (rdO σl hl.length hc) (upO σl hl.length hc))
    (hk : σl.length ≤ hc.length) (hnd : σl.Nodup) (hlt : (σl.all fun i => decide (i < hl.length)) = true) (hobj : σl.map (fun i => (hOf hl i).ren (renA σl)) = objs) (hok : (σl.all fun i => (hOf hl i).okN (okA σl)) = true)
    (ha : D.rens (renA σl) (handed fa args') = args) (hoka : D.okNs (okA σl) (handed fa args') = true) : CallY P G f args' hl K := by
  have hlt' : ∀ i, i ∈ σl → i < hl.length := fun i hi => by simpa using List.all_eq_true.1 hlt i hi
  refine ⟨out.ren (renO σl hl.length), rdO σl hl.length hc, upO σl hl.length hc, ?_, hK⟩
  intro ρ w H vs hR hH hvs
  have hrd : ∀ i, i ∈ σl → H i = hOf hl i := fun i hi => hH i (by
    unfold rdO
    have hidx := List.idxOf_lt_length_iff.2 hi
    refine List.mem_map.2 ⟨σl.idxOf i, List.mem_range.2 (by omega), ?_⟩
    unfold renO
    rw [if_pos hidx, List.getD_eq_getElem?_getD, List.getElem?_eq_getElem hidx, List.getElem_idxOf hidx]; rfl)
  have hobj' : σl.map (fun i => (H i).ren (renA σl)) = objs := by
    rw [← hobj]
    exact List.map_congr_left fun i hi => by rw [hrd i hi]
  have hok' : (σl.all fun i => (H i).okN (okA σl)) = true := by
    rw [List.all_eq_true] at hok ⊢
    exact fun i hi => by rw [hrd i hi]; exact hok i hi
  have hR' := lent_rel hG hR hnd hobj' hok'
  have hvs' : RpL (ρ.lent σl) w args vs := by
    rw [← ha]
    exact RpL_ren (p := okA σl) lent_nm rfl _ _ hoka (RpL_handed fa hvs)
  obtain ⟨h1, h2⟩ := h _ w vs hR' hvs'
  refine ⟨h1, h2.mono ?_⟩
  rintro e w' ⟨ρ', o, h', hp, hout, g1, g2⟩
  obtain ⟨rfl, rfl⟩ := hP _ _ hp
  obtain ⟨b1, b2, b3⟩ := back (nx := hl.length) hG hR hnd hlt' hobj' (fun i hi hi2 => by
    rw [hH i (by
      unfold rdO
      refine List.mem_map.2 ⟨σl.length + (i - hl.length), List.mem_range.2 (by omega), ?_⟩
      unfold renO; rw [if_neg (by omega)]; omega)]
    unfold hOf; rw [List.getD_eq_getElem?_getD, List.getElem?_eq_none hi]; rfl) hk g1 g2
  exact ⟨_, b1, b2, (hout.told fr).map b3⟩
end

/-- names below m stay; those of κ are m, m + 1, ..; the rest is forgotten -/
def okM (m : Nat) (κ : List Nat) (i : Nat) : Bool := decide (i < m) || κ.contains i
def renM (m : Nat) (κ : List Nat) (i : Nat) : Nat := if i < m then i else m + κ.idxOf i
def D.mov (m : Nat) (κ : List Nat) (d : D) : D := if d.okN (okM m κ) then d.ren (renM m κ) else .junk
def HO.mov (m : Nat) (κ : List Nat) (h : HO) : HO := if h.okN (okM m κ) then h.ren (renM m κ) else .dead
def movH (m : Nat) (κ : List Nat) (hl : List HO) : List HO := ((List.range m).map (hOf hl) ++ κ.map (hOf hl)).map (HO.mov m κ)
def movT (m : Nat) (κ : List Nat) (tl : List D) : List D := tl.map (D.mov m κ)
def movD (m : Nat) (κ : List Nat) (df : Df) : Df := df.map fun p => (p.1, D.rens (renM m κ) p.2)
def okD (m : Nat) (κ : List Nat) (df : Df) : Bool := df.all fun p => D.okNs (okM m κ) p.2

def Rho.mov (ρ : Rho) (m : Nat) (κ : List Nat) : Rho := ⟨ρ.c, fun j => if j < m then ρ.nm j else (κ[j - m]?).bind ρ.nm⟩

theorem HO.mov_live {m : Nat} {κ : List Nat} {h : HO} (hl : (h.mov m κ).live = true) : h.live = true := by
  unfold HO.mov at hl
  split at hl
  · rw [HO.ren_live] at hl; exact hl
  · cases hl
theorem HO.mov_free {m : Nat} {κ : List Nat} {h : HO} (e : h.mov m κ = .free) : h = .free := by
  unfold HO.mov at e
  split at e
  · exact HO.ren_free e
  · cases e

section
variable {G : Nat → Option D} {ρ0 ρ : Rho} {w0 w : World} {H0 : Nat → HO} {nt : Nat} {a : Act} {tl : List D} {hl : List HO} {df : Df} {m : Nat} {κ : List Nat}

theorem mov_nm (i : Nat) (hi : okM m κ i = true) (x : Nat × Nat) (h : ρ.nm i = some x) : (ρ.mov m κ).nm (renM m κ i) = some x := by
  unfold renM
  show (if _ then _ else _) = _
  by_cases h1 : i < m
  · rw [if_pos h1, if_pos h1]; exact h
  · have hm : i ∈ κ := by simpa [okM, h1] using hi
    have hidx := List.idxOf_lt_length_iff.2 hm
    rw [if_neg h1, if_neg (by omega)]
    rw [show m + κ.idxOf i - m = κ.idxOf i by omega, List.getElem?_eq_getElem hidx, List.getElem_idxOf hidx]
    exact h

theorem DfM.ren {ρ' : Rho} {p : Nat → Bool} {σ : Nat → Nat} (hn : ∀ i, p i = true → ∀ x, ρ.nm i = some x → ρ'.nm (σ i) = some x) (hc : ρ'.c = ρ.c) : ∀ {df : Df} {ds : List Deferred}, (df.all fun q => D.okNs p q.2) = true → DfM ρ w ds df → DfM ρ' w ds (df.map fun q => (q.1, D.rens σ q.2))
  | [], ds, _, h => h
  | (f, cap) :: r, ds, hp, h => by
    rw [List.all_cons, Bool.and_eq_true] at hp
    obtain ⟨vs, ds', h1, h2, h3⟩ := h
    exact ⟨vs, ds', h1, RpL_ren hn hc _ _ hp.1 h2, DfM.ren hn hc hp.2 h3⟩

theorem InSt.mov (hG : ∀ g d, G g = some d → d.pure = true) (h0 : ∀ i, m ≤ i → ρ0.nm i = none) (hnd : κ.Nodup) (hge : ∀ i, i ∈ κ → m ≤ i) (hdf : okD m κ df = true) (h : InSt G ρ0 w0 H0 nt ρ w a (tmOf tl) (hOf hl) df) :
    InSt G ρ0 w0 H0 nt (ρ.mov m κ) w a (tmOf (movT m κ tl)) (hOf (movH m κ hl)) (movD m κ df) := by
  have hR := h.rel
  -- a name's source
  have hsrc : ∀ j x, (ρ.mov m κ).nm j = some x → ∃ i, ρ.nm i = some x ∧ hOf (movH m κ hl) j = (hOf hl i).mov m κ ∧ ((j < m ∧ i = j) ∨ (m ≤ j ∧ ∃ hj : j - m < κ.length, i = κ[j - m])) := fun j x hx => by
    have hx' : (if j < m then ρ.nm j else (κ[j - m]?).bind ρ.nm) = some x := hx
    by_cases hj : j < m
    · rw [if_pos hj] at hx'
      refine ⟨j, hx', ?_, .inl ⟨hj, rfl⟩⟩
      unfold movH
      show List.getD (α := HO) _ j HO.free = _
      rw [List.getD_eq_getElem?_getD, List.getElem?_map, List.getElem?_append_left (by simpa using hj), List.getElem?_map, List.getElem?_range hj]; rfl
    · rw [if_neg hj] at hx'
      rcases Nat.lt_or_ge (j - m) κ.length with hk | hk
      · rw [List.getElem?_eq_getElem hk] at hx'
        refine ⟨κ[j - m], hx', ?_, .inr ⟨by omega, hk, rfl⟩⟩
        unfold movH
        show List.getD (α := HO) _ j HO.free = _
        rw [List.getD_eq_getElem?_getD, List.getElem?_map, List.getElem?_append_right (by simp; omega), List.getElem?_map]
        simp only [List.length_map, List.length_range]
        rw [List.getElem?_eq_getElem hk]; rfl
      · rw [List.getElem?_eq_none hk] at hx'; cases hx'
  have hinj : ∀ j1 j2 i, ((j1 < m ∧ i = j1) ∨ (m ≤ j1 ∧ ∃ hj : j1 - m < κ.length, i = κ[j1 - m])) → ((j2 < m ∧ i = j2) ∨ (m ≤ j2 ∧ ∃ hj : j2 - m < κ.length, i = κ[j2 - m])) → j1 = j2 := fun j1 j2 i h1 h2 => by
    rcases h1 with ⟨h1, rfl⟩ | ⟨h1, h3, rfl⟩
    · rcases h2 with ⟨h2, h4⟩ | ⟨h2, h5, h4⟩
      · exact h4
      · have := hge _ (List.getElem_mem h5); omega
    · rcases h2 with ⟨h2, h4⟩ | ⟨h2, h5, h4⟩
      · have := hge _ (List.getElem_mem h3); omega
      · have := (List.getElem_inj hnd).1 h4; omega
  have hL : ∀ b, Live (ρ.mov m κ) (hOf (movH m κ hl)) b → Live ρ (hOf hl) b := fun b ⟨j, f, h1, h2⟩ => by
    obtain ⟨i, g1, g2, -⟩ := hsrc j _ h1
    rw [g2] at h2
    exact ⟨i, f, g1, HO.mov_live h2⟩
  refine ⟨⟨fun j hj => ?_, hR.fresh, fun j b f h1 => ?_, fun i j b f g h1 h2 h3 h4 => ?_, fun g d hd => RpAt_nm (ρ := ρ) (ρ' := ρ.mov m κ) rfl (hG g d hd) (hR.glob g d hd)⟩, ⟨?_, h.ex.frame, fun b hb hlt => h.ex.live b (hL b hb) hlt⟩, fun k => ?_, h.size, ?_⟩
  · cases hq : (ρ.mov m κ).nm j with
    | none => rfl
    | some x =>
      obtain ⟨i, g1, g2, -⟩ := hsrc j x hq
      rw [g2] at hj
      rw [hR.free i (HO.mov_free hj)] at g1; cases g1
  · obtain ⟨i, g1, g2, -⟩ := hsrc j _ h1
    rw [g2]
    unfold HO.mov
    split
    · rename_i hok
      exact ObjAt.ren mov_nm rfl hok (hR.obj i b f g1)
    · trivial
  · obtain ⟨i1, g1, g2, g3⟩ := hsrc i _ h1
    obtain ⟨i2, k1, k2, k3⟩ := hsrc j _ h2
    rw [g2] at h3
    rw [k2] at h4
    have := hR.inj _ _ _ _ _ g1 k1 (HO.mov_live h3) (HO.mov_live h4)
    subst this
    exact hinj _ _ _ g3 k3
  · have g := h.ex.grow
    refine ⟨g.os, g.tape, g.output, g.size, g.whole, g.part, fun i x hx => ?_⟩
    have hi : i < m := by
      rcases Nat.lt_or_ge i m with hi | hi
      · exact hi
      · rw [h0 i hi] at hx; cases hx
    show (if i < m then _ else _) = _
    rw [if_pos hi]; exact g.nm i x hx
  · have e : tmOf (movT m κ tl) k = (tmOf tl k).mov m κ := by
      unfold tmOf movT
      rw [List.getD_eq_getElem?_getD, List.getElem?_map, List.getD_eq_getElem?_getD]
      cases tl[k]? <;> rfl
    rw [e]
    unfold D.mov
    split
    · rename_i hok
      exact Rp_ren mov_nm rfl _ _ hok (h.tmp k)
    · rw [Rp]; trivial
  · exact DfM.ren mov_nm rfl hdf h.df

variable {P : Program} {Q : DQ} {M : Nat}

/-- some objects are kept, under names behind the caller's; the rest is forgotten -/
theorem wpD_mov {c : Code} (κ : List Nat) (hG : ∀ g d, G g = some d → d.pure = true) (hnd : κ.Nodup) (hge : (κ.all fun i => decide (M ≤ i)) = true) (hdf : okD M κ df = true) (h : wpD P G M c Q (movT M κ tl) (movH M κ hl) (movD M κ df)) : wpD P G M c Q tl hl df :=
  fun ρ0 w0 H0 ρ w a hbs hst => by
    have h1 := hst.mov hG hbs hnd (fun i hi => by simpa using List.all_eq_true.1 hge i hi) hdf
    have hlen : (movT M κ tl).length = tl.length := by unfold movT; rw [List.length_map]
    have := h ρ0 w0 H0 _ w a hbs (by rw [hlen]; exact h1)
    rw [hlen] at this
    exact this

/-- a loop: at a round's end some objects are kept under other names -/
theorem wpD_loopM {c : Code} (hG : ∀ g d, G g = some d → d.pure = true) (W : List Nat) (I : Nat → List D → List HO → Prop) (n0 : Nat) (h0 : tl = putAll tl W (getW W tl)) (hI : I n0 (getW W tl) hl)
    (hr : ∀ n ys hl' (A : List D → List HO → Df → Prop), (∀ k tl2 hl2, k < n → tl2 = putAll tl W (getW W tl2) → I k (getW W tl2) hl2 → A tl2 hl2 []) →
      (∀ (κ : List Nat) k tl2 hl2, κ.Nodup → (κ.all fun i => decide (M ≤ i)) = true → k < n → movT M κ tl2 = putAll tl W (getW W (movT M κ tl2)) → I k (getW W (movT M κ tl2)) (movH M κ hl2) → A tl2 hl2 []) → I n ys hl' → wpD P G M c (thenD A Q) (putAll tl W ys) hl' []) : wpD P G M (.loop c) Q tl hl [] := fun ρ0 w0 H0 ρ w a hbs hst => by
  intro b k cs
  have key : ∀ n ys hl' ρ w a, I n ys hl' → InSt G ρ0 w0 H0 tl.length ρ w a (tmOf (putAll tl W ys)) (hOf hl') [] →
      ∃ e a' w', LiftQ G ρ0 w0 H0 tl.length Q e a' w' ∧ Arrives P (lone (b.at a (.code c :: .inLoop c :: k)) cs w) b k cs e a' w' := by
    intro n
    induction n using Nat.strongRecOn with
    | _ n ih =>
      intro ys hl' ρ w a hI hst
      have hl1 : (putAll tl W ys).length = tl.length := putAll_length _ _ _
      obtain ⟨e, a₁, w₁, hq, harr⟩ := hr n ys hl' (fun tl2 hl2 df2 => df2 = [] ∧ ((∃ k, k < n ∧ tl2 = putAll tl W (getW W tl2) ∧ I k (getW W tl2) hl2) ∨ ∃ (κ : List Nat) (k : Nat), κ.Nodup ∧ (κ.all fun i => decide (M ≤ i)) = true ∧ k < n ∧ movT M κ tl2 = putAll tl W (getW W (movT M κ tl2)) ∧ I k (getW W (movT M κ tl2)) (movH M κ hl2)))
        (fun k tl2 hl2 h1 h2 h3 => ⟨rfl, .inl ⟨k, h1, h2, h3⟩⟩) (fun κ k tl2 hl2 h1 h2 h3 h4 h5 => ⟨rfl, .inr ⟨κ, k, h1, h2, h3, h4, h5⟩⟩) hI ρ0 w0 H0 ρ w a hbs (hl1 ▸ hst) b (.inLoop c :: k) cs
      rw [hl1] at hq
      obtain ⟨x, tl2, hl2, df2, ρ2, h1, h2, h3, h4⟩ := hq
      cases x with
      | nrm =>
        cases h2
        obtain ⟨rfl, ⟨k', hk', e1, hI2⟩ | ⟨κ, k', hnd, hge, hk', e1, hI2⟩⟩ := h1
        · obtain ⟨e₂, a₂, w₂, hq₂, harr₂⟩ := ih k' hk' _ _ ρ2 w₁ a₁ hI2 (e1 ▸ h4)
          exact ⟨e₂, a₂, w₂, hq₂, .of_steps (Steps.trans harr (.one step_inLoop)) harr₂⟩
        · have h5 := h4.mov hG hbs hnd (fun i hi => by simpa using List.all_eq_true.1 hge i hi) rfl
          rw [e1] at h5
          obtain ⟨e₂, a₂, w₂, hq₂, harr₂⟩ := ih k' hk' _ _ (ρ2.mov M κ) w₁ a₁ hI2 h5
          exact ⟨e₂, a₂, w₂, hq₂, .of_steps (Steps.trans harr (.one step_inLoop)) harr₂⟩
      | ret => cases h2; exact ⟨_, a₁, w₁, ⟨.ret, tl2, hl2, df2, ρ2, h1, rfl, h3, h4⟩, .pass (x := .inLoop c) rfl (fun _ _ => .inl (by simp)) harr⟩
      | ext i => cases h2; exact ⟨_, a₁, w₁, ⟨.ext i, tl2, hl2, df2, ρ2, h1, rfl, h3, h4⟩, .pass (x := .inLoop c) rfl (fun _ _ => .inl (by simp)) harr⟩
      | pan d =>
        obtain ⟨u, rfl, hu⟩ := h2
        exact ⟨_, a₁, w₁, ⟨.pan d, tl2, hl2, df2, ρ2, h1, ⟨u, rfl, hu⟩, h3, h4⟩, .pass (x := .inLoop c) rfl (fun _ _ => .inl (by simp)) harr⟩
  obtain ⟨e, a', w', hq, harr⟩ := key n0 _ _ ρ w a hI (h0 ▸ hst)
  exact ⟨e, a', w', hq, .of_steps (.one step_loop) harr⟩

/-- a slice without room, as one whose right to grow is an object of its own -/
def D.tokd (i : Nat) : D → D
  | .slice els .full => .slice els (.tok i)
  | d => d
theorem Rp_tokd {i : Nat} {d : D} {v : Value} (h : Rp ρ w d v) : Rp ρ w (d.tokd i) v := by
  unfold D.tokd
  split
  · rw [Rp] at h ⊢
    obtain ⟨A, cap, sz, h1, h2, h3, h4, h5, h6, h7⟩ := h
    exact ⟨A, cap, sz, h1, h2, h3, h4, h5, .inl h6, h7⟩
  · exact h
theorem RpL_tokd {i j : Nat} {ds : List D} {vs : List Value} (h : RpL ρ w ds vs) : RpL ρ w (ds.modify j (D.tokd i)) vs := by
  refine RpL.of (by rw [List.length_modify]; exact h.length) fun k d v hd hv => ?_
  rw [List.getElem?_modify] at hd
  cases hk : ds[k]? with
  | none => rw [hk] at hd; cases hd
  | some x =>
    rw [hk] at hd
    obtain ⟨u, e1, e2⟩ := h.get hk
    rw [hv] at e1; cases e1
    simp only [Option.map_eq_map, Option.map_some, Option.some.injEq] at hd
    subst hd
    split
    · exact Rp_tokd e2
    · exact e2

theorem InSt.name (h : InSt G ρ0 w0 H0 nt ρ w a (tmOf tl) (hOf hl) df) : InSt G ρ0 w0 H0 nt ρ w a (tmOf tl) (hOf (hl ++ [.tok])) df := by
  have e : hOf (hl ++ [.tok]) = setH (hOf hl) hl.length .tok := by
    rw [← hOf_set]
    simp [setS]
  have hf : hOf hl hl.length = .free := by unfold hOf; rw [List.getD_eq_getElem?_getD, List.getElem?_eq_none (Nat.le_refl _)]; rfl
  obtain ⟨g1, g2⟩ := Ex.name h.rel hf
  rw [e]
  exact ⟨g1, h.ex.trans g2, h.tmp, h.size, h.df⟩

theorem wpD_tokT {c : Code} (t : Nat) (h : wpD P G M c Q (tl.modify t (D.tokd hl.length)) (hl ++ [.tok]) df) : wpD P G M c Q tl hl df := fun ρ0 w0 H0 ρ w a hbs hst => by
  have h1 := hst.name
  have hlen : (tl.modify t (D.tokd hl.length)).length = tl.length := List.length_modify ..
  have := h ρ0 w0 H0 ρ w a hbs (by
    rw [hlen]
    refine ⟨h1.rel, h1.ex, fun k => ?_, h1.size, h1.df⟩
    have h2 := h1.tmp k
    unfold tmOf at h2 ⊢
    rw [List.getD_eq_getElem?_getD] at h2 ⊢
    rw [List.getElem?_modify]
    cases hk : tl[k]? with
    | none => show Rp ρ w .junk _; rw [Rp]; trivial
    | some x =>
      rw [hk] at h2
      show Rp ρ w (if t = k then D.tokd hl.length x else x) _
      split
      · exact Rp_tokd h2
      · exact h2)
  rw [hlen] at this
  exact this

/-- the same for what stands in a box -/
theorem wpD_tokO {c : Code} (i j : Nat) {ty : TypeId} {ds : List D} (hi : hOf hl i = .cells ty ds) (h : wpD P G M c Q tl (hl.set i (.cells ty (ds.modify j (D.tokd hl.length))) ++ [.tok]) df) : wpD P G M c Q tl hl df := fun ρ0 w0 H0 ρ w a hbs hst => by
  have hlt : i < hl.length := by
    rcases Nat.lt_or_ge i hl.length with h | h
    · exact h
    · unfold hOf at hi; rw [List.getD_eq_getElem?_getD, List.getElem?_eq_none h] at hi; cases hi
  have h1 := hst.name
  refine h ρ0 w0 H0 ρ w a hbs ?_
  have hH : ∀ k, hOf (hl.set i (.cells ty (ds.modify j (D.tokd hl.length))) ++ [.tok]) k = if k = i then .cells ty (ds.modify j (D.tokd hl.length)) else hOf (hl ++ [.tok]) k := fun k => by
    unfold hOf
    rw [List.getD_eq_getElem?_getD, List.getD_eq_getElem?_getD]
    by_cases hk : k = i
    · subst hk
      rw [if_pos rfl, List.getElem?_append_left (by rw [List.length_set]; exact hlt), List.getElem?_set_self hlt]; rfl
    · rw [if_neg hk, ← List.set_append_left _ _ hlt, List.getElem?_set_ne (fun e => hk e.symm)]
  have hi' : hOf (hl ++ [.tok]) i = .cells ty ds := by
    rw [← hi]; unfold hOf
    rw [List.getD_eq_getElem?_getD, List.getD_eq_getElem?_getD, List.getElem?_append_left hlt]
  have hlv : ∀ k, (hOf (hl.set i (.cells ty (ds.modify j (D.tokd hl.length))) ++ [.tok]) k).live = (hOf (hl ++ [.tok]) k).live := fun k => by
    rw [hH k]
    split
    · rename_i hk; subst hk; rw [hi']; rfl
    · rfl
  have hL : ∀ b, Live ρ (hOf (hl.set i (.cells ty (ds.modify j (D.tokd hl.length))) ++ [.tok])) b → Live ρ (hOf (hl ++ [.tok])) b := fun b ⟨k, f, q1, q2⟩ => ⟨k, f, q1, by rw [← hlv k]; exact q2⟩
  have hR := h1.rel
  refine ⟨⟨fun k hk => hR.free k ?_, hR.fresh, fun k b f hk => ?_, fun k l b f g e1 e2 e3 e4 => hR.inj k l b f g e1 e2 (by rw [← hlv k]; exact e3) (by rw [← hlv l]; exact e4), hR.glob⟩, ⟨h1.ex.grow, h1.ex.frame, fun b hb hlt => h1.ex.live b (hL b hb) hlt⟩, h1.tmp, h1.size, h1.df⟩
  · rw [hH k] at hk
    split at hk
    · cases hk
    · exact hk
  · rw [hH k]
    have h2 := hR.obj k b f hk
    split
    · rename_i hki
      subst hki
      rw [hi'] at h2
      obtain ⟨c0, vs, q1, q2⟩ := h2
      exact ⟨c0, vs, q1, RpL_tokd q2⟩
    · exact h2
end

/-- the right to grow under a new name -/
def reT (i nx : Nat) (k : Nat) : Nat := if k = i then nx else k

section
variable {G : Nat → Option D} {ρ0 ρ : Rho} {w0 w : World} {H0 : Nat → HO} {nt : Nat} {a : Act} {tl : List D} {hl : List HO} {df : Df} {P : Program} {Q : DQ} {M : Nat}
theorem wpD_retok {c : Code} (hG : ∀ g d, G g = some d → d.pure = true) (i : Nat) (hi : hOf hl i = .tok)
    (h : wpD P G M c Q (tl.map (D.ren (reT i hl.length))) ((hl.set i .dead).map (HO.ren (reT i hl.length)) ++ [.tok]) (df.map fun q => (q.1, D.rens (reT i hl.length) q.2))) : wpD P G M c Q tl hl df := fun ρ0 w0 H0 ρ w a hbs hst => by
  have hlt : i < hl.length := by
    rcases Nat.lt_or_ge i hl.length with h | h
    · exact h
    · unfold hOf at hi; rw [List.getD_eq_getElem?_getD, List.getElem?_eq_none h] at hi; cases hi
  have hR := hst.rel
  let ρ' : Rho := ⟨ρ.c, fun k => if k = hl.length then ρ.nm i else ρ.nm k⟩
  have hnx : ρ.nm hl.length = none := hR.free _ (by unfold hOf; rw [List.getD_eq_getElem?_getD, List.getElem?_eq_none (Nat.le_refl _)]; rfl)
  have hn : ∀ k, (fun _ => true) k = true → ∀ x, ρ.nm k = some x → ρ'.nm (reT i hl.length k) = some x := fun k _ x hx => by
    unfold reT
    show (if _ then _ else _) = _
    by_cases hk : k = i
    · subst hk; rw [if_pos rfl, if_pos rfl]; exact hx
    · rw [if_neg hk, if_neg (fun e => by rw [e, hnx] at hx; cases hx)]; exact hx
  have hgn : ∀ k x, ρ.nm k = some x → ρ'.nm k = some x := fun k x hx => by
    show (if _ then _ else _) = _
    rw [if_neg (fun e => by rw [e, hnx] at hx; cases hx)]; exact hx
  generalize hh : (hl.set i .dead).map (HO.ren (reT i hl.length)) ++ [.tok] = hl'
  have hH : ∀ k, hOf hl' k = if k = hl.length then .tok else if k = i then .dead else (hOf hl k).ren (reT i hl.length) := fun k => by
    subst hh
    unfold hOf
    rw [List.getD_eq_getElem?_getD, List.getD_eq_getElem?_getD]
    by_cases hk : k = hl.length
    · subst hk
      rw [if_pos rfl, List.getElem?_append_right (by simp)]; simp
    · rw [if_neg hk]
      rcases Nat.lt_or_ge k hl.length with h1 | h1
      · rw [List.getElem?_append_left (by simpa using h1), List.getElem?_map]
        by_cases hki : k = i
        · subst hki; rw [if_pos rfl, List.getElem?_set_self h1]; rfl
        · rw [if_neg hki, List.getElem?_set_ne (fun e => hki e.symm), List.getElem?_eq_getElem h1]; rfl
      · rw [if_neg (by omega), List.getElem?_eq_none (by simp; omega), List.getElem?_eq_none h1]; rfl
  rw [hh] at h
  have hsrc : ∀ k x, ρ'.nm k = some x → (hOf hl' k).live = true → ∃ k0, ρ.nm k0 = some x ∧ (hOf hl k0).live = true ∧ k = reT i hl.length k0 := fun k x hx hv => by
    have hx' : (if k = hl.length then ρ.nm i else ρ.nm k) = some x := hx
    rw [hH k] at hv
    by_cases hk : k = hl.length
    · rw [if_pos hk] at hx'
      exact ⟨i, hx', by rw [hi]; rfl, by simp [reT, hk]⟩
    · rw [if_neg hk] at hx' hv
      by_cases hki : k = i
      · rw [if_pos hki] at hv; cases hv
      · rw [if_neg hki, HO.ren_live] at hv
        exact ⟨k, hx', hv, by simp [reT, hki]⟩
  have hL : ∀ b, Live ρ' (hOf hl') b → Live ρ (hOf hl) b := fun b ⟨k, f, q1, q2⟩ => by
    obtain ⟨k0, e1, e2, -⟩ := hsrc k _ q1 q2
    exact ⟨k0, f, e1, e2⟩
  have hlen : (tl.map (D.ren (reT i hl.length))).length = tl.length := List.length_map ..
  have := h ρ0 w0 H0 ρ' w a hbs (by
    rw [hlen]
    refine ⟨⟨fun k hk => ?_, hR.fresh, fun k b f hk => ?_, fun k l b f g e1 e2 e3 e4 => ?_, fun g d hd => RpAt_nm (ρ := ρ) (ρ' := ρ') rfl (hG g d hd) (hR.glob g d hd)⟩, ⟨?_, hst.ex.frame, fun b hb hlt => hst.ex.live b (hL b hb) hlt⟩, fun k => ?_, hst.size, ?_⟩
    · rw [hH k] at hk
      show (if _ then _ else _) = _
      by_cases h1 : k = hl.length
      · rw [if_pos h1] at hk; cases hk
      · rw [if_neg h1] at hk ⊢
        by_cases h2 : k = i
        · rw [if_pos h2] at hk; cases hk
        · rw [if_neg h2] at hk; exact hR.free k (HO.ren_free hk)
    · have hk' : (if k = hl.length then ρ.nm i else ρ.nm k) = some (b, f) := hk
      rw [hH k]
      by_cases h1 : k = hl.length
      · rw [if_pos h1] at hk' ⊢
        have := hR.obj i b f hk'
        rw [hi] at this
        exact this
      · rw [if_neg h1] at hk' ⊢
        by_cases h2 : k = i
        · rw [if_pos h2]; trivial
        · rw [if_neg h2]
          refine ObjAt.ren hn rfl ?_ (hR.obj k b f hk')
          cases hOf hl k <;> simp [HO.okN, okNs_all]
    · obtain ⟨k0, a1, a2, a3⟩ := hsrc k _ e1 e3
      obtain ⟨l0, b1, b2, b3⟩ := hsrc l _ e2 e4
      rw [a3, b3, hR.inj _ _ _ _ _ a1 b1 a2 b2]
    · have g := hst.ex.grow
      exact ⟨g.os, g.tape, g.output, g.size, g.whole, g.part, fun k x hx => hgn _ _ (g.nm k x hx)⟩
    · have e : tmOf (tl.map (D.ren (reT i hl.length))) k = (tmOf tl k).ren (reT i hl.length) := by
        unfold tmOf
        rw [List.getD_eq_getElem?_getD, List.getElem?_map, List.getD_eq_getElem?_getD]
        cases tl[k]? <;> rfl
      rw [e]
      exact Rp_ren hn rfl _ _ (okN_all _) (hst.tmp k)
    · exact DfM.ren hn rfl (by rw [List.all_eq_true]; exact fun q _ => okNs_all q.2) hst.df)
  rw [hlen] at this
  exact this
end
end Go.Proofs.Ytbjgdeednmhpfaa
