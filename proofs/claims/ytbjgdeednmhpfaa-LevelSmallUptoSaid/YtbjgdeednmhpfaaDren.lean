/-
  Names turned: a state with some of its objects under other names, the rest forgotten.
-/
import Derived.Test.YtbjgdeednmhpfaaDdrop
set_option linter.unusedSimpArgs false
set_option linter.unusedVariables false
namespace Go.Proofs.Ytbjgdeednmhpfaa
open Go.RowKit

def Cp.okN (p : Nat → Bool) : Cp → Bool
  | .tok i => p i
  | _ => true
def Cp.ren (σ : Nat → Nat) : Cp → Cp
  | .tok i => .tok (σ i)
  | c => c
mutual
/-- does it name such objects alone? -/
def D.okN (p : Nat → Bool) : D → Bool
  | .box i _ => p i
  | .map i => p i
  | .own i _ => p i
  | .ebox i _ _ _ => p i
  | .fn _ a b => D.okNs p a && D.okNs p b
  | .iface _ d => D.okN p d
  | .tuple ds => D.okNs p ds
  | .agg ds => D.okNs p ds
  | .slice els c => D.okNs p els && c.okN p
  | .ref d => D.okN p d
  | .mapc ks vs => D.okNs p ks && D.okNs p vs
  | _ => true
def D.okNs (p : Nat → Bool) : List D → Bool
  | [] => true
  | d :: r => D.okN p d && D.okNs p r
end
mutual
/-- other names -/
def D.ren (σ : Nat → Nat) : D → D
  | .box i o => .box (σ i) o
  | .map i => .map (σ i)
  | .own i n => .own (σ i) n
  | .ebox i sz k off => .ebox (σ i) sz k off
  | .fn f a b => .fn f (D.rens σ a) (D.rens σ b)
  | .iface t d => .iface t (D.ren σ d)
  | .tuple ds => .tuple (D.rens σ ds)
  | .agg ds => .agg (D.rens σ ds)
  | .slice els c => .slice (D.rens σ els) (c.ren σ)
  | .ref d => .ref (D.ren σ d)
  | .mapc ks vs => .mapc (D.rens σ ks) (D.rens σ vs)
  | .junk => .junk
  | .int k n => .int k n
  | .bool b => .bool b
  | .str s => .str s
  | .nilp => .nilp
  | .nilf => .nilf
  | .nili => .nili
  | .nilm => .nilm
def D.rens (σ : Nat → Nat) : List D → List D
  | [] => []
  | d :: r => D.ren σ d :: D.rens σ r
end

theorem D.rens_map (σ : Nat → Nat) : ∀ ds : List D, D.rens σ ds = ds.map (D.ren σ)
  | [] => rfl
  | d :: r => by rw [D.rens, D.rens_map σ r]; rfl
theorem D.rens_length (σ : Nat → Nat) (ds : List D) : (D.rens σ ds).length = ds.length := by rw [D.rens_map, List.length_map]
theorem D.ren_size (σ : Nat → Nat) (d : D) : (D.ren σ d).size = d.size := by
  cases d <;> simp [D.ren, D.size, D.rens_length]

section
variable {ρ ρ' : Rho} {w : World} {p : Nat → Bool} {σ : Nat → Nat}
mutual
theorem Rp_ren (hn : ∀ i, p i = true → ∀ x, ρ.nm i = some x → ρ'.nm (σ i) = some x) (hc : ρ'.c = ρ.c) : ∀ (d : D) (v : Value), d.okN p = true → Rp ρ w d v → Rp ρ' w (d.ren σ) v
  | .junk, v, _, h => by rw [D.ren, Rp]; trivial
  | .int k n, v, _, h => by rw [D.ren]; rw [Rp] at h ⊢; exact h
  | .bool b, v, _, h => by rw [D.ren]; rw [Rp] at h ⊢; exact h
  | .str s, v, _, h => by rw [D.ren]; rw [Rp] at h ⊢; exact h
  | .nilp, v, _, h => by rw [D.ren]; rw [Rp] at h ⊢; exact h
  | .nilf, v, _, h => by rw [D.ren]; rw [Rp] at h ⊢; exact h
  | .nili, v, _, h => by rw [D.ren]; rw [Rp] at h ⊢; exact h
  | .nilm, v, _, h => by rw [D.ren]; rw [Rp] at h ⊢; exact h
  | .fn f a b, v, q, h => by
    rw [D.okN, Bool.and_eq_true] at q
    rw [D.ren]
    rw [Rp] at h ⊢
    obtain ⟨us, vs, h1, h2, h3⟩ := h
    exact ⟨us, vs, h1, RpL_ren hn hc a us q.1 h2, RpL_ren hn hc b vs q.2 h3⟩
  | .iface t d, v, q, h => by
    rw [D.okN] at q
    rw [D.ren]
    rw [Rp] at h ⊢
    obtain ⟨u, h1, h2⟩ := h
    exact ⟨u, h1, Rp_ren hn hc d u q h2⟩
  | .tuple ds, v, q, h => by
    rw [D.okN] at q
    rw [D.ren]
    rw [Rp] at h ⊢
    obtain ⟨u, h1, h2⟩ := h
    exact ⟨u, h1, RpL_ren hn hc ds u q h2⟩
  | .agg ds, v, q, h => by
    rw [D.okN] at q
    rw [D.ren]
    rw [Rp] at h ⊢
    obtain ⟨u, h1, h2⟩ := h
    exact ⟨u, h1, RpL_ren hn hc ds u q h2⟩
  | .slice els c, v, q, h => by
    rw [D.okN, Bool.and_eq_true] at q
    rw [D.ren]
    rw [Rp] at h ⊢
    obtain ⟨A, cap, sz, h1, h2, h3, h4, h5, h6, h7⟩ := h
    refine ⟨A, cap, sz, by rw [D.rens_length]; exact h1, by rw [D.rens_length]; exact h2, h3, by rw [D.rens_length]; exact h4, fun e he => ?_, ?_, fun hne => ?_⟩
    · rw [D.rens_map] at he
      obtain ⟨e', he', rfl⟩ := List.mem_map.1 he
      rw [D.ren_size]; exact h5 e' he'
    · rw [D.rens_length]
      cases c with
      | any => trivial
      | full => exact h6
      | tok i =>
        have hi : p i = true := by simpa [Cp.okN] using q.2
        rcases h6 with h6 | ⟨b, o, f, vs, ty, g1, g2, g3, g4⟩
        · exact .inl h6
        · exact .inr ⟨b, o, f, vs, ty, g1, g2, hn i hi _ g3, g4⟩
    · have hne' : els ≠ [] := fun h0 => hne (by subst h0; rfl)
      obtain ⟨b, o, h8, h9⟩ := h7 hne'
      exact ⟨b, o, h8, RpE_ren hn hc els b o q.1 h9⟩
  | .box i off, v, q, h => by
    have hi : p i = true := by simpa [D.okN] using q
    rw [D.ren]
    rw [Rp] at h ⊢
    obtain ⟨b, f, h1, h2⟩ := h
    exact ⟨b, f, hn i hi _ h1, h2⟩
  | .map i, v, q, h => by
    have hi : p i = true := by simpa [D.okN] using q
    rw [D.ren]
    rw [Rp] at h ⊢
    obtain ⟨b, f, h1, h2⟩ := h
    exact ⟨b, f, hn i hi _ h1, h2⟩
  | .own i n, v, q, h => by
    have hi : p i = true := by simpa [D.okN] using q
    rw [D.ren]
    rw [Rp] at h ⊢
    rcases h with h | ⟨b, f, h1, h2⟩
    · exact .inl h
    · exact .inr ⟨b, f, hn i hi _ h1, h2⟩
  | .ebox i sz k off, v, q, h => by
    have hi : p i = true := by simpa [D.okN] using q
    rw [D.ren]
    rw [Rp] at h ⊢
    obtain ⟨b, f, h1, h2⟩ := h
    exact ⟨b, f, hn i hi _ h1, h2⟩
  | .mapc ks vs, v, q, h => by
    rw [D.okN, Bool.and_eq_true] at q
    rw [D.ren]
    rw [Rp] at h ⊢
    obtain ⟨b, ents, clock, h1, h2, h3, h4, h5⟩ := h
    exact ⟨b, ents, clock, h1, by rw [hc]; exact h2, h3, RpL_ren hn hc ks _ q.1 h4, RpL_ren hn hc vs _ q.2 h5⟩
  | .ref d, v, q, h => by
    rw [D.okN] at q
    rw [D.ren]
    obtain ⟨b, o, h1, h2⟩ := Rp_ref.1 h
    refine Rp_ref.2 ⟨b, o, h1, ?_⟩
    cases d
    case agg cs =>
      rw [D.okN] at q
      rw [D.ren]
      exact RpC_ren hn hc cs b o q h2
    all_goals
      obtain ⟨u, h3, h4⟩ := h2
      have h5 := Rp_ren hn hc _ u q h4
      exact ⟨u, cellAt_nm hc h3, h5⟩
theorem RpL_ren (hn : ∀ i, p i = true → ∀ x, ρ.nm i = some x → ρ'.nm (σ i) = some x) (hc : ρ'.c = ρ.c) : ∀ (ds : List D) (vs : List Value), D.okNs p ds = true → RpL ρ w ds vs → RpL ρ' w (D.rens σ ds) vs
  | [], vs, _, h => by rw [D.rens]; rw [RpL_nil] at h ⊢; exact h
  | d :: r, vs, q, h => by
    rw [D.okNs, Bool.and_eq_true] at q
    rw [D.rens]
    rw [RpL_cons] at h
    obtain ⟨v, us, rfl, h2, h3⟩ := h
    exact RpL_cons'.2 ⟨Rp_ren hn hc d v q.1 h2, RpL_ren hn hc r us q.2 h3⟩
theorem RpC_ren (hn : ∀ i, p i = true → ∀ x, ρ.nm i = some x → ρ'.nm (σ i) = some x) (hc : ρ'.c = ρ.c) : ∀ (ds : List D) (b o : Nat), D.okNs p ds = true → RpC ρ w ds b o → RpC ρ' w (D.rens σ ds) b o
  | [], b, o, _, h => RpC_nil
  | d :: r, b, o, q, h => by
    rw [D.okNs, Bool.and_eq_true] at q
    rw [D.rens]
    rw [RpC_cons] at h
    obtain ⟨⟨v, h1, h2⟩, h3⟩ := h
    exact RpC_cons.2 ⟨⟨v, cellAt_nm hc h1, Rp_ren hn hc d v q.1 h2⟩, RpC_ren hn hc r b (o + 1) q.2 h3⟩
theorem RpE_ren (hn : ∀ i, p i = true → ∀ x, ρ.nm i = some x → ρ'.nm (σ i) = some x) (hc : ρ'.c = ρ.c) : ∀ (ds : List D) (b o : Nat), D.okNs p ds = true → RpE ρ w ds b o → RpE ρ' w (D.rens σ ds) b o
  | [], b, o, _, h => RpE_nil
  | d :: r, b, o, q, h => by
    rw [D.okNs, Bool.and_eq_true] at q
    rw [D.rens]
    rw [RpE_cons] at h
    refine RpE_cons.2 ⟨?_, by rw [D.ren_size]; exact RpE_ren hn hc r b _ q.2 h.2⟩
    have h2 := h.1
    cases d
    case agg cs =>
      have q1 := q.1
      rw [D.okN] at q1
      rw [D.ren]
      exact RpC_ren hn hc cs b o q1 h2
    all_goals
      obtain ⟨u, h3, h4⟩ := h2
      have h5 := Rp_ren hn hc _ u q.1 h4
      exact ⟨u, cellAt_nm hc h3, h5⟩
end
end

mutual
theorem D.ren_pure (σ : Nat → Nat) : ∀ d : D, d.pure = true → D.ren σ d = d
  | .junk, _ => rfl
  | .int _ _, _ => rfl
  | .bool _, _ => rfl
  | .str _, _ => rfl
  | .nilp, _ => rfl
  | .nilf, _ => rfl
  | .nili, _ => rfl
  | .nilm, _ => rfl
  | .box _ _, h => by simp [D.pure] at h
  | .map _, h => by simp [D.pure] at h
  | .own _ _, h => by simp [D.pure] at h
  | .ebox _ _ _ _, h => by simp [D.pure] at h
  | .fn f a b, h => by
    rw [D.pure, Bool.and_eq_true] at h
    rw [D.ren, D.rens_pure σ a h.1, D.rens_pure σ b h.2]
  | .iface t d, h => by rw [D.pure] at h; rw [D.ren, D.ren_pure σ d h]
  | .tuple ds, h => by rw [D.pure] at h; rw [D.ren, D.rens_pure σ ds h]
  | .agg ds, h => by rw [D.pure] at h; rw [D.ren, D.rens_pure σ ds h]
  | .slice els c, h => by
    rw [D.pure, Bool.and_eq_true] at h
    rw [D.ren, D.rens_pure σ els h.1]
    cases c <;> first | rfl | simp [Cp.free] at h
  | .ref d, h => by rw [D.pure] at h; rw [D.ren, D.ren_pure σ d h]
  | .mapc ks vs, h => by
    rw [D.pure, Bool.and_eq_true] at h
    rw [D.ren, D.rens_pure σ ks h.1, D.rens_pure σ vs h.2]
theorem D.rens_pure (σ : Nat → Nat) : ∀ ds : List D, D.pures ds = true → D.rens σ ds = ds
  | [], _ => rfl
  | d :: r, h => by
    rw [D.pures, Bool.and_eq_true] at h
    rw [D.rens, D.ren_pure σ d h.1, D.rens_pure σ r h.2]
end
mutual
theorem D.okN_pure (p : Nat → Bool) : ∀ d : D, d.pure = true → d.okN p = true
  | .junk, _ => rfl
  | .int _ _, _ => rfl
  | .bool _, _ => rfl
  | .str _, _ => rfl
  | .nilp, _ => rfl
  | .nilf, _ => rfl
  | .nili, _ => rfl
  | .nilm, _ => rfl
  | .box _ _, h => by simp [D.pure] at h
  | .map _, h => by simp [D.pure] at h
  | .own _ _, h => by simp [D.pure] at h
  | .ebox _ _ _ _, h => by simp [D.pure] at h
  | .fn f a b, h => by
    rw [D.pure, Bool.and_eq_true] at h
    rw [D.okN, D.okNs_pure p a h.1, D.okNs_pure p b h.2]; rfl
  | .iface t d, h => by rw [D.pure] at h; rw [D.okN, D.okN_pure p d h]
  | .tuple ds, h => by rw [D.pure] at h; rw [D.okN, D.okNs_pure p ds h]
  | .agg ds, h => by rw [D.pure] at h; rw [D.okN, D.okNs_pure p ds h]
  | .slice els c, h => by
    rw [D.pure, Bool.and_eq_true] at h
    rw [D.okN, D.okNs_pure p els h.1]
    cases c <;> first | rfl | simp [Cp.free] at h
  | .ref d, h => by rw [D.pure] at h; rw [D.okN, D.okN_pure p d h]
  | .mapc ks vs, h => by
    rw [D.pure, Bool.and_eq_true] at h
    rw [D.okN, D.okNs_pure p ks h.1, D.okNs_pure p vs h.2]; rfl
theorem D.okNs_pure (p : Nat → Bool) : ∀ ds : List D, D.pures ds = true → D.okNs p ds = true
  | [], _ => rfl
  | d :: r, h => by
    rw [D.pures, Bool.and_eq_true] at h
    rw [D.okNs, D.okN_pure p d h.1, D.okNs_pure p r h.2]; rfl
end

mutual
theorem okN_all : ∀ d : D, d.okN (fun _ => true) = true
  | .junk => rfl
  | .int _ _ => rfl
  | .bool _ => rfl
  | .str _ => rfl
  | .nilp => rfl
  | .nilf => rfl
  | .nili => rfl
  | .nilm => rfl
  | .box _ _ => rfl
  | .map _ => rfl
  | .own _ _ => rfl
  | .ebox _ _ _ _ => rfl
  | .fn f a b => by rw [D.okN, okNs_all a, okNs_all b]; rfl
  | .iface t d => by rw [D.okN, okN_all d]
  | .tuple ds => by rw [D.okN, okNs_all ds]
  | .agg ds => by rw [D.okN, okNs_all ds]
  | .slice els c => by rw [D.okN, okNs_all els]; cases c <;> rfl
  | .ref d => by rw [D.okN, okN_all d]
  | .mapc ks vs => by rw [D.okN, okNs_all ks, okNs_all vs]; rfl
theorem okNs_all : ∀ ds : List D, D.okNs (fun _ => true) ds = true
  | [] => rfl
  | d :: r => by rw [D.okNs, okN_all d, okNs_all r]; rfl
end

def HO.ren (σ : Nat → Nat) : HO → HO
  | .cells ty ds => .cells ty (D.rens σ ds)
  | .mp es => .mp (es.map fun e => (D.ren σ e.1, D.ren σ e.2))
  | .row sz els => .row sz (els.map (D.ren σ))
  | .tok => .tok
  | .dead => .dead
  | .free => .free
def HO.okN (p : Nat → Bool) : HO → Bool
  | .cells _ ds => D.okNs p ds
  | .mp es => D.okNs p (es.map (·.1)) && D.okNs p (es.map (·.2))
  | .row _ els => D.okNs p (els.flatMap D.cells)
  | _ => true
theorem HO.ren_live (σ : Nat → Nat) (h : HO) : (h.ren σ).live = h.live := by cases h <;> rfl
theorem HO.ren_free {σ : Nat → Nat} {h : HO} (e : h.ren σ = .free) : h = .free := by cases h <;> first | rfl | cases e

theorem cells_ren (σ : Nat → Nat) : ∀ els : List D, (els.map (D.ren σ)).flatMap D.cells = D.rens σ (els.flatMap D.cells)
  | [] => rfl
  | e :: r => by
    rw [List.map_cons, List.flatMap_cons, List.flatMap_cons, cells_ren σ r]
    rw [D.rens_map, D.rens_map, List.map_append]
    congr 1
    cases e <;> simp [D.ren, D.cells, D.rens_map]

theorem ObjAt.ren {ρ ρ' : Rho} {w : World} {p : Nat → Bool} {σ : Nat → Nat} (hn : ∀ i, p i = true → ∀ x, ρ.nm i = some x → ρ'.nm (σ i) = some x) (hc : ρ'.c = ρ.c) {b f : Nat} {ho : HO} (q : ho.okN p = true) (h : ObjAt ρ w b f ho) : ObjAt ρ' w b f (ho.ren σ) := by
  cases ho with
  | cells ty ds => obtain ⟨h0, vs, h1, h2⟩ := h; exact ⟨by rw [hc]; exact h0, vs, h1, RpL_ren hn hc ds vs q h2⟩
  | mp es =>
    simp only [HO.okN, Bool.and_eq_true] at q
    obtain ⟨h0, e, c, h1, h2, h3, h4⟩ := h
    refine ⟨by rw [hc]; exact h0, e, c, h1, ?_, ?_, h4.1, by rw [List.length_map]; exact h4.2⟩
    · have := RpL_ren hn hc _ _ q.1 h2
      rw [D.rens_map, List.map_map] at this
      rw [List.map_map]; exact this
    · have := RpL_ren hn hc _ _ q.2 h3
      rw [D.rens_map, List.map_map] at this
      rw [List.map_map]; exact this
  | row sz els =>
    obtain ⟨h0, a1, a2, a3, a4, a5, ty, vs, us, h1, h2, h3⟩ := h
    refine ⟨by rw [hc]; exact h0, a1, fun e he => ?_, by rw [List.length_map]; exact a3, a4, by rw [List.length_map]; exact a5, ty, vs, us, h1, ?_, h3⟩
    · obtain ⟨e', he', rfl⟩ := List.mem_map.1 he
      rw [D.ren_size]; exact a2 e' he'
    · have := RpL_ren hn hc _ _ q h2
      rw [cells_ren]; exact this
  | tok => exact ⟨by rw [hc]; exact h.1, h.2⟩
  | dead => trivial
  | free => trivial

/-- names of a call's objects: those handed to it, then new ones -/
def renO (σl : List Nat) (nx : Nat) (j : Nat) : Nat := if j < σl.length then σl.getD j 0 else nx + (j - σl.length)
def upO (σl : List Nat) (nx : Nat) (hc : List HO) : List (Nat × HO) := (List.range hc.length).map fun j => (renO σl nx j, (hOf hc j).ren (renO σl nx))

theorem updL_not {H : Nat → HO} : ∀ {up : List (Nat × HO)} {i : Nat}, (∀ p, p ∈ up → p.1 ≠ i) → updL H up i = H i
  | [], i, _ => rfl
  | (n, x) :: r, i, h => by
    rw [updL, updL_not fun p hp => h p (List.mem_cons_of_mem _ hp), setH_ne]
    exact fun e => h (n, x) (List.mem_cons_self ..) e.symm
theorem updL_in {H : Nat → HO} : ∀ {up : List (Nat × HO)} {p : Nat × HO}, p ∈ up → (up.map (·.1)).Nodup → updL H up p.1 = p.2
  | (n, x) :: r, p, h, hn => by
    rw [List.map_cons, List.nodup_cons] at hn
    rw [updL]
    rcases List.mem_cons.1 h with rfl | h
    · rw [updL_not (fun q hq e => hn.1 (List.mem_map.2 ⟨q, hq, e⟩)), setH_same]
    · exact updL_in h hn.2

theorem renO_inj {σl : List Nat} {nx : Nat} (hnd : σl.Nodup) (hlt : ∀ i, i ∈ σl → i < nx) {j k : Nat} (h : renO σl nx j = renO σl nx k) : j = k := by
  have hg : ∀ j (hj : j < σl.length), σl.getD j 0 = σl[j] := fun j hj => by rw [List.getD_eq_getElem?_getD, List.getElem?_eq_getElem hj]; rfl
  unfold renO at h
  by_cases h1 : j < σl.length
  · rw [if_pos h1, hg j h1] at h
    by_cases h2 : k < σl.length
    · rw [if_pos h2, hg k h2] at h
      exact (List.getElem_inj hnd).1 h
    · rw [if_neg h2] at h
      have := hlt _ (List.getElem_mem h1)
      omega
  · rw [if_neg h1] at h
    by_cases h2 : k < σl.length
    · rw [if_pos h2, hg k h2] at h
      have := hlt _ (List.getElem_mem h2)
      omega
    · rw [if_neg h2] at h
      omega

section
variable {G : Nat → Option D} {ρ ρ' : Rho} {w w' : World} {H : Nat → HO} {σl : List Nat} {nx : Nat} {objs hc : List HO}

/-- what the called one sees -/
def Rho.lent (ρ : Rho) (σl : List Nat) : Rho := ⟨ρ.c, fun j => (σl[j]?).bind ρ.nm⟩

def okA (σl : List Nat) (i : Nat) : Bool := σl.contains i
def renA (σl : List Nat) (i : Nat) : Nat := σl.idxOf i

theorem lent_nm (i : Nat) (hi : okA σl i = true) (x : Nat × Nat) (h : ρ.nm i = some x) : (ρ.lent σl).nm (renA σl i) = some x := by
  have hm : i ∈ σl := by simpa [okA] using hi
  have hlt := List.idxOf_lt_length_iff.2 hm
  show (σl[σl.idxOf i]?).bind ρ.nm = some x
  rw [List.getElem?_eq_getElem hlt, List.getElem_idxOf hlt]
  exact h

theorem lent_rel (hG : ∀ g d, G g = some d → d.pure = true) (hR : Rel G ρ w H) (hnd : σl.Nodup) (hobj : σl.map (fun i => (H i).ren (renA σl)) = objs) (hok : (σl.all fun i => (H i).okN (okA σl)) = true) : Rel G (ρ.lent σl) w (hOf objs) := by
  have hlen : objs.length = σl.length := by rw [← hobj, List.length_map]
  have hget : ∀ j (hj : j < σl.length), hOf objs j = (H σl[j]).ren (renA σl) := fun j hj => by
    subst hobj
    unfold hOf
    rw [List.getD_eq_getElem?_getD, List.getElem?_map, List.getElem?_eq_getElem hj]; rfl
  have hnm : ∀ j x, (ρ.lent σl).nm j = some x → ∃ hj : j < σl.length, ρ.nm σl[j] = some x := fun j x h => by
    have h' : (σl[j]?).bind ρ.nm = some x := h
    rcases Nat.lt_or_ge j σl.length with hj | hj
    · rw [List.getElem?_eq_getElem hj] at h'; exact ⟨hj, h'⟩
    · rw [List.getElem?_eq_none hj] at h'; cases h'
  refine ⟨fun j hj => ?_, hR.fresh, fun j b f h1 => ?_, fun i j b f g h1 h2 h3 h4 => ?_, fun g d hd => RpAt_nm (ρ := ρ) (ρ' := ρ.lent σl) rfl (hG g d hd) (hR.glob g d hd)⟩
  · cases hq : (ρ.lent σl).nm j with
    | none => rfl
    | some x =>
      obtain ⟨hlt, h2⟩ := hnm j x hq
      rw [hget j hlt] at hj
      rw [hR.free _ (HO.ren_free hj)] at h2; cases h2
  · obtain ⟨hlt, h2⟩ := hnm j _ h1
    rw [hget j hlt]
    refine ObjAt.ren (p := okA σl) lent_nm rfl ?_ (hR.obj _ _ _ h2)
    exact List.all_eq_true.1 hok _ (List.getElem_mem hlt)
  · obtain ⟨hl1, g1⟩ := hnm i _ h1
    obtain ⟨hl2, g2⟩ := hnm j _ h2
    rw [hget i hl1, HO.ren_live] at h3
    rw [hget j hl2, HO.ren_live] at h4
    exact (List.getElem_inj hnd).1 (hR.inj _ _ _ _ _ g1 g2 h3 h4)

/-- what the caller sees behind the call -/
def Rho.back (ρ ρ' : Rho) (σl : List Nat) (nx n : Nat) : Rho :=
  ⟨ρ'.c, fun i => if σl.contains i then ρ'.nm (σl.idxOf i) else if nx ≤ i ∧ i < nx + (n - σl.length) then ρ'.nm (σl.length + (i - nx)) else ρ.nm i⟩

theorem back_ren (hR' : Rel G ρ' w' (hOf hc)) (hnd : σl.Nodup) (hlt : ∀ i, i ∈ σl → i < nx) (j : Nat) (x : Nat × Nat) (h : ρ'.nm j = some x) : (ρ.back ρ' σl nx hc.length).nm (renO σl nx j) = some x := by
  have hjl : j < hc.length := by
    rcases Nat.lt_or_ge j hc.length with hj | hj
    · exact hj
    · have := hR'.free j (by unfold hOf; rw [List.getD_eq_getElem?_getD, List.getElem?_eq_none hj]; rfl)
      rw [this] at h; cases h
  show (if σl.contains (renO σl nx j) then _ else _) = _
  unfold renO
  by_cases h1 : j < σl.length
  · have hg : σl.getD j 0 = σl[j] := by rw [List.getD_eq_getElem?_getD, List.getElem?_eq_getElem h1]; rfl
    rw [if_pos h1, hg, if_pos (by simp)]
    rw [hnd.idxOf_getElem j h1]
    exact h
  · have hno : ¬ (nx + (j - σl.length)) ∈ σl := fun hm => by have := hlt _ hm; omega
    rw [if_neg h1, if_neg (by simpa using hno), if_pos (by omega)]
    rw [show σl.length + (nx + (j - σl.length) - nx) = j by omega]
    exact h

theorem back (hG : ∀ g d, G g = some d → d.pure = true) (hR : Rel G ρ w H) (hnd : σl.Nodup) (hlt : ∀ i, i ∈ σl → i < nx) (hobj : σl.map (fun i => (H i).ren (renA σl)) = objs) (hfree : ∀ i, nx ≤ i → i < nx + (hc.length - σl.length) → H i = .free)
    (hk : σl.length ≤ hc.length) (hR' : Rel G ρ' w' (hOf hc)) (hE : Ex (ρ.lent σl) w (hOf objs) ρ' w' (hOf hc)) :
    Rel G (ρ.back ρ' σl nx hc.length) w' (updL H (upO σl nx hc)) ∧ Ex ρ w H (ρ.back ρ' σl nx hc.length) w' (updL H (upO σl nx hc)) ∧ ∀ d u, Rp ρ' w' d u → Rp (ρ.back ρ' σl nx hc.length) w' (d.ren (renO σl nx)) u := by
  generalize hρ : ρ.back ρ' σl nx hc.length = ρb
  generalize hH : updL H (upO σl nx hc) = Hb
  have hren : ∀ j x, ρ'.nm j = some x → ρb.nm (renO σl nx j) = some x := fun j x h => by subst hρ; exact back_ren hR' hnd hlt j x h
  have hcb : ρb.c = ρ'.c := by subst hρ; rfl
  have hlen : objs.length = σl.length := by rw [← hobj, List.length_map]
  have hget : ∀ j (hj : j < σl.length), hOf objs j = (H σl[j]).ren (renA σl) := fun j hj => by
    subst hobj
    unfold hOf
    rw [List.getD_eq_getElem?_getD, List.getElem?_map, List.getElem?_eq_getElem hj]; rfl
  have hrj : ∀ j (hj : j < σl.length), renO σl nx j = σl[j] := fun j hj => by
    unfold renO; rw [if_pos hj, List.getD_eq_getElem?_getD, List.getElem?_eq_getElem hj]; rfl
  -- where a name comes from
  have hsrc : ∀ i, (∃ j, j < hc.length ∧ i = renO σl nx j ∧ ρb.nm i = ρ'.nm j ∧ Hb i = (hOf hc j).ren (renO σl nx)) ∨ (¬ i ∈ σl ∧ ρb.nm i = ρ.nm i ∧ Hb i = H i) := fun i => by
    have hndu : ((upO σl nx hc).map (·.1)).Nodup := by
      unfold upO
      rw [List.map_map]
      show List.Pairwise (· ≠ ·) _
      rw [List.pairwise_map]
      exact List.Pairwise.imp (fun h e => h (renO_inj hnd hlt e)) List.nodup_range
    have hin : ∀ j, j < hc.length → Hb (renO σl nx j) = (hOf hc j).ren (renO σl nx) := fun j hj => by
      subst hH
      exact updL_in (p := (renO σl nx j, (hOf hc j).ren (renO σl nx))) (List.mem_map.2 ⟨j, List.mem_range.2 hj, rfl⟩) hndu
    by_cases hm : i ∈ σl
    · left
      have hidx := List.idxOf_lt_length_iff.2 hm
      refine ⟨σl.idxOf i, by omega, ?_, ?_, ?_⟩
      · rw [hrj _ hidx, List.getElem_idxOf hidx]
      · subst hρ
        show (if σl.contains i then _ else _) = _
        rw [if_pos (by simpa using hm)]
      · have := hin (σl.idxOf i) (by omega)
        rw [hrj _ hidx, List.getElem_idxOf hidx] at this
        exact this
    · by_cases hb : nx ≤ i ∧ i < nx + (hc.length - σl.length)
      · left
        have he : renO σl nx (σl.length + (i - nx)) = i := by
          unfold renO; rw [if_neg (by omega)]; omega
        refine ⟨σl.length + (i - nx), by omega, he.symm, ?_, ?_⟩
        · subst hρ
          show (if σl.contains i then _ else _) = _
          rw [if_neg (by simpa using hm), if_pos hb]
        · have := hin (σl.length + (i - nx)) (by omega)
          rw [he] at this
          exact this
      · right
        refine ⟨hm, ?_, ?_⟩
        · subst hρ
          show (if σl.contains i then _ else _) = _
          rw [if_neg (by simpa using hm), if_neg hb]
        · subst hH
          refine updL_not fun q hq e => ?_
          obtain ⟨j, hj, rfl⟩ := List.mem_map.1 hq
          rw [List.mem_range] at hj
          dsimp only at e
          by_cases hjl : j < σl.length
          · rw [hrj j hjl] at e; exact hm (e ▸ List.getElem_mem hjl)
          · apply hb
            unfold renO at e
            rw [if_neg hjl] at e
            omega
  -- what is live here was, or is the called one's
  have hlentL : ∀ b, Live (ρ.lent σl) (hOf objs) b → ∃ i f, i ∈ σl ∧ ρ.nm i = some (b, f) ∧ (H i).live = true := fun b ⟨j, f, h1, h2⟩ => by
    have h' : (σl[j]?).bind ρ.nm = some (b, f) := h1
    rcases Nat.lt_or_ge j σl.length with hj | hj
    · rw [List.getElem?_eq_getElem hj] at h'
      rw [hget j hj, HO.ren_live] at h2
      exact ⟨σl[j], f, List.getElem_mem hj, h', h2⟩
    · rw [List.getElem?_eq_none hj] at h'; cases h'
  have hL : ∀ b, Live (ρ.lent σl) (hOf objs) b → Live ρ H b := fun b h => by
    obtain ⟨i, f, -, h1, h2⟩ := hlentL b h
    exact ⟨i, f, h1, h2⟩
  have hgrow : Grow ρ w ρb w' := by
    have g := hE.grow
    refine ⟨g.os, g.tape, g.output, g.size, fun b hb hcn => ?_, fun b k hb hck => ?_, fun i x hx => ?_⟩
    · rw [hcb]; exact g.whole b hb hcn
    · rw [hcb]; exact g.part b k hb hck
    · by_cases hm : i ∈ σl
      · have hidx := List.idxOf_lt_length_iff.2 hm
        have h1 : (ρ.lent σl).nm (σl.idxOf i) = some x := by
          show (σl[σl.idxOf i]?).bind ρ.nm = some x
          rw [List.getElem?_eq_getElem hidx, List.getElem_idxOf hidx]; exact hx
        have := hren _ _ (g.nm _ _ h1)
        rw [hrj _ hidx, List.getElem_idxOf hidx] at this
        exact this
      · rcases hsrc i with ⟨j, hj, he, -, -⟩ | ⟨-, h1, -⟩
        · by_cases hjl : j < σl.length
          · rw [hrj j hjl] at he; exact absurd (he ▸ List.getElem_mem hjl) hm
          · unfold renO at he
            rw [if_neg hjl] at he
            rw [hR.free i (hfree i (by omega) (by omega))] at hx; cases hx
        · rw [h1]; exact hx
  refine ⟨⟨fun i hi => ?_, fun b hb => by rw [hcb]; exact hR'.fresh b hb, fun i b f h1 => ?_, fun i j b f g h1 h2 h3 h4 => ?_, fun g d hd => RpAt_nm (ρ := ρ') (ρ' := ρb) hcb (hG g d hd) (hR'.glob g d hd)⟩, ⟨hgrow, fun b hb hl => ?_, fun b hl hb => ?_⟩, fun d u h => Rp_ren (p := fun _ => true) (fun i _ x hx => hren i x hx) hcb d u ?_ h⟩
  · rcases hsrc i with ⟨j, hj, he, h1, h2⟩ | ⟨-, h1, h2⟩
    · rw [h1]; rw [h2] at hi; exact hR'.free j (HO.ren_free hi)
    · rw [h1]; rw [h2] at hi; exact hR.free i hi
  · rcases hsrc i with ⟨j, hj, he, g1, g2⟩ | ⟨hm, g1, g2⟩
    · rw [g1] at h1
      rw [g2]
      refine ObjAt.ren (p := fun _ => true) (fun i _ x hx => hren i x hx) hcb ?_ (hR'.obj j b f h1)
      cases hOf hc j <;> simp [HO.okN, okN_all, okNs_all]
    · rw [g1] at h1
      rw [g2]
      have h3 := hR.obj i b f h1
      cases hlv : (H i).live with
      | false =>
        revert hlv h3; generalize H i = ho; intro h3 hlv
        cases ho <;> first | exact trivial | cases hlv
      | true =>
        have hnl : ¬ Live (ρ.lent σl) (hOf objs) b := fun hl => by
          obtain ⟨i2, f2, hi2, k1, k2⟩ := hlentL b hl
          exact hm (hR.inj _ _ _ _ _ k1 h1 k2 hlv ▸ hi2)
        obtain ⟨e1, e2⟩ := hE.frame b (h3.lt hlv) hnl
        exact h3.keep hgrow e1 (by rw [hcb]; exact e2)
  · have hcross : ∀ {i1 i2 j1 : Nat} {f1 f2 : Nat}, j1 < hc.length → ρ'.nm j1 = some (b, f1) → (hOf hc j1).live = true → ¬ i2 ∈ σl → ρ.nm i2 = some (b, f2) → (H i2).live = true → i1 = i2 := fun {i1 i2 j1 f1 f2} _ k1 k2 k3 k4 k5 => by
      have hb : b < w.heap.size := (hR.obj i2 b f2 k4).lt k5
      have hl := hE.live b ⟨j1, f1, k1, k2⟩ hb
      obtain ⟨i3, f3, hi3, q1, q2⟩ := hlentL b hl
      exact absurd (hR.inj _ _ _ _ _ q1 k4 q2 k5 ▸ hi3) k3
    rcases hsrc i with ⟨j1, hj1, he1, g1, g2⟩ | ⟨hm1, g1, g2⟩ <;> rcases hsrc j with ⟨j2, hj2, he2, k1, k2⟩ | ⟨hm2, k1, k2⟩
    · rw [g1] at h1; rw [g2, HO.ren_live] at h3
      rw [k1] at h2; rw [k2, HO.ren_live] at h4
      rw [he1, he2, hR'.inj _ _ _ _ _ h1 h2 h3 h4]
    · rw [g1] at h1; rw [g2, HO.ren_live] at h3
      rw [k1] at h2; rw [k2] at h4
      exact hcross hj1 h1 h3 hm2 h2 h4
    · rw [g1] at h1; rw [g2] at h3
      rw [k1] at h2; rw [k2, HO.ren_live] at h4
      exact (hcross hj2 h2 h4 hm1 h1 h3).symm
    · rw [g1] at h1; rw [g2] at h3
      rw [k1] at h2; rw [k2] at h4
      exact hR.inj _ _ _ _ _ h1 h2 h3 h4
  · have hnl : ¬ Live (ρ.lent σl) (hOf objs) b := fun h => hl (hL b h)
    obtain ⟨e1, e2⟩ := hE.frame b hb hnl
    exact ⟨e1, by rw [hcb]; exact e2⟩
  · obtain ⟨i, f, h1, h2⟩ := hl
    rcases hsrc i with ⟨j, hj, he, g1, g2⟩ | ⟨hm, g1, g2⟩
    · rw [g1] at h1; rw [g2, HO.ren_live] at h2
      exact hL b (hE.live b ⟨j, f, h1, h2⟩ hb)
    · rw [g1] at h1; rw [g2] at h2
      exact ⟨i, f, h1, h2⟩
  · exact okN_all d
end
end Go.Proofs.Ytbjgdeednmhpfaa
