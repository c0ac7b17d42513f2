/-
  Ma4: the texts Llaw Lpd Lkit, one behind the other.
-/
import Derived.Test.YtebmlojhdnldgaaDoorMa3
namespace Go.Proofs.YtebmlojhdnldgaaDoor
set_option linter.unusedSimpArgs false
set_option linter.unusedVariables false
open Go.RowKit
theorem updM_has {v x : Int} : ∀ {m : MP}, v ∈ m.map (·.1) → (v, x) ∈ updM v x m
  | [], h => by cases h
  | p :: r, h => by
    rw [updM]
    split
    · rename_i hv; rw [hv]; exact List.mem_cons_self ..
    · rename_i hv
      rw [List.map_cons, List.mem_cons] at h
      exact List.mem_cons_of_mem _ (updM_has (h.resolve_left hv))
theorem updM_keep {v x : Int} {q : Int × Int} (hq : q.1 ≠ v) : ∀ {m : MP}, q ∈ m → q ∈ updM v x m
  | [], h => by cases h
  | p :: r, h => by
    rw [updM]
    rcases List.mem_cons.1 h with rfl | h
    · rw [if_neg (fun e => hq e.symm)]; exact List.mem_cons_self ..
    · split
      · exact List.mem_cons_of_mem _ h
      · exact List.mem_cons_of_mem _ (updM_keep hq h)
theorem MOK.uniq {m : MP} (h : MOK m) {v a b : Int} (ha : (v, a) ∈ m) (hb : (v, b) ∈ m) : a = b := by
  have hn := h.nd
  clear h
  induction m with
  | nil => cases ha
  | cons p r ih =>
    rw [List.map_cons, List.nodup_cons] at hn
    rcases List.mem_cons.1 ha with ha' | ha' <;> rcases List.mem_cons.1 hb with hb' | hb'
    · rw [← ha'] at hb'; exact (Prod.mk.inj hb').2.symm
    · subst ha'; exact absurd (List.mem_map.2 ⟨_, hb', rfl⟩) hn.1
    · subst hb'; exact absurd (List.mem_map.2 ⟨_, ha', rfl⟩) hn.1
    · exact ih ha' hb' hn.2
theorem putM_mem {m : MP} {p q : Int × Int} (hp : 0 ≤ p.2) (h : q ∈ putM m p) : q ∈ m ∨ q = p := by
  unfold putM at h
  cases hf : findM m p.1 with
  | some k =>
    rw [hf] at h
    rcases updM_mem h with h | h
    · exact .inl h
    · by_cases hk : k ≤ p.2
      · right; rw [h, Int.max_eq_right hk]
      · left; rw [h, Int.max_eq_left (by omega)]; exact findM_some hf
  | none =>
    rw [hf] at h
    rcases List.mem_append.1 h with h | h
    · exact .inl h
    · right; rw [List.mem_singleton.1 h, Int.max_eq_right hp]
theorem putM_has {m : MP} {p : Int × Int} : ∃ n, (p.1, n) ∈ putM m p ∧ p.2 ≤ n := by
  unfold putM
  cases hf : findM m p.1 with
  | some k => exact ⟨_, updM_has (List.mem_map.2 ⟨_, findM_some hf, rfl⟩), Int.le_max_right ..⟩
  | none => exact ⟨_, List.mem_append_right _ (List.mem_singleton.2 rfl), Int.le_max_right ..⟩
theorem putM_ge {m : MP} (hm : MOK m) {p q : Int × Int} (h : q ∈ m) : ∃ n, (q.1, n) ∈ putM m p ∧ q.2 ≤ n := by
  unfold putM
  cases hf : findM m p.1 with
  | some k =>
    by_cases hv : q.1 = p.1
    · refine ⟨max k p.2, ?_, ?_⟩
      · rw [hv]; exact updM_has (List.mem_map.2 ⟨_, findM_some hf, rfl⟩)
      · have : q.2 = k := hm.uniq (v := q.1) (by exact h) (by rw [hv]; exact findM_some hf)
        rw [this]; exact Int.le_max_left ..
    · exact ⟨q.2, updM_keep hv h, Int.le_refl _⟩
  | none => exact ⟨q.2, List.mem_append_left _ h, Int.le_refl _⟩
theorem badP_nn {p : Int × Int} (h : badP p = false) : 0 ≤ p.1 ∧ 0 ≤ p.2 ∧ p.1 ≤ 1048576 ∧ p.2 ≤ 1048576 := by
  simp only [badP, Bool.or_eq_false_iff, decide_eq_false_iff_not] at h
  omega
theorem fold_mem : ∀ {l : LV} {m : MP} {q : Int × Int}, (∀ p, p ∈ l → badP p = false) → q ∈ l.foldl putM m → q ∈ m ∨ q ∈ l
  | [], m, q, _, h => .inl h
  | p :: r, m, q, hb, h => by
    rcases fold_mem (l := r) (fun x hx => hb x (List.mem_cons_of_mem _ hx)) h with h | h
    · rcases putM_mem (badP_nn (hb p (List.mem_cons_self ..))).2.1 h with h | rfl
      · exact .inl h
      · exact .inr (List.mem_cons_self ..)
    · exact .inr (List.mem_cons_of_mem _ h)
theorem fold_ge : ∀ {l : LV} {m : MP} {q : Int × Int}, MOK m → (∀ p, p ∈ l → badP p = false) → (q ∈ m ∨ q ∈ l) → ∃ n, (q.1, n) ∈ l.foldl putM m ∧ q.2 ≤ n
  | [], m, q, _, _, h => ⟨q.2, h.elim id (fun h => by cases h), Int.le_refl _⟩
  | p :: r, m, q, hm, hb, h => by
    have hb' : ∀ x, x ∈ r → badP x = false := fun x hx => hb x (List.mem_cons_of_mem _ hx)
    have hm' := putM_ok hm (hb p (List.mem_cons_self ..))
    have hstep : ∀ {y : Int × Int}, (∃ n, (y.1, n) ∈ putM m p ∧ y.2 ≤ n) → ∃ n, (y.1, n) ∈ r.foldl putM (putM m p) ∧ y.2 ≤ n := fun {y} ⟨n, h1, h2⟩ => by
      obtain ⟨n', h3, h4⟩ := fold_ge (l := r) hm' hb' (.inl h1)
      exact ⟨n', h3, Int.le_trans h2 h4⟩
    rcases h with h | h
    · exact hstep (putM_ge hm h)
    · rcases List.mem_cons.1 h with rfl | h
      · exact hstep putM_has
      · exact fold_ge (l := r) hm' hb' (.inr h)
theorem mem_find {m : MP} (hm : MOK m) {v n : Int} (h : (v, n) ∈ m) : findM m v = some n := by
  cases hf : findM m v with
  | none => exact absurd (List.mem_map.2 ⟨_, h, rfl⟩) (findM_none hf)
  | some k => rw [hm.uniq h (findM_some hf)]
theorem hid_iff {m : MP} {n : Int} : hiddenM m n = false ↔ ∀ q, q ∈ m → 0 < q.1 → q.2 < n := by
  unfold hiddenM
  rw [List.any_eq_false]
  constructor
  · intro h q hq hv
    have := h q hq
    simp only [Bool.and_eq_true, decide_eq_true_eq, not_and] at this
    have := this hv
    omega
  · intro h q hq
    simp only [Bool.and_eq_true, decide_eq_true_eq, not_and]
    intro hv
    have := h q hq hv
    omega
theorem levM_mem {m : MP} (hm : MOK m) {p : Int × Int} : p ∈ levM m ↔ p ∈ m ∧ (0 < p.1 ∨ (0 < p.2 ∧ ∀ q, q ∈ m → 0 < q.1 → q.2 < p.2)) := by
  obtain ⟨v, n⟩ := p
  unfold levM
  rw [List.mem_filterMap]
  constructor
  · rintro ⟨x, hx, hk⟩
    have hx' : x ∈ m.map (·.1) := (List.mergeSort_perm _ _).mem_iff.1 hx
    obtain ⟨⟨x', k⟩, hk', rfl⟩ := List.mem_map.1 hx'
    have hf := mem_find hm hk'
    unfold keepM at hk
    dsimp only at hk
    rw [hf] at hk
    simp only [Option.getD_some] at hk
    split at hk
    · rename_i hc
      cases hk
      exact ⟨hk', hc.imp id (fun h => ⟨h.1, hid_iff.1 h.2⟩)⟩
    · cases hk
  · rintro ⟨h1, h2⟩
    refine ⟨v, (List.mergeSort_perm _ _).mem_iff.2 (List.mem_map.2 ⟨_, h1, rfl⟩), ?_⟩
    unfold keepM
    rw [mem_find hm h1]
    simp only [Option.getD_some]
    rw [if_pos (h2.imp id (fun h => ⟨h.1, hid_iff.2 h.2⟩))]
/-- what a normal form is -/
structure NF (l : LV) : Prop where
  up : l.Pairwise (fun p q => p.1 < q.1)
  ok : ∀ p, p ∈ l → badP p = false
  z : ∀ p, p ∈ l → p.1 = 0 → 0 < p.2 ∧ ∀ q, q ∈ l → 0 < q.1 → q.2 < p.2
theorem nodup_sorted : ∀ {l : List Int}, l.Pairwise (fun x y => x ≤ y) → l.Nodup → l.Pairwise (fun x y => x < y)
  | [], _, _ => List.Pairwise.nil
  | x :: r, h, hn => by
    rw [List.pairwise_cons] at h ⊢
    rw [List.nodup_cons] at hn
    refine ⟨fun y hy => ?_, nodup_sorted h.2 hn.2⟩
    have := h.1 y hy
    have : x ≠ y := fun e => hn.1 (e ▸ hy)
    omega
theorem sortK_up {m : MP} (hm : MOK m) : (sortK m).Pairwise (fun x y => x < y) := by
  refine nodup_sorted ?_ ?_
  · have := List.pairwise_mergeSort (le := fun x y : Int => decide (x ≤ y)) (fun a b c h1 h2 => by simp only [decide_eq_true_eq] at *; omega) (fun a b => by simp only [Bool.or_eq_true, decide_eq_true_eq]; omega) (m.map (·.1))
    exact this.imp (fun h => by simpa using h)
  · exact ((List.mergeSort_perm _ _).nodup_iff).2 hm.nd
theorem keepM_fst {m : MP} {v : Int} {p : Int × Int} (h : keepM m v = some p) : p.1 = v := by
  unfold keepM at h
  split at h
  · cases h; rfl
  · cases h
theorem levM_up {m : MP} (hm : MOK m) : (levM m).Pairwise (fun p q => p.1 < q.1) := by
  unfold levM
  have := sortK_up hm
  generalize sortK m = s at this
  induction s with
  | nil => exact List.Pairwise.nil
  | cons x r ih =>
    rw [List.pairwise_cons] at this
    rw [List.filterMap_cons]
    cases hk : keepM m x with
    | none => exact ih this.2
    | some p =>
      refine List.pairwise_cons.2 ⟨fun q hq => ?_, ih this.2⟩
      obtain ⟨y, hy, hq⟩ := List.mem_filterMap.1 hq
      rw [keepM_fst hk, keepM_fst hq]
      exact this.1 y hy
theorem NF.nil : NF [] := ⟨List.Pairwise.nil, (fun _ h => nomatch h), (fun _ h => nomatch h)⟩
theorem levM_nf {m : MP} (hm : MOK m) : NF (levM m) where
  up := levM_up hm
  ok := fun p hp => by
    have h := ((levM_mem hm).1 hp).1
    have h1 := hm.v p h
    have h2 := hm.n p h
    simp only [badP, Bool.or_eq_false_iff, decide_eq_false_iff_not]
    omega
  z := fun p hp h0 => by
    have h := ((levM_mem hm).1 hp).2
    rcases h with h | ⟨h1, h2⟩
    · omega
    · exact ⟨h1, fun q hq hv => h2 q ((levM_mem hm).1 hq).1 hv⟩
theorem NF.uniq {l : LV} (h : NF l) {p q : Int × Int} (hp : p ∈ l) (hq : q ∈ l) (e : p.1 = q.1) : p = q := by
  have hu := h.up
  clear h
  induction l with
  | nil => cases hp
  | cons x r ih =>
    rw [List.pairwise_cons] at hu
    rcases List.mem_cons.1 hp with hp' | hp' <;> rcases List.mem_cons.1 hq with hq' | hq'
    · rw [hp', hq']
    · subst hp'; have := hu.1 q hq'; omega
    · subst hq'; have := hu.1 p hp'; omega
    · exact ih hp' hq' hu.2
theorem up_ext : ∀ {a b : LV}, a.Pairwise (fun p q => p.1 < q.1) → b.Pairwise (fun p q => p.1 < q.1) → (∀ p, p ∈ a ↔ p ∈ b) → a = b
  | [], [], _, _, _ => rfl
  | [], y :: s, _, _, h => by have := (h y).2 (List.mem_cons_self ..); cases this
  | x :: r, [], _, _, h => by have := (h x).1 (List.mem_cons_self ..); cases this
  | x :: r, y :: s, ha, hb, h => by
    rw [List.pairwise_cons] at ha hb
    have hxy : x = y := by
      rcases List.mem_cons.1 ((h x).1 (List.mem_cons_self ..)) with e | hx
      · exact e
      · rcases List.mem_cons.1 ((h y).2 (List.mem_cons_self ..)) with e | hy
        · exact e.symm
        · have h1 := hb.1 x hx
          have h2 := ha.1 y hy
          omega
    subst hxy
    rw [up_ext ha.2 hb.2 fun p => ?_]
    constructor
    · intro hp
      rcases List.mem_cons.1 ((h p).1 (List.mem_cons_of_mem _ hp)) with rfl | hp'
      · have := ha.1 p hp; omega
      · exact hp'
    · intro hp
      rcases List.mem_cons.1 ((h p).2 (List.mem_cons_of_mem _ hp)) with rfl | hp'
      · have := hb.1 p hp; omega
      · exact hp'
/-- a part is below a level -/
def domP (l : LV) (p : Int × Int) : Prop := (p.1 = 0 ∧ p.2 = 0) ∨ ∃ q, q ∈ l ∧ (p.1 = 0 ∨ p.1 = q.1) ∧ p.2 ≤ q.2
/-- all parts are -/
def leR (a b : LV) : Prop := ∀ p, p ∈ a → domP b p
def okV (l : LV) : Prop := ∀ p, p ∈ l → badP p = false
theorem domP.self {l : LV} {p : Int × Int} (h : p ∈ l) : domP l p := .inr ⟨p, h, .inr rfl, Int.le_refl _⟩
theorem domP.step {l : LV} {p q : Int × Int} (hp : 0 ≤ p.2) (h1 : p.1 = 0 ∨ p.1 = q.1) (h2 : p.2 ≤ q.2) (h : domP l q) : domP l p := by
  rcases h with ⟨e1, e2⟩ | ⟨r, hr, e1, e2⟩
  · left; omega
  · right; exact ⟨r, hr, by omega, by omega⟩
theorem domP.trans {a b : LV} {p : Int × Int} (hp : 0 ≤ p.2) (h : domP a p) (hab : leR a b) : domP b p := by
  rcases h with h | ⟨q, hq, h1, h2⟩
  · exact .inl h
  · exact (hab q hq).step hp h1 h2
theorem leR.refl (a : LV) : leR a a := fun _ h => .self h
theorem leR.trans {a b c : LV} (ha : okV a) (h1 : leR a b) (h2 : leR b c) : leR a c := fun p hp => (h1 p hp).trans (badP_nn (ha p hp)).2.1 h2
theorem okV_of {l : LV} (h : okV l) : anyBad l = false := by
  unfold anyBad; rw [List.any_eq_false]; intro p hp; rw [h p hp]; simp
theorem norm_ok {l : LV} (h : okV l) : normOf l = levM (l.foldl putM []) := by unfold normOf; rw [if_neg (by rw [okV_of h]; simp)]
theorem fold_mok {l : LV} (h : okV l) : MOK (l.foldl putM []) := foldM_ok MOK.nil h
theorem normOf_nf (l : LV) : NF (normOf l) := by
  unfold normOf
  split
  · exact NF.nil
  · rename_i h
    exact levM_nf (foldM_ok MOK.nil (anyBad_of (by simpa using h)))
theorem NF.okV {l : LV} (h : NF l) : okV l := h.ok
theorem norm_mem {l : LV} (h : Go.Proofs.YtebmlojhdnldgaaDoor.okV l) {p : Int × Int} (hp : p ∈ normOf l) : p ∈ l := by
  rw [norm_ok h] at hp
  rcases fold_mem h ((levM_mem (fold_mok h)).1 hp).1 with h | h
  · cases h
  · exact h
theorem norm_dom {l : LV} (h : Go.Proofs.YtebmlojhdnldgaaDoor.okV l) {p : Int × Int} (hp0 : 0 ≤ p.2) (hp : domP l p) : domP (normOf l) p := by
  rcases hp with hp | ⟨q, hq, h1, h2⟩
  · exact .inl hp
  · have hm := fold_mok h
    obtain ⟨n, h3, h4⟩ := fold_ge MOK.nil h (.inr hq)
    rw [norm_ok h]
    have hv := (hm.v _ h3).1
    dsimp only at hv
    by_cases hq1 : 0 < q.1
    · exact .inr ⟨(q.1, n), (levM_mem hm).2 ⟨h3, .inl hq1⟩, h1, by dsimp only; omega⟩
    · have hq0 : q.1 = 0 := by omega
      by_cases hn : 0 < n
      · by_cases hh : ∀ r, r ∈ l.foldl putM [] → 0 < r.1 → r.2 < n
        · exact .inr ⟨(q.1, n), (levM_mem hm).2 ⟨h3, .inr ⟨hn, hh⟩⟩, h1, by dsimp only; omega⟩
        · simp only [Classical.not_forall] at hh
          obtain ⟨r, hr, hr1, hr2⟩ := hh
          exact .inr ⟨r, (levM_mem hm).2 ⟨hr, .inl hr1⟩, by left; omega, by omega⟩
      · left; omega
theorem norm_leR {l : LV} (h : Go.Proofs.YtebmlojhdnldgaaDoor.okV l) : leR l (normOf l) := fun p hp => norm_dom h (badP_nn (h p hp)).2.1 (.self hp)
theorem norm_geR {l : LV} (h : Go.Proofs.YtebmlojhdnldgaaDoor.okV l) : leR (normOf l) l := fun _ hp => .self (norm_mem h hp)
theorem leqN_iff {a b : LV} : leqN a b = true ↔ ∀ p, p ∈ a → ∃ q, q ∈ b ∧ (p.1 = 0 ∨ p.1 = q.1) ∧ p.2 ≤ q.2 := by
  unfold leqN
  simp [underP, List.any_eq_true]
theorem leqN_leR {a b : LV} (ha : NF a) : leqN a b = true ↔ leR a b := by
  rw [leqN_iff]
  constructor
  · exact fun h p hp => .inr (h p hp)
  · intro h p hp
    rcases h p hp with ⟨h1, h2⟩ | h
    · have := (ha.z p hp h1).1; omega
    · exact h
theorem leqM_iff {a b : LV} (ha : Go.Proofs.YtebmlojhdnldgaaDoor.okV a) (hb : Go.Proofs.YtebmlojhdnldgaaDoor.okV b) : leqM a b = true ↔ leR a b := by
  unfold leqM
  rw [leqN_leR (normOf_nf a)]
  constructor
  · exact fun h => ((norm_leR ha).trans ha h).trans ha (norm_geR hb)
  · exact fun h => ((norm_geR ha).trans (normOf_nf a).ok h).trans (normOf_nf a).ok (norm_leR hb)
theorem NF.sub {a b : LV} (ha : NF a) (hb : NF b) (h1 : leR a b) (h2 : leR b a) : ∀ p, p ∈ a → p ∈ b := by
  have ha' := leqN_iff.1 ((leqN_leR ha).2 h1)
  have hb' := leqN_iff.1 ((leqN_leR hb).2 h2)
  have hpos : ∀ {a b : LV}, NF a → NF b → (∀ p, p ∈ a → ∃ q, q ∈ b ∧ (p.1 = 0 ∨ p.1 = q.1) ∧ p.2 ≤ q.2) → (∀ p, p ∈ b → ∃ q, q ∈ a ∧ (p.1 = 0 ∨ p.1 = q.1) ∧ p.2 ≤ q.2) → ∀ p, p ∈ a → 0 < p.1 → p ∈ b := by
    intro a b ha hb ha' hb' p hp hp0
    obtain ⟨q, hq, h1, h2⟩ := ha' p hp
    obtain ⟨r, hr, h3, h4⟩ := hb' q hq
    have : r = p := ha.uniq hr hp (by omega)
    subst this
    have : q = r := Prod.ext (by omega) (by omega)
    rw [← this]; exact hq
  intro p hp
  by_cases hp0 : 0 < p.1
  · exact hpos ha hb ha' hb' p hp hp0
  · have hpz : p.1 = 0 := by have := (badP_nn (ha.ok p hp)).1; omega
    obtain ⟨q, hq, h1, h2⟩ := ha' p hp
    have hz := ha.z p hp hpz
    by_cases hq0 : 0 < q.1
    · have := hz.2 q (hpos hb ha hb' ha' q hq hq0) hq0
      omega
    · have hqz : q.1 = 0 := by have := (badP_nn (hb.ok q hq)).1; omega
      obtain ⟨r, hr, h3, h4⟩ := hb' q hq
      by_cases hr0 : 0 < r.1
      · have := hz.2 r hr hr0; omega
      · have hrz : r.1 = 0 := by have := (badP_nn (ha.ok r hr)).1; omega
        have : r = p := ha.uniq hr hp (by omega)
        subst this
        have : q = r := Prod.ext (by omega) (by omega)
        rw [← this]; exact hq
theorem NF.ext {a b : LV} (ha : NF a) (hb : NF b) (h1 : leR a b) (h2 : leR b a) : a = b :=
  up_ext ha.up hb.up fun p => ⟨ha.sub hb h1 h2 p, hb.sub ha h2 h1 p⟩
theorem norm_ext {a b : LV} (ha : Go.Proofs.YtebmlojhdnldgaaDoor.okV a) (hb : Go.Proofs.YtebmlojhdnldgaaDoor.okV b) (h1 : leR a b) (h2 : leR b a) : normOf a = normOf b :=
  (normOf_nf a).ext (normOf_nf b) (((norm_geR ha).trans (normOf_nf a).ok h1).trans (normOf_nf a).ok (norm_leR hb)) (((norm_geR hb).trans (normOf_nf b).ok h2).trans (normOf_nf b).ok (norm_leR ha))
theorem norm_id {l : LV} (h : NF l) : normOf l = l := (normOf_nf l).ext h (norm_geR h.ok) (norm_leR h.ok)
theorem same_iff {a b : LV} (ha : Go.Proofs.YtebmlojhdnldgaaDoor.okV a) (hb : Go.Proofs.YtebmlojhdnldgaaDoor.okV b) : normOf a = normOf b ↔ leR a b ∧ leR b a := by
  constructor
  · intro h
    exact ⟨((norm_leR ha).trans ha (by rw [h]; exact leR.refl _)).trans ha (norm_geR hb), ((norm_leR hb).trans hb (by rw [h]; exact leR.refl _)).trans hb (norm_geR ha)⟩
  · exact fun h => norm_ext ha hb h.1 h.2
end Go.Proofs.YtebmlojhdnldgaaDoor

namespace Go.Proofs.YtebmlojhdnldgaaDoor
set_option linter.unusedSimpArgs false
set_option linter.unusedVariables false
open Go.RowKit
theorem norm_okV (a : LV) : okV (normOf a) := (normOf_nf a).ok
/-! levels for variables -/
def orZero (x : LV) : LV := if x = [] then [(0, 0)] else x
def levOf (bys : List LV) (v : Int) : LV := if 0 < v ∧ v ≤ bys.length then normOf (bys.getD (v - 1).toNat []) else []
def xsP (bys : List LV) (p : Int × Int) : LV := orZero (levOf bys p.1)
theorem orZero_ne (x : LV) : orZero x ≠ [] := by
  unfold orZero
  split
  · simp
  · assumption
theorem orZero_mem {x : LV} {q : Int × Int} (h : q ∈ orZero x) : q = (0, 0) ∨ q ∈ x := by
  unfold orZero at h
  split at h
  · left; simpa using h
  · exact .inr h
def addP (n : Int) (q : Int × Int) : Int × Int := (q.1, q.2 + n)
def rowP (bys : List LV) (p : Int × Int) : LV := (xsP bys p).map (addP p.2)
def putL (l : LV) (bys : List LV) : LV := ((normOf l).map (rowP bys)).flatten
theorem xsP_ne (bys : List LV) (p : Int × Int) : xsP bys p ≠ [] := orZero_ne _
theorem xsP_zero (bys : List LV) {p : Int × Int} (h : p.1 = 0) : xsP bys p = [(0, 0)] := by
  unfold xsP levOf orZero
  rw [if_neg (c := 0 < p.1 ∧ p.1 ≤ bys.length) (by omega), if_pos rfl]
theorem levOf_mem {bys : List LV} {v : Int} {q : Int × Int} (h : q ∈ levOf bys v) : ∃ l, l ∈ bys ∧ q ∈ normOf l := by
  unfold levOf at h
  split at h
  · rename_i hv
    refine ⟨_, ?_, h⟩
    rw [List.getD_eq_getElem?_getD, List.getElem?_eq_getElem (by omega)]
    exact List.getElem_mem _
  · cases h
theorem xsP_ok (bys : List LV) (p : Int × Int) : okV (xsP bys p) := fun q hq => by
  rcases orZero_mem hq with rfl | hq
  · rfl
  · obtain ⟨l, -, h⟩ := levOf_mem hq
    exact norm_okV _ q h
end Go.Proofs.YtebmlojhdnldgaaDoor

namespace Go.Proofs.YtebmlojhdnldgaaDoor
set_option linter.unusedSimpArgs false
set_option linter.unusedVariables false
set_option maxHeartbeats 10000000
set_option maxRecDepth 20000
open Go.RowKit
attribute [local simp] wpAft_ret wpAft_pan wantD evOp opD tmOf putS updS setS hOf isFree isTok fillD TK.isAgg TK.known partD thenD blockD putAll D.ofV inB nilTest isNilS binX binD binE isCst bndD capB IntKind.min IntKind.max IntKind.signed IntKind.bits dstOf late
theorem Ps_pures (l : LV) : D.pures [D.slice (List.map encP l) Cp.any] = true := by simp [D.pures, D.pure, D.pures_map, encP_pure, Cp.free]
theorem levelOf_spec (l : LV) (n : Int) (hl : l.length ≤ LMax) (hn : 0 ≤ n) (hn2 : n ≤ LMax) : Spec Tryd.prog glob 70 [encL l, .int .i64 n] [] (fun o _ => o.fgt = .ret (.int .i64 (min (1 + l.length) (n + 1)))) := by
  unfold LMax at hl hn2
  have hw1 : IntKind.i64.wrap (1 + (l.length : Int)) = 1 + l.length := i64w (by omega) (by omega)
  have hw2 : IntKind.i64.wrap (n + 1) = n + 1 := i64w (by omega) (by omega)
  refine Spec.movd globPure (wpD_spec tyOK Tryd.func70 rfl (enters _ _ Tryd.func70 rfl (by decide)) rfl rfl ?_)
  unfold encL
  (refine wpD_seqk fun K hK => ?_; refine wpD_region tyOK ?_; ((try simp only [wpAft_ret, wpAft_pan, putS, updS, setS]); (repeat (rw [wpS_cons]; simp)); (try simp only [wpS_nil, thenD, blockD])); refine hK _ _ _ ?_; clear hK K)
  (refine wpD_seqk fun K hK => ?_; refine wpD_region tyOK ?_; ((try simp only [wpAft_ret, wpAft_pan, putS, updS, setS]); (repeat (rw [wpS_cons]; simp [hw1, hw2])); (try simp only [wpS_nil, thenD, blockD])); refine hK _ _ _ ?_; clear hK K)
  (refine wpD_ret ?_; (try simp only [thenD, blockD]); refine EndQ.ret rfl (.inl ?_); simp [tmOf, Out.fgt, D.fgt, D.fgts])
/-- how many parts are gone through -/
def lvsOf (most : Int) : List LV → Int → Int
  | [], n => n
  | l :: r, n => if n ≤ most then lvsOf most r (n + min (1 + (l.length : Int)) (most + 1)) else n
theorem levelsOf_spec (ls : List LV) (q : Int) (hl : ls.length ≤ LMax) (hls : ∀ l, l ∈ ls → l.length ≤ LMax) (hn : 0 ≤ q) (hn2 : q ≤ LMax) : Spec Tryd.prog glob 50 [Lvs ls, .int .i64 q] [] (fun o _ => o.fgt = .ret (.int .i64 (lvsOf q ls 0))) := by
  have hl' := hl
  have hn' := hn2
  unfold LMax at hl' hn'
  refine Spec.movd globPure (wpD_spec tyOK Tryd.func50 rfl (enters _ _ Tryd.func50 rfl (by decide)) rfl rfl ?_)
  unfold Lvs
  (refine wpD_seqk fun K hK => ?_; refine wpD_region tyOK ?_; ((try simp only [wpAft_ret, wpAft_pan, putS, updS, setS]); (repeat (rw [wpS_cons]; simp)); (try simp only [wpS_nil, thenD, blockD])); refine hK _ _ _ ?_; clear hK K)
  (refine wpD_seqk fun K hK => ?_; refine wpD_region tyOK ?_; ((try simp only [wpAft_ret, wpAft_pan, putS, updS, setS]); (repeat (rw [wpS_cons]; simp)); (try simp only [wpS_nil, thenD, blockD])); refine hK _ _ _ ?_; clear hK K)
  refine wpD_seqk fun K1 hK1 => ?_
  (refine wpD_seqk fun K hK => ?_; refine wpD_region tyOK ?_; ((try simp only [wpAft_ret, wpAft_pan, putS, updS, setS]); (repeat (rw [wpS_cons]; simp)); (try simp only [wpS_nil, thenD, blockD])); refine hK _ _ _ ?_; clear hK K)
  refine wpD_block ?_
  refine wpD_loopW [5, 6, 7, 8, 9, 10, 11, 12, 13, 14, 15, 16, 17, 18, 19, 20, 21, 22, 23, 24, 25] (fun n ys hl => ∃ (k : Nat) (s : Int) (x7 x8 x9 x10 x11 x12 x13 x14 x15 x16 x17 x18 x19 x20 x21 x22 x23 x24 x25 : D), ys = [.int .i64 s, .int .i64 k, x7, x8, x9, x10, x11, x12, x13, x14, x15, x16, x17, x18, x19, x20, x21, x22, x23, x24, x25] ∧ n + k = ls.length ∧ 0 ≤ s ∧ s ≤ 2 * q + 1 ∧ lvsOf q ls 0 = lvsOf q (ls.drop k) s ∧ hl = []) (ls.length) (by kernel_rfl) ?_ ?_
  · exact ⟨0, 0, _, _, _, _, _, _, _, _, _, _, _, _, _, _, _, _, _, _, _, rfl, rfl, by omega, by omega, rfl, rfl⟩
  · rintro n ys hl A hA ⟨k, s, x7, x8, x9, x10, x11, x12, x13, x14, x15, x16, x17, x18, x19, x20, x21, x22, x23, x24, x25, rfl, hk, h0, h1, he, rfl⟩
    simp only [putAll, List.set]
    refine wpD_seqk fun K2 hK2 => ?_
    by_cases hkl : k < ls.length
    · have hkl' : (k : Int) < ls.length := by omega
      have hd : ls.drop k = ls[k] :: ls.drop (k + 1) := List.drop_eq_getElem_cons hkl
      by_cases hs : s ≤ q
      · (refine wpD_seqk fun K hK => ?_; refine wpD_region tyOK ?_; ((try simp only [wpAft_ret, wpAft_pan, putS, updS, setS]); (repeat (rw [wpS_cons]; simp [hkl, hkl', hs])); (try simp only [wpS_nil, thenD, blockD])); refine hK _ _ _ ?_; clear hK K)
        refine wpD_part rfl (fun _ => ?_) (fun h => by simp at h)
        refine wpD_skip (hK2 _ _ _ ?_)
        clear hK2 K2
        refine wpD_seqk fun K3 hK3 => ?_
        refine wpD_block ?_
        obtain ⟨t, ht⟩ : ∃ t : Int, t = min (1 + (ls[k].length : Int)) (q + 1) := ⟨_, rfl⟩
        have hw : IntKind.i64.wrap (s + t) = s + t := i64w (by omega) (by omega)
        (refine wpD_region tyOK ?_; ((try simp only [wpAft_ret, wpAft_pan, putS, updS, setS]); (repeat (rw [wpS_cons]; simp [hkl, encL])); (try simp only [wpS_nil, thenD, blockD])))
        refine CallX.pure globPure (levelOf_spec ls[k] q (hls _ (List.getElem_mem hkl)) hn hn2) ?_ (by simp [D.fgts, D.fgt, encL]) (by simp [D.pures, D.pure, Cp.free, D.pures_map, encL]) (by simp [Out.pure, D.pure, D.pures, Cp.free, D.pures_map, encL])
        rw [← ht]
        ((try simp only [wpAft_ret, wpAft_pan, putS, updS, setS]); (repeat (rw [wpS_cons]; simp [hw])); (try simp only [wpS_nil, thenD, blockD]))
        refine hK3 _ _ _ ?_
        clear hK3 K3
        have hw1 : IntKind.i64.wrap ((k : Int) + 1) = (k : Int) + 1 := i64w (by omega) (by omega)
        (refine wpD_region tyOK ?_; ((try simp only [wpAft_ret, wpAft_pan, putS, updS, setS]); (repeat (rw [wpS_cons]; simp [hw1])); (try simp only [wpS_nil, thenD, blockD])))
        refine hA (n - 1) _ _ (by omega) (by kernel_rfl) ?_
        refine ⟨k + 1, s + t, _, _, _, _, _, _, _, _, _, _, _, _, _, _, _, _, _, _, _, rfl, by omega, by omega, by omega, ?_, rfl⟩
        rw [he, hd, lvsOf, if_pos hs, ht]
      · (refine wpD_seqk fun K hK => ?_; refine wpD_region tyOK ?_; ((try simp only [wpAft_ret, wpAft_pan, putS, updS, setS]); (repeat (rw [wpS_cons]; simp [hkl, hkl', hs])); (try simp only [wpS_nil, thenD, blockD])); refine hK _ _ _ ?_; clear hK K)
        refine wpD_part rfl (fun h => by simp at h) (fun _ => ?_)
        refine wpD_exit ?_
        refine hK1 _ _ _ ?_
        (refine wpD_seqk fun K hK => ?_; refine wpD_region tyOK ?_; ((try simp only [wpAft_ret, wpAft_pan, putS, updS, setS]); (repeat (rw [wpS_cons]; simp)); (try simp only [wpS_nil, thenD, blockD])); refine hK _ _ _ ?_; clear hK K)
        (refine wpD_ret ?_; (try simp only [thenD, blockD]); refine EndQ.ret rfl (.inl ?_); simp [tmOf, Out.fgt, D.fgt, D.fgts])
        rw [he, hd, lvsOf, if_neg hs]
    · have hkl' : ¬ (k : Int) < ls.length := by omega
      (refine wpD_seqk fun K hK => ?_; refine wpD_region tyOK ?_; ((try simp only [wpAft_ret, wpAft_pan, putS, updS, setS]); (repeat (rw [wpS_cons]; simp [hkl, hkl'])); (try simp only [wpS_nil, thenD, blockD])); refine hK _ _ _ ?_; clear hK K)
      refine wpD_part rfl (fun h => by simp at h) (fun _ => ?_)
      refine wpD_exit ?_
      refine hK1 _ _ _ ?_
      (refine wpD_seqk fun K hK => ?_; refine wpD_region tyOK ?_; ((try simp only [wpAft_ret, wpAft_pan, putS, updS, setS]); (repeat (rw [wpS_cons]; simp)); (try simp only [wpS_nil, thenD, blockD])); refine hK _ _ _ ?_; clear hK K)
      (refine wpD_ret ?_; (try simp only [thenD, blockD]); refine EndQ.ret rfl (.inl ?_); simp [tmOf, Out.fgt, D.fgt, D.fgts])
      rw [he, List.drop_eq_nil_of_le (by omega), lvsOf]
def greatB (ls : List LV) : Bool := decide (60 < lvsOf 60 ls 0)
def smallP (p : Int × Int) : Bool := !(decide (p.1 < 0) || decide (200 < p.1) || decide (p.2 < 0) || decide (262144 < p.2))
theorem sameParts_spec (a b : LV) (ha : a.length ≤ LMax) (hb : b.length ≤ LMax) : Spec Tryd.prog glob 127 [.slice (a.map encP) .any, .slice (b.map encP) .any] [] (fun o _ => o.fgt = .ret (.bool (decide (a = b)))) := by
  unfold LMax at ha hb
  refine Spec.movd globPure (wpD_spec tyOK Tryd.func127 rfl (enters _ _ Tryd.func127 rfl (by decide)) rfl rfl ?_)
  (refine wpD_seqk fun K hK => ?_; refine wpD_region tyOK ?_; ((try simp only [wpAft_ret, wpAft_pan, putS, updS, setS]); (repeat (rw [wpS_cons]; simp)); (try simp only [wpS_nil, thenD, blockD])); refine hK _ _ _ ?_; clear hK K)
  refine wpD_seqk fun K1 hK1 => ?_
  (refine wpD_seqk fun K hK => ?_; refine wpD_region tyOK ?_; ((try simp only [wpAft_ret, wpAft_pan, putS, updS, setS]); (repeat (rw [wpS_cons]; simp)); (try simp only [wpS_nil, thenD, blockD])); refine hK _ _ _ ?_; clear hK K)
  refine wpD_part rfl (fun h => ?_) (fun h => ?_)
  · (refine wpD_seqk fun K hK => ?_; refine wpD_region tyOK ?_; ((try simp only [wpAft_ret, wpAft_pan, putS, updS, setS]); (repeat (rw [wpS_cons]; simp)); (try simp only [wpS_nil, thenD, blockD])); refine hK _ _ _ ?_; clear hK K)
    (refine wpD_ret ?_; (try simp only [thenD, blockD]); refine EndQ.ret rfl (.inl ?_); simp [tmOf, Out.fgt, D.fgt, D.fgts])
    have h : ¬ (a.length : Int) = b.length := by simpa using h
    intro e
    exact h (by rw [e])
  · replace h : a.length = b.length := by
      have h : (a.length : Int) = b.length := by simpa using h
      omega
    refine wpD_skip (hK1 _ _ _ ?_)
    clear hK1 K1
    refine wpD_seqk fun K1 hK1 => ?_
    (refine wpD_seqk fun K hK => ?_; refine wpD_region tyOK ?_; ((try simp only [wpAft_ret, wpAft_pan, putS, updS, setS]); (repeat (rw [wpS_cons]; simp)); (try simp only [wpS_nil, thenD, blockD])); refine hK _ _ _ ?_; clear hK K)
    refine wpD_block ?_
    refine wpD_loopW [4, 5, 11, 12, 13, 14, 15, 16, 17, 18, 19, 20, 21, 22, 23, 24, 25] (fun n ys hl => ∃ (k : Nat) (x4 x11 x12 x13 x14 x15 x16 x17 x18 x19 x20 x21 x22 x23 x24 x25 : D), ys = [x4, .int .i64 k, x11, x12, x13, x14, x15, x16, x17, x18, x19, x20, x21, x22, x23, x24, x25] ∧ n + k = a.length ∧ a.take k = b.take k ∧ hl = []) (a.length) (by kernel_rfl) ?_ ?_
    · exact ⟨0, _, _, _, _, _, _, _, _, _, _, _, _, _, _, _, _, rfl, rfl, by simp, rfl⟩
    · rintro n ys hl A hA ⟨k, x4, x11, x12, x13, x14, x15, x16, x17, x18, x19, x20, x21, x22, x23, x24, x25, rfl, hk, he, rfl⟩
      simp only [putAll, List.set]
      refine wpD_seqk fun K2 hK2 => ?_
      (refine wpD_seqk fun K hK => ?_; refine wpD_region tyOK ?_; ((try simp only [wpAft_ret, wpAft_pan, putS, updS, setS]); (repeat (rw [wpS_cons]; simp)); (try simp only [wpS_nil, thenD, blockD])); refine hK _ _ _ ?_; clear hK K)
      refine wpD_part rfl (fun hka => ?_) (fun hka => ?_)
      · replace hka : k < a.length := by simpa using hka
        have hkb : k < b.length := by omega
        refine wpD_skip (hK2 _ _ _ ?_)
        clear hK2 K2
        refine wpD_seqk fun K3 hK3 => ?_
        refine wpD_block ?_
        (refine wpD_seqk fun K hK => ?_; refine wpD_drawk tyOK (by kernel_rfl) (by kernel_rfl) fun KT hKT => ?_; ((try simp only [wpAftT_ret, wpAftT_pan, putS, updS, setS]); (repeat (rw [wpT_cons]; simp [hka, hkb, encP])); (try simp only [wpT_nil])))
        (refine hKT _ _ _ _ (by kernel_rfl) ?_; clear hKT KT; (try simp only [thenD, blockD]))
        (refine hK _ _ _ ?_; clear hK K)
        refine wpD_part rfl (fun hb => ?_) (fun hb => ?_)
        · (refine wpD_seqk fun K hK => ?_; refine wpD_region tyOK ?_; ((try simp only [wpAft_ret, wpAft_pan, putS, updS, setS]); (repeat (rw [wpS_cons]; simp)); (try simp only [wpS_nil, thenD, blockD])); refine hK _ _ _ ?_; clear hK K)
          (refine wpD_ret ?_; (try simp only [thenD, blockD]); refine EndQ.ret rfl (.inl ?_); simp [tmOf, Out.fgt, D.fgt, D.fgts])
          intro e
          subst e
          simp at hb
        · refine wpD_skip (hK3 _ _ _ ?_)
          clear hK3 K3
          have hw1 : IntKind.i64.wrap ((k : Int) + 1) = (k : Int) + 1 := i64w (by omega) (by omega)
          (refine wpD_region tyOK ?_; ((try simp only [wpAft_ret, wpAft_pan, putS, updS, setS]); (repeat (rw [wpS_cons]; simp [hw1])); (try simp only [wpS_nil, thenD, blockD])))
          refine hA (n - 1) _ _ (by omega) (by kernel_rfl) ?_
          refine ⟨k + 1, _, _, _, _, _, _, _, _, _, _, _, _, _, _, _, _, rfl, by omega, ?_, rfl⟩
          rw [List.take_succ_eq_append_getElem hka, List.take_succ_eq_append_getElem hkb, he]
          have hb : a[k] = b[k] := by
            have hb' : a[k].1 = b[k].1 ∧ a[k].2 = b[k].2 := by simpa using hb
            exact Prod.ext hb'.1 hb'.2
          rw [hb]
      · replace hka : ¬ k < a.length := by simpa using hka
        refine wpD_exit ?_
        refine hK1 _ _ _ ?_
        (refine wpD_seqk fun K hK => ?_; refine wpD_region tyOK ?_; ((try simp only [wpAft_ret, wpAft_pan, putS, updS, setS]); (repeat (rw [wpS_cons]; simp)); (try simp only [wpS_nil, thenD, blockD])); refine hK _ _ _ ?_; clear hK K)
        (refine wpD_ret ?_; (try simp only [thenD, blockD]); refine EndQ.ret rfl (.inl ?_); simp [tmOf, Out.fgt, D.fgt, D.fgts])
        rw [List.take_of_length_le (by omega), List.take_of_length_le (by omega)] at he
        exact he
theorem sameLevel_spec (a b : LV) (ha : a.length ≤ LMax) (hb : b.length ≤ LMax) : Spec Tryd.prog glob 64 [encL a, encL b] [] (fun o _ => o.fgt = .ret (.bool (decide (a = b)))) := by
  refine Spec.movd globPure (wpD_spec tyOK Tryd.func64 rfl (enters _ _ Tryd.func64 rfl (by decide)) rfl rfl ?_)
  unfold encL
  (refine wpD_seqk fun K hK => ?_; refine wpD_region tyOK ?_; ((try simp only [wpAft_ret, wpAft_pan, putS, updS, setS]); (repeat (rw [wpS_cons]; simp)); (try simp only [wpS_nil, thenD, blockD])); refine hK _ _ _ ?_; clear hK K)
  (refine wpD_seqk fun K hK => ?_; refine wpD_region tyOK ?_; ((try simp only [wpAft_ret, wpAft_pan, putS, updS, setS]); (repeat (rw [wpS_cons]; simp)); (try simp only [wpS_nil, thenD, blockD])))
  refine CallX.pure globPure (sameParts_spec a b ha hb) ?_ (by simp [D.fgts, D.fgt]) (by simp [D.pures, D.pure, Cp.free, D.pures_map]) (by simp [Out.pure, D.pure, D.pures, Cp.free, D.pures_map])
  ((try simp only [wpAft_ret, wpAft_pan, putS, updS, setS]); (repeat (rw [wpS_cons]; simp)); (try simp only [wpS_nil, thenD, blockD]))
  (refine hK _ _ _ ?_; clear hK K)
  (refine wpD_ret ?_; (try simp only [thenD, blockD]); refine EndQ.ret rfl (.inl ?_); simp [tmOf, Out.fgt, D.fgt, D.fgts])
/-- parts, two numbers each -/
def ofL : List Int → LV
  | a :: b :: r => (a, b) :: ofL r
  | _ => []
theorem ofL_take : ∀ (k : Nat) (l : List Int) (h : 2 * k + 1 < l.length), ofL (l.take (2 * (k + 1))) = ofL (l.take (2 * k)) ++ [(l[2 * k], l[2 * k + 1])]
  | 0, a :: b :: r, h => by simp [ofL]
  | k + 1, a :: b :: r, h => by
    simp only [List.length_cons] at h
    have this : ofL (List.take (2 * k + 2) r) = ofL (r.take (2 * k)) ++ [(r[2 * k], r[2 * k + 1])] := ofL_take k r (by omega)
    simp only [show 2 * (k + 1 + 1) = 2 * (k + 1) + 1 + 1 by omega, List.take_succ_cons, ofL, this, show 2 * (k + 1) = 2 * k + 1 + 1 by omega, List.cons_append, List.getElem_cons_succ]
  | 0, [], h => by simp at h
  | 0, [_], h => by simp at h
  | k + 1, [], h => by simp at h
  | k + 1, [_], h => by simp at h
theorem ofL_end : ∀ (k : Nat) (l : List Int), ¬ 2 * k + 1 < l.length → ofL (l.take (2 * k)) = ofL l
  | 0, [], h => rfl
  | 0, [_], h => rfl
  | 0, a :: b :: r, h => by simp at h
  | k + 1, [], h => rfl
  | k + 1, [_], h => rfl
  | k + 1, a :: b :: r, h => by
    simp only [List.length_cons] at h
    have := ofL_end k r (by omega)
    simp only [show 2 * (k + 1) = 2 * k + 1 + 1 by omega, List.take_succ_cons, ofL, this]
end Go.Proofs.YtebmlojhdnldgaaDoor

