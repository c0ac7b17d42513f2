/-
  Tlc: the texts Llaw Lpd Lkit Lput Lpt2 Tlv Tsm Kse Lrt Trt Tct Tpla Kct Tl2 Ddp, one behind the other.
-/
import Derived.Test.YtebmlojhdnldgaaDoorMTlc3
namespace Go.Proofs.YtebmlojhdnldgaaDoor
open Go.RowKit
theorem updM_has {v x : Int} : ∀ {m : MP}, v ∈ m.map (·.1) → (v, x) ∈ updM v x m
  | [], h => by cases h
  | p :: r, h => by
    rw [updM]
    split
    · rename_i hv; rw [hv]; exact List.mem_cons_self ..
    · rename_i hv
      rw [List.map_cons, List.mem_cons] at h
      exact List.mem_cons_of_mem _ (updM_has (h.resolve_left hv))
theorem updM_keep {v x : Int} {q : Int × Int} (hq : q.1 ≠ v) : ∀ {m : MP}, q ∈ m → q ∈ updM v x m
  | [], h => by cases h
  | p :: r, h => by
    rw [updM]
    rcases List.mem_cons.1 h with rfl | h
    · rw [if_neg (fun e => hq e.symm)]; exact List.mem_cons_self ..
    · split
      · exact List.mem_cons_of_mem _ h
      · exact List.mem_cons_of_mem _ (updM_keep hq h)
theorem MOK.uniq {m : MP} (h : MOK m) {v a b : Int} (ha : (v, a) ∈ m) (hb : (v, b) ∈ m) : a = b := by
  have hn := h.nd
  clear h
  induction m with
  | nil => cases ha
  | cons p r ih =>
    rw [List.map_cons, List.nodup_cons] at hn
    rcases List.mem_cons.1 ha with ha' | ha' <;> rcases List.mem_cons.1 hb with hb' | hb'
    · rw [← ha'] at hb'; exact (Prod.mk.inj hb').2.symm
    · subst ha'; exact absurd (List.mem_map.2 ⟨_, hb', rfl⟩) hn.1
    · subst hb'; exact absurd (List.mem_map.2 ⟨_, ha', rfl⟩) hn.1
    · exact ih ha' hb' hn.2
theorem putM_mem {m : MP} {p q : Int × Int} (hp : 0 ≤ p.2) (h : q ∈ putM m p) : q ∈ m ∨ q = p := by
  unfold putM at h
  cases hf : findM m p.1 with
  | some k =>
    rw [hf] at h
    rcases updM_mem h with h | h
    · exact .inl h
    · by_cases hk : k ≤ p.2
      · right; rw [h, Int.max_eq_right hk]
      · left; rw [h, Int.max_eq_left (by omega)]; exact findM_some hf
  | none =>
    rw [hf] at h
    rcases List.mem_append.1 h with h | h
    · exact .inl h
    · right; rw [List.mem_singleton.1 h, Int.max_eq_right hp]
theorem putM_has {m : MP} {p : Int × Int} : ∃ n, (p.1, n) ∈ putM m p ∧ p.2 ≤ n := by
  unfold putM
  cases hf : findM m p.1 with
  | some k => exact ⟨_, updM_has (List.mem_map.2 ⟨_, findM_some hf, rfl⟩), Int.le_max_right ..⟩
  | none => exact ⟨_, List.mem_append_right _ (List.mem_singleton.2 rfl), Int.le_max_right ..⟩
theorem putM_ge {m : MP} (hm : MOK m) {p q : Int × Int} (h : q ∈ m) : ∃ n, (q.1, n) ∈ putM m p ∧ q.2 ≤ n := by
  unfold putM
  cases hf : findM m p.1 with
  | some k =>
    by_cases hv : q.1 = p.1
    · refine ⟨max k p.2, ?_, ?_⟩
      · rw [hv]; exact updM_has (List.mem_map.2 ⟨_, findM_some hf, rfl⟩)
      · have : q.2 = k := hm.uniq (v := q.1) (by exact h) (by rw [hv]; exact findM_some hf)
        rw [this]; exact Int.le_max_left ..
    · exact ⟨q.2, updM_keep hv h, Int.le_refl _⟩
  | none => exact ⟨q.2, List.mem_append_left _ h, Int.le_refl _⟩
theorem badP_nn {p : Int × Int} (h : badP p = false) : 0 ≤ p.1 ∧ 0 ≤ p.2 ∧ p.1 ≤ 1048576 ∧ p.2 ≤ 1048576 := by
  simp only [badP, Bool.or_eq_false_iff, decide_eq_false_iff_not] at h
  omega
theorem fold_mem : ∀ {l : LV} {m : MP} {q : Int × Int}, (∀ p, p ∈ l → badP p = false) → q ∈ l.foldl putM m → q ∈ m ∨ q ∈ l
  | [], m, q, _, h => .inl h
  | p :: r, m, q, hb, h => by
    rcases fold_mem (l := r) (fun x hx => hb x (List.mem_cons_of_mem _ hx)) h with h | h
    · rcases putM_mem (badP_nn (hb p (List.mem_cons_self ..))).2.1 h with h | rfl
      · exact .inl h
      · exact .inr (List.mem_cons_self ..)
    · exact .inr (List.mem_cons_of_mem _ h)
theorem fold_ge : ∀ {l : LV} {m : MP} {q : Int × Int}, MOK m → (∀ p, p ∈ l → badP p = false) → (q ∈ m ∨ q ∈ l) → ∃ n, (q.1, n) ∈ l.foldl putM m ∧ q.2 ≤ n
  | [], m, q, _, _, h => ⟨q.2, h.elim id (fun h => by cases h), Int.le_refl _⟩
  | p :: r, m, q, hm, hb, h => by
    have hb' : ∀ x, x ∈ r → badP x = false := fun x hx => hb x (List.mem_cons_of_mem _ hx)
    have hm' := putM_ok hm (hb p (List.mem_cons_self ..))
    have hstep : ∀ {y : Int × Int}, (∃ n, (y.1, n) ∈ putM m p ∧ y.2 ≤ n) → ∃ n, (y.1, n) ∈ r.foldl putM (putM m p) ∧ y.2 ≤ n := fun {y} ⟨n, h1, h2⟩ => by
      obtain ⟨n', h3, h4⟩ := fold_ge (l := r) hm' hb' (.inl h1)
      exact ⟨n', h3, Int.le_trans h2 h4⟩
    rcases h with h | h
    · exact hstep (putM_ge hm h)
    · rcases List.mem_cons.1 h with rfl | h
      · exact hstep putM_has
      · exact fold_ge (l := r) hm' hb' (.inr h)
theorem mem_find {m : MP} (hm : MOK m) {v n : Int} (h : (v, n) ∈ m) : findM m v = some n := by
  cases hf : findM m v with
  | none => exact absurd (List.mem_map.2 ⟨_, h, rfl⟩) (findM_none hf)
  | some k => rw [hm.uniq h (findM_some hf)]
theorem hid_iff {m : MP} {n : Int} : hiddenM m n = false ↔ ∀ q, q ∈ m → 0 < q.1 → q.2 < n := by
  unfold hiddenM
  rw [List.any_eq_false]
  constructor
  · intro h q hq hv
    have := h q hq
    simp only [Bool.and_eq_true, decide_eq_true_eq, not_and] at this
    have := this hv
    omega
  · intro h q hq
    simp only [Bool.and_eq_true, decide_eq_true_eq, not_and]
    intro hv
    have := h q hq hv
    omega
theorem levM_mem {m : MP} (hm : MOK m) {p : Int × Int} : p ∈ levM m ↔ p ∈ m ∧ (0 < p.1 ∨ (0 < p.2 ∧ ∀ q, q ∈ m → 0 < q.1 → q.2 < p.2)) := by
  obtain ⟨v, n⟩ := p
  unfold levM
  rw [List.mem_filterMap]
  constructor
  · rintro ⟨x, hx, hk⟩
    have hx' : x ∈ m.map (·.1) := (List.mergeSort_perm _ _).mem_iff.1 hx
    obtain ⟨⟨x', k⟩, hk', rfl⟩ := List.mem_map.1 hx'
    have hf := mem_find hm hk'
    unfold keepM at hk
    dsimp only at hk
    rw [hf] at hk
    simp only [Option.getD_some] at hk
    split at hk
    · rename_i hc
      cases hk
      exact ⟨hk', hc.imp id (fun h => ⟨h.1, hid_iff.1 h.2⟩)⟩
    · cases hk
  · rintro ⟨h1, h2⟩
    refine ⟨v, (List.mergeSort_perm _ _).mem_iff.2 (List.mem_map.2 ⟨_, h1, rfl⟩), ?_⟩
    unfold keepM
    rw [mem_find hm h1]
    simp only [Option.getD_some]
    rw [if_pos (h2.imp id (fun h => ⟨h.1, hid_iff.2 h.2⟩))]
/-- what a normal form is -/
structure NF (l : LV) : Prop where
  up : l.Pairwise (fun p q => p.1 < q.1)
  ok : ∀ p, p ∈ l → badP p = false
  z : ∀ p, p ∈ l → p.1 = 0 → 0 < p.2 ∧ ∀ q, q ∈ l → 0 < q.1 → q.2 < p.2
theorem nodup_sorted : ∀ {l : List Int}, l.Pairwise (fun x y => x ≤ y) → l.Nodup → l.Pairwise (fun x y => x < y)
  | [], _, _ => List.Pairwise.nil
  | x :: r, h, hn => by
    rw [List.pairwise_cons] at h ⊢
    rw [List.nodup_cons] at hn
    refine ⟨fun y hy => ?_, nodup_sorted h.2 hn.2⟩
    have := h.1 y hy
    have : x ≠ y := fun e => hn.1 (e ▸ hy)
    omega
theorem sortK_up {m : MP} (hm : MOK m) : (sortK m).Pairwise (fun x y => x < y) := by
  refine nodup_sorted ?_ ?_
  · have := List.pairwise_mergeSort (le := fun x y : Int => decide (x ≤ y)) (fun a b c h1 h2 => by simp only [decide_eq_true_eq] at *; omega) (fun a b => by simp only [Bool.or_eq_true, decide_eq_true_eq]; omega) (m.map (·.1))
    exact this.imp (fun h => by simpa using h)
  · exact ((List.mergeSort_perm _ _).nodup_iff).2 hm.nd
theorem keepM_fst {m : MP} {v : Int} {p : Int × Int} (h : keepM m v = some p) : p.1 = v := by
  unfold keepM at h
  split at h
  · cases h; rfl
  · cases h
theorem levM_up {m : MP} (hm : MOK m) : (levM m).Pairwise (fun p q => p.1 < q.1) := by
  unfold levM
  have := sortK_up hm
  generalize sortK m = s at this
  induction s with
  | nil => exact List.Pairwise.nil
  | cons x r ih =>
    rw [List.pairwise_cons] at this
    rw [List.filterMap_cons]
    cases hk : keepM m x with
    | none => exact ih this.2
    | some p =>
      refine List.pairwise_cons.2 ⟨fun q hq => ?_, ih this.2⟩
      obtain ⟨y, hy, hq⟩ := List.mem_filterMap.1 hq
      rw [keepM_fst hk, keepM_fst hq]
      exact this.1 y hy
theorem NF.nil : NF [] := ⟨List.Pairwise.nil, (fun _ h => nomatch h), (fun _ h => nomatch h)⟩
theorem levM_nf {m : MP} (hm : MOK m) : NF (levM m) where
  up := levM_up hm
  ok := fun p hp => by
    have h := ((levM_mem hm).1 hp).1
    have h1 := hm.v p h
    have h2 := hm.n p h
    simp only [badP, Bool.or_eq_false_iff, decide_eq_false_iff_not]
    omega
  z := fun p hp h0 => by
    have h := ((levM_mem hm).1 hp).2
    rcases h with h | ⟨h1, h2⟩
    · omega
    · exact ⟨h1, fun q hq hv => h2 q ((levM_mem hm).1 hq).1 hv⟩
theorem NF.uniq {l : LV} (h : NF l) {p q : Int × Int} (hp : p ∈ l) (hq : q ∈ l) (e : p.1 = q.1) : p = q := by
  have hu := h.up
  clear h
  induction l with
  | nil => cases hp
  | cons x r ih =>
    rw [List.pairwise_cons] at hu
    rcases List.mem_cons.1 hp with hp' | hp' <;> rcases List.mem_cons.1 hq with hq' | hq'
    · rw [hp', hq']
    · subst hp'; have := hu.1 q hq'; omega
    · subst hq'; have := hu.1 p hp'; omega
    · exact ih hp' hq' hu.2
theorem up_ext : ∀ {a b : LV}, a.Pairwise (fun p q => p.1 < q.1) → b.Pairwise (fun p q => p.1 < q.1) → (∀ p, p ∈ a ↔ p ∈ b) → a = b
  | [], [], _, _, _ => rfl
  | [], y :: s, _, _, h => by have := (h y).2 (List.mem_cons_self ..); cases this
  | x :: r, [], _, _, h => by have := (h x).1 (List.mem_cons_self ..); cases this
  | x :: r, y :: s, ha, hb, h => by
    rw [List.pairwise_cons] at ha hb
    have hxy : x = y := by
      rcases List.mem_cons.1 ((h x).1 (List.mem_cons_self ..)) with e | hx
      · exact e
      · rcases List.mem_cons.1 ((h y).2 (List.mem_cons_self ..)) with e | hy
        · exact e.symm
        · have h1 := hb.1 x hx
          have h2 := ha.1 y hy
          omega
    subst hxy
    rw [up_ext ha.2 hb.2 fun p => ?_]
    constructor
    · intro hp
      rcases List.mem_cons.1 ((h p).1 (List.mem_cons_of_mem _ hp)) with rfl | hp'
      · have := ha.1 p hp; omega
      · exact hp'
    · intro hp
      rcases List.mem_cons.1 ((h p).2 (List.mem_cons_of_mem _ hp)) with rfl | hp'
      · have := hb.1 p hp; omega
      · exact hp'
/-- a part is below a level -/
def domP (l : LV) (p : Int × Int) : Prop := (p.1 = 0 ∧ p.2 = 0) ∨ ∃ q, q ∈ l ∧ (p.1 = 0 ∨ p.1 = q.1) ∧ p.2 ≤ q.2
/-- all parts are -/
def leR (a b : LV) : Prop := ∀ p, p ∈ a → domP b p
def okV (l : LV) : Prop := ∀ p, p ∈ l → badP p = false
theorem domP.self {l : LV} {p : Int × Int} (h : p ∈ l) : domP l p := .inr ⟨p, h, .inr rfl, Int.le_refl _⟩
theorem domP.step {l : LV} {p q : Int × Int} (hp : 0 ≤ p.2) (h1 : p.1 = 0 ∨ p.1 = q.1) (h2 : p.2 ≤ q.2) (h : domP l q) : domP l p := by
  rcases h with ⟨e1, e2⟩ | ⟨r, hr, e1, e2⟩
  · left; omega
  · right; exact ⟨r, hr, by omega, by omega⟩
theorem domP.trans {a b : LV} {p : Int × Int} (hp : 0 ≤ p.2) (h : domP a p) (hab : leR a b) : domP b p := by
  rcases h with h | ⟨q, hq, h1, h2⟩
  · exact .inl h
  · exact (hab q hq).step hp h1 h2
theorem leR.refl (a : LV) : leR a a := fun _ h => .self h
theorem leR.trans {a b c : LV} (ha : okV a) (h1 : leR a b) (h2 : leR b c) : leR a c := fun p hp => (h1 p hp).trans (badP_nn (ha p hp)).2.1 h2
theorem okV_of {l : LV} (h : okV l) : anyBad l = false := by
  unfold anyBad; rw [List.any_eq_false]; intro p hp; rw [h p hp]; simp
theorem norm_ok {l : LV} (h : okV l) : normOf l = levM (l.foldl putM []) := by unfold normOf; rw [if_neg (by rw [okV_of h]; simp)]
theorem fold_mok {l : LV} (h : okV l) : MOK (l.foldl putM []) := foldM_ok MOK.nil h
theorem normOf_nf (l : LV) : NF (normOf l) := by
  unfold normOf
  split
  · exact NF.nil
  · rename_i h
    exact levM_nf (foldM_ok MOK.nil (anyBad_of (by simpa using h)))
theorem NF.okV {l : LV} (h : NF l) : okV l := h.ok
theorem norm_mem {l : LV} (h : Go.Proofs.YtebmlojhdnldgaaDoor.okV l) {p : Int × Int} (hp : p ∈ normOf l) : p ∈ l := by
  rw [norm_ok h] at hp
  rcases fold_mem h ((levM_mem (fold_mok h)).1 hp).1 with h | h
  · cases h
  · exact h
theorem norm_dom {l : LV} (h : Go.Proofs.YtebmlojhdnldgaaDoor.okV l) {p : Int × Int} (hp0 : 0 ≤ p.2) (hp : domP l p) : domP (normOf l) p := by
  rcases hp with hp | ⟨q, hq, h1, h2⟩
  · exact .inl hp
  · have hm := fold_mok h
    obtain ⟨n, h3, h4⟩ := fold_ge MOK.nil h (.inr hq)
    rw [norm_ok h]
    have hv := (hm.v _ h3).1
    dsimp only at hv
    by_cases hq1 : 0 < q.1
    · exact .inr ⟨(q.1, n), (levM_mem hm).2 ⟨h3, .inl hq1⟩, h1, by dsimp only; omega⟩
    · have hq0 : q.1 = 0 := by omega
      by_cases hn : 0 < n
      · by_cases hh : ∀ r, r ∈ l.foldl putM [] → 0 < r.1 → r.2 < n
        · exact .inr ⟨(q.1, n), (levM_mem hm).2 ⟨h3, .inr ⟨hn, hh⟩⟩, h1, by dsimp only; omega⟩
        · simp only [Classical.not_forall] at hh
          obtain ⟨r, hr, hr1, hr2⟩ := hh
          exact .inr ⟨r, (levM_mem hm).2 ⟨hr, .inl hr1⟩, by left; omega, by omega⟩
      · left; omega
theorem norm_leR {l : LV} (h : Go.Proofs.YtebmlojhdnldgaaDoor.okV l) : leR l (normOf l) := fun p hp => norm_dom h (badP_nn (h p hp)).2.1 (.self hp)
theorem norm_geR {l : LV} (h : Go.Proofs.YtebmlojhdnldgaaDoor.okV l) : leR (normOf l) l := fun _ hp => .self (norm_mem h hp)
theorem leqN_iff {a b : LV} : leqN a b = true ↔ ∀ p, p ∈ a → ∃ q, q ∈ b ∧ (p.1 = 0 ∨ p.1 = q.1) ∧ p.2 ≤ q.2 := by
  unfold leqN
  simp [underP, List.any_eq_true]
theorem leqN_leR {a b : LV} (ha : NF a) : leqN a b = true ↔ leR a b := by
  rw [leqN_iff]
  constructor
  · exact fun h p hp => .inr (h p hp)
  · intro h p hp
    rcases h p hp with ⟨h1, h2⟩ | h
    · have := (ha.z p hp h1).1; omega
    · exact h
theorem leqM_iff {a b : LV} (ha : Go.Proofs.YtebmlojhdnldgaaDoor.okV a) (hb : Go.Proofs.YtebmlojhdnldgaaDoor.okV b) : leqM a b = true ↔ leR a b := by
  unfold leqM
  rw [leqN_leR (normOf_nf a)]
  constructor
  · exact fun h => ((norm_leR ha).trans ha h).trans ha (norm_geR hb)
  · exact fun h => ((norm_geR ha).trans (normOf_nf a).ok h).trans (normOf_nf a).ok (norm_leR hb)
theorem NF.sub {a b : LV} (ha : NF a) (hb : NF b) (h1 : leR a b) (h2 : leR b a) : ∀ p, p ∈ a → p ∈ b := by
  have ha' := leqN_iff.1 ((leqN_leR ha).2 h1)
  have hb' := leqN_iff.1 ((leqN_leR hb).2 h2)
  have hpos : ∀ {a b : LV}, NF a → NF b → (∀ p, p ∈ a → ∃ q, q ∈ b ∧ (p.1 = 0 ∨ p.1 = q.1) ∧ p.2 ≤ q.2) → (∀ p, p ∈ b → ∃ q, q ∈ a ∧ (p.1 = 0 ∨ p.1 = q.1) ∧ p.2 ≤ q.2) → ∀ p, p ∈ a → 0 < p.1 → p ∈ b := by
    intro a b ha hb ha' hb' p hp hp0
    obtain ⟨q, hq, h1, h2⟩ := ha' p hp
    obtain ⟨r, hr, h3, h4⟩ := hb' q hq
    have : r = p := ha.uniq hr hp (by omega)
    subst this
    have : q = r := Prod.ext (by omega) (by omega)
    rw [← this]; exact hq
  intro p hp
  by_cases hp0 : 0 < p.1
  · exact hpos ha hb ha' hb' p hp hp0
  · have hpz : p.1 = 0 := by have := (badP_nn (ha.ok p hp)).1; omega
    obtain ⟨q, hq, h1, h2⟩ := ha' p hp
    have hz := ha.z p hp hpz
    by_cases hq0 : 0 < q.1
    · have := hz.2 q (hpos hb ha hb' ha' q hq hq0) hq0
      omega
    · have hqz : q.1 = 0 := by have := (badP_nn (hb.ok q hq)).1; omega
      obtain ⟨r, hr, h3, h4⟩ := hb' q hq
      by_cases hr0 : 0 < r.1
      · have := hz.2 r hr hr0; omega
      · have hrz : r.1 = 0 := by have := (badP_nn (ha.ok r hr)).1; omega
        have : r = p := ha.uniq hr hp (by omega)
        subst this
        have : q = r := Prod.ext (by omega) (by omega)
        rw [← this]; exact hq
theorem NF.ext {a b : LV} (ha : NF a) (hb : NF b) (h1 : leR a b) (h2 : leR b a) : a = b :=
  up_ext ha.up hb.up fun p => ⟨ha.sub hb h1 h2 p, hb.sub ha h2 h1 p⟩
theorem norm_ext {a b : LV} (ha : Go.Proofs.YtebmlojhdnldgaaDoor.okV a) (hb : Go.Proofs.YtebmlojhdnldgaaDoor.okV b) (h1 : leR a b) (h2 : leR b a) : normOf a = normOf b :=
  (normOf_nf a).ext (normOf_nf b) (((norm_geR ha).trans (normOf_nf a).ok h1).trans (normOf_nf a).ok (norm_leR hb)) (((norm_geR hb).trans (normOf_nf b).ok h2).trans (normOf_nf b).ok (norm_leR ha))
theorem norm_id {l : LV} (h : NF l) : normOf l = l := (normOf_nf l).ext h (norm_geR h.ok) (norm_leR h.ok)
theorem same_iff {a b : LV} (ha : Go.Proofs.YtebmlojhdnldgaaDoor.okV a) (hb : Go.Proofs.YtebmlojhdnldgaaDoor.okV b) : normOf a = normOf b ↔ leR a b ∧ leR b a := by
  constructor
  · intro h
    exact ⟨((norm_leR ha).trans ha (by rw [h]; exact leR.refl _)).trans ha (norm_geR hb), ((norm_leR hb).trans hb (by rw [h]; exact leR.refl _)).trans hb (norm_geR ha)⟩
  · exact fun h => norm_ext ha hb h.1 h.2
end Go.Proofs.YtebmlojhdnldgaaDoor

namespace Go.Proofs.YtebmlojhdnldgaaDoor
open Go.RowKit
theorem norm_okV (a : LV) : okV (normOf a) := (normOf_nf a).ok
/-! levels for variables -/
def orZero (x : LV) : LV := if x = [] then [(0, 0)] else x
def levOf (bys : List LV) (v : Int) : LV := if 0 < v ∧ v ≤ bys.length then normOf (bys.getD (v - 1).toNat []) else []
def xsP (bys : List LV) (p : Int × Int) : LV := orZero (levOf bys p.1)
theorem orZero_ne (x : LV) : orZero x ≠ [] := by
  unfold orZero
  split
  · simp
  · assumption
theorem orZero_mem {x : LV} {q : Int × Int} (h : q ∈ orZero x) : q = (0, 0) ∨ q ∈ x := by
  unfold orZero at h
  split at h
  · left; simpa using h
  · exact .inr h
def addP (n : Int) (q : Int × Int) : Int × Int := (q.1, q.2 + n)
def rowP (bys : List LV) (p : Int × Int) : LV := (xsP bys p).map (addP p.2)
def putL (l : LV) (bys : List LV) : LV := ((normOf l).map (rowP bys)).flatten
theorem xsP_ne (bys : List LV) (p : Int × Int) : xsP bys p ≠ [] := orZero_ne _
theorem xsP_zero (bys : List LV) {p : Int × Int} (h : p.1 = 0) : xsP bys p = [(0, 0)] := by
  unfold xsP levOf orZero
  rw [if_neg (c := 0 < p.1 ∧ p.1 ≤ bys.length) (by omega), if_pos rfl]
theorem levOf_mem {bys : List LV} {v : Int} {q : Int × Int} (h : q ∈ levOf bys v) : ∃ l, l ∈ bys ∧ q ∈ normOf l := by
  unfold levOf at h
  split at h
  · rename_i hv
    refine ⟨_, ?_, h⟩
    rw [List.getD_eq_getElem?_getD, List.getElem?_eq_getElem (by omega)]
    exact List.getElem_mem _
  · cases h
theorem xsP_ok (bys : List LV) (p : Int × Int) : okV (xsP bys p) := fun q hq => by
  rcases orZero_mem hq with rfl | hq
  · rfl
  · obtain ⟨l, -, h⟩ := levOf_mem hq
    exact norm_okV _ q h
end Go.Proofs.YtebmlojhdnldgaaDoor

namespace Go.Proofs.YtebmlojhdnldgaaDoor
set_option linter.unusedSimpArgs false
set_option linter.unusedVariables false
set_option maxHeartbeats 10000000
set_option maxRecDepth 20000
open Go.RowKit
attribute [local simp] wpAft_ret wpAft_pan wantD evOp opD tmOf putS updS setS hOf isFree isTok fillD TK.isAgg TK.known partD thenD blockD putAll D.ofV inB nilTest isNilS binX binD binE isCst bndD capB IntKind.min IntKind.max IntKind.signed IntKind.bits dstOf late
theorem Ps_pures (l : LV) : D.pures [D.slice (List.map encP l) Cp.any] = true := by simp [D.pures, D.pure, D.pures_map, encP_pure, Cp.free]
theorem levelOf_spec (l : LV) (n : Int) (hl : l.length ≤ LMax) (hn : 0 ≤ n) (hn2 : n ≤ LMax) : Spec Tryd.prog glob 70 [encL l, .int .i64 n] [] (fun o _ => o.fgt = .ret (.int .i64 (min (1 + l.length) (n + 1)))) := by
  unfold LMax at hl hn2
  have hw1 : IntKind.i64.wrap (1 + (l.length : Int)) = 1 + l.length := i64w (by omega) (by omega)
  have hw2 : IntKind.i64.wrap (n + 1) = n + 1 := i64w (by omega) (by omega)
  refine Spec.movd globPure (wpD_spec tyOK Tryd.func70 rfl (enters _ _ Tryd.func70 rfl (by decide)) rfl rfl ?_)
  unfold encL
  (refine wpD_seqk fun K hK => ?_; refine wpD_region tyOK ?_; ((try simp only [wpAft_ret, wpAft_pan, putS, updS, setS]); (repeat (rw [wpS_cons]; simp)); (try simp only [wpS_nil, thenD, blockD])); refine hK _ _ _ ?_; clear hK K)
  (refine wpD_seqk fun K hK => ?_; refine wpD_region tyOK ?_; ((try simp only [wpAft_ret, wpAft_pan, putS, updS, setS]); (repeat (rw [wpS_cons]; simp [hw1, hw2])); (try simp only [wpS_nil, thenD, blockD])); refine hK _ _ _ ?_; clear hK K)
  (refine wpD_ret ?_; (try simp only [thenD, blockD]); refine EndQ.ret rfl (.inl ?_); simp [tmOf, Out.fgt, D.fgt, D.fgts])
/-- how many parts are gone through -/
def lvsOf (most : Int) : List LV → Int → Int
  | [], n => n
  | l :: r, n => if n ≤ most then lvsOf most r (n + min (1 + (l.length : Int)) (most + 1)) else n
theorem levelsOf_spec (ls : List LV) (q : Int) (hl : ls.length ≤ LMax) (hls : ∀ l, l ∈ ls → l.length ≤ LMax) (hn : 0 ≤ q) (hn2 : q ≤ LMax) : Spec Tryd.prog glob 50 [Lvs ls, .int .i64 q] [] (fun o _ => o.fgt = .ret (.int .i64 (lvsOf q ls 0))) := by
  have hl' := hl
  have hn' := hn2
  unfold LMax at hl' hn'
  refine Spec.movd globPure (wpD_spec tyOK Tryd.func50 rfl (enters _ _ Tryd.func50 rfl (by decide)) rfl rfl ?_)
  unfold Lvs
  (refine wpD_seqk fun K hK => ?_; refine wpD_region tyOK ?_; ((try simp only [wpAft_ret, wpAft_pan, putS, updS, setS]); (repeat (rw [wpS_cons]; simp)); (try simp only [wpS_nil, thenD, blockD])); refine hK _ _ _ ?_; clear hK K)
  (refine wpD_seqk fun K hK => ?_; refine wpD_region tyOK ?_; ((try simp only [wpAft_ret, wpAft_pan, putS, updS, setS]); (repeat (rw [wpS_cons]; simp)); (try simp only [wpS_nil, thenD, blockD])); refine hK _ _ _ ?_; clear hK K)
  refine wpD_seqk fun K1 hK1 => ?_
  (refine wpD_seqk fun K hK => ?_; refine wpD_region tyOK ?_; ((try simp only [wpAft_ret, wpAft_pan, putS, updS, setS]); (repeat (rw [wpS_cons]; simp)); (try simp only [wpS_nil, thenD, blockD])); refine hK _ _ _ ?_; clear hK K)
  refine wpD_block ?_
  refine wpD_loopW [5, 6, 7, 8, 9, 10, 11, 12, 13, 14, 15, 16, 17, 18, 19, 20, 21, 22, 23, 24, 25] (fun n ys hl => ∃ (k : Nat) (s : Int) (x7 x8 x9 x10 x11 x12 x13 x14 x15 x16 x17 x18 x19 x20 x21 x22 x23 x24 x25 : D), ys = [.int .i64 s, .int .i64 k, x7, x8, x9, x10, x11, x12, x13, x14, x15, x16, x17, x18, x19, x20, x21, x22, x23, x24, x25] ∧ n + k = ls.length ∧ 0 ≤ s ∧ s ≤ 2 * q + 1 ∧ lvsOf q ls 0 = lvsOf q (ls.drop k) s ∧ hl = []) (ls.length) (by kernel_rfl) ?_ ?_
  · exact ⟨0, 0, _, _, _, _, _, _, _, _, _, _, _, _, _, _, _, _, _, _, _, rfl, rfl, by omega, by omega, rfl, rfl⟩
  · rintro n ys hl A hA ⟨k, s, x7, x8, x9, x10, x11, x12, x13, x14, x15, x16, x17, x18, x19, x20, x21, x22, x23, x24, x25, rfl, hk, h0, h1, he, rfl⟩
    simp only [putAll, List.set]
    refine wpD_seqk fun K2 hK2 => ?_
    by_cases hkl : k < ls.length
    · have hkl' : (k : Int) < ls.length := by omega
      have hd : ls.drop k = ls[k] :: ls.drop (k + 1) := List.drop_eq_getElem_cons hkl
      by_cases hs : s ≤ q
      · (refine wpD_seqk fun K hK => ?_; refine wpD_region tyOK ?_; ((try simp only [wpAft_ret, wpAft_pan, putS, updS, setS]); (repeat (rw [wpS_cons]; simp [hkl, hkl', hs])); (try simp only [wpS_nil, thenD, blockD])); refine hK _ _ _ ?_; clear hK K)
        refine wpD_part rfl (fun _ => ?_) (fun h => by simp at h)
        refine wpD_skip (hK2 _ _ _ ?_)
        clear hK2 K2
        refine wpD_seqk fun K3 hK3 => ?_
        refine wpD_block ?_
        obtain ⟨t, ht⟩ : ∃ t : Int, t = min (1 + (ls[k].length : Int)) (q + 1) := ⟨_, rfl⟩
        have hw : IntKind.i64.wrap (s + t) = s + t := i64w (by omega) (by omega)
        (refine wpD_region tyOK ?_; ((try simp only [wpAft_ret, wpAft_pan, putS, updS, setS]); (repeat (rw [wpS_cons]; simp [hkl, encL])); (try simp only [wpS_nil, thenD, blockD])))
        refine CallX.pure globPure (levelOf_spec ls[k] q (hls _ (List.getElem_mem hkl)) hn hn2) ?_ (by simp [D.fgts, D.fgt, encL]) (by simp [D.pures, D.pure, Cp.free, D.pures_map, encL]) (by simp [Out.pure, D.pure, D.pures, Cp.free, D.pures_map, encL])
        rw [← ht]
        ((try simp only [wpAft_ret, wpAft_pan, putS, updS, setS]); (repeat (rw [wpS_cons]; simp [hw])); (try simp only [wpS_nil, thenD, blockD]))
        refine hK3 _ _ _ ?_
        clear hK3 K3
        have hw1 : IntKind.i64.wrap ((k : Int) + 1) = (k : Int) + 1 := i64w (by omega) (by omega)
        (refine wpD_region tyOK ?_; ((try simp only [wpAft_ret, wpAft_pan, putS, updS, setS]); (repeat (rw [wpS_cons]; simp [hw1])); (try simp only [wpS_nil, thenD, blockD])))
        refine hA (n - 1) _ _ (by omega) (by kernel_rfl) ?_
        refine ⟨k + 1, s + t, _, _, _, _, _, _, _, _, _, _, _, _, _, _, _, _, _, _, _, rfl, by omega, by omega, by omega, ?_, rfl⟩
        rw [he, hd, lvsOf, if_pos hs, ht]
      · (refine wpD_seqk fun K hK => ?_; refine wpD_region tyOK ?_; ((try simp only [wpAft_ret, wpAft_pan, putS, updS, setS]); (repeat (rw [wpS_cons]; simp [hkl, hkl', hs])); (try simp only [wpS_nil, thenD, blockD])); refine hK _ _ _ ?_; clear hK K)
        refine wpD_part rfl (fun h => by simp at h) (fun _ => ?_)
        refine wpD_exit ?_
        refine hK1 _ _ _ ?_
        (refine wpD_seqk fun K hK => ?_; refine wpD_region tyOK ?_; ((try simp only [wpAft_ret, wpAft_pan, putS, updS, setS]); (repeat (rw [wpS_cons]; simp)); (try simp only [wpS_nil, thenD, blockD])); refine hK _ _ _ ?_; clear hK K)
        (refine wpD_ret ?_; (try simp only [thenD, blockD]); refine EndQ.ret rfl (.inl ?_); simp [tmOf, Out.fgt, D.fgt, D.fgts])
        rw [he, hd, lvsOf, if_neg hs]
    · have hkl' : ¬ (k : Int) < ls.length := by omega
      (refine wpD_seqk fun K hK => ?_; refine wpD_region tyOK ?_; ((try simp only [wpAft_ret, wpAft_pan, putS, updS, setS]); (repeat (rw [wpS_cons]; simp [hkl, hkl'])); (try simp only [wpS_nil, thenD, blockD])); refine hK _ _ _ ?_; clear hK K)
      refine wpD_part rfl (fun h => by simp at h) (fun _ => ?_)
      refine wpD_exit ?_
      refine hK1 _ _ _ ?_
      (refine wpD_seqk fun K hK => ?_; refine wpD_region tyOK ?_; ((try simp only [wpAft_ret, wpAft_pan, putS, updS, setS]); (repeat (rw [wpS_cons]; simp)); (try simp only [wpS_nil, thenD, blockD])); refine hK _ _ _ ?_; clear hK K)
      (refine wpD_ret ?_; (try simp only [thenD, blockD]); refine EndQ.ret rfl (.inl ?_); simp [tmOf, Out.fgt, D.fgt, D.fgts])
      rw [he, List.drop_eq_nil_of_le (by omega), lvsOf]
def greatB (ls : List LV) : Bool := decide (60 < lvsOf 60 ls 0)
def smallP (p : Int × Int) : Bool := !(decide (p.1 < 0) || decide (200 < p.1) || decide (p.2 < 0) || decide (262144 < p.2))
theorem sameParts_spec (a b : LV) (ha : a.length ≤ LMax) (hb : b.length ≤ LMax) : Spec Tryd.prog glob 127 [.slice (a.map encP) .any, .slice (b.map encP) .any] [] (fun o _ => o.fgt = .ret (.bool (decide (a = b)))) := by
  unfold LMax at ha hb
  refine Spec.movd globPure (wpD_spec tyOK Tryd.func127 rfl (enters _ _ Tryd.func127 rfl (by decide)) rfl rfl ?_)
  (refine wpD_seqk fun K hK => ?_; refine wpD_region tyOK ?_; ((try simp only [wpAft_ret, wpAft_pan, putS, updS, setS]); (repeat (rw [wpS_cons]; simp)); (try simp only [wpS_nil, thenD, blockD])); refine hK _ _ _ ?_; clear hK K)
  refine wpD_seqk fun K1 hK1 => ?_
  (refine wpD_seqk fun K hK => ?_; refine wpD_region tyOK ?_; ((try simp only [wpAft_ret, wpAft_pan, putS, updS, setS]); (repeat (rw [wpS_cons]; simp)); (try simp only [wpS_nil, thenD, blockD])); refine hK _ _ _ ?_; clear hK K)
  refine wpD_part rfl (fun h => ?_) (fun h => ?_)
  · (refine wpD_seqk fun K hK => ?_; refine wpD_region tyOK ?_; ((try simp only [wpAft_ret, wpAft_pan, putS, updS, setS]); (repeat (rw [wpS_cons]; simp)); (try simp only [wpS_nil, thenD, blockD])); refine hK _ _ _ ?_; clear hK K)
    (refine wpD_ret ?_; (try simp only [thenD, blockD]); refine EndQ.ret rfl (.inl ?_); simp [tmOf, Out.fgt, D.fgt, D.fgts])
    have h : ¬ (a.length : Int) = b.length := by simpa using h
    intro e
    exact h (by rw [e])
  · replace h : a.length = b.length := by
      have h : (a.length : Int) = b.length := by simpa using h
      omega
    refine wpD_skip (hK1 _ _ _ ?_)
    clear hK1 K1
    refine wpD_seqk fun K1 hK1 => ?_
    (refine wpD_seqk fun K hK => ?_; refine wpD_region tyOK ?_; ((try simp only [wpAft_ret, wpAft_pan, putS, updS, setS]); (repeat (rw [wpS_cons]; simp)); (try simp only [wpS_nil, thenD, blockD])); refine hK _ _ _ ?_; clear hK K)
    refine wpD_block ?_
    refine wpD_loopW [4, 5, 11, 12, 13, 14, 15, 16, 17, 18, 19, 20, 21, 22, 23, 24, 25] (fun n ys hl => ∃ (k : Nat) (x4 x11 x12 x13 x14 x15 x16 x17 x18 x19 x20 x21 x22 x23 x24 x25 : D), ys = [x4, .int .i64 k, x11, x12, x13, x14, x15, x16, x17, x18, x19, x20, x21, x22, x23, x24, x25] ∧ n + k = a.length ∧ a.take k = b.take k ∧ hl = []) (a.length) (by kernel_rfl) ?_ ?_
    · exact ⟨0, _, _, _, _, _, _, _, _, _, _, _, _, _, _, _, _, rfl, rfl, by simp, rfl⟩
    · rintro n ys hl A hA ⟨k, x4, x11, x12, x13, x14, x15, x16, x17, x18, x19, x20, x21, x22, x23, x24, x25, rfl, hk, he, rfl⟩
      simp only [putAll, List.set]
      refine wpD_seqk fun K2 hK2 => ?_
      (refine wpD_seqk fun K hK => ?_; refine wpD_region tyOK ?_; ((try simp only [wpAft_ret, wpAft_pan, putS, updS, setS]); (repeat (rw [wpS_cons]; simp)); (try simp only [wpS_nil, thenD, blockD])); refine hK _ _ _ ?_; clear hK K)
      refine wpD_part rfl (fun hka => ?_) (fun hka => ?_)
      · replace hka : k < a.length := by simpa using hka
        have hkb : k < b.length := by omega
        refine wpD_skip (hK2 _ _ _ ?_)
        clear hK2 K2
        refine wpD_seqk fun K3 hK3 => ?_
        refine wpD_block ?_
        (refine wpD_seqk fun K hK => ?_; refine wpD_drawk tyOK (by kernel_rfl) (by kernel_rfl) fun KT hKT => ?_; ((try simp only [wpAftT_ret, wpAftT_pan, putS, updS, setS]); (repeat (rw [wpT_cons]; simp [hka, hkb, encP])); (try simp only [wpT_nil])))
        (refine hKT _ _ _ _ (by kernel_rfl) ?_; clear hKT KT; (try simp only [thenD, blockD]))
        (refine hK _ _ _ ?_; clear hK K)
        refine wpD_part rfl (fun hb => ?_) (fun hb => ?_)
        · (refine wpD_seqk fun K hK => ?_; refine wpD_region tyOK ?_; ((try simp only [wpAft_ret, wpAft_pan, putS, updS, setS]); (repeat (rw [wpS_cons]; simp)); (try simp only [wpS_nil, thenD, blockD])); refine hK _ _ _ ?_; clear hK K)
          (refine wpD_ret ?_; (try simp only [thenD, blockD]); refine EndQ.ret rfl (.inl ?_); simp [tmOf, Out.fgt, D.fgt, D.fgts])
          intro e
          subst e
          simp at hb
        · refine wpD_skip (hK3 _ _ _ ?_)
          clear hK3 K3
          have hw1 : IntKind.i64.wrap ((k : Int) + 1) = (k : Int) + 1 := i64w (by omega) (by omega)
          (refine wpD_region tyOK ?_; ((try simp only [wpAft_ret, wpAft_pan, putS, updS, setS]); (repeat (rw [wpS_cons]; simp [hw1])); (try simp only [wpS_nil, thenD, blockD])))
          refine hA (n - 1) _ _ (by omega) (by kernel_rfl) ?_
          refine ⟨k + 1, _, _, _, _, _, _, _, _, _, _, _, _, _, _, _, _, rfl, by omega, ?_, rfl⟩
          rw [List.take_succ_eq_append_getElem hka, List.take_succ_eq_append_getElem hkb, he]
          have hb : a[k] = b[k] := by
            have hb' : a[k].1 = b[k].1 ∧ a[k].2 = b[k].2 := by simpa using hb
            exact Prod.ext hb'.1 hb'.2
          rw [hb]
      · replace hka : ¬ k < a.length := by simpa using hka
        refine wpD_exit ?_
        refine hK1 _ _ _ ?_
        (refine wpD_seqk fun K hK => ?_; refine wpD_region tyOK ?_; ((try simp only [wpAft_ret, wpAft_pan, putS, updS, setS]); (repeat (rw [wpS_cons]; simp)); (try simp only [wpS_nil, thenD, blockD])); refine hK _ _ _ ?_; clear hK K)
        (refine wpD_ret ?_; (try simp only [thenD, blockD]); refine EndQ.ret rfl (.inl ?_); simp [tmOf, Out.fgt, D.fgt, D.fgts])
        rw [List.take_of_length_le (by omega), List.take_of_length_le (by omega)] at he
        exact he
theorem sameLevel_spec (a b : LV) (ha : a.length ≤ LMax) (hb : b.length ≤ LMax) : Spec Tryd.prog glob 64 [encL a, encL b] [] (fun o _ => o.fgt = .ret (.bool (decide (a = b)))) := by
  refine Spec.movd globPure (wpD_spec tyOK Tryd.func64 rfl (enters _ _ Tryd.func64 rfl (by decide)) rfl rfl ?_)
  unfold encL
  (refine wpD_seqk fun K hK => ?_; refine wpD_region tyOK ?_; ((try simp only [wpAft_ret, wpAft_pan, putS, updS, setS]); (repeat (rw [wpS_cons]; simp)); (try simp only [wpS_nil, thenD, blockD])); refine hK _ _ _ ?_; clear hK K)
  (refine wpD_seqk fun K hK => ?_; refine wpD_region tyOK ?_; ((try simp only [wpAft_ret, wpAft_pan, putS, updS, setS]); (repeat (rw [wpS_cons]; simp)); (try simp only [wpS_nil, thenD, blockD])))
  refine CallX.pure globPure (sameParts_spec a b ha hb) ?_ (by simp [D.fgts, D.fgt]) (by simp [D.pures, D.pure, Cp.free, D.pures_map]) (by simp [Out.pure, D.pure, D.pures, Cp.free, D.pures_map])
  ((try simp only [wpAft_ret, wpAft_pan, putS, updS, setS]); (repeat (rw [wpS_cons]; simp)); (try simp only [wpS_nil, thenD, blockD]))
  (refine hK _ _ _ ?_; clear hK K)
  (refine wpD_ret ?_; (try simp only [thenD, blockD]); refine EndQ.ret rfl (.inl ?_); simp [tmOf, Out.fgt, D.fgt, D.fgts])
/-- parts, two numbers each -/
def ofL : List Int → LV
  | a :: b :: r => (a, b) :: ofL r
  | _ => []
theorem ofL_take : ∀ (k : Nat) (l : List Int) (h : 2 * k + 1 < l.length), ofL (l.take (2 * (k + 1))) = ofL (l.take (2 * k)) ++ [(l[2 * k], l[2 * k + 1])]
  | 0, a :: b :: r, h => by simp [ofL]
  | k + 1, a :: b :: r, h => by
    simp only [List.length_cons] at h
    have this : ofL (List.take (2 * k + 2) r) = ofL (r.take (2 * k)) ++ [(r[2 * k], r[2 * k + 1])] := ofL_take k r (by omega)
    simp only [show 2 * (k + 1 + 1) = 2 * (k + 1) + 1 + 1 by omega, List.take_succ_cons, ofL, this, show 2 * (k + 1) = 2 * k + 1 + 1 by omega, List.cons_append, List.getElem_cons_succ]
  | 0, [], h => by simp at h
  | 0, [_], h => by simp at h
  | k + 1, [], h => by simp at h
  | k + 1, [_], h => by simp at h
theorem ofL_end : ∀ (k : Nat) (l : List Int), ¬ 2 * k + 1 < l.length → ofL (l.take (2 * k)) = ofL l
  | 0, [], h => rfl
  | 0, [_], h => rfl
  | 0, a :: b :: r, h => by simp at h
  | k + 1, [], h => rfl
  | k + 1, [_], h => rfl
  | k + 1, a :: b :: r, h => by
    simp only [List.length_cons] at h
    have := ofL_end k r (by omega)
    simp only [show 2 * (k + 1) = 2 * k + 1 + 1 by omega, List.take_succ_cons, ofL, this]
end Go.Proofs.YtebmlojhdnldgaaDoor

namespace Go.Proofs.YtebmlojhdnldgaaDoor
set_option linter.unusedSimpArgs false
set_option linter.unusedVariables false
set_option maxHeartbeats 10000000
set_option maxRecDepth 20000
open Go.RowKit
attribute [local simp] wpAft_ret wpAft_pan wantD evOp opD tmOf putS updS setS hOf isFree isTok fillD TK.isAgg TK.known partD thenD blockD putAll D.ofV inB nilTest isNilS binX binD binE isCst bndD capB IntKind.min IntKind.max IntKind.signed IntKind.bits dstOf late
set_option maxHeartbeats 20000000 in
theorem put1_spec (l : LV) (bys : List LV) (hl : l.length ≤ LMax) (hbl : bys.length ≤ LMax) (hbys : ∀ x, x ∈ bys → x.length ≤ LMax) : Spec Tryd.prog glob 141 [.agg [.map 0], .ref (encL l), .ref (Lvs bys)] [.mp []] (PutsM (putsOf (putL l bys) [])) := by
  have hsp0 := norm_spec l hl
  have hnf := normOf_nf l
  have hnl := normOf_len l
  unfold putL
  generalize normOf l = N at hsp0 hnf hnl
  have hNl : N.length ≤ LMax := by unfold LMax; omega
  obtain ⟨rs, hrs⟩ : ∃ rs, rs = N.map (rowP bys) := ⟨_, rfl⟩
  rw [← hrs]
  have hrl : rs.length = N.length := by rw [hrs, List.length_map]
  obtain ⟨L, hL⟩ : ∃ L, L = rs.flatten := ⟨_, rfl⟩
  rw [← hL]
  unfold LMax at hbl
  refine Spec.movd globPure (wpD_spec tyOK Tryd.func141 rfl (enters _ _ Tryd.func141 rfl (by decide)) rfl rfl ?_)
  unfold encL Lvs
  (refine wpD_seqk fun K hK => ?_; refine wpD_region tyOK ?_; ((try simp only [wpAft_ret, wpAft_pan, putS, updS, setS]); (repeat (rw [wpS_cons]; simp)); (try simp only [wpS_nil, thenD, blockD])); refine hK _ _ _ ?_; clear hK K)
  unfold encL at hsp0
  (refine wpD_seqk fun K hK => ?_; refine wpD_region tyOK ?_; ((try simp only [wpAft_ret, wpAft_pan, putS, updS, setS]); (repeat (rw [wpS_cons]; simp)); (try simp only [wpS_nil, thenD, blockD])))
  refine CallX.pure globPure (hsp0) ?_ (by simp [D.fgts, D.fgt, encP_pure]) (by simp [D.pures, D.pure, Cp.free, D.pures_map, encP_pure]) (by simp [Out.pure, D.pure, D.pures, Cp.free, D.pures_map, encP_pure])
  ((try simp only [wpAft_ret, wpAft_pan, putS, updS, setS]); (repeat (rw [wpS_cons]; simp)); (try simp only [wpS_nil, thenD, blockD]))
  (refine hK _ _ _ ?_; clear hK K)
  refine wpD_range tyOK globPure (ti := 3) (tk := 13) (tn := 12) (td := 14) (ts := 62) [5, 6, 8, 13, 14, 15, 16, 17, 18, 19, 20, 21, 22, 23, 24, 25, 26, 27, 28, 29, 30, 31, 32, 33, 34, 35, 36, 37, 38, 39, 40, 41, 42, 43, 44, 45, 46, 47, 48, 49, 50, 51, 52, 53, 54, 55, 56, 57, 58, 59, 60, 61, 62] (N.length) (fun k ys hl => ∃ (m' : MP) (x5 x6 x8 x13 x14 x15 x16 x17 x18 x19 x20 x21 x22 x23 x24 x25 x26 x27 x28 x29 x30 x31 x32 x33 x34 x35 x36 x37 x38 x39 x40 x41 x42 x43 x44 x45 x46 x47 x48 x49 x50 x51 x52 x53 x54 x55 x56 x57 x58 x59 x60 x61 x62 : D), ys = [x5, x6, x8, x13, x14, x15, x16, x17, x18, x19, x20, x21, x22, x23, x24, x25, x26, x27, x28, x29, x30, x31, x32, x33, x34, x35, x36, x37, x38, x39, x40, x41, x42, x43, x44, x45, x46, x47, x48, x49, x50, x51, x52, x53, x54, x55, x56, x57, x58, x59, x60, x61, x62] ∧ anyBad L = anyBad (rs.drop k).flatten ∧ (rs.drop k).flatten.foldl putM m' = L.foldl putM [] ∧ MOK m' ∧ hl = [.mp (encM m'), .cells 203 [.map 0]]) rfl rfl rfl rfl rfl rfl rfl rfl rfl rfl rfl rfl (by simp) (by decide) rfl (by first | assumption | omega | (unfold LMax; omega)) rfl (by kernel_rfl) (by decide) ?_ ?_ ?_
  · exact ⟨[], _, _, _, _, _, _, _, _, _, _, _, _, _, _, _, _, _, _, _, _, _, _, _, _, _, _, _, _, _, _, _, _, _, _, _, _, _, _, _, _, _, _, _, _, _, _, _, _, _, _, _, _, _, rfl, by rw [hL]; rfl, by rw [hL]; rfl, MOK.nil, rfl⟩
  rotate_left
  · rintro ys hl ⟨m', x5, x6, x8, x13, x14, x15, x16, x17, x18, x19, x20, x21, x22, x23, x24, x25, x26, x27, x28, x29, x30, x31, x32, x33, x34, x35, x36, x37, x38, x39, x40, x41, x42, x43, x44, x45, x46, x47, x48, x49, x50, x51, x52, x53, x54, x55, x56, x57, x58, x59, x60, x61, x62, rfl, hb, hf, hml, rfl⟩
    simp only [putAll, List.set]
    rw [show N.length = rs.length from hrl.symm, List.drop_length] at hb hf
    ((try simp only [thenD, blockD]); refine EndQ.nrm rfl (.inr ⟨[], by decide, by simp, ?_⟩); simp [Out.mov, movT, movH, movD, D.mov, HO.mov, okM, renM, getW, D.ren, D.rens, D.okN, D.okNs, Cp.ren, Cp.okN, HO.ren, HO.okN, okA, renA, renO, hOf, handed, D.fgt, D.fgts, List.range_succ, List.idxOf_cons, tmOf, Out.fgt, D.fgt, D.fgts])
    have hall : anyBad L = false := hb
    simp [PutsM, putsOf, hall, Out.fgt, D.fgt, D.fgts]
    rw [← hf]; rfl
  · rintro k ys hl A hk ⟨m', x5, x6, x8, x13, x14, x15, x16, x17, x18, x19, x20, x21, x22, x23, x24, x25, x26, x27, x28, x29, x30, x31, x32, x33, x34, x35, x36, x37, x38, x39, x40, x41, x42, x43, x44, x45, x46, x47, x48, x49, x50, x51, x52, x53, x54, x55, x56, x57, x58, x59, x60, x61, x62, rfl, hb, hf, hml, rfl⟩ hA hA2
    simp only [putAll, List.set]
    have hkr : k < rs.length := by omega
    have hd : rs.drop k = rs[k] :: rs.drop (k + 1) := List.drop_eq_getElem_cons hkr
    obtain ⟨p, hp⟩ : ∃ p, p = N[k] := ⟨_, rfl⟩
    have hgp : N[k] = p := hp.symm
    have hrk : rs[k] = (xsP bys p).map (addP p.2) := by
      have : rs[k] = rowP bys N[k] := by simp [hrs]
      rw [this, hgp]; rfl
    rw [hd, List.flatten_cons, hrk] at hb hf
    have hpb := badP_nn (hnf.ok N[k] (List.getElem_mem hk))
    rw [hgp] at hpb
    have hXok := xsP_ok bys p
    have hXe : xsP bys p = orZero (levOf bys p.1) := rfl
    have hlv : levOf bys p.1 = (if 0 < p.1 ∧ p.1 ≤ bys.length then normOf (bys.getD (p.1 - 1).toNat []) else []) := rfl
    generalize xsP bys p = X at hb hf hXok hXe
    have hXl : ∀ n, X.length ≤ n → n ≤ LMax → X.length ≤ LMax := fun n h1 h2 => Nat.le_trans h1 h2
    (refine wpD_seqk fun K hK => ?_; refine wpD_region tyOK ?_; ((try simp only [wpAft_ret, wpAft_pan, putS, updS, setS]); (repeat (rw [wpS_cons]; simp [hk, hgp, encP])); (try simp only [wpS_nil, thenD, blockD])); refine hK _ _ _ ?_; clear hK K)
    (refine wpD_seqk fun K hK => ?_; refine wpD_region tyOK ?_; ((try simp only [wpAft_ret, wpAft_pan, putS, updS, setS]); (repeat (rw [wpS_cons]; simp)); (try simp only [wpS_nil, thenD, blockD])); refine hK _ _ _ ?_; clear hK K)
    refine wpD_seqk fun K2 hK2 => ?_
    by_cases h1 : 0 < p.1
    · by_cases h2 : p.1 ≤ bys.length
      · obtain ⟨j0, hj0⟩ : ∃ j0 : Nat, p.1 - 1 = j0 := ⟨(p.1 - 1).toNat, by omega⟩
        have hjl : j0 < bys.length := by omega
        have hw0 : IntKind.i64.wrap (p.1 - 1) = (j0 : Int) := by rw [i64w (by omega) (by omega)]; exact hj0
        have hgd : bys.getD (p.1 - 1).toNat [] = bys[j0] := by rw [hj0]; simp [List.getD_eq_getElem?_getD, hjl]
        rw [if_pos ⟨h1, h2⟩, hgd] at hlv
        rw [hlv] at hXe
        unfold orZero at hXe
        have hspj := norm_spec bys[j0] (hbys _ (List.getElem_mem hjl))
        have hYl := normOf_lmax bys[j0]
        unfold encL at hspj
        generalize normOf bys[j0] = Y at hXe hspj hYl
        (refine wpD_seqk fun K hK => ?_; refine wpD_region tyOK ?_; ((try simp only [wpAft_ret, wpAft_pan, putS, updS, setS]); (repeat (rw [wpS_cons]; simp [h1, h2])); (try simp only [wpS_nil, thenD, blockD])); refine hK _ _ _ ?_; clear hK K)
        refine wpD_part rfl (fun _ => ?_) (fun h => by simp at h)
        (refine wpD_region tyOK ?_; ((try simp only [wpAft_ret, wpAft_pan, putS, updS, setS]); (repeat (rw [wpS_cons]; simp [hw0, hjl, encL])); (try simp only [wpS_nil, thenD, blockD])))
        refine CallX.pure globPure (hspj) ?_ (by simp [D.fgts, D.fgt, encP_pure]) (by simp [D.pures, D.pure, Cp.free, D.pures_map, encP_pure]) (by simp [Out.pure, D.pure, D.pures, Cp.free, D.pures_map, encP_pure])
        ((try simp only [wpAft_ret, wpAft_pan, putS, updS, setS]); (repeat (rw [wpS_cons]; simp)); (try simp only [wpS_nil, thenD, blockD]))
        refine hK2 _ _ _ ?_
        clear hK2 K2
        refine wpD_seqk fun K2 hK2 => ?_
        by_cases hY : Y = []
        · rw [if_pos hY] at hXe
          subst hY
          have hXL : X.length ≤ LMax := by rw [hXe]; simp [LMax]
          (refine wpD_seqk fun K hK => ?_; refine wpD_region tyOK ?_; ((try simp only [wpAft_ret, wpAft_pan, putS, updS, setS]); (repeat (rw [wpS_cons]; simp)); (try simp only [wpS_nil, thenD, blockD])); refine hK _ _ _ ?_; clear hK K)
          refine wpD_part rfl (fun _ => ?_) (fun h => by simp at h)
          (refine wpD_region tyOK ?_; ((try simp only [wpAft_ret, wpAft_pan, putS, updS, setS]); (repeat (rw [wpS_cons]; simp)); (try simp only [wpS_nil, thenD, blockD])))
          refine hK2 _ _ _ ?_
          clear hK2 K2
          have hXm : [D.agg [.int .i64 0, .int .i64 0]] = X.map encP := by rw [hXe]; rfl
          rw [hXm]
          have hX1 : (1 : Int) = X.length := by rw [hXe]; rfl
          clear hXe hXm
          (refine wpD_seqk fun K hK => ?_; refine wpD_region tyOK ?_; ((try simp only [wpAft_ret, wpAft_pan, putS, updS, setS]); (repeat (rw [wpS_cons]; simp)); (try simp only [wpS_nil, thenD, blockD])); refine hK _ _ _ ?_; clear hK K)
          obtain ⟨rest, hrest⟩ : ∃ rest, rest = (rs.drop (k + 1)).flatten := ⟨_, rfl⟩
          rw [← hrest] at hb hf
          refine wpD_range tyOK globPure (ti := 3) (tk := 45) (tn := 44) (td := 46) (ts := 61) [8, 45, 46, 47, 48, 49, 50, 51, 52, 53, 54, 55, 56, 57, 58, 59, 60, 61, 62] (X.length) (fun k ys hl => ∃ (m2 : MP) (x8 x45 x46 x47 x48 x49 x50 x51 x52 x53 x54 x55 x56 x57 x58 x59 x60 x61 x62 : D), ys = [x8, x45, x46, x47, x48, x49, x50, x51, x52, x53, x54, x55, x56, x57, x58, x59, x60, x61, x62] ∧ anyBad L = anyBad ((X.drop k).map (addP p.2) ++ rest) ∧ ((X.drop k).map (addP p.2) ++ rest).foldl putM m2 = L.foldl putM [] ∧ MOK m2 ∧ hl = [.mp (encM m2), .cells 203 [.map 0], .cells 74 [.int .i64 p.1, .int .i64 p.2], .cells 30 [.slice (X.map encP) .full]]) rfl rfl rfl rfl rfl rfl rfl rfl rfl rfl rfl rfl (by simp) (by decide) rfl (by first | assumption | omega | (unfold LMax; omega)) rfl (by kernel_rfl) (by decide) ?_ ?_ ?_
          · exact ⟨m', _, _, _, _, _, _, _, _, _, _, _, _, _, _, _, _, _, _, _, rfl, hb, hf, hml, rfl⟩
          · rintro j zs hl2 B hj ⟨m2, x8, x45, x46, x47, x48, x49, x50, x51, x52, x53, x54, x55, x56, x57, x58, x59, x60, x61, x62, rfl, hb2, hf2, hml2, rfl⟩ hB hB2
            simp only [putAll, List.set]
            have hd2 : X.drop j = X[j] :: X.drop (j + 1) := List.drop_eq_getElem_cons hj
            have hqb := badP_nn (hXok X[j] (List.getElem_mem hj))
            rw [hd2, List.map_cons, List.cons_append] at hb2 hf2
            obtain ⟨q, hq⟩ : ∃ q, q = X[j] := ⟨_, rfl⟩
            have hge : X[j] = q := hq.symm
            rw [hge] at hb2 hf2 hqb
            have hw1 : IntKind.i64.wrap (q.2 + p.2) = q.2 + p.2 := i64w (by omega) (by omega)
            have hsp := rowPut_spec [(q.1, q.2 + p.2)] m2 (by simp [LMax]) hml2
            have hone : [(q.1, q.2 + p.2)].foldl putM m2 = putM m2 (addP p.2 q) := rfl
            rw [hone] at hsp
            have hbad1 : anyBad [(q.1, q.2 + p.2)] = badP (addP p.2 q) := by simp [anyBad, addP]
            rw [hbad1] at hsp
            (refine wpD_seqk fun K hK => ?_; refine wpD_region tyOK ?_; ((try simp only [wpAft_ret, wpAft_pan, putS, updS, setS]); (repeat (rw [wpS_cons]; simp [hj, hge, encP])); (try simp only [wpS_nil, thenD, blockD])); refine hK _ _ _ ?_; clear hK K)
            (refine wpD_region tyOK ?_; ((try simp only [wpAft_ret, wpAft_pan, putS, updS, setS]); (repeat (rw [wpS_cons]; simp [hw1])); (try simp only [wpS_nil, thenD, blockD])))
            refine CallX.objs globPure [0] true hsp ?_ ?_ (by decide) (by simp) (by simp [D.ren, D.rens, D.okN, D.okNs, Cp.ren, Cp.okN, HO.ren, HO.okN, okA, renA, renO, hOf, handed, D.fgt, D.fgts, List.range_succ, List.idxOf_cons]) (by simp [D.ren, D.rens, D.okN, D.okNs, Cp.ren, Cp.okN, HO.ren, HO.okN, okA, renA, renO, hOf, handed, D.fgt, D.fgts, List.range_succ, List.idxOf_cons]) (by simp [D.ren, D.rens, D.okN, D.okNs, Cp.ren, Cp.okN, HO.ren, HO.okN, okA, renA, renO, hOf, handed, D.fgt, D.fgts, List.range_succ, List.idxOf_cons, Ps, encP]) (by simp [D.ren, D.rens, D.okN, D.okNs, Cp.ren, Cp.okN, HO.ren, HO.okN, okA, renA, renO, hOf, handed, D.fgt, D.fgts, List.range_succ, List.idxOf_cons])
            · cases hbad : badP (addP p.2 q) with
              | true =>
                simp only [if_true]
                rintro o hc ⟨rfl, m3, rfl⟩
                refine ⟨false, ?_⟩
                unfold noneD
                simp [D.ren, D.rens, D.okN, D.okNs, Cp.ren, Cp.okN, HO.ren, HO.okN, okA, renA, renO, hOf, handed, D.fgt, D.fgts, List.range_succ, List.idxOf_cons, Out.ren, told, Out.fgt, upO, updS, setS]
                ((try simp only [wpAft_ret, wpAft_pan, putS, updS, setS]); (repeat (rw [wpS_cons]; simp)); (try simp only [wpS_nil, thenD, blockD]))
                ((try simp only [thenD, blockD]); refine EndQ.pan (.inr ⟨[], by decide, by simp, ?_⟩); simp [Out.mov, movT, movH, movD, D.mov, HO.mov, okM, renM, getW, D.ren, D.rens, D.okN, D.okNs, Cp.ren, Cp.okN, HO.ren, HO.okN, okA, renA, renO, hOf, handed, D.fgt, D.fgts, List.range_succ, List.idxOf_cons, tmOf, Out.fgt, D.fgt, D.fgts])
                have hall : anyBad L = true := by rw [hb2]; unfold anyBad; rw [List.any_cons, hbad]; rfl
                simp [PutsM, putsOf, hall, noneD]
                exact ⟨m3, rfl⟩
              | false =>
                simp only [if_false, Bool.false_eq_true]
                rintro o hc ⟨ho, rfl⟩
                refine ⟨true, ?_⟩
                rw [show told true o = _ from ho]
                clear ho
                simp [D.ren, D.rens, D.okN, D.okNs, Cp.ren, Cp.okN, HO.ren, HO.okN, okA, renA, renO, hOf, handed, D.fgt, D.fgts, List.range_succ, List.idxOf_cons, Out.ren, told, Out.fgt, upO, updS, setS]
                ((try simp only [wpAft_ret, wpAft_pan, putS, updS, setS]); (repeat (rw [wpS_cons]; simp)); (try simp only [wpS_nil, thenD, blockD]))
                (refine hB2 ([1, 2, 3]) _ _ (by decide) (by simp) (by simp [movT, movH, movD, D.mov, HO.mov, okM, renM, getW, D.ren, D.rens, D.okN, D.okNs, Cp.ren, Cp.okN, HO.ren, HO.okN, okA, renA, renO, hOf, handed, D.fgt, D.fgts, List.range_succ, List.idxOf_cons, putAll]) ?_ rfl; simp [movT, movH, movD, D.mov, HO.mov, okM, renM, getW, D.ren, D.rens, D.okN, D.okNs, Cp.ren, Cp.okN, HO.ren, HO.okN, okA, renA, renO, hOf, handed, D.fgt, D.fgts, List.range_succ, List.idxOf_cons])
                refine ⟨by rw [hb2]; unfold anyBad; rw [List.any_cons, hbad, Bool.false_or, List.map_drop], _, ?_, ?_, rfl⟩
                · rw [← hf2, List.foldl_cons, List.foldl_append, List.map_drop]
                · exact putM_ok hml2 hbad
            · intro o hc h
              split at h
              · obtain ⟨-, m3, rfl⟩ := h; simp
              · obtain ⟨-, rfl⟩ := h; simp
          · rintro zs hl2 ⟨m2, x8, x45, x46, x47, x48, x49, x50, x51, x52, x53, x54, x55, x56, x57, x58, x59, x60, x61, x62, rfl, hb2, hf2, hml2, rfl⟩
            simp only [putAll, List.set]
            rw [List.drop_length, List.map_nil, List.nil_append] at hb2 hf2
            (refine hA2 ([1]) _ _ (by decide) (by simp) (by simp [movT, movH, movD, D.mov, HO.mov, okM, renM, getW, D.ren, D.rens, D.okN, D.okNs, Cp.ren, Cp.okN, HO.ren, HO.okN, okA, renA, renO, hOf, handed, D.fgt, D.fgts, List.range_succ, List.idxOf_cons, putAll]) ?_ rfl; simp [movT, movH, movD, D.mov, HO.mov, okM, renM, getW, D.ren, D.rens, D.okN, D.okNs, Cp.ren, Cp.okN, HO.ren, HO.okN, okA, renA, renO, hOf, handed, D.fgt, D.fgts, List.range_succ, List.idxOf_cons])
            exact ⟨by rw [hb2, hrest], m2, by rw [← hf2, hrest], hml2, rfl⟩
        · rw [if_neg hY] at hXe
          subst hXe
          have hXL := hYl
          have hY0 : ¬ (X.length : Int) = 0 := by
            have : X.length ≠ 0 := fun h => hY (List.eq_nil_of_length_eq_zero h)
            omega
          (refine wpD_seqk fun K hK => ?_; refine wpD_region tyOK ?_; ((try simp only [wpAft_ret, wpAft_pan, putS, updS, setS]); (repeat (rw [wpS_cons]; simp [hY, hY0])); (try simp only [wpS_nil, thenD, blockD])); refine hK _ _ _ ?_; clear hK K)
          refine wpD_part rfl (fun h => by simp at h) (fun _ => ?_)
          refine wpD_skip (hK2 _ _ _ ?_)
          clear hK2 K2
          (refine wpD_seqk fun K hK => ?_; refine wpD_region tyOK ?_; ((try simp only [wpAft_ret, wpAft_pan, putS, updS, setS]); (repeat (rw [wpS_cons]; simp)); (try simp only [wpS_nil, thenD, blockD])); refine hK _ _ _ ?_; clear hK K)
          obtain ⟨rest, hrest⟩ : ∃ rest, rest = (rs.drop (k + 1)).flatten := ⟨_, rfl⟩
          rw [← hrest] at hb hf
          refine wpD_range tyOK globPure (ti := 3) (tk := 45) (tn := 44) (td := 46) (ts := 61) [8, 39, 40, 41, 45, 46, 47, 48, 49, 50, 51, 52, 53, 54, 55, 56, 57, 58, 59, 60, 61, 62] (X.length) (fun k ys hl => ∃ (m2 : MP) (x8 x39 x40 x41 x45 x46 x47 x48 x49 x50 x51 x52 x53 x54 x55 x56 x57 x58 x59 x60 x61 x62 : D), ys = [x8, x39, x40, x41, x45, x46, x47, x48, x49, x50, x51, x52, x53, x54, x55, x56, x57, x58, x59, x60, x61, x62] ∧ anyBad L = anyBad ((X.drop k).map (addP p.2) ++ rest) ∧ ((X.drop k).map (addP p.2) ++ rest).foldl putM m2 = L.foldl putM [] ∧ MOK m2 ∧ hl = [.mp (encM m2), .cells 203 [.map 0], .cells 74 [.int .i64 p.1, .int .i64 p.2], .cells 30 [.slice (X.map encP) .any]]) rfl rfl rfl rfl rfl rfl rfl rfl rfl rfl rfl rfl (by simp) (by decide) rfl (by first | assumption | omega | (unfold LMax; omega)) rfl (by kernel_rfl) (by decide) ?_ ?_ ?_
          · exact ⟨m', _, _, _, _, _, _, _, _, _, _, _, _, _, _, _, _, _, _, _, _, _, _, rfl, hb, hf, hml, rfl⟩
          · rintro j zs hl2 B hj ⟨m2, x8, x39, x40, x41, x45, x46, x47, x48, x49, x50, x51, x52, x53, x54, x55, x56, x57, x58, x59, x60, x61, x62, rfl, hb2, hf2, hml2, rfl⟩ hB hB2
            simp only [putAll, List.set]
            have hd2 : X.drop j = X[j] :: X.drop (j + 1) := List.drop_eq_getElem_cons hj
            have hqb := badP_nn (hXok X[j] (List.getElem_mem hj))
            rw [hd2, List.map_cons, List.cons_append] at hb2 hf2
            obtain ⟨q, hq⟩ : ∃ q, q = X[j] := ⟨_, rfl⟩
            have hge : X[j] = q := hq.symm
            rw [hge] at hb2 hf2 hqb
            have hw1 : IntKind.i64.wrap (q.2 + p.2) = q.2 + p.2 := i64w (by omega) (by omega)
            have hsp := rowPut_spec [(q.1, q.2 + p.2)] m2 (by simp [LMax]) hml2
            have hone : [(q.1, q.2 + p.2)].foldl putM m2 = putM m2 (addP p.2 q) := rfl
            rw [hone] at hsp
            have hbad1 : anyBad [(q.1, q.2 + p.2)] = badP (addP p.2 q) := by simp [anyBad, addP]
            rw [hbad1] at hsp
            (refine wpD_seqk fun K hK => ?_; refine wpD_region tyOK ?_; ((try simp only [wpAft_ret, wpAft_pan, putS, updS, setS]); (repeat (rw [wpS_cons]; simp [hj, hge, encP])); (try simp only [wpS_nil, thenD, blockD])); refine hK _ _ _ ?_; clear hK K)
            (refine wpD_region tyOK ?_; ((try simp only [wpAft_ret, wpAft_pan, putS, updS, setS]); (repeat (rw [wpS_cons]; simp [hw1])); (try simp only [wpS_nil, thenD, blockD])))
            refine CallX.objs globPure [0] true hsp ?_ ?_ (by decide) (by simp) (by simp [D.ren, D.rens, D.okN, D.okNs, Cp.ren, Cp.okN, HO.ren, HO.okN, okA, renA, renO, hOf, handed, D.fgt, D.fgts, List.range_succ, List.idxOf_cons]) (by simp [D.ren, D.rens, D.okN, D.okNs, Cp.ren, Cp.okN, HO.ren, HO.okN, okA, renA, renO, hOf, handed, D.fgt, D.fgts, List.range_succ, List.idxOf_cons]) (by simp [D.ren, D.rens, D.okN, D.okNs, Cp.ren, Cp.okN, HO.ren, HO.okN, okA, renA, renO, hOf, handed, D.fgt, D.fgts, List.range_succ, List.idxOf_cons, Ps, encP]) (by simp [D.ren, D.rens, D.okN, D.okNs, Cp.ren, Cp.okN, HO.ren, HO.okN, okA, renA, renO, hOf, handed, D.fgt, D.fgts, List.range_succ, List.idxOf_cons])
            · cases hbad : badP (addP p.2 q) with
              | true =>
                simp only [if_true]
                rintro o hc ⟨rfl, m3, rfl⟩
                refine ⟨false, ?_⟩
                unfold noneD
                simp [D.ren, D.rens, D.okN, D.okNs, Cp.ren, Cp.okN, HO.ren, HO.okN, okA, renA, renO, hOf, handed, D.fgt, D.fgts, List.range_succ, List.idxOf_cons, Out.ren, told, Out.fgt, upO, updS, setS]
                ((try simp only [wpAft_ret, wpAft_pan, putS, updS, setS]); (repeat (rw [wpS_cons]; simp)); (try simp only [wpS_nil, thenD, blockD]))
                ((try simp only [thenD, blockD]); refine EndQ.pan (.inr ⟨[], by decide, by simp, ?_⟩); simp [Out.mov, movT, movH, movD, D.mov, HO.mov, okM, renM, getW, D.ren, D.rens, D.okN, D.okNs, Cp.ren, Cp.okN, HO.ren, HO.okN, okA, renA, renO, hOf, handed, D.fgt, D.fgts, List.range_succ, List.idxOf_cons, tmOf, Out.fgt, D.fgt, D.fgts])
                have hall : anyBad L = true := by rw [hb2]; unfold anyBad; rw [List.any_cons, hbad]; rfl
                simp [PutsM, putsOf, hall, noneD]
                exact ⟨m3, rfl⟩
              | false =>
                simp only [if_false, Bool.false_eq_true]
                rintro o hc ⟨ho, rfl⟩
                refine ⟨true, ?_⟩
                rw [show told true o = _ from ho]
                clear ho
                simp [D.ren, D.rens, D.okN, D.okNs, Cp.ren, Cp.okN, HO.ren, HO.okN, okA, renA, renO, hOf, handed, D.fgt, D.fgts, List.range_succ, List.idxOf_cons, Out.ren, told, Out.fgt, upO, updS, setS]
                ((try simp only [wpAft_ret, wpAft_pan, putS, updS, setS]); (repeat (rw [wpS_cons]; simp)); (try simp only [wpS_nil, thenD, blockD]))
                (refine hB2 ([1, 2, 3]) _ _ (by decide) (by simp) (by simp [movT, movH, movD, D.mov, HO.mov, okM, renM, getW, D.ren, D.rens, D.okN, D.okNs, Cp.ren, Cp.okN, HO.ren, HO.okN, okA, renA, renO, hOf, handed, D.fgt, D.fgts, List.range_succ, List.idxOf_cons, putAll]) ?_ rfl; simp [movT, movH, movD, D.mov, HO.mov, okM, renM, getW, D.ren, D.rens, D.okN, D.okNs, Cp.ren, Cp.okN, HO.ren, HO.okN, okA, renA, renO, hOf, handed, D.fgt, D.fgts, List.range_succ, List.idxOf_cons])
                refine ⟨by rw [hb2]; unfold anyBad; rw [List.any_cons, hbad, Bool.false_or, List.map_drop], _, ?_, ?_, rfl⟩
                · rw [← hf2, List.foldl_cons, List.foldl_append, List.map_drop]
                · exact putM_ok hml2 hbad
            · intro o hc h
              split at h
              · obtain ⟨-, m3, rfl⟩ := h; simp
              · obtain ⟨-, rfl⟩ := h; simp
          · rintro zs hl2 ⟨m2, x8, x39, x40, x41, x45, x46, x47, x48, x49, x50, x51, x52, x53, x54, x55, x56, x57, x58, x59, x60, x61, x62, rfl, hb2, hf2, hml2, rfl⟩
            simp only [putAll, List.set]
            rw [List.drop_length, List.map_nil, List.nil_append] at hb2 hf2
            (refine hA2 ([1]) _ _ (by decide) (by simp) (by simp [movT, movH, movD, D.mov, HO.mov, okM, renM, getW, D.ren, D.rens, D.okN, D.okNs, Cp.ren, Cp.okN, HO.ren, HO.okN, okA, renA, renO, hOf, handed, D.fgt, D.fgts, List.range_succ, List.idxOf_cons, putAll]) ?_ rfl; simp [movT, movH, movD, D.mov, HO.mov, okM, renM, getW, D.ren, D.rens, D.okN, D.okNs, Cp.ren, Cp.okN, HO.ren, HO.okN, okA, renA, renO, hOf, handed, D.fgt, D.fgts, List.range_succ, List.idxOf_cons])
            exact ⟨by rw [hb2, hrest], m2, by rw [← hf2, hrest], hml2, rfl⟩
      · have hXe : X = [(0, 0)] := by
          rw [if_neg (fun h => h2 h.2)] at hlv
          rw [hXe, hlv]; rfl
        have hXL : X.length ≤ LMax := by rw [hXe]; simp [LMax]
        (refine wpD_seqk fun K hK => ?_; refine wpD_region tyOK ?_; ((try simp only [wpAft_ret, wpAft_pan, putS, updS, setS]); (repeat (rw [wpS_cons]; simp [h1, h2])); (try simp only [wpS_nil, thenD, blockD])); refine hK _ _ _ ?_; clear hK K)
        refine wpD_part rfl (fun h => by simp at h) (fun _ => ?_)
        refine wpD_skip (hK2 _ _ _ ?_)
        clear hK2 K2
        refine wpD_seqk fun K2 hK2 => ?_
        (refine wpD_seqk fun K hK => ?_; refine wpD_region tyOK ?_; ((try simp only [wpAft_ret, wpAft_pan, putS, updS, setS]); (repeat (rw [wpS_cons]; simp)); (try simp only [wpS_nil, thenD, blockD])); refine hK _ _ _ ?_; clear hK K)
        refine wpD_part rfl (fun _ => ?_) (fun h => by simp at h)
        (refine wpD_region tyOK ?_; ((try simp only [wpAft_ret, wpAft_pan, putS, updS, setS]); (repeat (rw [wpS_cons]; simp)); (try simp only [wpS_nil, thenD, blockD])))
        refine hK2 _ _ _ ?_
        clear hK2 K2
        have hXm : [D.agg [.int .i64 0, .int .i64 0]] = X.map encP := by rw [hXe]; rfl
        rw [hXm]
        have hX1 : (1 : Int) = X.length := by rw [hXe]; rfl
        clear hXe hXm
        (refine wpD_seqk fun K hK => ?_; refine wpD_region tyOK ?_; ((try simp only [wpAft_ret, wpAft_pan, putS, updS, setS]); (repeat (rw [wpS_cons]; simp)); (try simp only [wpS_nil, thenD, blockD])); refine hK _ _ _ ?_; clear hK K)
        obtain ⟨rest, hrest⟩ : ∃ rest, rest = (rs.drop (k + 1)).flatten := ⟨_, rfl⟩
        rw [← hrest] at hb hf
        refine wpD_range tyOK globPure (ti := 3) (tk := 45) (tn := 44) (td := 46) (ts := 61) [8, 28, 29, 30, 31, 32, 33, 34, 45, 46, 47, 48, 49, 50, 51, 52, 53, 54, 55, 56, 57, 58, 59, 60, 61, 62] (X.length) (fun k ys hl => ∃ (m2 : MP) (x8 x28 x29 x30 x31 x32 x33 x34 x45 x46 x47 x48 x49 x50 x51 x52 x53 x54 x55 x56 x57 x58 x59 x60 x61 x62 : D), ys = [x8, x28, x29, x30, x31, x32, x33, x34, x45, x46, x47, x48, x49, x50, x51, x52, x53, x54, x55, x56, x57, x58, x59, x60, x61, x62] ∧ anyBad L = anyBad ((X.drop k).map (addP p.2) ++ rest) ∧ ((X.drop k).map (addP p.2) ++ rest).foldl putM m2 = L.foldl putM [] ∧ MOK m2 ∧ hl = [.mp (encM m2), .cells 203 [.map 0], .cells 74 [.int .i64 p.1, .int .i64 p.2], .cells 30 [.slice (X.map encP) .full]]) rfl rfl rfl rfl rfl rfl rfl rfl rfl rfl rfl rfl (by simp) (by decide) rfl (by first | assumption | omega | (unfold LMax; omega)) rfl (by kernel_rfl) (by decide) ?_ ?_ ?_
        · exact ⟨m', _, _, _, _, _, _, _, _, _, _, _, _, _, _, _, _, _, _, _, _, _, _, _, _, _, _, rfl, hb, hf, hml, rfl⟩
        · rintro j zs hl2 B hj ⟨m2, x8, x28, x29, x30, x31, x32, x33, x34, x45, x46, x47, x48, x49, x50, x51, x52, x53, x54, x55, x56, x57, x58, x59, x60, x61, x62, rfl, hb2, hf2, hml2, rfl⟩ hB hB2
          simp only [putAll, List.set]
          have hd2 : X.drop j = X[j] :: X.drop (j + 1) := List.drop_eq_getElem_cons hj
          have hqb := badP_nn (hXok X[j] (List.getElem_mem hj))
          rw [hd2, List.map_cons, List.cons_append] at hb2 hf2
          obtain ⟨q, hq⟩ : ∃ q, q = X[j] := ⟨_, rfl⟩
          have hge : X[j] = q := hq.symm
          rw [hge] at hb2 hf2 hqb
          have hw1 : IntKind.i64.wrap (q.2 + p.2) = q.2 + p.2 := i64w (by omega) (by omega)
          have hsp := rowPut_spec [(q.1, q.2 + p.2)] m2 (by simp [LMax]) hml2
          have hone : [(q.1, q.2 + p.2)].foldl putM m2 = putM m2 (addP p.2 q) := rfl
          rw [hone] at hsp
          have hbad1 : anyBad [(q.1, q.2 + p.2)] = badP (addP p.2 q) := by simp [anyBad, addP]
          rw [hbad1] at hsp
          (refine wpD_seqk fun K hK => ?_; refine wpD_region tyOK ?_; ((try simp only [wpAft_ret, wpAft_pan, putS, updS, setS]); (repeat (rw [wpS_cons]; simp [hj, hge, encP])); (try simp only [wpS_nil, thenD, blockD])); refine hK _ _ _ ?_; clear hK K)
          (refine wpD_region tyOK ?_; ((try simp only [wpAft_ret, wpAft_pan, putS, updS, setS]); (repeat (rw [wpS_cons]; simp [hw1])); (try simp only [wpS_nil, thenD, blockD])))
          refine CallX.objs globPure [0] true hsp ?_ ?_ (by decide) (by simp) (by simp [D.ren, D.rens, D.okN, D.okNs, Cp.ren, Cp.okN, HO.ren, HO.okN, okA, renA, renO, hOf, handed, D.fgt, D.fgts, List.range_succ, List.idxOf_cons]) (by simp [D.ren, D.rens, D.okN, D.okNs, Cp.ren, Cp.okN, HO.ren, HO.okN, okA, renA, renO, hOf, handed, D.fgt, D.fgts, List.range_succ, List.idxOf_cons]) (by simp [D.ren, D.rens, D.okN, D.okNs, Cp.ren, Cp.okN, HO.ren, HO.okN, okA, renA, renO, hOf, handed, D.fgt, D.fgts, List.range_succ, List.idxOf_cons, Ps, encP]) (by simp [D.ren, D.rens, D.okN, D.okNs, Cp.ren, Cp.okN, HO.ren, HO.okN, okA, renA, renO, hOf, handed, D.fgt, D.fgts, List.range_succ, List.idxOf_cons])
          · cases hbad : badP (addP p.2 q) with
            | true =>
              simp only [if_true]
              rintro o hc ⟨rfl, m3, rfl⟩
              refine ⟨false, ?_⟩
              unfold noneD
              simp [D.ren, D.rens, D.okN, D.okNs, Cp.ren, Cp.okN, HO.ren, HO.okN, okA, renA, renO, hOf, handed, D.fgt, D.fgts, List.range_succ, List.idxOf_cons, Out.ren, told, Out.fgt, upO, updS, setS]
              ((try simp only [wpAft_ret, wpAft_pan, putS, updS, setS]); (repeat (rw [wpS_cons]; simp)); (try simp only [wpS_nil, thenD, blockD]))
              ((try simp only [thenD, blockD]); refine EndQ.pan (.inr ⟨[], by decide, by simp, ?_⟩); simp [Out.mov, movT, movH, movD, D.mov, HO.mov, okM, renM, getW, D.ren, D.rens, D.okN, D.okNs, Cp.ren, Cp.okN, HO.ren, HO.okN, okA, renA, renO, hOf, handed, D.fgt, D.fgts, List.range_succ, List.idxOf_cons, tmOf, Out.fgt, D.fgt, D.fgts])
              have hall : anyBad L = true := by rw [hb2]; unfold anyBad; rw [List.any_cons, hbad]; rfl
              simp [PutsM, putsOf, hall, noneD]
              exact ⟨m3, rfl⟩
            | false =>
              simp only [if_false, Bool.false_eq_true]
              rintro o hc ⟨ho, rfl⟩
              refine ⟨true, ?_⟩
              rw [show told true o = _ from ho]
              clear ho
              simp [D.ren, D.rens, D.okN, D.okNs, Cp.ren, Cp.okN, HO.ren, HO.okN, okA, renA, renO, hOf, handed, D.fgt, D.fgts, List.range_succ, List.idxOf_cons, Out.ren, told, Out.fgt, upO, updS, setS]
              ((try simp only [wpAft_ret, wpAft_pan, putS, updS, setS]); (repeat (rw [wpS_cons]; simp)); (try simp only [wpS_nil, thenD, blockD]))
              (refine hB2 ([1, 2, 3]) _ _ (by decide) (by simp) (by simp [movT, movH, movD, D.mov, HO.mov, okM, renM, getW, D.ren, D.rens, D.okN, D.okNs, Cp.ren, Cp.okN, HO.ren, HO.okN, okA, renA, renO, hOf, handed, D.fgt, D.fgts, List.range_succ, List.idxOf_cons, putAll]) ?_ rfl; simp [movT, movH, movD, D.mov, HO.mov, okM, renM, getW, D.ren, D.rens, D.okN, D.okNs, Cp.ren, Cp.okN, HO.ren, HO.okN, okA, renA, renO, hOf, handed, D.fgt, D.fgts, List.range_succ, List.idxOf_cons])
              refine ⟨by rw [hb2]; unfold anyBad; rw [List.any_cons, hbad, Bool.false_or, List.map_drop], _, ?_, ?_, rfl⟩
              · rw [← hf2, List.foldl_cons, List.foldl_append, List.map_drop]
              · exact putM_ok hml2 hbad
          · intro o hc h
            split at h
            · obtain ⟨-, m3, rfl⟩ := h; simp
            · obtain ⟨-, rfl⟩ := h; simp
        · rintro zs hl2 ⟨m2, x8, x28, x29, x30, x31, x32, x33, x34, x45, x46, x47, x48, x49, x50, x51, x52, x53, x54, x55, x56, x57, x58, x59, x60, x61, x62, rfl, hb2, hf2, hml2, rfl⟩
          simp only [putAll, List.set]
          rw [List.drop_length, List.map_nil, List.nil_append] at hb2 hf2
          (refine hA2 ([1]) _ _ (by decide) (by simp) (by simp [movT, movH, movD, D.mov, HO.mov, okM, renM, getW, D.ren, D.rens, D.okN, D.okNs, Cp.ren, Cp.okN, HO.ren, HO.okN, okA, renA, renO, hOf, handed, D.fgt, D.fgts, List.range_succ, List.idxOf_cons, putAll]) ?_ rfl; simp [movT, movH, movD, D.mov, HO.mov, okM, renM, getW, D.ren, D.rens, D.okN, D.okNs, Cp.ren, Cp.okN, HO.ren, HO.okN, okA, renA, renO, hOf, handed, D.fgt, D.fgts, List.range_succ, List.idxOf_cons])
          exact ⟨by rw [hb2, hrest], m2, by rw [← hf2, hrest], hml2, rfl⟩
    · have hXe : X = [(0, 0)] := by
        rw [if_neg (fun h => h1 h.1)] at hlv
        rw [hXe, hlv]; rfl
      have hXL : X.length ≤ LMax := by rw [hXe]; simp [LMax]
      (refine wpD_seqk fun K hK => ?_; refine wpD_region tyOK ?_; ((try simp only [wpAft_ret, wpAft_pan, putS, updS, setS]); (repeat (rw [wpS_cons]; simp [h1])); (try simp only [wpS_nil, thenD, blockD])); refine hK _ _ _ ?_; clear hK K)
      refine wpD_part rfl (fun h => by simp at h) (fun _ => ?_)
      refine wpD_skip (hK2 _ _ _ ?_)
      clear hK2 K2
      refine wpD_seqk fun K2 hK2 => ?_
      (refine wpD_seqk fun K hK => ?_; refine wpD_region tyOK ?_; ((try simp only [wpAft_ret, wpAft_pan, putS, updS, setS]); (repeat (rw [wpS_cons]; simp)); (try simp only [wpS_nil, thenD, blockD])); refine hK _ _ _ ?_; clear hK K)
      refine wpD_part rfl (fun _ => ?_) (fun h => by simp at h)
      (refine wpD_region tyOK ?_; ((try simp only [wpAft_ret, wpAft_pan, putS, updS, setS]); (repeat (rw [wpS_cons]; simp)); (try simp only [wpS_nil, thenD, blockD])))
      refine hK2 _ _ _ ?_
      clear hK2 K2
      have hXm : [D.agg [.int .i64 0, .int .i64 0]] = X.map encP := by rw [hXe]; rfl
      rw [hXm]
      have hX1 : (1 : Int) = X.length := by rw [hXe]; rfl
      clear hXe hXm
      (refine wpD_seqk fun K hK => ?_; refine wpD_region tyOK ?_; ((try simp only [wpAft_ret, wpAft_pan, putS, updS, setS]); (repeat (rw [wpS_cons]; simp)); (try simp only [wpS_nil, thenD, blockD])); refine hK _ _ _ ?_; clear hK K)
      obtain ⟨rest, hrest⟩ : ∃ rest, rest = (rs.drop (k + 1)).flatten := ⟨_, rfl⟩
      rw [← hrest] at hb hf
      refine wpD_range tyOK globPure (ti := 3) (tk := 45) (tn := 44) (td := 46) (ts := 61) [8, 28, 29, 30, 31, 32, 33, 34, 45, 46, 47, 48, 49, 50, 51, 52, 53, 54, 55, 56, 57, 58, 59, 60, 61, 62] (X.length) (fun k ys hl => ∃ (m2 : MP) (x8 x28 x29 x30 x31 x32 x33 x34 x45 x46 x47 x48 x49 x50 x51 x52 x53 x54 x55 x56 x57 x58 x59 x60 x61 x62 : D), ys = [x8, x28, x29, x30, x31, x32, x33, x34, x45, x46, x47, x48, x49, x50, x51, x52, x53, x54, x55, x56, x57, x58, x59, x60, x61, x62] ∧ anyBad L = anyBad ((X.drop k).map (addP p.2) ++ rest) ∧ ((X.drop k).map (addP p.2) ++ rest).foldl putM m2 = L.foldl putM [] ∧ MOK m2 ∧ hl = [.mp (encM m2), .cells 203 [.map 0], .cells 74 [.int .i64 p.1, .int .i64 p.2], .cells 30 [.slice (X.map encP) .full]]) rfl rfl rfl rfl rfl rfl rfl rfl rfl rfl rfl rfl (by simp) (by decide) rfl (by first | assumption | omega | (unfold LMax; omega)) rfl (by kernel_rfl) (by decide) ?_ ?_ ?_
      · exact ⟨m', _, _, _, _, _, _, _, _, _, _, _, _, _, _, _, _, _, _, _, _, _, _, _, _, _, _, rfl, hb, hf, hml, rfl⟩
      · rintro j zs hl2 B hj ⟨m2, x8, x28, x29, x30, x31, x32, x33, x34, x45, x46, x47, x48, x49, x50, x51, x52, x53, x54, x55, x56, x57, x58, x59, x60, x61, x62, rfl, hb2, hf2, hml2, rfl⟩ hB hB2
        simp only [putAll, List.set]
        have hd2 : X.drop j = X[j] :: X.drop (j + 1) := List.drop_eq_getElem_cons hj
        have hqb := badP_nn (hXok X[j] (List.getElem_mem hj))
        rw [hd2, List.map_cons, List.cons_append] at hb2 hf2
        obtain ⟨q, hq⟩ : ∃ q, q = X[j] := ⟨_, rfl⟩
        have hge : X[j] = q := hq.symm
        rw [hge] at hb2 hf2 hqb
        have hw1 : IntKind.i64.wrap (q.2 + p.2) = q.2 + p.2 := i64w (by omega) (by omega)
        have hsp := rowPut_spec [(q.1, q.2 + p.2)] m2 (by simp [LMax]) hml2
        have hone : [(q.1, q.2 + p.2)].foldl putM m2 = putM m2 (addP p.2 q) := rfl
        rw [hone] at hsp
        have hbad1 : anyBad [(q.1, q.2 + p.2)] = badP (addP p.2 q) := by simp [anyBad, addP]
        rw [hbad1] at hsp
        (refine wpD_seqk fun K hK => ?_; refine wpD_region tyOK ?_; ((try simp only [wpAft_ret, wpAft_pan, putS, updS, setS]); (repeat (rw [wpS_cons]; simp [hj, hge, encP])); (try simp only [wpS_nil, thenD, blockD])); refine hK _ _ _ ?_; clear hK K)
        (refine wpD_region tyOK ?_; ((try simp only [wpAft_ret, wpAft_pan, putS, updS, setS]); (repeat (rw [wpS_cons]; simp [hw1])); (try simp only [wpS_nil, thenD, blockD])))
        refine CallX.objs globPure [0] true hsp ?_ ?_ (by decide) (by simp) (by simp [D.ren, D.rens, D.okN, D.okNs, Cp.ren, Cp.okN, HO.ren, HO.okN, okA, renA, renO, hOf, handed, D.fgt, D.fgts, List.range_succ, List.idxOf_cons]) (by simp [D.ren, D.rens, D.okN, D.okNs, Cp.ren, Cp.okN, HO.ren, HO.okN, okA, renA, renO, hOf, handed, D.fgt, D.fgts, List.range_succ, List.idxOf_cons]) (by simp [D.ren, D.rens, D.okN, D.okNs, Cp.ren, Cp.okN, HO.ren, HO.okN, okA, renA, renO, hOf, handed, D.fgt, D.fgts, List.range_succ, List.idxOf_cons, Ps, encP]) (by simp [D.ren, D.rens, D.okN, D.okNs, Cp.ren, Cp.okN, HO.ren, HO.okN, okA, renA, renO, hOf, handed, D.fgt, D.fgts, List.range_succ, List.idxOf_cons])
        · cases hbad : badP (addP p.2 q) with
          | true =>
            simp only [if_true]
            rintro o hc ⟨rfl, m3, rfl⟩
            refine ⟨false, ?_⟩
            unfold noneD
            simp [D.ren, D.rens, D.okN, D.okNs, Cp.ren, Cp.okN, HO.ren, HO.okN, okA, renA, renO, hOf, handed, D.fgt, D.fgts, List.range_succ, List.idxOf_cons, Out.ren, told, Out.fgt, upO, updS, setS]
            ((try simp only [wpAft_ret, wpAft_pan, putS, updS, setS]); (repeat (rw [wpS_cons]; simp)); (try simp only [wpS_nil, thenD, blockD]))
            ((try simp only [thenD, blockD]); refine EndQ.pan (.inr ⟨[], by decide, by simp, ?_⟩); simp [Out.mov, movT, movH, movD, D.mov, HO.mov, okM, renM, getW, D.ren, D.rens, D.okN, D.okNs, Cp.ren, Cp.okN, HO.ren, HO.okN, okA, renA, renO, hOf, handed, D.fgt, D.fgts, List.range_succ, List.idxOf_cons, tmOf, Out.fgt, D.fgt, D.fgts])
            have hall : anyBad L = true := by rw [hb2]; unfold anyBad; rw [List.any_cons, hbad]; rfl
            simp [PutsM, putsOf, hall, noneD]
            exact ⟨m3, rfl⟩
          | false =>
            simp only [if_false, Bool.false_eq_true]
            rintro o hc ⟨ho, rfl⟩
            refine ⟨true, ?_⟩
            rw [show told true o = _ from ho]
            clear ho
            simp [D.ren, D.rens, D.okN, D.okNs, Cp.ren, Cp.okN, HO.ren, HO.okN, okA, renA, renO, hOf, handed, D.fgt, D.fgts, List.range_succ, List.idxOf_cons, Out.ren, told, Out.fgt, upO, updS, setS]
            ((try simp only [wpAft_ret, wpAft_pan, putS, updS, setS]); (repeat (rw [wpS_cons]; simp)); (try simp only [wpS_nil, thenD, blockD]))
            (refine hB2 ([1, 2, 3]) _ _ (by decide) (by simp) (by simp [movT, movH, movD, D.mov, HO.mov, okM, renM, getW, D.ren, D.rens, D.okN, D.okNs, Cp.ren, Cp.okN, HO.ren, HO.okN, okA, renA, renO, hOf, handed, D.fgt, D.fgts, List.range_succ, List.idxOf_cons, putAll]) ?_ rfl; simp [movT, movH, movD, D.mov, HO.mov, okM, renM, getW, D.ren, D.rens, D.okN, D.okNs, Cp.ren, Cp.okN, HO.ren, HO.okN, okA, renA, renO, hOf, handed, D.fgt, D.fgts, List.range_succ, List.idxOf_cons])
            refine ⟨by rw [hb2]; unfold anyBad; rw [List.any_cons, hbad, Bool.false_or, List.map_drop], _, ?_, ?_, rfl⟩
            · rw [← hf2, List.foldl_cons, List.foldl_append, List.map_drop]
            · exact putM_ok hml2 hbad
        · intro o hc h
          split at h
          · obtain ⟨-, m3, rfl⟩ := h; simp
          · obtain ⟨-, rfl⟩ := h; simp
      · rintro zs hl2 ⟨m2, x8, x28, x29, x30, x31, x32, x33, x34, x45, x46, x47, x48, x49, x50, x51, x52, x53, x54, x55, x56, x57, x58, x59, x60, x61, x62, rfl, hb2, hf2, hml2, rfl⟩
        simp only [putAll, List.set]
        rw [List.drop_length, List.map_nil, List.nil_append] at hb2 hf2
        (refine hA2 ([1]) _ _ (by decide) (by simp) (by simp [movT, movH, movD, D.mov, HO.mov, okM, renM, getW, D.ren, D.rens, D.okN, D.okNs, Cp.ren, Cp.okN, HO.ren, HO.okN, okA, renA, renO, hOf, handed, D.fgt, D.fgts, List.range_succ, List.idxOf_cons, putAll]) ?_ rfl; simp [movT, movH, movD, D.mov, HO.mov, okM, renM, getW, D.ren, D.rens, D.okN, D.okNs, Cp.ren, Cp.okN, HO.ren, HO.okN, okA, renA, renO, hOf, handed, D.fgt, D.fgts, List.range_succ, List.idxOf_cons])
        exact ⟨by rw [hb2, hrest], m2, by rw [← hf2, hrest], hml2, rfl⟩
end Go.Proofs.YtebmlojhdnldgaaDoor

namespace Go.Proofs.YtebmlojhdnldgaaDoor
set_option linter.unusedSimpArgs false
set_option linter.unusedVariables false
set_option maxHeartbeats 10000000
set_option maxRecDepth 20000
open Go.RowKit
attribute [local simp] wpAft_ret wpAft_pan wantD evOp opD tmOf putS updS setS hOf isFree isTok fillD TK.isAgg TK.known partD thenD blockD putAll D.ofV inB nilTest isNilS binX binD binE isCst bndD capB IntKind.min IntKind.max IntKind.signed IntKind.bits dstOf late
theorem putO_spec (l : LV) (bys : List LV) (hl : l.length ≤ LMax) (hbl : bys.length ≤ LMax) (hbys : ∀ x, x ∈ bys → x.length ≤ LMax) : Spec Tryd.prog glob 91 [encL l, Lvs bys] [] (OwnL (normOf (putL l bys))) := by
  have hsp1 := put1_spec l bys hl hbl hbys
  have hsp := made_spec 141 [.ref (encL l), .ref (Lvs bys)] _ rfl (by simp [D.pures, D.pure, Lvs_pure, encL, encP_pure, Cp.free, D.pures_map]) (fun m hm => puts_ok MOK.nil hm) hsp1
  rw [levR_puts] at hsp
  have hel : encL l = .agg [.slice (l.map encP) .any] := rfl
  unfold Lvs at hsp ⊢
  rw [hel] at hsp ⊢
  refine Spec.movd globPure (wpD_spec tyOK Tryd.func91 rfl (enters _ _ Tryd.func91 rfl (by decide)) rfl rfl ?_)
  (refine wpD_seqk fun K hK => ?_; refine wpD_region tyOK ?_; ((try simp only [wpAft_ret, wpAft_pan, putS, updS, setS]); (repeat (rw [wpS_cons]; simp)); (try simp only [wpS_nil, thenD, blockD])); refine hK _ _ _ ?_; clear hK K)
  (refine wpD_stay (T := tyOf) 0 (ty := 30) (ds := [.slice (l.map encP) .any]) rfl rfl (by first | exact ⟨rfl, .inr ⟨_, rfl, rfl⟩⟩ | exact ⟨rfl, .inl rfl⟩) ?_; simp [D.frzs, D.frz, HO.frz, dfFrz, refOf, TK.isAgg, FK.isB, FK.isM, FK.isO, D.isLen])
  (refine wpD_stay (T := tyOf) 1 (ty := 24) (ds := [.slice (bys.map encL) .any]) rfl rfl (by first | exact ⟨rfl, .inr ⟨_, rfl, rfl⟩⟩ | exact ⟨rfl, .inl rfl⟩) ?_; simp [D.frzs, D.frz, HO.frz, dfFrz, refOf, TK.isAgg, FK.isB, FK.isM, FK.isO, D.isLen])
  (refine wpD_seqk fun K hK => ?_; refine wpD_region tyOK ?_; ((try simp only [wpAft_ret, wpAft_pan, putS, updS, setS]); (repeat (rw [wpS_cons]; simp)); (try simp only [wpS_nil, thenD, blockD])))
  refine CallX.objs globPure [] true hsp ?_ ?_ (by decide) (by simp) (by simp [D.ren, D.rens, D.okN, D.okNs, Cp.ren, Cp.okN, HO.ren, HO.okN, okA, renA, renO, hOf, handed, D.fgt, D.fgts, List.range_succ, List.idxOf_cons]) (by simp [D.ren, D.rens, D.okN, D.okNs, Cp.ren, Cp.okN, HO.ren, HO.okN, okA, renA, renO, hOf, handed, D.fgt, D.fgts, List.range_succ, List.idxOf_cons]) (by simp [D.ren, D.rens, D.okN, D.okNs, Cp.ren, Cp.okN, HO.ren, HO.okN, okA, renA, renO, hOf, handed, D.fgt, D.fgts, List.range_succ, List.idxOf_cons]) (by simp [D.ren, D.rens, D.okN, D.okNs, Cp.ren, Cp.okN, HO.ren, HO.okN, okA, renA, renO, hOf, handed, D.fgt, D.fgts, List.range_succ, List.idxOf_cons])
  · rintro o hc (⟨hn, rfl, rfl⟩ | ⟨rfl, rfl⟩)
    · refine ⟨false, ?_⟩
      simp [D.ren, D.rens, D.okN, D.okNs, Cp.ren, Cp.okN, HO.ren, HO.okN, okA, renA, renO, hOf, handed, D.fgt, D.fgts, List.range_succ, List.idxOf_cons, Out.ren, told, Out.fgt, upO, updS, setS]
      ((try simp only [wpAft_ret, wpAft_pan, putS, updS, setS]); (repeat (rw [wpS_cons]; simp)); (try simp only [wpS_nil, thenD, blockD]))
      (refine hK _ _ _ ?_; clear hK K)
      (refine wpD_ret ?_; (try simp only [thenD, blockD]); refine EndQ.ret rfl (.inr ⟨[], by decide, by simp, ?_⟩); simp [Out.mov, movT, movH, movD, D.mov, HO.mov, okM, renM, getW, D.ren, D.rens, D.okN, D.okNs, Cp.ren, Cp.okN, HO.ren, HO.okN, okA, renA, renO, hOf, handed, D.fgt, D.fgts, List.range_succ, List.idxOf_cons, tmOf, Out.fgt, D.fgt, D.fgts])
      exact .inl ⟨hn, rfl, rfl⟩
    · refine ⟨false, ?_⟩
      simp [D.ren, D.rens, D.okN, D.okNs, Cp.ren, Cp.okN, HO.ren, HO.okN, okA, renA, renO, hOf, handed, D.fgt, D.fgts, List.range_succ, List.idxOf_cons, Out.ren, told, Out.fgt, upO, updS, setS]
      ((try simp only [wpAft_ret, wpAft_pan, putS, updS, setS]); (repeat (rw [wpS_cons]; simp)); (try simp only [wpS_nil, thenD, blockD]))
      (refine hK _ _ _ ?_; clear hK K)
      (refine wpD_ret ?_; (try simp only [thenD, blockD]); refine EndQ.ret rfl (.inr ⟨[3], by decide, by simp, ?_⟩); simp [Out.mov, movT, movH, movD, D.mov, HO.mov, okM, renM, getW, D.ren, D.rens, D.okN, D.okNs, Cp.ren, Cp.okN, HO.ren, HO.okN, okA, renA, renO, hOf, handed, D.fgt, D.fgts, List.range_succ, List.idxOf_cons, tmOf, Out.fgt, D.fgt, D.fgts])
      exact .inr ⟨rfl, rfl⟩
  · rintro o hc (⟨hn, rfl, rfl⟩ | ⟨rfl, rfl⟩) <;> simp
theorem put_spec (l : LV) (bys : List LV) (hl : l.length ≤ LMax) (hbl : bys.length ≤ LMax) (hbys : ∀ x, x ∈ bys → x.length ≤ LMax) : Spec Tryd.prog glob 91 [encL l, Lvs bys] [] (fun o _ => o.fgt = .ret (encL (normOf (putL l bys)))) := readL (putO_spec l bys hl hbl hbys)
end Go.Proofs.YtebmlojhdnldgaaDoor

namespace Go.Proofs.YtebmlojhdnldgaaDoor
set_option linter.unusedSimpArgs false
set_option linter.unusedVariables false
set_option maxHeartbeats 10000000
set_option maxRecDepth 20000
open Go.RowKit
attribute [local simp] wpAft_ret wpAft_pan wantD evOp opD tmOf putS updS setS hOf isFree isTok fillD TK.isAgg TK.known partD thenD blockD putAll D.ofV inB nilTest isNilS binX binD binE isCst bndD capB IntKind.min IntKind.max IntKind.signed IntKind.bits dstOf late
def levTurn (bys : List LV) : Turn := fun _ t => .inr (t.n, t.ls.map fun l => normOf (putL l bys))
def T.levels (t : T) (bys : List LV) (d : Int) : T := T.walk (levTurn bys) t d
/-- the levels that are put -/
def lvT (bys : List LV) (ls : List LV) (j : Nat) : List LV := (ls.take j).map fun l => normOf (putL l bys)
theorem lvT_succ {bys ls : List LV} {j : Nat} (h : j < ls.length) : lvT bys ls (j + 1) = lvT bys ls j ++ [normOf (putL ls[j] bys)] := by
  unfold lvT; rw [List.take_succ_eq_append_getElem h, List.map_append]; rfl
theorem lvT_end {bys ls : List LV} {j : Nat} (h : ls.length ≤ j) : lvT bys ls j = ls.map fun l => normOf (putL l bys) := by unfold lvT; rw [List.take_of_length_le h]
theorem lvT_len {bys ls : List LV} {j : Nat} (h : j ≤ ls.length) : (lvT bys ls j).length = j := by unfold lvT; rw [List.length_map, List.length_take]; omega
theorem levels1_spec (bys : List LV) (hb : bys.length ≤ LMax) (hbo : ∀ b, b ∈ bys → b.length ≤ LMax) (d : Int) (t : T) (ht : okT t) : Spec Tryd.prog glob 90 ([walkF d 90 [.ref (Lvs bys)], encT t] ++ [.ref (Lvs bys)]) [] (fun o _ => o.fgt = .ret (turnOut (levTurn bys) d t)) := by
  obtain ⟨kk, nn, aa, ls, ks⟩ := t
  have hll : ls.length ≤ LMax := ht.ll
  have hls := ht.ls
  simp only [T.ls_mk] at hls
  unfold turnOut levTurn
  simp only [T.k_mk, T.n_mk, T.a_mk, T.ls_mk, T.ks_mk]
  rw [← lvT_end (bys := bys) (Nat.le_refl _)]
  have hE : ∀ l, encT (.mk kk nn aa l ks) = .agg [.int .i64 kk, .int .i64 nn, .int .i64 aa, .slice (l.map encL) .any, .slice (ks.map encT) .any] := fun l => encT_eq _
  simp only [hE]
  unfold walkF Lvs
  refine Spec.movd globPure (wpD_spec tyOK Tryd.func90 rfl (enters _ _ Tryd.func90 rfl (by decide)) rfl rfl ?_)
  simp only [List.cons_append, List.nil_append]
  (refine wpD_seqk fun K hK => ?_; refine wpD_region tyOK ?_; ((try simp only [wpAft_ret, wpAft_pan, putS, updS, setS]); (repeat (rw [wpS_cons]; simp)); (try simp only [wpS_nil, thenD, blockD])); refine hK _ _ _ ?_; clear hK K)
  (refine wpD_seqk fun K hK => ?_; refine wpD_region tyOK ?_; ((try simp only [wpAft_ret, wpAft_pan, putS, updS, setS]); (repeat (rw [wpS_cons]; simp)); (try simp only [wpS_nil, thenD, blockD])); refine hK _ _ _ ?_; clear hK K)
  (refine wpD_seqk fun K hK => ?_; refine wpD_region tyOK ?_; ((try simp only [wpAft_ret, wpAft_pan, putS, updS, setS]); (repeat (rw [wpS_cons]; simp)); (try simp only [wpS_nil, thenD, blockD])); refine hK _ _ _ ?_; clear hK K)
  refine wpD_tokO 1 3 (ty := 27) (ds := [.int .i64 kk, .int .i64 nn, .int .i64 aa, .slice [] .full, .slice (ks.map encT) .any]) rfl ?_
  simp [D.tokd]
  refine wpD_seqk fun K1 hK1 => ?_
  (refine wpD_seqk fun K hK => ?_; refine wpD_region tyOK ?_; ((try simp only [wpAft_ret, wpAft_pan, putS, updS, setS]); (repeat (rw [wpS_cons]; simp)); (try simp only [wpS_nil, thenD, blockD])); refine hK _ _ _ ?_; clear hK K)
  refine wpD_rangeJ tyOK globPure (ti := 3) (tk := 15) (tn := 14) (td := 16) (ts := 27) [9, 15, 16, 17, 18, 19, 20, 21, 22, 23, 24, 25, 26, 27] [] (ls.length) (fun k ys hl => ys = [] ∧ hl = [.cells 127 [.int .i64 d, .fn (.func 90) [] [.ref (.slice (bys.map encL) .any)]], .cells 27 [.int .i64 kk, .int .i64 nn, .int .i64 aa, .slice ((lvT bys ls k).map encL) (.tok 3), .slice (ks.map encT) .any], .cells 27 [.int .i64 0, .int .i64 0, .int .i64 0, .slice [] .full, .slice [] .full], .tok]) rfl rfl rfl rfl rfl rfl rfl rfl rfl rfl rfl rfl (by simp) (by decide) rfl (by first | assumption | omega | (unfold LMax; omega)) rfl (by kernel_rfl) (by decide) ?_ ?_ ?_
  · exact ⟨rfl, rfl⟩
  · rintro i ys hl A hi ⟨rfl, rfl⟩ hA hA2
    simp only [putAll, List.set, List.map_cons, List.map_nil, List.cons_append, List.nil_append]
    have hi' : (i : Int) < ls.length := by omega
    have hsn := lvT_succ (bys := bys) hi
    have hln := lvT_len (bys := bys) (Nat.le_of_lt hi)
    have hp := put_spec ls[i] bys (hls _ (List.getElem_mem hi)).1 hb hbo
    unfold Lvs at hp
    obtain ⟨y, hy⟩ : ∃ y, ls[i] = y := ⟨_, rfl⟩
    rw [hy] at hp hsn
    have hel : (lvT bys ls i).length + 1 ≤ LMax := by omega
    generalize lvT bys ls i = es at hsn hln hel ⊢
    (refine wpD_seqk fun K hK => ?_; refine wpD_region tyOK ?_; ((try simp only [wpAft_ret, wpAft_pan, putS, updS, setS]); (repeat (rw [wpS_cons]; simp [hi, hi', hy])); (try simp only [wpS_nil, thenD, blockD])); refine hK _ _ _ ?_; clear hK K)
    (refine wpD_drawk tyOK (by kernel_rfl) (by kernel_rfl) fun KT hKT => ?_; ((try simp only [wpAftT_ret, wpAftT_pan, putS, updS, setS]); (repeat (rw [wpT_cons]; simp [hi, hi', hy])); (try simp only [wpT_nil])))
    refine CallY.pure globPure (hp) ?_ (by simp [D.fgts, D.fgt, encL]) (by simp [D.pures, D.pure, Cp.free, D.pures_map, encL]) (by simp [Out.pure, D.pure, D.pures, Cp.free, D.pures_map, encL])
    ((try simp only [wpAftT_ret, wpAftT_pan, putS, updS, setS]); (repeat (rw [wpT_cons]; simp [hel])); (try simp only [wpT_nil]))
    (refine hKT _ _ _ _ (by kernel_rfl) ?_; clear hKT KT; (try simp only [thenD, blockD]))
    (refine hA2 ([0, 1, 2, 5]) _ _ _ (LeT.refl _) (by decide) (by simp) (by simp [movT, movH, movD, D.mov, HO.mov, okM, renM, getW, D.ren, D.rens, D.okN, D.okNs, Cp.ren, Cp.okN, HO.ren, HO.okN, okA, renA, renO, hOf, handed, D.fgt, D.fgts, List.range_succ, List.idxOf_cons, putAll]) ?_ rfl; simp [movT, movH, movD, D.mov, HO.mov, okM, renM, getW, D.ren, D.rens, D.okN, D.okNs, Cp.ren, Cp.okN, HO.ren, HO.okN, okA, renA, renO, hOf, handed, D.fgt, D.fgts, List.range_succ, List.idxOf_cons])
    rw [hsn, show es.map encL ++ [encL (normOf (putL y bys))] = (es ++ [normOf (putL y bys)]).map encL by simp, mapL_ren]
  · rintro ys hl tl' ⟨rfl, rfl⟩ htl
    refine hK1 _ _ _ (wpD_weakL htl ?_)
    simp only [putAll, List.set, List.map_cons, List.map_nil, List.cons_append, List.nil_append]
    (refine wpD_seqk fun K hK => ?_; refine wpD_region tyOK ?_; ((try simp only [wpAft_ret, wpAft_pan, putS, updS, setS]); (repeat (rw [wpS_cons]; simp)); (try simp only [wpS_nil, thenD, blockD])); refine hK _ _ _ ?_; clear hK K)
    (refine wpD_ret ?_; (try simp only [thenD, blockD]); refine EndQ.ret rfl (.inl ?_); simp [tmOf, Out.fgt, D.fgt, D.fgts])
theorem levels_spec (t : T) (bys : List LV) (hb : bys.length ≤ LMax) (hbo : ∀ b, b ∈ bys → b.length ≤ LMax) (hd : t.deep ≤ DM) (ht : okT t) : Spec Tryd.prog glob 35 [encT t, Lvs bys] [] (fun o _ => o.fgt = .ret (encT (t.levels bys 0))) := by
  have hw := walkT_spec (levTurn bys) 90 [.ref (Lvs bys)] rfl (by simp [D.pures, D.pure, Lvs_pure]) (fun d t _ => levels1_spec bys hb hbo d t) t 0 ⟨by omega, by omega⟩ ht
  unfold walkF at hw
  rw [show T.walk (levTurn bys) t 0 = t.levels bys 0 from rfl] at hw
  generalize t.levels bys 0 = r at hw ⊢
  rw [encT_eq t] at hw
  unfold Lvs at hw ⊢
  refine Spec.movd globPure (wpD_spec tyOK Tryd.func35 rfl (enters _ _ Tryd.func35 rfl (by decide)) rfl rfl ?_)
  (refine wpD_seqk fun K hK => ?_; refine wpD_region tyOK ?_; ((try simp only [wpAft_ret, wpAft_pan, putS, updS, setS]); (repeat (rw [wpS_cons]; simp)); (try simp only [wpS_nil, thenD, blockD])); refine hK _ _ _ ?_; clear hK K)
  (refine wpD_stay (T := tyOf) 1 (ty := 24) (ds := [.slice (bys.map encL) .any]) rfl rfl (by first | exact ⟨rfl, .inr ⟨_, rfl, rfl⟩⟩ | exact ⟨rfl, .inl rfl⟩) ?_; simp [D.frzs, D.frz, HO.frz, dfFrz, refOf, TK.isAgg, FK.isB, FK.isM, FK.isO, D.isLen])
  (refine wpD_seqk fun K hK => ?_; refine wpD_region tyOK ?_; ((try simp only [wpAft_ret, wpAft_pan, putS, updS, setS]); (repeat (rw [wpS_cons]; simp)); (try simp only [wpS_nil, thenD, blockD])))
  refine CallX.pure globPure (hw) ?_ (by simp [D.fgts, D.fgt]) (by simp [D.pures, D.pure, Cp.free, D.pures_map]) (by simp [Out.pure, D.pure, D.pures, Cp.free, D.pures_map])
  ((try simp only [wpAft_ret, wpAft_pan, putS, updS, setS]); (repeat (rw [wpS_cons]; simp)); (try simp only [wpS_nil, thenD, blockD]))
  (refine hK _ _ _ ?_; clear hK K)
  (refine wpD_ret ?_; (try simp only [thenD, blockD]); refine EndQ.ret rfl (.inl ?_); simp [tmOf, Out.fgt, D.fgt, D.fgts])
  exact (encT_eq r).symm
end Go.Proofs.YtebmlojhdnldgaaDoor

namespace Go.Proofs.YtebmlojhdnldgaaDoor
set_option linter.unusedSimpArgs false
set_option linter.unusedVariables false
set_option maxHeartbeats 10000000
set_option maxRecDepth 20000
open Go.RowKit
attribute [local simp] wpAft_ret wpAft_pan wantD evOp opD tmOf putS updS setS hOf isFree isTok fillD TK.isAgg TK.known partD thenD blockD putAll D.ofV inB nilTest isNilS binX binD binE isCst bndD capB IntKind.min IntKind.max IntKind.signed IntKind.bits dstOf late
theorem free_spec (t : T) (fr to : Int) (ht : okT t) : Spec Tryd.prog glob 32 [encT t, .int .i64 fr, .int .i64 to] [] (fun o _ => o.fgt = .ret (.bool (t.freeB fr to 0))) := by
  have hw := wfree_spec fr to t 0 ht
  unfold walk0 at hw
  rw [encT_eq t] at hw ⊢
  refine Spec.movd globPure (wpD_spec tyOK Tryd.func32 rfl (enters _ _ Tryd.func32 rfl (by decide)) rfl rfl ?_)
  (refine wpD_seqk fun K hK => ?_; refine wpD_region tyOK ?_; ((try simp only [wpAft_ret, wpAft_pan, putS, updS, setS]); (repeat (rw [wpS_cons]; simp)); (try simp only [wpS_nil, thenD, blockD])); refine hK _ _ _ ?_; clear hK K)
  (refine wpD_seqk fun K hK => ?_; refine wpD_region tyOK ?_; ((try simp only [wpAft_ret, wpAft_pan, putS, updS, setS]); (repeat (rw [wpS_cons]; simp)); (try simp only [wpS_nil, thenD, blockD])))
  refine CallX.pure globPure (hw) ?_ (by simp [D.fgts, D.fgt]) (by simp [D.pures, D.pure, Cp.free, D.pures_map]) (by simp [Out.pure, D.pure, D.pures, Cp.free, D.pures_map])
  ((try simp only [wpAft_ret, wpAft_pan, putS, updS, setS]); (repeat (rw [wpS_cons]; simp)); (try simp only [wpS_nil, thenD, blockD]))
  (refine hK _ _ _ ?_; clear hK K)
  (refine wpD_ret ?_; (try simp only [thenD, blockD]); refine EndQ.ret rfl (.inl ?_); simp [tmOf, Out.fgt, D.fgt, D.fgts])
def eqAll {α : Type} (p : α → α → Bool) : List α → List α → Bool
  | [], [] => true
  | a :: r, b :: s => p a b && eqAll p r s
  | _, _ => false
theorem eqAll_len {α : Type} {p : α → α → Bool} : ∀ {l m : List α}, l.length ≠ m.length → eqAll p l m = false
  | [], [], h => absurd rfl h
  | [], _ :: _, _ => rfl
  | _ :: _, [], _ => rfl
  | a :: r, b :: s, h => by
    rw [eqAll, eqAll_len (l := r) (m := s) (by simpa using h), Bool.and_false]
theorem eqAll_drop {α : Type} {p : α → α → Bool} {l m : List α} {k : Nat} (h : k < l.length) (h' : k < m.length) : eqAll p (l.drop k) (m.drop k) = (p l[k] m[k] && eqAll p (l.drop (k + 1)) (m.drop (k + 1))) := by
  rw [List.drop_eq_getElem_cons h, List.drop_eq_getElem_cons h', eqAll]
theorem eqAll_end {α : Type} {p : α → α → Bool} {l m : List α} (h : l.length = m.length) : eqAll p (l.drop l.length) (m.drop l.length) = true := by
  rw [List.drop_length, h, List.drop_length]; rfl
theorem equalFuncL_spec (p : LV → LV → Bool) (g : FuncId) (l m : List LV) (hl : l.length ≤ LMax) (hm : m.length ≤ LMax) (hg : ∀ x y, x ∈ l → y ∈ m → Spec Tryd.prog glob g [encL x, encL y] [] (fun o _ => o.fgt = .ret (.bool (p x y)))) :
    Spec Tryd.prog glob 86 [.slice (l.map encL) .any, .slice (m.map encL) .any, .fn (.func g) [] []] [] (fun o _ => o.fgt = .ret (.bool (eqAll p l m))) := by
  obtain ⟨R, hR⟩ : ∃ R, R = eqAll p l m := ⟨_, rfl⟩
  rw [← hR]
  refine Spec.movd globPure (wpD_spec tyOK Tryd.func86 rfl (enters _ _ Tryd.func86 rfl (by decide)) rfl rfl ?_)
  (refine wpD_seqk fun K hK => ?_; refine wpD_region tyOK ?_; ((try simp only [wpAft_ret, wpAft_pan, putS, updS, setS]); (repeat (rw [wpS_cons]; simp)); (try simp only [wpS_nil, thenD, blockD])); refine hK _ _ _ ?_; clear hK K)
  refine wpD_seqk fun K1 hK1 => ?_
  by_cases hlen : l.length = m.length
  · have hlen' : (l.length : Int) = m.length := by omega
    (refine wpD_seqk fun K hK => ?_; refine wpD_region tyOK ?_; ((try simp only [wpAft_ret, wpAft_pan, putS, updS, setS]); (repeat (rw [wpS_cons]; simp [hlen, hlen'])); (try simp only [wpS_nil, thenD, blockD])); refine hK _ _ _ ?_; clear hK K)
    refine wpD_part rfl (fun h => by simp at h) (fun _ => ?_)
    refine wpD_skip (hK1 _ _ _ ?_)
    clear hK1 K1
    refine wpD_seqk fun K1 hK1 => ?_
    (refine wpD_seqk fun K hK => ?_; refine wpD_region tyOK ?_; ((try simp only [wpAft_ret, wpAft_pan, putS, updS, setS]); (repeat (rw [wpS_cons]; simp)); (try simp only [wpS_nil, thenD, blockD])); refine hK _ _ _ ?_; clear hK K)
    rw [← hlen]
    refine wpD_rangeJ tyOK globPure (ti := 3) (tk := 17) (tn := 16) (td := 18) (ts := 31) [6, 7, 8, 9, 17, 18, 19, 20, 21, 22, 23, 24, 25, 26, 27, 28, 29, 30, 31] [] (l.length) (fun k ys hl => ys = [] ∧ R = eqAll p (l.drop k) (m.drop k) ∧ hl = []) rfl rfl rfl rfl rfl rfl rfl rfl rfl rfl rfl rfl (by simp) (by decide) rfl (by first | assumption | omega | (unfold LMax; omega)) rfl (by kernel_rfl) (by decide) ?_ ?_ ?_
    · exact ⟨rfl, hR, rfl⟩
    · rintro i ys hl A hi ⟨rfl, hF, rfl⟩ hA hA2
      simp only [putAll, List.set, List.map_cons, List.map_nil, List.cons_append, List.nil_append]
      have hi2 : i < m.length := by omega
      have hi' : (i : Int) < l.length := by omega
      have hi2' : (i : Int) < m.length := by omega
      rw [eqAll_drop hi hi2] at hF
      have hrec := hg l[i] m[i] (List.getElem_mem hi) (List.getElem_mem hi2)
      obtain ⟨x, hx⟩ : ∃ x, l[i] = x := ⟨_, rfl⟩
      obtain ⟨y, hy⟩ : ∃ y, m[i] = y := ⟨_, rfl⟩
      rw [hx, hy] at hrec hF
      unfold encL at hrec
      generalize p x y = B at hrec hF
      (refine wpD_seqk fun K hK => ?_; refine wpD_region tyOK ?_; ((try simp only [wpAft_ret, wpAft_pan, putS, updS, setS]); (repeat (rw [wpS_cons]; simp [hi, hi', hx, encL])); (try simp only [wpS_nil, thenD, blockD])); refine hK _ _ _ ?_; clear hK K)
      (refine wpD_seqk fun K hK => ?_; refine wpD_region tyOK ?_; ((try simp only [wpAft_ret, wpAft_pan, putS, updS, setS]); (repeat (rw [wpS_cons]; simp [hi2, hi2', hy, encL])); (try simp only [wpS_nil, thenD, blockD])); refine hK _ _ _ ?_; clear hK K)
      (refine wpD_seqk fun K hK => ?_; refine wpD_region tyOK ?_; ((try simp only [wpAft_ret, wpAft_pan, putS, updS, setS]); (repeat (rw [wpS_cons]; simp)); (try simp only [wpS_nil, thenD, blockD])))
      refine CallX.pure globPure (hrec) ?_ (by simp [D.fgts, D.fgt]) (by simp [D.pures, D.pure, Cp.free, D.pures_map]) (by simp [Out.pure, D.pure, D.pures, Cp.free, D.pures_map])
      ((try simp only [wpAft_ret, wpAft_pan, putS, updS, setS]); (repeat (rw [wpS_cons]; simp)); (try simp only [wpS_nil, thenD, blockD]))
      (refine hK _ _ _ ?_; clear hK K)
      cases B with
      | true =>
        refine wpD_part rfl (fun h => by simp at h) (fun _ => ?_)
        refine wpD_skip ?_
        (refine hA2 ([]) _ _ _ (LeT.refl _) (by decide) (by simp) (by simp [movT, movH, movD, D.mov, HO.mov, okM, renM, getW, D.ren, D.rens, D.okN, D.okNs, Cp.ren, Cp.okN, HO.ren, HO.okN, okA, renA, renO, hOf, handed, D.fgt, D.fgts, List.range_succ, List.idxOf_cons, putAll]) ?_ rfl; simp [movT, movH, movD, D.mov, HO.mov, okM, renM, getW, D.ren, D.rens, D.okN, D.okNs, Cp.ren, Cp.okN, HO.ren, HO.okN, okA, renA, renO, hOf, handed, D.fgt, D.fgts, List.range_succ, List.idxOf_cons])
        simpa using hF
      | false =>
        refine wpD_part rfl (fun _ => ?_) (fun h => by simp at h)
        (refine wpD_seqk fun K hK => ?_; refine wpD_region tyOK ?_; ((try simp only [wpAft_ret, wpAft_pan, putS, updS, setS]); (repeat (rw [wpS_cons]; simp)); (try simp only [wpS_nil, thenD, blockD])); refine hK _ _ _ ?_; clear hK K)
        (refine wpD_ret ?_; (try simp only [thenD, blockD]); refine EndQ.ret rfl (.inl ?_); simp [tmOf, Out.fgt, D.fgt, D.fgts])
        simpa using hF
    · rintro ys hl tl' ⟨rfl, hF, rfl⟩ htl
      refine hK1 _ _ _ (wpD_weakL htl ?_)
      simp only [putAll, List.set, List.map_cons, List.map_nil, List.cons_append, List.nil_append]
      rw [eqAll_end hlen] at hF
      subst hF
      (refine wpD_seqk fun K hK => ?_; refine wpD_region tyOK ?_; ((try simp only [wpAft_ret, wpAft_pan, putS, updS, setS]); (repeat (rw [wpS_cons]; simp)); (try simp only [wpS_nil, thenD, blockD])); refine hK _ _ _ ?_; clear hK K)
      (refine wpD_ret ?_; (try simp only [thenD, blockD]); refine EndQ.ret rfl (.inl ?_); simp [tmOf, Out.fgt, D.fgt, D.fgts])
  · have hlen' : ¬ (l.length : Int) = m.length := by omega
    (refine wpD_seqk fun K hK => ?_; refine wpD_region tyOK ?_; ((try simp only [wpAft_ret, wpAft_pan, putS, updS, setS]); (repeat (rw [wpS_cons]; simp [hlen, hlen'])); (try simp only [wpS_nil, thenD, blockD])); refine hK _ _ _ ?_; clear hK K)
    refine wpD_part rfl (fun _ => ?_) (fun h => by simp at h)
    (refine wpD_seqk fun K hK => ?_; refine wpD_region tyOK ?_; ((try simp only [wpAft_ret, wpAft_pan, putS, updS, setS]); (repeat (rw [wpS_cons]; simp)); (try simp only [wpS_nil, thenD, blockD])); refine hK _ _ _ ?_; clear hK K)
    (refine wpD_ret ?_; (try simp only [thenD, blockD]); refine EndQ.ret rfl (.inl ?_); simp [tmOf, Out.fgt, D.fgt, D.fgts])
    rw [hR]; exact eqAll_len hlen
theorem equalFuncT_spec (p : T → T → Bool) (g : FuncId) (l m : List T) (hl : l.length ≤ LMax) (hm : m.length ≤ LMax) (hg : ∀ x y, x ∈ l → y ∈ m → Spec Tryd.prog glob g [encT x, encT y] [] (fun o _ => o.fgt = .ret (.bool (p x y)))) :
    Spec Tryd.prog glob 88 [.slice (l.map encT) .any, .slice (m.map encT) .any, .fn (.func g) [] []] [] (fun o _ => o.fgt = .ret (.bool (eqAll p l m))) := by
  obtain ⟨R, hR⟩ : ∃ R, R = eqAll p l m := ⟨_, rfl⟩
  rw [← hR]
  refine Spec.movd globPure (wpD_spec tyOK Tryd.func88 rfl (enters _ _ Tryd.func88 rfl (by decide)) rfl rfl ?_)
  (refine wpD_seqk fun K hK => ?_; refine wpD_region tyOK ?_; ((try simp only [wpAft_ret, wpAft_pan, putS, updS, setS]); (repeat (rw [wpS_cons]; simp)); (try simp only [wpS_nil, thenD, blockD])); refine hK _ _ _ ?_; clear hK K)
  refine wpD_seqk fun K1 hK1 => ?_
  by_cases hlen : l.length = m.length
  · have hlen' : (l.length : Int) = m.length := by omega
    (refine wpD_seqk fun K hK => ?_; refine wpD_region tyOK ?_; ((try simp only [wpAft_ret, wpAft_pan, putS, updS, setS]); (repeat (rw [wpS_cons]; simp [hlen, hlen'])); (try simp only [wpS_nil, thenD, blockD])); refine hK _ _ _ ?_; clear hK K)
    refine wpD_part rfl (fun h => by simp at h) (fun _ => ?_)
    refine wpD_skip (hK1 _ _ _ ?_)
    clear hK1 K1
    refine wpD_seqk fun K1 hK1 => ?_
    (refine wpD_seqk fun K hK => ?_; refine wpD_region tyOK ?_; ((try simp only [wpAft_ret, wpAft_pan, putS, updS, setS]); (repeat (rw [wpS_cons]; simp)); (try simp only [wpS_nil, thenD, blockD])); refine hK _ _ _ ?_; clear hK K)
    rw [← hlen]
    refine wpD_rangeJ tyOK globPure (ti := 3) (tk := 17) (tn := 16) (td := 18) (ts := 31) [6, 7, 8, 9, 17, 18, 19, 20, 21, 22, 23, 24, 25, 26, 27, 28, 29, 30, 31] [] (l.length) (fun k ys hl => ys = [] ∧ R = eqAll p (l.drop k) (m.drop k) ∧ hl = []) rfl rfl rfl rfl rfl rfl rfl rfl rfl rfl rfl rfl (by simp) (by decide) rfl (by first | assumption | omega | (unfold LMax; omega)) rfl (by kernel_rfl) (by decide) ?_ ?_ ?_
    · exact ⟨rfl, hR, rfl⟩
    · rintro i ys hl A hi ⟨rfl, hF, rfl⟩ hA hA2
      simp only [putAll, List.set, List.map_cons, List.map_nil, List.cons_append, List.nil_append]
      have hi2 : i < m.length := by omega
      have hi' : (i : Int) < l.length := by omega
      have hi2' : (i : Int) < m.length := by omega
      rw [eqAll_drop hi hi2] at hF
      have hrec := hg l[i] m[i] (List.getElem_mem hi) (List.getElem_mem hi2)
      obtain ⟨x, hx⟩ : ∃ x, l[i] = x := ⟨_, rfl⟩
      obtain ⟨y, hy⟩ : ∃ y, m[i] = y := ⟨_, rfl⟩
      rw [hx, hy] at hrec hF
      have hEx := encT_eq x
      have hEy := encT_eq y
      rw [hEx, hEy] at hrec
      generalize p x y = B at hrec hF
      (refine wpD_seqk fun K hK => ?_; refine wpD_region tyOK ?_; ((try simp only [wpAft_ret, wpAft_pan, putS, updS, setS]); (repeat (rw [wpS_cons]; simp [hi, hi', hx, hEx])); (try simp only [wpS_nil, thenD, blockD])); refine hK _ _ _ ?_; clear hK K)
      (refine wpD_seqk fun K hK => ?_; refine wpD_region tyOK ?_; ((try simp only [wpAft_ret, wpAft_pan, putS, updS, setS]); (repeat (rw [wpS_cons]; simp [hi2, hi2', hy, hEy])); (try simp only [wpS_nil, thenD, blockD])); refine hK _ _ _ ?_; clear hK K)
      (refine wpD_seqk fun K hK => ?_; refine wpD_region tyOK ?_; ((try simp only [wpAft_ret, wpAft_pan, putS, updS, setS]); (repeat (rw [wpS_cons]; simp)); (try simp only [wpS_nil, thenD, blockD])))
      refine CallX.pure globPure (hrec) ?_ (by simp [D.fgts, D.fgt]) (by simp [D.pures, D.pure, Cp.free, D.pures_map]) (by simp [Out.pure, D.pure, D.pures, Cp.free, D.pures_map])
      ((try simp only [wpAft_ret, wpAft_pan, putS, updS, setS]); (repeat (rw [wpS_cons]; simp)); (try simp only [wpS_nil, thenD, blockD]))
      (refine hK _ _ _ ?_; clear hK K)
      cases B with
      | true =>
        refine wpD_part rfl (fun h => by simp at h) (fun _ => ?_)
        refine wpD_skip ?_
        (refine hA2 ([]) _ _ _ (LeT.refl _) (by decide) (by simp) (by simp [movT, movH, movD, D.mov, HO.mov, okM, renM, getW, D.ren, D.rens, D.okN, D.okNs, Cp.ren, Cp.okN, HO.ren, HO.okN, okA, renA, renO, hOf, handed, D.fgt, D.fgts, List.range_succ, List.idxOf_cons, putAll]) ?_ rfl; simp [movT, movH, movD, D.mov, HO.mov, okM, renM, getW, D.ren, D.rens, D.okN, D.okNs, Cp.ren, Cp.okN, HO.ren, HO.okN, okA, renA, renO, hOf, handed, D.fgt, D.fgts, List.range_succ, List.idxOf_cons])
        simpa using hF
      | false =>
        refine wpD_part rfl (fun _ => ?_) (fun h => by simp at h)
        (refine wpD_seqk fun K hK => ?_; refine wpD_region tyOK ?_; ((try simp only [wpAft_ret, wpAft_pan, putS, updS, setS]); (repeat (rw [wpS_cons]; simp)); (try simp only [wpS_nil, thenD, blockD])); refine hK _ _ _ ?_; clear hK K)
        (refine wpD_ret ?_; (try simp only [thenD, blockD]); refine EndQ.ret rfl (.inl ?_); simp [tmOf, Out.fgt, D.fgt, D.fgts])
        simpa using hF
    · rintro ys hl tl' ⟨rfl, hF, rfl⟩ htl
      refine hK1 _ _ _ (wpD_weakL htl ?_)
      simp only [putAll, List.set, List.map_cons, List.map_nil, List.cons_append, List.nil_append]
      rw [eqAll_end hlen] at hF
      subst hF
      (refine wpD_seqk fun K hK => ?_; refine wpD_region tyOK ?_; ((try simp only [wpAft_ret, wpAft_pan, putS, updS, setS]); (repeat (rw [wpS_cons]; simp)); (try simp only [wpS_nil, thenD, blockD])); refine hK _ _ _ ?_; clear hK K)
      (refine wpD_ret ?_; (try simp only [thenD, blockD]); refine EndQ.ret rfl (.inl ?_); simp [tmOf, Out.fgt, D.fgt, D.fgts])
  · have hlen' : ¬ (l.length : Int) = m.length := by omega
    (refine wpD_seqk fun K hK => ?_; refine wpD_region tyOK ?_; ((try simp only [wpAft_ret, wpAft_pan, putS, updS, setS]); (repeat (rw [wpS_cons]; simp [hlen, hlen'])); (try simp only [wpS_nil, thenD, blockD])); refine hK _ _ _ ?_; clear hK K)
    refine wpD_part rfl (fun _ => ?_) (fun h => by simp at h)
    (refine wpD_seqk fun K hK => ?_; refine wpD_region tyOK ?_; ((try simp only [wpAft_ret, wpAft_pan, putS, updS, setS]); (repeat (rw [wpS_cons]; simp)); (try simp only [wpS_nil, thenD, blockD])); refine hK _ _ _ ?_; clear hK K)
    (refine wpD_ret ?_; (try simp only [thenD, blockD]); refine EndQ.ret rfl (.inl ?_); simp [tmOf, Out.fgt, D.fgt, D.fgts])
    rw [hR]; exact eqAll_len hlen
def sameLs : List LV → List LV → Bool
  | [], [] => true
  | a :: r, b :: s => decide (normOf a = normOf b) && sameLs r s
  | _, _ => false
theorem sameLs_all : ∀ l m : List LV, sameLs l m = eqAll (fun a b => decide (normOf a = normOf b)) l m
  | [], [] => rfl
  | a :: r, b :: s => by rw [sameLs, sameLs_all r s]; rfl
  | [], _ :: _ => rfl
  | _ :: _, [] => rfl
mutual
def T.sameB : T → T → Bool
  | .mk k n a ls ks, .mk k' n' a' ls' ks' => decide (k = k') && decide (n = n') && decide (a = a') && sameLs ls ls' && T.samesB ks ks'
def T.samesB : List T → List T → Bool
  | [], [] => true
  | a :: r, b :: s => T.sameB a b && T.samesB r s
  | [], _ :: _ => false
  | _ :: _, [] => false
end
theorem sames_all : ∀ l m : List T, T.samesB l m = eqAll T.sameB l m
  | [], [] => by rw [T.samesB]; rfl
  | a :: r, b :: s => by rw [T.samesB, sames_all r s]; rfl
  | [], _ :: _ => by rw [T.samesB]; rfl
  | _ :: _, [] => by rw [T.samesB]; rfl
theorem sameT_spec (t : T) : ∀ u, okT t → okT u → Spec Tryd.prog glob 33 [encT t, encT u] [] (fun o _ => o.fgt = .ret (.bool (t.sameB u))) := by
  induction t using T.ind with
  | h k n a ls ks ih =>
    rintro ⟨k', n', a', ls', ks'⟩ ht hu
    have hll : ls.length ≤ LMax := ht.ll
    have hll' : ls'.length ≤ LMax := hu.ll
    have hkl : ks.length ≤ LMax := ht.kl
    have hkl' : ks'.length ≤ LMax := hu.kl
    have hls := ht.ls
    have hls' := hu.ls
    have hks := ht.ks
    have hks' := hu.ks
    simp only [T.ls_mk, T.ks_mk] at hls hls' hks hks'
    have hL := equalFuncL_spec (fun a b => decide (normOf a = normOf b)) 87 ls ls' hll hll' (fun x y hx hy => same_spec x y (hls x hx).1 (hls' y hy).1)
    have hT := equalFuncT_spec T.sameB 33 ks ks' hkl hkl' (fun x y hx hy => ih x hx y (hks x hx) (hks' y hy))
    have hF : (T.mk k n a ls ks).sameB (.mk k' n' a' ls' ks') = (decide (k = k') && decide (n = n') && decide (a = a') && sameLs ls ls' && T.samesB ks ks') := by rw [T.sameB]
    rw [hF, sames_all, sameLs_all]
    generalize eqAll T.sameB ks ks' = B2 at hT ⊢
    generalize eqAll (fun a b => decide (normOf a = normOf b)) ls ls' = B1 at hL ⊢
    clear hF ih hll hll' hkl hkl' hls hls' hks hks' ht hu
    rw [encT_eq, encT_eq]
    simp only [T.k_mk, T.n_mk, T.a_mk, T.ls_mk, T.ks_mk]
    refine Spec.movd globPure (wpD_spec tyOK Tryd.func33 rfl (enters _ _ Tryd.func33 rfl (by decide)) rfl rfl ?_)
    (refine wpD_seqk fun K hK => ?_; refine wpD_region tyOK ?_; ((try simp only [wpAft_ret, wpAft_pan, putS, updS, setS]); (repeat (rw [wpS_cons]; simp)); (try simp only [wpS_nil, thenD, blockD])); refine hK _ _ _ ?_; clear hK K)
    by_cases h1 : k = k'
    · subst h1
      by_cases h2 : n = n'
      · subst h2
        by_cases h3 : a = a'
        · subst h3
          cases B1 with
          | true =>
            (refine wpD_seqk fun K hK => ?_; refine wpD_region tyOK ?_; ((try simp only [wpAft_ret, wpAft_pan, putS, updS, setS]); (repeat (rw [wpS_cons]; simp)); (try simp only [wpS_nil, thenD, blockD])))
            refine CallX.pure globPure (hL) ?_ (by simp [D.fgts, D.fgt]) (by simp [D.pures, D.pure, Cp.free, D.pures_map]) (by simp [Out.pure, D.pure, D.pures, Cp.free, D.pures_map])
            ((try simp only [wpAft_ret, wpAft_pan, putS, updS, setS]); (repeat (rw [wpS_cons]; simp)); (try simp only [wpS_nil, thenD, blockD]))
            refine CallX.pure globPure (hT) ?_ (by simp [D.fgts, D.fgt]) (by simp [D.pures, D.pure, Cp.free, D.pures_map]) (by simp [Out.pure, D.pure, D.pures, Cp.free, D.pures_map])
            ((try simp only [wpAft_ret, wpAft_pan, putS, updS, setS]); (repeat (rw [wpS_cons]; simp)); (try simp only [wpS_nil, thenD, blockD]))
            (refine hK _ _ _ ?_; clear hK K)
            (refine wpD_ret ?_; (try simp only [thenD, blockD]); refine EndQ.ret rfl (.inl ?_); simp [tmOf, Out.fgt, D.fgt, D.fgts])
          | false =>
            (refine wpD_seqk fun K hK => ?_; refine wpD_region tyOK ?_; ((try simp only [wpAft_ret, wpAft_pan, putS, updS, setS]); (repeat (rw [wpS_cons]; simp)); (try simp only [wpS_nil, thenD, blockD])))
            refine CallX.pure globPure (hL) ?_ (by simp [D.fgts, D.fgt]) (by simp [D.pures, D.pure, Cp.free, D.pures_map]) (by simp [Out.pure, D.pure, D.pures, Cp.free, D.pures_map])
            ((try simp only [wpAft_ret, wpAft_pan, putS, updS, setS]); (repeat (rw [wpS_cons]; simp)); (try simp only [wpS_nil, thenD, blockD]))
            (refine hK _ _ _ ?_; clear hK K)
            (refine wpD_ret ?_; (try simp only [thenD, blockD]); refine EndQ.ret rfl (.inl ?_); simp [tmOf, Out.fgt, D.fgt, D.fgts])
        · (refine wpD_seqk fun K hK => ?_; refine wpD_region tyOK ?_; ((try simp only [wpAft_ret, wpAft_pan, putS, updS, setS]); (repeat (rw [wpS_cons]; simp [h3])); (try simp only [wpS_nil, thenD, blockD])); refine hK _ _ _ ?_; clear hK K)
          (refine wpD_ret ?_; (try simp only [thenD, blockD]); refine EndQ.ret rfl (.inl ?_); simp [tmOf, Out.fgt, D.fgt, D.fgts])
          simp [h3]
      · (refine wpD_seqk fun K hK => ?_; refine wpD_region tyOK ?_; ((try simp only [wpAft_ret, wpAft_pan, putS, updS, setS]); (repeat (rw [wpS_cons]; simp [h2])); (try simp only [wpS_nil, thenD, blockD])); refine hK _ _ _ ?_; clear hK K)
        (refine wpD_ret ?_; (try simp only [thenD, blockD]); refine EndQ.ret rfl (.inl ?_); simp [tmOf, Out.fgt, D.fgt, D.fgts])
        simp [h2]
    · (refine wpD_seqk fun K hK => ?_; refine wpD_region tyOK ?_; ((try simp only [wpAft_ret, wpAft_pan, putS, updS, setS]); (repeat (rw [wpS_cons]; simp [h1])); (try simp only [wpS_nil, thenD, blockD])); refine hK _ _ _ ?_; clear hK K)
      (refine wpD_ret ?_; (try simp only [thenD, blockD]); refine EndQ.ret rfl (.inl ?_); simp [tmOf, Out.fgt, D.fgt, D.fgts])
      simp [h1]
end Go.Proofs.YtebmlojhdnldgaaDoor

namespace Go.Proofs.YtebmlojhdnldgaaDoor
set_option linter.unusedSimpArgs false
set_option linter.unusedVariables false
set_option maxHeartbeats 10000000
set_option maxRecDepth 20000
open Go.RowKit
attribute [local simp] wpAft_ret wpAft_pan wantD evOp opD tmOf putS updS setS hOf isFree isTok fillD TK.isAgg TK.known partD thenD blockD putAll D.ofV inB nilTest isNilS binX binD binE isCst bndD capB IntKind.min IntKind.max IntKind.signed IntKind.bits dstOf late
theorem sameLevels_gen (p : LV → LV → Bool) (l m : List (LV)) (hl : l.length ≤ LMax) (hm : m.length ≤ LMax) (hg : ∀ x y, x ∈ l → y ∈ m → Spec Tryd.prog glob 64 [encL x, encL y] [] (fun o _ => o.fgt = .ret (.bool (p x y)))) :
    Spec Tryd.prog glob 69 [.slice (l.map encL) .any, .slice (m.map encL) .any] [] (fun o _ => o.fgt = .ret (.bool (eqAll p l m))) := by
  obtain ⟨R, hR⟩ : ∃ R, R = eqAll p l m := ⟨_, rfl⟩
  rw [← hR]
  have hl0 := hl
  unfold LMax at hl0
  refine Spec.movd globPure (wpD_spec tyOK Tryd.func69 rfl (enters _ _ Tryd.func69 rfl (by decide)) rfl rfl ?_)
  (refine wpD_seqk fun K hK => ?_; refine wpD_region tyOK ?_; ((try simp only [wpAft_ret, wpAft_pan, putS, updS, setS]); (repeat (rw [wpS_cons]; simp)); (try simp only [wpS_nil, thenD, blockD])); refine hK _ _ _ ?_; clear hK K)
  refine wpD_seqk fun K1 hK1 => ?_
  by_cases hlen : l.length = m.length
  · have hlen' : (l.length : Int) = m.length := by omega
    (refine wpD_seqk fun K hK => ?_; refine wpD_region tyOK ?_; ((try simp only [wpAft_ret, wpAft_pan, putS, updS, setS]); (repeat (rw [wpS_cons]; simp [hlen, hlen'])); (try simp only [wpS_nil, thenD, blockD])); refine hK _ _ _ ?_; clear hK K)
    refine wpD_part rfl (fun h => by simp at h) (fun _ => ?_)
    refine wpD_skip (hK1 _ _ _ ?_)
    clear hK1 K1
    refine wpD_seqk fun K1 hK1 => ?_
    (refine wpD_seqk fun K hK => ?_; refine wpD_region tyOK ?_; ((try simp only [wpAft_ret, wpAft_pan, putS, updS, setS]); (repeat (rw [wpS_cons]; simp)); (try simp only [wpS_nil, thenD, blockD])); refine hK _ _ _ ?_; clear hK K)
    refine wpD_block ?_
    refine wpD_loopWJ [4, 11, 12, 13, 14, 15, 16, 17, 18, 19, 20, 21, 22, 23, 24, 25, 26] [5] (fun n ys hl => ∃ (k : Nat), ys = [.int .i64 k] ∧ n + k = l.length ∧ R = eqAll p (l.drop k) (m.drop k) ∧ hl = []) (l.length) (by kernel_rfl) ?_ ?_
    · exact ⟨0, rfl, rfl, hR, rfl⟩
    · rintro n ys hl A hA ⟨i, rfl, hn, hF, rfl⟩
      simp only [putAll, List.set, List.map_cons, List.map_nil, List.cons_append, List.nil_append]
      refine wpD_seqk fun K2 hK2 => ?_
      by_cases hi : i < l.length
      · have hi2 : i < m.length := by omega
        have hi' : (i : Int) < l.length := by omega
        have hi2' : (i : Int) < m.length := by omega
        (refine wpD_seqk fun K hK => ?_; refine wpD_region tyOK ?_; ((try simp only [wpAft_ret, wpAft_pan, putS, updS, setS]); (repeat (rw [wpS_cons]; simp [hi, hi'])); (try simp only [wpS_nil, thenD, blockD])); refine hK _ _ _ ?_; clear hK K)
        refine wpD_part rfl (fun _ => ?_) (fun h => by simp at h)
        refine wpD_skip (hK2 _ _ _ ?_)
        clear hK2 K2
        refine wpD_seqk fun K3 hK3 => ?_
        refine wpD_block ?_
        rw [eqAll_drop hi hi2] at hF
        have hrec := hg l[i] m[i] (List.getElem_mem hi) (List.getElem_mem hi2)
        obtain ⟨x, hx⟩ : ∃ x, l[i] = x := ⟨_, rfl⟩
        obtain ⟨y, hy⟩ : ∃ y, m[i] = y := ⟨_, rfl⟩
        rw [hx, hy] at hrec hF
        have hEx : encL x = .agg [.slice (x.map encP) .any] := rfl
        have hEy : encL y = .agg [.slice (y.map encP) .any] := rfl
        rw [hEx, hEy] at hrec
        generalize p x y = B at hrec hF
        (refine wpD_seqk fun K hK => ?_; refine wpD_drawk tyOK (by kernel_rfl) (by kernel_rfl) fun KT hKT => ?_; ((try simp only [wpAftT_ret, wpAftT_pan, putS, updS, setS]); (repeat (rw [wpT_cons]; simp [hi, hi', hx, hi2, hi2', hy, hEx, hEy])); (try simp only [wpT_nil])))
        refine CallY.pure globPure (hrec) ?_ (by simp [D.fgts, D.fgt]) (by simp [D.pures, D.pure, Cp.free, D.pures_map]) (by simp [Out.pure, D.pure, D.pures, Cp.free, D.pures_map])
        ((try simp only [wpAftT_ret, wpAftT_pan, putS, updS, setS]); (repeat (rw [wpT_cons]; simp)); (try simp only [wpT_nil]))
        (refine hKT _ _ _ _ (by kernel_rfl) ?_; clear hKT KT; (try simp only [thenD, blockD]))
        (refine hK _ _ _ ?_; clear hK K)
        cases B with
        | true =>
          refine wpD_part rfl (fun h => by simp at h) (fun _ => ?_)
          refine wpD_skip (hK3 _ _ _ ?_)
          clear hK3 K3
          have hw1 : IntKind.i64.wrap ((i : Int) + 1) = (i : Int) + 1 := i64w (by omega) (by omega)
          (refine wpD_region tyOK ?_; ((try simp only [wpAft_ret, wpAft_pan, putS, updS, setS]); (repeat (rw [wpS_cons]; simp [hw1])); (try simp only [wpS_nil, thenD, blockD])))
          refine hA (n - 1) _ _ _ (LeT.refl _) (by omega) (by kernel_rfl) ?_
          exact ⟨i + 1, rfl, by omega, by simpa using hF, rfl⟩
        | false =>
          refine wpD_part rfl (fun _ => ?_) (fun h => by simp at h)
          (refine wpD_seqk fun K hK => ?_; refine wpD_region tyOK ?_; ((try simp only [wpAft_ret, wpAft_pan, putS, updS, setS]); (repeat (rw [wpS_cons]; simp)); (try simp only [wpS_nil, thenD, blockD])); refine hK _ _ _ ?_; clear hK K)
          (refine wpD_ret ?_; (try simp only [thenD, blockD]); refine EndQ.ret rfl (.inl ?_); simp [tmOf, Out.fgt, D.fgt, D.fgts])
          simpa using hF
      · have hi' : ¬ (i : Int) < l.length := by omega
        (refine wpD_seqk fun K hK => ?_; refine wpD_region tyOK ?_; ((try simp only [wpAft_ret, wpAft_pan, putS, updS, setS]); (repeat (rw [wpS_cons]; simp [hi, hi'])); (try simp only [wpS_nil, thenD, blockD])); refine hK _ _ _ ?_; clear hK K)
        refine wpD_part rfl (fun h => by simp at h) (fun _ => ?_)
        refine wpD_exit ?_
        refine hK1 _ _ _ ?_
        rw [List.drop_of_length_le (by omega), List.drop_of_length_le (by omega)] at hF
        have hF' : R = true := hF
        subst hF'
        (refine wpD_seqk fun K hK => ?_; refine wpD_region tyOK ?_; ((try simp only [wpAft_ret, wpAft_pan, putS, updS, setS]); (repeat (rw [wpS_cons]; simp)); (try simp only [wpS_nil, thenD, blockD])); refine hK _ _ _ ?_; clear hK K)
        (refine wpD_ret ?_; (try simp only [thenD, blockD]); refine EndQ.ret rfl (.inl ?_); simp [tmOf, Out.fgt, D.fgt, D.fgts])
  · have hlen' : ¬ (l.length : Int) = m.length := by omega
    (refine wpD_seqk fun K hK => ?_; refine wpD_region tyOK ?_; ((try simp only [wpAft_ret, wpAft_pan, putS, updS, setS]); (repeat (rw [wpS_cons]; simp [hlen, hlen'])); (try simp only [wpS_nil, thenD, blockD])); refine hK _ _ _ ?_; clear hK K)
    refine wpD_part rfl (fun _ => ?_) (fun h => by simp at h)
    (refine wpD_seqk fun K hK => ?_; refine wpD_region tyOK ?_; ((try simp only [wpAft_ret, wpAft_pan, putS, updS, setS]); (repeat (rw [wpS_cons]; simp)); (try simp only [wpS_nil, thenD, blockD])); refine hK _ _ _ ?_; clear hK K)
    (refine wpD_ret ?_; (try simp only [thenD, blockD]); refine EndQ.ret rfl (.inl ?_); simp [tmOf, Out.fgt, D.fgt, D.fgts])
    rw [hR]; exact eqAll_len hlen
theorem sameTerms_gen (p : T → T → Bool) (l m : List (T)) (hl : l.length ≤ LMax) (hm : m.length ≤ LMax) (hg : ∀ x y, x ∈ l → y ∈ m → Spec Tryd.prog glob 19 [encT x, encT y] [] (fun o _ => o.fgt = .ret (.bool (p x y)))) :
    Spec Tryd.prog glob 63 [.slice (l.map encT) .any, .slice (m.map encT) .any] [] (fun o _ => o.fgt = .ret (.bool (eqAll p l m))) := by
  obtain ⟨R, hR⟩ : ∃ R, R = eqAll p l m := ⟨_, rfl⟩
  rw [← hR]
  have hl0 := hl
  unfold LMax at hl0
  refine Spec.movd globPure (wpD_spec tyOK Tryd.func63 rfl (enters _ _ Tryd.func63 rfl (by decide)) rfl rfl ?_)
  (refine wpD_seqk fun K hK => ?_; refine wpD_region tyOK ?_; ((try simp only [wpAft_ret, wpAft_pan, putS, updS, setS]); (repeat (rw [wpS_cons]; simp)); (try simp only [wpS_nil, thenD, blockD])); refine hK _ _ _ ?_; clear hK K)
  refine wpD_seqk fun K1 hK1 => ?_
  by_cases hlen : l.length = m.length
  · have hlen' : (l.length : Int) = m.length := by omega
    (refine wpD_seqk fun K hK => ?_; refine wpD_region tyOK ?_; ((try simp only [wpAft_ret, wpAft_pan, putS, updS, setS]); (repeat (rw [wpS_cons]; simp [hlen, hlen'])); (try simp only [wpS_nil, thenD, blockD])); refine hK _ _ _ ?_; clear hK K)
    refine wpD_part rfl (fun h => by simp at h) (fun _ => ?_)
    refine wpD_skip (hK1 _ _ _ ?_)
    clear hK1 K1
    refine wpD_seqk fun K1 hK1 => ?_
    (refine wpD_seqk fun K hK => ?_; refine wpD_region tyOK ?_; ((try simp only [wpAft_ret, wpAft_pan, putS, updS, setS]); (repeat (rw [wpS_cons]; simp)); (try simp only [wpS_nil, thenD, blockD])); refine hK _ _ _ ?_; clear hK K)
    refine wpD_block ?_
    refine wpD_loopWJ [4, 11, 12, 13, 14, 15, 16, 17, 18, 19, 20, 21, 22, 23, 24, 25, 26] [5] (fun n ys hl => ∃ (k : Nat), ys = [.int .i64 k] ∧ n + k = l.length ∧ R = eqAll p (l.drop k) (m.drop k) ∧ hl = []) (l.length) (by kernel_rfl) ?_ ?_
    · exact ⟨0, rfl, rfl, hR, rfl⟩
    · rintro n ys hl A hA ⟨i, rfl, hn, hF, rfl⟩
      simp only [putAll, List.set, List.map_cons, List.map_nil, List.cons_append, List.nil_append]
      refine wpD_seqk fun K2 hK2 => ?_
      by_cases hi : i < l.length
      · have hi2 : i < m.length := by omega
        have hi' : (i : Int) < l.length := by omega
        have hi2' : (i : Int) < m.length := by omega
        (refine wpD_seqk fun K hK => ?_; refine wpD_region tyOK ?_; ((try simp only [wpAft_ret, wpAft_pan, putS, updS, setS]); (repeat (rw [wpS_cons]; simp [hi, hi'])); (try simp only [wpS_nil, thenD, blockD])); refine hK _ _ _ ?_; clear hK K)
        refine wpD_part rfl (fun _ => ?_) (fun h => by simp at h)
        refine wpD_skip (hK2 _ _ _ ?_)
        clear hK2 K2
        refine wpD_seqk fun K3 hK3 => ?_
        refine wpD_block ?_
        rw [eqAll_drop hi hi2] at hF
        have hrec := hg l[i] m[i] (List.getElem_mem hi) (List.getElem_mem hi2)
        obtain ⟨x, hx⟩ : ∃ x, l[i] = x := ⟨_, rfl⟩
        obtain ⟨y, hy⟩ : ∃ y, m[i] = y := ⟨_, rfl⟩
        rw [hx, hy] at hrec hF
        have hEx := encT_eq x
        have hEy := encT_eq y
        rw [hEx, hEy] at hrec
        generalize p x y = B at hrec hF
        (refine wpD_seqk fun K hK => ?_; refine wpD_drawk tyOK (by kernel_rfl) (by kernel_rfl) fun KT hKT => ?_; ((try simp only [wpAftT_ret, wpAftT_pan, putS, updS, setS]); (repeat (rw [wpT_cons]; simp [hi, hi', hx, hi2, hi2', hy, hEx, hEy])); (try simp only [wpT_nil])))
        refine CallY.pure globPure (hrec) ?_ (by simp [D.fgts, D.fgt]) (by simp [D.pures, D.pure, Cp.free, D.pures_map]) (by simp [Out.pure, D.pure, D.pures, Cp.free, D.pures_map])
        ((try simp only [wpAftT_ret, wpAftT_pan, putS, updS, setS]); (repeat (rw [wpT_cons]; simp)); (try simp only [wpT_nil]))
        (refine hKT _ _ _ _ (by kernel_rfl) ?_; clear hKT KT; (try simp only [thenD, blockD]))
        (refine hK _ _ _ ?_; clear hK K)
        cases B with
        | true =>
          refine wpD_part rfl (fun h => by simp at h) (fun _ => ?_)
          refine wpD_skip (hK3 _ _ _ ?_)
          clear hK3 K3
          have hw1 : IntKind.i64.wrap ((i : Int) + 1) = (i : Int) + 1 := i64w (by omega) (by omega)
          (refine wpD_region tyOK ?_; ((try simp only [wpAft_ret, wpAft_pan, putS, updS, setS]); (repeat (rw [wpS_cons]; simp [hw1])); (try simp only [wpS_nil, thenD, blockD])))
          refine hA (n - 1) _ _ _ (LeT.refl _) (by omega) (by kernel_rfl) ?_
          exact ⟨i + 1, rfl, by omega, by simpa using hF, rfl⟩
        | false =>
          refine wpD_part rfl (fun _ => ?_) (fun h => by simp at h)
          (refine wpD_seqk fun K hK => ?_; refine wpD_region tyOK ?_; ((try simp only [wpAft_ret, wpAft_pan, putS, updS, setS]); (repeat (rw [wpS_cons]; simp)); (try simp only [wpS_nil, thenD, blockD])); refine hK _ _ _ ?_; clear hK K)
          (refine wpD_ret ?_; (try simp only [thenD, blockD]); refine EndQ.ret rfl (.inl ?_); simp [tmOf, Out.fgt, D.fgt, D.fgts])
          simpa using hF
      · have hi' : ¬ (i : Int) < l.length := by omega
        (refine wpD_seqk fun K hK => ?_; refine wpD_region tyOK ?_; ((try simp only [wpAft_ret, wpAft_pan, putS, updS, setS]); (repeat (rw [wpS_cons]; simp [hi, hi'])); (try simp only [wpS_nil, thenD, blockD])); refine hK _ _ _ ?_; clear hK K)
        refine wpD_part rfl (fun h => by simp at h) (fun _ => ?_)
        refine wpD_exit ?_
        refine hK1 _ _ _ ?_
        rw [List.drop_of_length_le (by omega), List.drop_of_length_le (by omega)] at hF
        have hF' : R = true := hF
        subst hF'
        (refine wpD_seqk fun K hK => ?_; refine wpD_region tyOK ?_; ((try simp only [wpAft_ret, wpAft_pan, putS, updS, setS]); (repeat (rw [wpS_cons]; simp)); (try simp only [wpS_nil, thenD, blockD])); refine hK _ _ _ ?_; clear hK K)
        (refine wpD_ret ?_; (try simp only [thenD, blockD]); refine EndQ.ret rfl (.inl ?_); simp [tmOf, Out.fgt, D.fgt, D.fgts])
  · have hlen' : ¬ (l.length : Int) = m.length := by omega
    (refine wpD_seqk fun K hK => ?_; refine wpD_region tyOK ?_; ((try simp only [wpAft_ret, wpAft_pan, putS, updS, setS]); (repeat (rw [wpS_cons]; simp [hlen, hlen'])); (try simp only [wpS_nil, thenD, blockD])); refine hK _ _ _ ?_; clear hK K)
    refine wpD_part rfl (fun _ => ?_) (fun h => by simp at h)
    (refine wpD_seqk fun K hK => ?_; refine wpD_region tyOK ?_; ((try simp only [wpAft_ret, wpAft_pan, putS, updS, setS]); (repeat (rw [wpS_cons]; simp)); (try simp only [wpS_nil, thenD, blockD])); refine hK _ _ _ ?_; clear hK K)
    (refine wpD_ret ?_; (try simp only [thenD, blockD]); refine EndQ.ret rfl (.inl ?_); simp [tmOf, Out.fgt, D.fgt, D.fgts])
    rw [hR]; exact eqAll_len hlen
theorem eqAll_eq {α : Type} [DecidableEq α] : ∀ l m : List α, eqAll (fun x y => decide (x = y)) l m = decide (l = m)
  | [], [] => by simp [eqAll]
  | [], _ :: _ => by simp [eqAll]
  | _ :: _, [] => by simp [eqAll]
  | a :: r, b :: s => by rw [eqAll, eqAll_eq r s]; by_cases h : a = b <;> simp [h]
mutual
/-- are two terms one datum? -/
def T.eqB : T → T → Bool
  | .mk k n a ls ks, .mk k' n' a' ls' ks' => decide (k = k') && decide (n = n') && decide (a = a') && decide (ls = ls') && T.eqsB ks ks'
def T.eqsB : List T → List T → Bool
  | [], [] => true
  | a :: r, b :: s => T.eqB a b && T.eqsB r s
  | [], _ :: _ => false
  | _ :: _, [] => false
end
mutual
theorem T.eqB_iff : ∀ t u : T, T.eqB t u = true ↔ t = u
  | .mk k n a ls ks, .mk k' n' a' ls' ks' => by rw [T.eqB]; simp [T.eqsB_iff ks ks', and_assoc]
theorem T.eqsB_iff : ∀ l m : List T, T.eqsB l m = true ↔ l = m
  | [], [] => by rw [T.eqsB]; simp
  | a :: r, b :: s => by rw [T.eqsB]; simp [T.eqB_iff a b, T.eqsB_iff r s]
  | [], _ :: _ => by rw [T.eqsB]; simp
  | _ :: _, [] => by rw [T.eqsB]; simp
end
theorem eqs_all : ∀ l m : List T, T.eqsB l m = eqAll T.eqB l m
  | [], [] => by rw [T.eqsB]; rfl
  | a :: r, b :: s => by rw [T.eqsB, eqs_all r s]; rfl
  | [], _ :: _ => by rw [T.eqsB]; rfl
  | _ :: _, [] => by rw [T.eqsB]; rfl
theorem sameLevels_spec (l m : List LV) (hl : l.length ≤ LMax) (hm : m.length ≤ LMax) (hls : ∀ x, x ∈ l → x.length ≤ LMax) (hms : ∀ x, x ∈ m → x.length ≤ LMax) :
    Spec Tryd.prog glob 69 [.slice (l.map encL) .any, .slice (m.map encL) .any] [] (fun o _ => o.fgt = .ret (.bool (decide (l = m)))) := by
  rw [← eqAll_eq]
  exact sameLevels_gen _ l m hl hm fun x y hx hy => sameLevel_spec x y (hls x hx) (hms y hy)
theorem eqT_spec (t : T) : ∀ u, okT t → okT u → Spec Tryd.prog glob 19 [encT t, encT u] [] (fun o _ => o.fgt = .ret (.bool (t.eqB u))) := by
  induction t using T.ind with
  | h k n a ls ks ih =>
    rintro ⟨k', n', a', ls', ks'⟩ ht hu
    have hls := ht.ls
    have hls' := hu.ls
    have hks := ht.ks
    have hks' := hu.ks
    simp only [T.ls_mk, T.ks_mk] at hls hls' hks hks'
    have hL := sameLevels_spec ls ls' ht.ll hu.ll (fun x hx => (hls x hx).1) (fun x hx => (hls' x hx).1)
    have hT := sameTerms_gen T.eqB ks ks' ht.kl hu.kl (fun x y hx hy => ih x hx y (hks x hx) (hks' y hy))
    have hF : (T.mk k n a ls ks).eqB (.mk k' n' a' ls' ks') = (decide (k = k') && decide (n = n') && decide (a = a') && decide (ls = ls') && T.eqsB ks ks') := by rw [T.eqB]
    rw [hF, eqs_all]
    generalize eqAll T.eqB ks ks' = B2 at hT ⊢
    generalize decide (ls = ls') = B1 at hL ⊢
    clear hF ih hls hls' hks hks' ht hu
    rw [encT_eq, encT_eq]
    simp only [T.k_mk, T.n_mk, T.a_mk, T.ls_mk, T.ks_mk]
    refine Spec.movd globPure (wpD_spec tyOK Tryd.func19 rfl (enters _ _ Tryd.func19 rfl (by decide)) rfl rfl ?_)
    (refine wpD_seqk fun K hK => ?_; refine wpD_region tyOK ?_; ((try simp only [wpAft_ret, wpAft_pan, putS, updS, setS]); (repeat (rw [wpS_cons]; simp)); (try simp only [wpS_nil, thenD, blockD])); refine hK _ _ _ ?_; clear hK K)
    by_cases h1 : k = k'
    · subst h1
      by_cases h2 : n = n'
      · subst h2
        by_cases h3 : a = a'
        · subst h3
          cases B1 with
          | true =>
            (refine wpD_seqk fun K hK => ?_; refine wpD_region tyOK ?_; ((try simp only [wpAft_ret, wpAft_pan, putS, updS, setS]); (repeat (rw [wpS_cons]; simp)); (try simp only [wpS_nil, thenD, blockD])))
            refine CallX.pure globPure (hL) ?_ (by simp [D.fgts, D.fgt]) (by simp [D.pures, D.pure, Cp.free, D.pures_map]) (by simp [Out.pure, D.pure, D.pures, Cp.free, D.pures_map])
            ((try simp only [wpAft_ret, wpAft_pan, putS, updS, setS]); (repeat (rw [wpS_cons]; simp)); (try simp only [wpS_nil, thenD, blockD]))
            refine CallX.pure globPure (hT) ?_ (by simp [D.fgts, D.fgt]) (by simp [D.pures, D.pure, Cp.free, D.pures_map]) (by simp [Out.pure, D.pure, D.pures, Cp.free, D.pures_map])
            ((try simp only [wpAft_ret, wpAft_pan, putS, updS, setS]); (repeat (rw [wpS_cons]; simp)); (try simp only [wpS_nil, thenD, blockD]))
            (refine hK _ _ _ ?_; clear hK K)
            (refine wpD_ret ?_; (try simp only [thenD, blockD]); refine EndQ.ret rfl (.inl ?_); simp [tmOf, Out.fgt, D.fgt, D.fgts])
          | false =>
            (refine wpD_seqk fun K hK => ?_; refine wpD_region tyOK ?_; ((try simp only [wpAft_ret, wpAft_pan, putS, updS, setS]); (repeat (rw [wpS_cons]; simp)); (try simp only [wpS_nil, thenD, blockD])))
            refine CallX.pure globPure (hL) ?_ (by simp [D.fgts, D.fgt]) (by simp [D.pures, D.pure, Cp.free, D.pures_map]) (by simp [Out.pure, D.pure, D.pures, Cp.free, D.pures_map])
            ((try simp only [wpAft_ret, wpAft_pan, putS, updS, setS]); (repeat (rw [wpS_cons]; simp)); (try simp only [wpS_nil, thenD, blockD]))
            (refine hK _ _ _ ?_; clear hK K)
            (refine wpD_ret ?_; (try simp only [thenD, blockD]); refine EndQ.ret rfl (.inl ?_); simp [tmOf, Out.fgt, D.fgt, D.fgts])
        · (refine wpD_seqk fun K hK => ?_; refine wpD_region tyOK ?_; ((try simp only [wpAft_ret, wpAft_pan, putS, updS, setS]); (repeat (rw [wpS_cons]; simp [h3])); (try simp only [wpS_nil, thenD, blockD])); refine hK _ _ _ ?_; clear hK K)
          (refine wpD_ret ?_; (try simp only [thenD, blockD]); refine EndQ.ret rfl (.inl ?_); simp [tmOf, Out.fgt, D.fgt, D.fgts])
          simp [h3]
      · (refine wpD_seqk fun K hK => ?_; refine wpD_region tyOK ?_; ((try simp only [wpAft_ret, wpAft_pan, putS, updS, setS]); (repeat (rw [wpS_cons]; simp [h2])); (try simp only [wpS_nil, thenD, blockD])); refine hK _ _ _ ?_; clear hK K)
        (refine wpD_ret ?_; (try simp only [thenD, blockD]); refine EndQ.ret rfl (.inl ?_); simp [tmOf, Out.fgt, D.fgt, D.fgts])
        simp [h2]
    · (refine wpD_seqk fun K hK => ?_; refine wpD_region tyOK ?_; ((try simp only [wpAft_ret, wpAft_pan, putS, updS, setS]); (repeat (rw [wpS_cons]; simp [h1])); (try simp only [wpS_nil, thenD, blockD])); refine hK _ _ _ ?_; clear hK K)
      (refine wpD_ret ?_; (try simp only [thenD, blockD]); refine EndQ.ret rfl (.inl ?_); simp [tmOf, Out.fgt, D.fgt, D.fgts])
      simp [h1]
end Go.Proofs.YtebmlojhdnldgaaDoor

namespace Go.Proofs.YtebmlojhdnldgaaDoor
set_option linter.unusedSimpArgs false
set_option linter.unusedVariables false
set_option maxHeartbeats 10000000
set_option maxRecDepth 20000
open Go.RowKit
attribute [local simp] wpAft_ret wpAft_pan wantD evOp opD tmOf putS updS setS hOf isFree isTok fillD TK.isAgg TK.known partD thenD blockD putAll D.ofV inB nilTest isNilS binX binD binE isCst bndD capB IntKind.min IntKind.max IntKind.signed IntKind.bits dstOf late
theorem isNaN_spec (x : Int) : Spec Tryd.prog glob 159 [.int .i64 x] [] (fun o _ => o.fgt = .ret (.bool false)) := by
  refine Spec.movd globPure (wpD_spec tyOK Tryd.func159 rfl (enters _ _ Tryd.func159 rfl (by decide)) rfl rfl ?_)
  (refine wpD_seqk fun K hK => ?_; refine wpD_region tyOK ?_; ((try simp only [wpAft_ret, wpAft_pan, putS, updS, setS]); (repeat (rw [wpS_cons]; simp)); (try simp only [wpS_nil, thenD, blockD])); refine hK _ _ _ ?_; clear hK K)
  (refine wpD_seqk fun K hK => ?_; refine wpD_region tyOK ?_; ((try simp only [wpAft_ret, wpAft_pan, putS, updS, setS]); (repeat (rw [wpS_cons]; simp)); (try simp only [wpS_nil, thenD, blockD])); refine hK _ _ _ ?_; clear hK K)
  (refine wpD_ret ?_; (try simp only [thenD, blockD]); refine EndQ.ret rfl (.inl ?_); simp [tmOf, Out.fgt, D.fgt, D.fgts])
def cmpI (x y : Int) : Int := if x < y then -1 else if y < x then 1 else 0
theorem compare_spec (x y : Int) : Spec Tryd.prog glob 101 [.int .i64 x, .int .i64 y] [] (fun o _ => o.fgt = .ret (.int .i64 (cmpI x y))) := by
  refine Spec.movd globPure (wpD_spec tyOK Tryd.func101 rfl (enters _ _ Tryd.func101 rfl (by decide)) rfl rfl ?_)
  (refine wpD_seqk fun K hK => ?_; refine wpD_region tyOK ?_; ((try simp only [wpAft_ret, wpAft_pan, putS, updS, setS]); (repeat (rw [wpS_cons]; simp)); (try simp only [wpS_nil, thenD, blockD])); refine hK _ _ _ ?_; clear hK K)
  (refine wpD_seqk fun K hK => ?_; refine wpD_region tyOK ?_; ((try simp only [wpAft_ret, wpAft_pan, putS, updS, setS]); (repeat (rw [wpS_cons]; simp)); (try simp only [wpS_nil, thenD, blockD])))
  refine CallX.pure globPure (isNaN_spec x) ?_ (by simp [D.fgts, D.fgt]) (by simp [D.pures, D.pure, Cp.free, D.pures_map]) (by simp [Out.pure, D.pure, D.pures, Cp.free, D.pures_map])
  ((try simp only [wpAft_ret, wpAft_pan, putS, updS, setS]); (repeat (rw [wpS_cons]; simp)); (try simp only [wpS_nil, thenD, blockD]))
  (refine hK _ _ _ ?_; clear hK K)
  (refine wpD_seqk fun K hK => ?_; refine wpD_region tyOK ?_; ((try simp only [wpAft_ret, wpAft_pan, putS, updS, setS]); (repeat (rw [wpS_cons]; simp)); (try simp only [wpS_nil, thenD, blockD])))
  refine CallX.pure globPure (isNaN_spec y) ?_ (by simp [D.fgts, D.fgt]) (by simp [D.pures, D.pure, Cp.free, D.pures_map]) (by simp [Out.pure, D.pure, D.pures, Cp.free, D.pures_map])
  ((try simp only [wpAft_ret, wpAft_pan, putS, updS, setS]); (repeat (rw [wpS_cons]; simp)); (try simp only [wpS_nil, thenD, blockD]))
  (refine hK _ _ _ ?_; clear hK K)
  refine wpD_seqk fun K1 hK1 => ?_
  (refine wpD_seqk fun K hK => ?_; refine wpD_region tyOK ?_; ((try simp only [wpAft_ret, wpAft_pan, putS, updS, setS]); (repeat (rw [wpS_cons]; simp)); (try simp only [wpS_nil, thenD, blockD])); refine hK _ _ _ ?_; clear hK K)
  refine wpD_part rfl (fun h => by simp at h) (fun _ => wpD_skip (hK1 _ _ _ ?_))
  clear hK1 K1
  refine wpD_seqk fun K1 hK1 => ?_
  (refine wpD_seqk fun K hK => ?_; refine wpD_region tyOK ?_; ((try simp only [wpAft_ret, wpAft_pan, putS, updS, setS]); (repeat (rw [wpS_cons]; simp)); (try simp only [wpS_nil, thenD, blockD])); refine hK _ _ _ ?_; clear hK K)
  refine wpD_part rfl (fun h => by simp at h) (fun _ => wpD_skip (hK1 _ _ _ ?_))
  clear hK1 K1
  refine wpD_seqk fun K1 hK1 => ?_
  (refine wpD_seqk fun K hK => ?_; refine wpD_region tyOK ?_; ((try simp only [wpAft_ret, wpAft_pan, putS, updS, setS]); (repeat (rw [wpS_cons]; simp)); (try simp only [wpS_nil, thenD, blockD])); refine hK _ _ _ ?_; clear hK K)
  refine wpD_part rfl (fun h => ?_) (fun h => wpD_skip (hK1 _ _ _ ?_))
  · (refine wpD_seqk fun K hK => ?_; refine wpD_region tyOK ?_; ((try simp only [wpAft_ret, wpAft_pan, putS, updS, setS]); (repeat (rw [wpS_cons]; simp)); (try simp only [wpS_nil, thenD, blockD])); refine hK _ _ _ ?_; clear hK K)
    (refine wpD_ret ?_; (try simp only [thenD, blockD]); refine EndQ.ret rfl (.inl ?_); simp [tmOf, Out.fgt, D.fgt, D.fgts])
    simp [cmpI, show x < y by simpa using h]
  · clear hK1 K1
    replace h : ¬ x < y := by simpa using h
    refine wpD_seqk fun K1 hK1 => ?_
    (refine wpD_seqk fun K hK => ?_; refine wpD_region tyOK ?_; ((try simp only [wpAft_ret, wpAft_pan, putS, updS, setS]); (repeat (rw [wpS_cons]; simp)); (try simp only [wpS_nil, thenD, blockD])); refine hK _ _ _ ?_; clear hK K)
    refine wpD_part rfl (fun h2 => ?_) (fun h2 => wpD_skip (hK1 _ _ _ ?_))
    · (refine wpD_seqk fun K hK => ?_; refine wpD_region tyOK ?_; ((try simp only [wpAft_ret, wpAft_pan, putS, updS, setS]); (repeat (rw [wpS_cons]; simp)); (try simp only [wpS_nil, thenD, blockD])); refine hK _ _ _ ?_; clear hK K)
      (refine wpD_ret ?_; (try simp only [thenD, blockD]); refine EndQ.ret rfl (.inl ?_); simp [tmOf, Out.fgt, D.fgt, D.fgts])
      simp [cmpI, h, show y < x by simpa using h2]
    · clear hK1 K1
      (refine wpD_seqk fun K hK => ?_; refine wpD_region tyOK ?_; ((try simp only [wpAft_ret, wpAft_pan, putS, updS, setS]); (repeat (rw [wpS_cons]; simp)); (try simp only [wpS_nil, thenD, blockD])); refine hK _ _ _ ?_; clear hK K)
      (refine wpD_ret ?_; (try simp only [thenD, blockD]); refine EndQ.ret rfl (.inl ?_); simp [tmOf, Out.fgt, D.fgt, D.fgts])
      simp [cmpI, h, show ¬ y < x by simpa using h2]
def orI : List Int → Int
  | [] => 0
  | x :: r => if x = 0 then orI r else x
theorem or_spec (l : List Int) (hl : l.length ≤ LMax) : Spec Tryd.prog glob 100 [Ints l] [] (fun o _ => o.fgt = .ret (.int .i64 (orI l))) := by
  unfold LMax at hl
  refine Spec.movd globPure (wpD_spec tyOK Tryd.func100 rfl (enters _ _ Tryd.func100 rfl (by decide)) rfl rfl ?_)
  unfold Ints
  (refine wpD_seqk fun K hK => ?_; refine wpD_region tyOK ?_; ((try simp only [wpAft_ret, wpAft_pan, putS, updS, setS]); (repeat (rw [wpS_cons]; simp)); (try simp only [wpS_nil, thenD, blockD])); refine hK _ _ _ ?_; clear hK K)
  (refine wpD_seqk fun K hK => ?_; refine wpD_region tyOK ?_; ((try simp only [wpAft_ret, wpAft_pan, putS, updS, setS]); (repeat (rw [wpS_cons]; simp)); (try simp only [wpS_nil, thenD, blockD])); refine hK _ _ _ ?_; clear hK K)
  refine wpD_seqk fun K1 hK1 => ?_
  (refine wpD_seqk fun K hK => ?_; refine wpD_region tyOK ?_; ((try simp only [wpAft_ret, wpAft_pan, putS, updS, setS]); (repeat (rw [wpS_cons]; simp)); (try simp only [wpS_nil, thenD, blockD])); refine hK _ _ _ ?_; clear hK K)
  refine wpD_block ?_
  refine wpD_loopW [2, 5, 8, 9, 10, 11, 12, 13, 14, 15, 16] (fun n ys hl => ∃ (k : Nat) (x2 x5 x9 x10 x11 x12 x13 x14 x15 x16 : D), ys = [x2, x5, .int .i64 k, x9, x10, x11, x12, x13, x14, x15, x16] ∧ n + k = l.length ∧ orI l = orI (l.drop k) ∧ hl = []) (l.length) (by kernel_rfl) ?_ ?_
  · exact ⟨0, _, _, _, _, _, _, _, _, _, _, rfl, rfl, rfl, rfl⟩
  · rintro n ys hl A hA ⟨k, x2, x5, x9, x10, x11, x12, x13, x14, x15, x16, rfl, hn, hi, rfl⟩
    simp only [putAll, List.set]
    (refine wpD_seqk fun K hK => ?_; refine wpD_region tyOK ?_; ((try simp only [wpAft_ret, wpAft_pan, putS, updS, setS]); (repeat (rw [wpS_cons]; simp)); (try simp only [wpS_nil, thenD, blockD])); refine hK _ _ _ ?_; clear hK K)
    refine wpD_seqk fun K2 hK2 => ?_
    refine wpD_part rfl (fun hk => ?_) (fun hk => ?_)
    · replace hk : k < l.length := by simpa using hk
      refine wpD_skip (hK2 _ _ _ ?_)
      clear hK2 K2
      refine wpD_seqk fun K3 hK3 => ?_
      refine wpD_block ?_
      (refine wpD_seqk fun K hK => ?_; refine wpD_region tyOK ?_; ((try simp only [wpAft_ret, wpAft_pan, putS, updS, setS]); (repeat (rw [wpS_cons]; simp [hk])); (try simp only [wpS_nil, thenD, blockD])); refine hK _ _ _ ?_; clear hK K)
      (refine wpD_seqk fun K hK => ?_; refine wpD_region tyOK ?_; ((try simp only [wpAft_ret, wpAft_pan, putS, updS, setS]); (repeat (rw [wpS_cons]; simp)); (try simp only [wpS_nil, thenD, blockD])); refine hK _ _ _ ?_; clear hK K)
      refine wpD_part rfl (fun hb => ?_) (fun hb => ?_)
      · (refine wpD_seqk fun K hK => ?_; refine wpD_region tyOK ?_; ((try simp only [wpAft_ret, wpAft_pan, putS, updS, setS]); (repeat (rw [wpS_cons]; simp)); (try simp only [wpS_nil, thenD, blockD])); refine hK _ _ _ ?_; clear hK K)
        (refine wpD_ret ?_; (try simp only [thenD, blockD]); refine EndQ.ret rfl (.inl ?_); simp [tmOf, Out.fgt, D.fgt, D.fgts])
        rw [hi, List.drop_eq_getElem_cons hk, orI, if_neg (by simpa using hb)]
      · refine wpD_skip (hK3 _ _ _ ?_)
        clear hK3 K3
        have hw : IntKind.i64.wrap ((k : Int) + 1) = (k : Int) + 1 := i64w (by omega) (by omega)
        (refine wpD_region tyOK ?_; ((try simp only [wpAft_ret, wpAft_pan, putS, updS, setS]); (repeat (rw [wpS_cons]; simp [hw])); (try simp only [wpS_nil, thenD, blockD])))
        refine hA (n - 1) _ _ (by omega) (by kernel_rfl) ?_
        exact ⟨k + 1, _, _, _, _, _, _, _, _, _, _, rfl, by omega, by rw [hi, List.drop_eq_getElem_cons hk, orI, if_pos (by simpa using hb)], rfl⟩
    · refine wpD_exit (hK1 _ _ _ ?_)
      (refine wpD_seqk fun K hK => ?_; refine wpD_region tyOK ?_; ((try simp only [wpAft_ret, wpAft_pan, putS, updS, setS]); (repeat (rw [wpS_cons]; simp)); (try simp only [wpS_nil, thenD, blockD])); refine hK _ _ _ ?_; clear hK K)
      (refine wpD_ret ?_; (try simp only [thenD, blockD]); refine EndQ.ret rfl (.inl ?_); simp [tmOf, Out.fgt, D.fgt, D.fgts])
      rw [hi, List.drop_eq_nil_of_le (by simpa using hk), orI]
def sortedB : LV → Bool
  | [] => true
  | [_] => true
  | a :: b :: r => decide (a.1 < b.1) && sortedB (b :: r)
theorem sortedB_iff : ∀ l : LV, sortedB l = true ↔ ∀ i (h : i + 1 < l.length), (l[i]'(by omega)).1 < l[i + 1].1
  | [] => by simp [sortedB]
  | [_] => by simp [sortedB]
  | a :: b :: r => by
    rw [sortedB, Bool.and_eq_true, decide_eq_true_eq, sortedB_iff (b :: r)]
    constructor
    · rintro ⟨h1, h2⟩ i h
      cases i with
      | zero => exact h1
      | succ i => exact h2 i (by simpa using h)
    · intro h
      exact ⟨h 0 (by simp), fun i hi => h (i + 1) (by simpa using hi)⟩
def partBad (n : Int) (p : Int × Int) : Bool := decide (p.1 < 0) || decide (n < p.1) || decide (p.2 < 0) || decide (1000 < p.2)
def levelRight (l : LV) (n : Int) : Bool := sortedB l && decide (l.length ≤ 9) && !(l.any (partBad n))
def risesI (p q : Int × Int) : Int := orI [cmpI p.1 q.1, -1]
theorem risesI_neg (p q : Int × Int) : risesI p q < 0 ↔ ¬ q.1 < p.1 := by
  unfold risesI cmpI
  by_cases h1 : p.1 < q.1
  · simp [h1, orI]; omega
  · by_cases h2 : q.1 < p.1 <;> simp [h1, h2, orI]
theorem right1_spec (p q : Int × Int) : Spec Tryd.prog glob 99 [encP p, encP q] [] (fun o _ => o.fgt = .ret (.int .i64 (risesI p q))) := by
  refine Spec.movd globPure (wpD_spec tyOK Tryd.func99 rfl (enters _ _ Tryd.func99 rfl (by decide)) rfl rfl ?_)
  (refine wpD_seqk fun K hK => ?_; refine wpD_region tyOK ?_; ((try simp only [wpAft_ret, wpAft_pan, putS, updS, setS]); (repeat (rw [wpS_cons]; simp)); (try simp only [wpS_nil, thenD, blockD])); refine hK _ _ _ ?_; clear hK K)
  (refine wpD_seqk fun K hK => ?_; refine wpD_region tyOK ?_; ((try simp only [wpAft_ret, wpAft_pan, putS, updS, setS]); (repeat (rw [wpS_cons]; simp)); (try simp only [wpS_nil, thenD, blockD])))
  refine CallX.pure globPure (compare_spec p.1 q.1) ?_ (by simp [D.fgts, D.fgt]) (by simp [D.pures, D.pure, Cp.free, D.pures_map]) (by simp [Out.pure, D.pure, D.pures, Cp.free, D.pures_map])
  ((try simp only [wpAft_ret, wpAft_pan, putS, updS, setS]); (repeat (rw [wpS_cons]; simp)); (try simp only [wpS_nil, thenD, blockD]))
  refine CallX.pure globPure (or_spec [cmpI p.1 q.1, -1] (by simp [LMax])) ?_ (by simp [D.fgts, D.fgt, Ints]) (by simp [D.pures, D.pure, Cp.free, D.pures_map, Ints]) (by simp [Out.pure, D.pure, D.pures, Cp.free, D.pures_map, Ints])
  ((try simp only [wpAft_ret, wpAft_pan, putS, updS, setS]); (repeat (rw [wpS_cons]; simp)); (try simp only [wpS_nil, thenD, blockD]))
  (refine hK _ _ _ ?_; clear hK K)
  (refine wpD_ret ?_; (try simp only [thenD, blockD]); refine EndQ.ret rfl (.inl ?_); simp [tmOf, Out.fgt, D.fgt, D.fgts])
  rfl
theorem right2_spec (n : Int) (p : Int × Int) : Spec Tryd.prog glob 103 [encP p, .ref (.int .i64 n)] [] (fun o _ => o.fgt = .ret (.bool (partBad n p))) := by
  refine Spec.movd globPure (wpD_spec tyOK Tryd.func103 rfl (enters _ _ Tryd.func103 rfl (by decide)) rfl rfl ?_)
  (refine wpD_seqk fun K hK => ?_; refine wpD_region tyOK ?_; ((try simp only [wpAft_ret, wpAft_pan, putS, updS, setS]); (repeat (rw [wpS_cons]; simp)); (try simp only [wpS_nil, thenD, blockD])); refine hK _ _ _ ?_; clear hK K)
  by_cases h1 : p.1 < 0
  · (refine wpD_seqk fun K hK => ?_; refine wpD_region tyOK ?_; ((try simp only [wpAft_ret, wpAft_pan, putS, updS, setS]); (repeat (rw [wpS_cons]; simp [h1])); (try simp only [wpS_nil, thenD, blockD])); refine hK _ _ _ ?_; clear hK K)
    (refine wpD_ret ?_; (try simp only [thenD, blockD]); refine EndQ.ret rfl (.inl ?_); simp [tmOf, Out.fgt, D.fgt, D.fgts])
    simp [partBad, h1]
  · by_cases h2 : n < p.1
    · (refine wpD_seqk fun K hK => ?_; refine wpD_region tyOK ?_; ((try simp only [wpAft_ret, wpAft_pan, putS, updS, setS]); (repeat (rw [wpS_cons]; simp [h1, h2])); (try simp only [wpS_nil, thenD, blockD])); refine hK _ _ _ ?_; clear hK K)
      (refine wpD_ret ?_; (try simp only [thenD, blockD]); refine EndQ.ret rfl (.inl ?_); simp [tmOf, Out.fgt, D.fgt, D.fgts])
      simp [partBad, h2]
    · by_cases h3 : p.2 < 0
      · (refine wpD_seqk fun K hK => ?_; refine wpD_region tyOK ?_; ((try simp only [wpAft_ret, wpAft_pan, putS, updS, setS]); (repeat (rw [wpS_cons]; simp [h1, h2, h3])); (try simp only [wpS_nil, thenD, blockD])); refine hK _ _ _ ?_; clear hK K)
        (refine wpD_ret ?_; (try simp only [thenD, blockD]); refine EndQ.ret rfl (.inl ?_); simp [tmOf, Out.fgt, D.fgt, D.fgts])
        simp [partBad, h3]
      · (refine wpD_seqk fun K hK => ?_; refine wpD_region tyOK ?_; ((try simp only [wpAft_ret, wpAft_pan, putS, updS, setS]); (repeat (rw [wpS_cons]; simp [h1, h2, h3])); (try simp only [wpS_nil, thenD, blockD])); refine hK _ _ _ ?_; clear hK K)
        (refine wpD_ret ?_; (try simp only [thenD, blockD]); refine EndQ.ret rfl (.inl ?_); simp [tmOf, Out.fgt, D.fgt, D.fgts])
        simp [partBad, h1, h2, h3]
theorem isSorted_spec (l : LV) (hl : l.length ≤ LMax) : Spec Tryd.prog glob 98 [Ps l, .fn (.func 99) [] []] [] (fun o _ => o.fgt = .ret (.bool (sortedB l))) := by
  unfold LMax at hl
  refine Spec.movd globPure (wpD_spec tyOK Tryd.func98 rfl (enters _ _ Tryd.func98 rfl (by decide)) rfl rfl ?_)
  unfold Ps
  (refine wpD_seqk fun K hK => ?_; refine wpD_region tyOK ?_; ((try simp only [wpAft_ret, wpAft_pan, putS, updS, setS]); (repeat (rw [wpS_cons]; simp)); (try simp only [wpS_nil, thenD, blockD])); refine hK _ _ _ ?_; clear hK K)
  have hw : IntKind.i64.wrap ((l.length : Int) - 1) = (l.length : Int) - 1 := i64w (by omega) (by omega)
  refine wpD_seqk fun K1 hK1 => ?_
  (refine wpD_seqk fun K hK => ?_; refine wpD_region tyOK ?_; ((try simp only [wpAft_ret, wpAft_pan, putS, updS, setS]); (repeat (rw [wpS_cons]; simp [hw])); (try simp only [wpS_nil, thenD, blockD])); refine hK _ _ _ ?_; clear hK K)
  refine wpD_block ?_
  refine wpD_loopW [4, 5, 9, 10, 11, 12, 13, 14, 15, 16, 17, 18, 19, 20, 21, 22, 23, 24] (fun n ys hl => ∃ (k : Int) (x4 x9 x10 x11 x12 x13 x14 x15 x16 x17 x18 x19 x20 x21 x22 x23 x24 : D), ys = [x4, .int .i64 k, x9, x10, x11, x12, x13, x14, x15, x16, x17, x18, x19, x20, x21, x22, x23, x24] ∧ (k < n ∧ k < l.length ∧ -1 ≤ k) ∧ (∀ i (h : i + 1 < l.length), k ≤ i → (l[i]'(by omega)).1 < l[i + 1].1) ∧ hl = []) (l.length) (by kernel_rfl) ?_ ?_
  · exact ⟨(l.length : Int) - 1, _, _, _, _, _, _, _, _, _, _, _, _, _, _, _, _, _, rfl, by omega, fun i h hi => by omega, rfl⟩
  · rintro n ys hl A hA ⟨k, x4, x9, x10, x11, x12, x13, x14, x15, x16, x17, x18, x19, x20, x21, x22, x23, x24, rfl, hn, hi, rfl⟩
    simp only [putAll, List.set]
    refine wpD_seqk fun K2 hK2 => ?_
    refine wpD_seqk fun K3 hK3 => ?_
    (refine wpD_region tyOK ?_; ((try simp only [wpAft_ret, wpAft_pan, putS, updS, setS]); (repeat (rw [wpS_cons]; simp)); (try simp only [wpS_nil, thenD, blockD])))
    refine hK3 _ _ _ ?_
    clear hK3 K3
    refine wpD_part rfl (fun hk => ?_) (fun hk => ?_)
    · replace hk : 0 < k := by simpa using hk
      refine wpD_skip (hK2 _ _ _ ?_)
      clear hK2 K2
      refine wpD_seqk fun K3 hK3 => ?_
      refine wpD_block ?_
      obtain ⟨j, hjk⟩ : ∃ j : Nat, k = j + 1 := ⟨(k - 1).toNat, by omega⟩
      have hj : j + 1 < l.length := by omega
      have hj' : j < l.length := by omega
      have hw1 : IntKind.i64.wrap (k - 1) = j := by rw [i64w (by omega) (by omega)]; omega
      have e1 : k.toNat = j + 1 := by omega
      have e2 : 0 ≤ k := by omega
      (refine wpD_seqk fun K hK => ?_; refine wpD_drawk tyOK (by kernel_rfl) (by kernel_rfl) fun KT hKT => ?_; ((try simp only [wpAftT_ret, wpAftT_pan, putS, updS, setS]); (repeat (rw [wpT_cons]; simp [e1, e2, hj, hj', hw1, encP])); (try simp only [wpT_nil])))
      refine CallY.pure globPure (right1_spec (l[j + 1]) (l[j])) ?_ (by simp [D.fgts, D.fgt, encP]) (by simp [D.pures, D.pure, Cp.free, D.pures_map, encP]) (by simp [Out.pure, D.pure, D.pures, Cp.free, D.pures_map, encP])
      ((try simp only [wpAftT_ret, wpAftT_pan, putS, updS, setS]); (repeat (rw [wpT_cons]; simp)); (try simp only [wpT_nil]))
      (refine hKT _ _ _ _ (by kernel_rfl) ?_; clear hKT KT; (try simp only [thenD, blockD]))
      (refine hK _ _ _ ?_; clear hK K)
      have hr := risesI_neg l[j + 1] l[j]
      refine wpD_part rfl (fun hb => ?_) (fun hb => ?_)
      · replace hb : ¬ (l[j].1 < l[j + 1].1) := by rw [← hr]; simpa using hb
        (refine wpD_seqk fun K hK => ?_; refine wpD_region tyOK ?_; ((try simp only [wpAft_ret, wpAft_pan, putS, updS, setS]); (repeat (rw [wpS_cons]; simp)); (try simp only [wpS_nil, thenD, blockD])); refine hK _ _ _ ?_; clear hK K)
        (refine wpD_ret ?_; (try simp only [thenD, blockD]); refine EndQ.ret rfl (.inl ?_); simp [tmOf, Out.fgt, D.fgt, D.fgts])
        cases hs : sortedB l with
        | false => rfl
        | true => exact absurd (sortedB_iff l |>.1 hs j hj) hb
      · replace hb : l[j].1 < l[j + 1].1 := by
          have : ¬ (risesI l[j + 1] l[j] < 0) := by simpa using hb
          rw [hr] at this
          omega
        refine wpD_skip (hK3 _ _ _ ?_)
        clear hK3 K3
        have hw1 : IntKind.i64.wrap (k - 1) = k - 1 := i64w (by omega) (by omega)
        (refine wpD_region tyOK ?_; ((try simp only [wpAft_ret, wpAft_pan, putS, updS, setS]); (repeat (rw [wpS_cons]; simp [hw1])); (try simp only [wpS_nil, thenD, blockD])))
        refine hA (n - 1) _ _ (by omega) (by kernel_rfl) ?_
        refine ⟨k - 1, _, _, _, _, _, _, _, _, _, _, _, _, _, _, _, _, _, rfl, by omega, fun i h hi2 => ?_, rfl⟩
        by_cases hij : i = j
        · subst hij; exact hb
        · exact hi i h (by omega)
    · replace hk : ¬ 0 < k := by simpa using hk
      refine wpD_exit ?_
      refine hK1 _ _ _ ?_
      (refine wpD_seqk fun K hK => ?_; refine wpD_region tyOK ?_; ((try simp only [wpAft_ret, wpAft_pan, putS, updS, setS]); (repeat (rw [wpS_cons]; simp)); (try simp only [wpS_nil, thenD, blockD])); refine hK _ _ _ ?_; clear hK K)
      (refine wpD_ret ?_; (try simp only [thenD, blockD]); refine EndQ.ret rfl (.inl ?_); simp [tmOf, Out.fgt, D.fgt, D.fgts])
      exact (sortedB_iff l).2 fun i h => hi i h (by omega)
theorem levelRight_spec (l : LV) (n : Int) (hl : l.length ≤ LMax) : Spec Tryd.prog glob 43 [encL l, .int .i64 n] [] (fun o _ => o.fgt = .ret (.bool (levelRight l n))) := by
  have hl' := hl
  unfold LMax at hl'
  refine Spec.movd globPure (wpD_spec tyOK Tryd.func43 rfl (enters _ _ Tryd.func43 rfl (by decide)) rfl rfl ?_)
  (refine wpD_seqk fun K hK => ?_; refine wpD_region tyOK ?_; ((try simp only [wpAft_ret, wpAft_pan, putS, updS, setS]); (repeat (rw [wpS_cons]; simp)); (try simp only [wpS_nil, thenD, blockD])); refine hK _ _ _ ?_; clear hK K)
  (refine wpD_seqk fun K hK => ?_; refine wpD_region tyOK ?_; ((try simp only [wpAft_ret, wpAft_pan, putS, updS, setS]); (repeat (rw [wpS_cons]; simp)); (try simp only [wpS_nil, thenD, blockD])))
  refine CallX.pure globPure (isSorted_spec l hl) ?_ (by simp [D.fgts, D.fgt, Ps]) (by simp [D.pures, D.pure, Cp.free, D.pures_map, Ps]) (by simp [Out.pure, D.pure, D.pures, Cp.free, D.pures_map, Ps])
  ((try simp only [wpAft_ret, wpAft_pan, putS, updS, setS]); (repeat (rw [wpS_cons]; simp)); (try simp only [wpS_nil, thenD, blockD]))
  (refine hK _ _ _ ?_; clear hK K)
  (refine wpD_stay (T := tyOf) 1 (ty := 3) (ds := [.int .i64 n]) rfl rfl (by first | exact ⟨rfl, .inr ⟨_, rfl, rfl⟩⟩ | exact ⟨rfl, .inl rfl⟩) ?_; simp [D.frzs, D.frz, HO.frz, dfFrz, refOf, TK.isAgg, FK.isB, FK.isM, FK.isO, D.isLen])
  cases hs : sortedB l with
  | false =>
    (refine wpD_seqk fun K hK => ?_; refine wpD_region tyOK ?_; ((try simp only [wpAft_ret, wpAft_pan, putS, updS, setS]); (repeat (rw [wpS_cons]; simp)); (try simp only [wpS_nil, thenD, blockD])); refine hK _ _ _ ?_; clear hK K)
    (refine wpD_ret ?_; (try simp only [thenD, blockD]); refine EndQ.ret rfl (.inl ?_); simp [tmOf, Out.fgt, D.fgt, D.fgts])
    simp [levelRight, hs]
  | true =>
    by_cases h9 : l.length ≤ 9
    · have h9' : (l.length : Int) ≤ 9 := by omega
      (refine wpD_seqk fun K hK => ?_; refine wpD_region tyOK ?_; ((try simp only [wpAft_ret, wpAft_pan, putS, updS, setS]); (repeat (rw [wpS_cons]; simp [h9, h9'])); (try simp only [wpS_nil, thenD, blockD])))
      refine CallX.pure globPure (containsFuncP_spec l (partBad n) _ [.ref (.int .i64 n)] rfl rfl hl fun p _ => right2_spec n p) ?_ (by simp [D.fgts, D.fgt]) (by simp [D.pures, D.pure, Cp.free, D.pures_map]) (by simp [Out.pure, D.pure, D.pures, Cp.free, D.pures_map])
      ((try simp only [wpAft_ret, wpAft_pan, putS, updS, setS]); (repeat (rw [wpS_cons]; simp)); (try simp only [wpS_nil, thenD, blockD]))
      (refine hK _ _ _ ?_; clear hK K)
      (refine wpD_ret ?_; (try simp only [thenD, blockD]); refine EndQ.ret rfl (.inl ?_); simp [tmOf, Out.fgt, D.fgt, D.fgts])
      simp [levelRight, hs, h9]
    · have h9' : ¬ (l.length : Int) ≤ 9 := by omega
      (refine wpD_seqk fun K hK => ?_; refine wpD_region tyOK ?_; ((try simp only [wpAft_ret, wpAft_pan, putS, updS, setS]); (repeat (rw [wpS_cons]; simp [h9, h9'])); (try simp only [wpS_nil, thenD, blockD])); refine hK _ _ _ ?_; clear hK K)
      (refine wpD_ret ?_; (try simp only [thenD, blockD]); refine EndQ.ret rfl (.inl ?_); simp [tmOf, Out.fgt, D.fgt, D.fgts])
      simp [levelRight, hs, h9]
end Go.Proofs.YtebmlojhdnldgaaDoor

namespace Go.Proofs.YtebmlojhdnldgaaDoor
set_option linter.unusedSimpArgs false
set_option linter.unusedVariables false
set_option maxHeartbeats 10000000
set_option maxRecDepth 20000
open Go.RowKit
attribute [local simp] wpAft_ret wpAft_pan wantD evOp opD tmOf putS updS setS hOf isFree isTok fillD TK.isAgg TK.known partD thenD blockD putAll D.ofV inB nilTest isNilS binX binD binE isCst bndD capB IntKind.min IntKind.max IntKind.signed IntKind.bits dstOf late
theorem idxB_at {α : Type} {p : α → Bool} {l : List α} {k : Nat} (h : k < l.length) : idxB p (l.drop k) k = if p l[k] = true then (k : Int) else idxB p (l.drop (k + 1)) ((k + 1 : Nat) : Int) := by
  rw [List.drop_eq_getElem_cons h, idxB]; simp
theorem indexFuncI_spec (l : List Int) (p : Int → Bool) (g : FuncId) (hl : l.length ≤ LMax)
    (hg : ∀ x, x ∈ l → Spec Tryd.prog glob g [.int .i64 x] [] (fun o _ => o.fgt = .ret (.bool (p x)))) :
    Spec Tryd.prog glob 211 [.slice (l.map (.int .i64)) .any, .fn (.func g) [] []] [] (fun o _ => o.fgt = .ret (.int .i64 (idxB p l 0))) := by
  obtain ⟨R, hR⟩ : ∃ R, R = idxB p l 0 := ⟨_, rfl⟩
  rw [← hR]
  refine Spec.movd globPure (wpD_spec tyOK Tryd.func211 rfl (enters _ _ Tryd.func211 rfl (by decide)) rfl rfl ?_)
  (refine wpD_seqk fun K hK => ?_; refine wpD_region tyOK ?_; ((try simp only [wpAft_ret, wpAft_pan, putS, updS, setS]); (repeat (rw [wpS_cons]; simp)); (try simp only [wpS_nil, thenD, blockD])); refine hK _ _ _ ?_; clear hK K)
  refine wpD_seqk fun K1 hK1 => ?_
  (refine wpD_seqk fun K hK => ?_; refine wpD_region tyOK ?_; ((try simp only [wpAft_ret, wpAft_pan, putS, updS, setS]); (repeat (rw [wpS_cons]; simp)); (try simp only [wpS_nil, thenD, blockD])); refine hK _ _ _ ?_; clear hK K)
  refine wpD_rangeJ tyOK globPure (ti := 3) (tk := 8) (tn := 7) (td := 9) (ts := 18) [4, 5, 8, 9, 10, 11, 12, 13, 14, 15, 16, 17, 18] [] (l.length) (fun k ys hl => ys = [] ∧ R = idxB p (l.drop k) k ∧ hl = []) rfl rfl rfl rfl rfl rfl rfl rfl rfl rfl rfl rfl (by simp) (by decide) rfl (by first | assumption | omega | (unfold LMax; omega)) rfl (by kernel_rfl) (by decide) ?_ ?_ ?_
  · exact ⟨rfl, hR, rfl⟩
  · rintro i ys hl A hi ⟨rfl, hF, rfl⟩ hA hA2
    simp only [putAll, List.set, List.map_cons, List.map_nil, List.cons_append, List.nil_append]
    have hi' : (i : Int) < l.length := by omega
    rw [idxB_at hi] at hF
    have hrec := hg l[i] (List.getElem_mem hi)
    obtain ⟨x, hx⟩ : ∃ x, l[i] = x := ⟨_, rfl⟩
    rw [hx] at hrec hF
    generalize p x = B at hrec hF
    (refine wpD_seqk fun K hK => ?_; refine wpD_region tyOK ?_; ((try simp only [wpAft_ret, wpAft_pan, putS, updS, setS]); (repeat (rw [wpS_cons]; simp)); (try simp only [wpS_nil, thenD, blockD])); refine hK _ _ _ ?_; clear hK K)
    (refine wpD_seqk fun K hK => ?_; refine wpD_region tyOK ?_; ((try simp only [wpAft_ret, wpAft_pan, putS, updS, setS]); (repeat (rw [wpS_cons]; simp [hi, hi', hx])); (try simp only [wpS_nil, thenD, blockD])))
    refine CallX.pure globPure (hrec) ?_ (by simp [D.fgts, D.fgt]) (by simp [D.pures, D.pure, Cp.free, D.pures_map]) (by simp [Out.pure, D.pure, D.pures, Cp.free, D.pures_map])
    ((try simp only [wpAft_ret, wpAft_pan, putS, updS, setS]); (repeat (rw [wpS_cons]; simp)); (try simp only [wpS_nil, thenD, blockD]))
    (refine hK _ _ _ ?_; clear hK K)
    cases B with
    | true =>
      refine wpD_part rfl (fun _ => ?_) (fun h => by simp at h)
      (refine wpD_seqk fun K hK => ?_; refine wpD_region tyOK ?_; ((try simp only [wpAft_ret, wpAft_pan, putS, updS, setS]); (repeat (rw [wpS_cons]; simp)); (try simp only [wpS_nil, thenD, blockD])); refine hK _ _ _ ?_; clear hK K)
      (refine wpD_ret ?_; (try simp only [thenD, blockD]); refine EndQ.ret rfl (.inl ?_); simp [tmOf, Out.fgt, D.fgt, D.fgts])
      rw [hF, if_pos rfl]
    | false =>
      refine wpD_part rfl (fun h => by simp at h) (fun _ => ?_)
      refine wpD_skip ?_
      (refine hA2 ([]) _ _ _ (LeT.refl _) (by decide) (by simp) (by simp [movT, movH, movD, D.mov, HO.mov, okM, renM, getW, D.ren, D.rens, D.okN, D.okNs, Cp.ren, Cp.okN, HO.ren, HO.okN, okA, renA, renO, hOf, handed, D.fgt, D.fgts, List.range_succ, List.idxOf_cons, putAll]) ?_ rfl; simp [movT, movH, movD, D.mov, HO.mov, okM, renM, getW, D.ren, D.rens, D.okN, D.okNs, Cp.ren, Cp.okN, HO.ren, HO.okN, okA, renA, renO, hOf, handed, D.fgt, D.fgts, List.range_succ, List.idxOf_cons])
      simpa using hF
  · rintro ys hl tl' ⟨rfl, hF, rfl⟩ htl
    refine hK1 _ _ _ (wpD_weakL htl ?_)
    simp only [putAll, List.set, List.map_cons, List.map_nil, List.cons_append, List.nil_append]
    rw [List.drop_length, idxB] at hF
    subst hF
    (refine wpD_seqk fun K hK => ?_; refine wpD_region tyOK ?_; ((try simp only [wpAft_ret, wpAft_pan, putS, updS, setS]); (repeat (rw [wpS_cons]; simp)); (try simp only [wpS_nil, thenD, blockD])); refine hK _ _ _ ?_; clear hK K)
    (refine wpD_ret ?_; (try simp only [thenD, blockD]); refine EndQ.ret rfl (.inl ?_); simp [tmOf, Out.fgt, D.fgt, D.fgts])
theorem containsFuncI_spec (l : List Int) (p : Int → Bool) (g : FuncId) (hl : l.length ≤ LMax)
    (hg : ∀ x, x ∈ l → Spec Tryd.prog glob g [.int .i64 x] [] (fun o _ => o.fgt = .ret (.bool (p x)))) :
    Spec Tryd.prog glob 203 [.slice (l.map (.int .i64)) .any, .fn (.func g) [] []] [] (fun o _ => o.fgt = .ret (.bool (l.any p))) := by
  refine Spec.movd globPure (wpD_spec tyOK Tryd.func203 rfl (enters _ _ Tryd.func203 rfl (by decide)) rfl rfl ?_)
  (refine wpD_seqk fun K hK => ?_; refine wpD_region tyOK ?_; ((try simp only [wpAft_ret, wpAft_pan, putS, updS, setS]); (repeat (rw [wpS_cons]; simp)); (try simp only [wpS_nil, thenD, blockD])); refine hK _ _ _ ?_; clear hK K)
  (refine wpD_seqk fun K hK => ?_; refine wpD_region tyOK ?_; ((try simp only [wpAft_ret, wpAft_pan, putS, updS, setS]); (repeat (rw [wpS_cons]; simp)); (try simp only [wpS_nil, thenD, blockD])))
  refine CallX.pure globPure (indexFuncI_spec l p g hl hg) ?_ (by simp [D.fgts, D.fgt]) (by simp [D.pures, D.pure, Cp.free, D.pures_map]) (by simp [Out.pure, D.pure, D.pures, Cp.free, D.pures_map])
  ((try simp only [wpAft_ret, wpAft_pan, putS, updS, setS]); (repeat (rw [wpS_cons]; simp)); (try simp only [wpS_nil, thenD, blockD]))
  (refine hK _ _ _ ?_; clear hK K)
  (refine wpD_ret ?_; (try simp only [thenD, blockD]); refine EndQ.ret rfl (.inl ?_); simp [tmOf, Out.fgt, D.fgt, D.fgts])
  exact idxB_any p l 0 (by omega)
theorem indexFuncL_spec (l : List LV) (p : LV → Bool) (g : FuncId) (hl : l.length ≤ LMax)
    (hg : ∀ x, x ∈ l → Spec Tryd.prog glob g [encL x] [] (fun o _ => o.fgt = .ret (.bool (p x)))) :
    Spec Tryd.prog glob 205 [.slice (l.map encL) .any, .fn (.func g) [] []] [] (fun o _ => o.fgt = .ret (.int .i64 (idxB p l 0))) := by
  obtain ⟨R, hR⟩ : ∃ R, R = idxB p l 0 := ⟨_, rfl⟩
  rw [← hR]
  refine Spec.movd globPure (wpD_spec tyOK Tryd.func205 rfl (enters _ _ Tryd.func205 rfl (by decide)) rfl rfl ?_)
  (refine wpD_seqk fun K hK => ?_; refine wpD_region tyOK ?_; ((try simp only [wpAft_ret, wpAft_pan, putS, updS, setS]); (repeat (rw [wpS_cons]; simp)); (try simp only [wpS_nil, thenD, blockD])); refine hK _ _ _ ?_; clear hK K)
  refine wpD_seqk fun K1 hK1 => ?_
  (refine wpD_seqk fun K hK => ?_; refine wpD_region tyOK ?_; ((try simp only [wpAft_ret, wpAft_pan, putS, updS, setS]); (repeat (rw [wpS_cons]; simp)); (try simp only [wpS_nil, thenD, blockD])); refine hK _ _ _ ?_; clear hK K)
  refine wpD_rangeJ tyOK globPure (ti := 3) (tk := 8) (tn := 7) (td := 9) (ts := 18) [4, 5, 8, 9, 10, 11, 12, 13, 14, 15, 16, 17, 18] [] (l.length) (fun k ys hl => ys = [] ∧ R = idxB p (l.drop k) k ∧ hl = []) rfl rfl rfl rfl rfl rfl rfl rfl rfl rfl rfl rfl (by simp) (by decide) rfl (by first | assumption | omega | (unfold LMax; omega)) rfl (by kernel_rfl) (by decide) ?_ ?_ ?_
  · exact ⟨rfl, hR, rfl⟩
  · rintro i ys hl A hi ⟨rfl, hF, rfl⟩ hA hA2
    simp only [putAll, List.set, List.map_cons, List.map_nil, List.cons_append, List.nil_append]
    have hi' : (i : Int) < l.length := by omega
    rw [idxB_at hi] at hF
    have hrec := hg l[i] (List.getElem_mem hi)
    obtain ⟨x, hx⟩ : ∃ x, l[i] = x := ⟨_, rfl⟩
    rw [hx] at hrec hF
    unfold encL at hrec
    generalize p x = B at hrec hF
    (refine wpD_seqk fun K hK => ?_; refine wpD_region tyOK ?_; ((try simp only [wpAft_ret, wpAft_pan, putS, updS, setS]); (repeat (rw [wpS_cons]; simp)); (try simp only [wpS_nil, thenD, blockD])); refine hK _ _ _ ?_; clear hK K)
    (refine wpD_seqk fun K hK => ?_; refine wpD_region tyOK ?_; ((try simp only [wpAft_ret, wpAft_pan, putS, updS, setS]); (repeat (rw [wpS_cons]; simp [hi, hi', hx, encL])); (try simp only [wpS_nil, thenD, blockD])))
    refine CallX.pure globPure (hrec) ?_ (by simp [D.fgts, D.fgt]) (by simp [D.pures, D.pure, Cp.free, D.pures_map]) (by simp [Out.pure, D.pure, D.pures, Cp.free, D.pures_map])
    ((try simp only [wpAft_ret, wpAft_pan, putS, updS, setS]); (repeat (rw [wpS_cons]; simp)); (try simp only [wpS_nil, thenD, blockD]))
    (refine hK _ _ _ ?_; clear hK K)
    cases B with
    | true =>
      refine wpD_part rfl (fun _ => ?_) (fun h => by simp at h)
      (refine wpD_seqk fun K hK => ?_; refine wpD_region tyOK ?_; ((try simp only [wpAft_ret, wpAft_pan, putS, updS, setS]); (repeat (rw [wpS_cons]; simp)); (try simp only [wpS_nil, thenD, blockD])); refine hK _ _ _ ?_; clear hK K)
      (refine wpD_ret ?_; (try simp only [thenD, blockD]); refine EndQ.ret rfl (.inl ?_); simp [tmOf, Out.fgt, D.fgt, D.fgts])
      rw [hF, if_pos rfl]
    | false =>
      refine wpD_part rfl (fun h => by simp at h) (fun _ => ?_)
      refine wpD_skip ?_
      (refine hA2 ([]) _ _ _ (LeT.refl _) (by decide) (by simp) (by simp [movT, movH, movD, D.mov, HO.mov, okM, renM, getW, D.ren, D.rens, D.okN, D.okNs, Cp.ren, Cp.okN, HO.ren, HO.okN, okA, renA, renO, hOf, handed, D.fgt, D.fgts, List.range_succ, List.idxOf_cons, putAll]) ?_ rfl; simp [movT, movH, movD, D.mov, HO.mov, okM, renM, getW, D.ren, D.rens, D.okN, D.okNs, Cp.ren, Cp.okN, HO.ren, HO.okN, okA, renA, renO, hOf, handed, D.fgt, D.fgts, List.range_succ, List.idxOf_cons])
      simpa using hF
  · rintro ys hl tl' ⟨rfl, hF, rfl⟩ htl
    refine hK1 _ _ _ (wpD_weakL htl ?_)
    simp only [putAll, List.set, List.map_cons, List.map_nil, List.cons_append, List.nil_append]
    rw [List.drop_length, idxB] at hF
    subst hF
    (refine wpD_seqk fun K hK => ?_; refine wpD_region tyOK ?_; ((try simp only [wpAft_ret, wpAft_pan, putS, updS, setS]); (repeat (rw [wpS_cons]; simp)); (try simp only [wpS_nil, thenD, blockD])); refine hK _ _ _ ?_; clear hK K)
    (refine wpD_ret ?_; (try simp only [thenD, blockD]); refine EndQ.ret rfl (.inl ?_); simp [tmOf, Out.fgt, D.fgt, D.fgts])
theorem containsFuncL_spec (l : List LV) (p : LV → Bool) (g : FuncId) (hl : l.length ≤ LMax)
    (hg : ∀ x, x ∈ l → Spec Tryd.prog glob g [encL x] [] (fun o _ => o.fgt = .ret (.bool (p x)))) :
    Spec Tryd.prog glob 185 [.slice (l.map encL) .any, .fn (.func g) [] []] [] (fun o _ => o.fgt = .ret (.bool (l.any p))) := by
  refine Spec.movd globPure (wpD_spec tyOK Tryd.func185 rfl (enters _ _ Tryd.func185 rfl (by decide)) rfl rfl ?_)
  (refine wpD_seqk fun K hK => ?_; refine wpD_region tyOK ?_; ((try simp only [wpAft_ret, wpAft_pan, putS, updS, setS]); (repeat (rw [wpS_cons]; simp)); (try simp only [wpS_nil, thenD, blockD])); refine hK _ _ _ ?_; clear hK K)
  (refine wpD_seqk fun K hK => ?_; refine wpD_region tyOK ?_; ((try simp only [wpAft_ret, wpAft_pan, putS, updS, setS]); (repeat (rw [wpS_cons]; simp)); (try simp only [wpS_nil, thenD, blockD])))
  refine CallX.pure globPure (indexFuncL_spec l p g hl hg) ?_ (by simp [D.fgts, D.fgt]) (by simp [D.pures, D.pure, Cp.free, D.pures_map]) (by simp [Out.pure, D.pure, D.pures, Cp.free, D.pures_map])
  ((try simp only [wpAft_ret, wpAft_pan, putS, updS, setS]); (repeat (rw [wpS_cons]; simp)); (try simp only [wpS_nil, thenD, blockD]))
  (refine hK _ _ _ ?_; clear hK K)
  (refine wpD_ret ?_; (try simp only [thenD, blockD]); refine EndQ.ret rfl (.inl ?_); simp [tmOf, Out.fgt, D.fgt, D.fgts])
  exact idxB_any p l 0 (by omega)
def outNum (n : Int) : Bool := decide (n < 0) || decide (1048576 < n)
theorem within1_spec (n : Int) : Spec Tryd.prog glob 204 [.int .i64 n] [] (fun o _ => o.fgt = .ret (.bool (outNum n))) := by
  refine Spec.movd globPure (wpD_spec tyOK Tryd.func204 rfl (enters _ _ Tryd.func204 rfl (by decide)) rfl rfl ?_)
  (refine wpD_seqk fun K hK => ?_; refine wpD_region tyOK ?_; ((try simp only [wpAft_ret, wpAft_pan, putS, updS, setS]); (repeat (rw [wpS_cons]; simp)); (try simp only [wpS_nil, thenD, blockD])); refine hK _ _ _ ?_; clear hK K)
  by_cases h : n < 0
  · (refine wpD_seqk fun K hK => ?_; refine wpD_region tyOK ?_; ((try simp only [wpAft_ret, wpAft_pan, putS, updS, setS]); (repeat (rw [wpS_cons]; simp [h])); (try simp only [wpS_nil, thenD, blockD])); refine hK _ _ _ ?_; clear hK K)
    (refine wpD_ret ?_; (try simp only [thenD, blockD]); refine EndQ.ret rfl (.inl ?_); simp [tmOf, Out.fgt, D.fgt, D.fgts])
    simp [outNum, h]
  · (refine wpD_seqk fun K hK => ?_; refine wpD_region tyOK ?_; ((try simp only [wpAft_ret, wpAft_pan, putS, updS, setS]); (repeat (rw [wpS_cons]; simp [h])); (try simp only [wpS_nil, thenD, blockD])); refine hK _ _ _ ?_; clear hK K)
    (refine wpD_ret ?_; (try simp only [thenD, blockD]); refine EndQ.ret rfl (.inl ?_); simp [tmOf, Out.fgt, D.fgt, D.fgts])
    simp [outNum, h]
theorem within_spec (n a : Int) : Spec Tryd.prog glob 184 [.slice [.int .i64 n, .int .i64 a] .any] [] (fun o _ => o.fgt = .ret (.bool (!(outNum n || outNum a)))) := by
  have hc := containsFuncI_spec [n, a] outNum 204 (by unfold LMax; simp) (fun x _ => within1_spec x)
  simp only [List.map_cons, List.map_nil] at hc
  refine Spec.movd globPure (wpD_spec tyOK Tryd.func184 rfl (enters _ _ Tryd.func184 rfl (by decide)) rfl rfl ?_)
  (refine wpD_seqk fun K hK => ?_; refine wpD_region tyOK ?_; ((try simp only [wpAft_ret, wpAft_pan, putS, updS, setS]); (repeat (rw [wpS_cons]; simp)); (try simp only [wpS_nil, thenD, blockD])); refine hK _ _ _ ?_; clear hK K)
  (refine wpD_seqk fun K hK => ?_; refine wpD_region tyOK ?_; ((try simp only [wpAft_ret, wpAft_pan, putS, updS, setS]); (repeat (rw [wpS_cons]; simp)); (try simp only [wpS_nil, thenD, blockD])))
  refine CallX.pure globPure (hc) ?_ (by simp [D.fgts, D.fgt]) (by simp [D.pures, D.pure, Cp.free, D.pures_map]) (by simp [Out.pure, D.pure, D.pures, Cp.free, D.pures_map])
  ((try simp only [wpAft_ret, wpAft_pan, putS, updS, setS]); (repeat (rw [wpS_cons]; simp)); (try simp only [wpS_nil, thenD, blockD]))
  (refine hK _ _ _ ?_; clear hK K)
  (refine wpD_ret ?_; (try simp only [thenD, blockD]); refine EndQ.ret rfl (.inl ?_); simp [tmOf, Out.fgt, D.fgt, D.fgts])
theorem node1_spec (l : LV) (hl : l.length ≤ LMax) : Spec Tryd.prog glob 186 [encL l] [] (fun o _ => o.fgt = .ret (.bool (!levelRight l 9))) := by
  have h := levelRight_spec l 9 hl
  unfold encL at h ⊢
  refine Spec.movd globPure (wpD_spec tyOK Tryd.func186 rfl (enters _ _ Tryd.func186 rfl (by decide)) rfl rfl ?_)
  (refine wpD_seqk fun K hK => ?_; refine wpD_region tyOK ?_; ((try simp only [wpAft_ret, wpAft_pan, putS, updS, setS]); (repeat (rw [wpS_cons]; simp)); (try simp only [wpS_nil, thenD, blockD])); refine hK _ _ _ ?_; clear hK K)
  (refine wpD_seqk fun K hK => ?_; refine wpD_region tyOK ?_; ((try simp only [wpAft_ret, wpAft_pan, putS, updS, setS]); (repeat (rw [wpS_cons]; simp)); (try simp only [wpS_nil, thenD, blockD])))
  refine CallX.pure globPure (h) ?_ (by simp [D.fgts, D.fgt]) (by simp [D.pures, D.pure, Cp.free, D.pures_map]) (by simp [Out.pure, D.pure, D.pures, Cp.free, D.pures_map])
  ((try simp only [wpAft_ret, wpAft_pan, putS, updS, setS]); (repeat (rw [wpS_cons]; simp)); (try simp only [wpS_nil, thenD, blockD]))
  (refine hK _ _ _ ?_; clear hK K)
  (refine wpD_ret ?_; (try simp only [thenD, blockD]); refine EndQ.ret rfl (.inl ?_); simp [tmOf, Out.fgt, D.fgt, D.fgts])
/-- how many kids, levels a node of a kind has -/
def nodeKids (k a : Int) : Int := if k = 24 then IntKind.i64.wrap ((kindAt k).2.2.2.1 + a) else (kindAt k).2.2.2.1
def nodeMost (k : Int) : Int := if k = 10 then 10 else 8
def nodeIn (k n a : Int) : Bool := decide (1 ≤ k) && decide (k ≤ 24) && !(outNum n || outNum a)
def nodeHas (k n a : Int) (ls : List LV) (len : Nat) : Bool :=
  decide ((len : Int) = nodeKids k a) && (decide (n = 0) || (kindAt k).1) && (decide (a = 0) || (kindAt k).2.1) && (decide ((kindAt k).2.2.1 < 0) || decide ((ls.length : Int) = (kindAt k).2.2.1)) && decide ((ls.length : Int) ≤ nodeMost k)
def nodeT (t : T) : Bool := nodeIn t.k t.n t.a && nodeHas t.k t.n t.a t.ls t.ks.length && !(t.ls.any fun l => !levelRight l 9)
theorem node_spec (t : T) (ht : okT t) : Spec Tryd.prog glob 143 [encT t] [] (fun o _ => o.fgt = .ret (.bool (nodeT t))) := by
  obtain ⟨k, n, a, ls, ks⟩ := t
  have hll : ls.length ≤ LMax := ht.ll
  have hls := ht.ls
  simp only [T.ls_mk] at hls
  have hw := within_spec n a
  have hcl := containsFuncL_spec ls (fun l => !levelRight l 9) 186 hll (fun x hx => node1_spec x (hls x hx).1)
  have hT : nodeT (.mk k n a ls ks) = (nodeIn k n a && nodeHas k n a ls ks.length && !(ls.any fun l => !levelRight l 9)) := rfl
  rw [hT]
  generalize (ls.any fun l => !levelRight l 9) = L at hcl ⊢
  rw [encT_eq]
  simp only [T.k_mk, T.n_mk, T.a_mk, T.ls_mk, T.ks_mk]
  have hI : nodeIn k n a = (decide (1 ≤ k) && decide (k ≤ 24) && !(outNum n || outNum a)) := rfl
  generalize (outNum n || outNum a) = W at hw hI
  generalize nodeIn k n a = I at hI ⊢
  clear hT hls ht
  refine Spec.movd globPure (wpD_spec tyOK Tryd.func143 rfl (enters _ _ Tryd.func143 rfl (by decide)) rfl rfl ?_)
  (refine wpD_seqk fun K hK => ?_; refine wpD_region tyOK ?_; ((try simp only [wpAft_ret, wpAft_pan, putS, updS, setS]); (repeat (rw [wpS_cons]; simp)); (try simp only [wpS_nil, thenD, blockD])); refine hK _ _ _ ?_; clear hK K)
  refine wpD_seqk fun K1 hK1 => ?_
  by_cases h1 : k < 1
  · (refine wpD_seqk fun K hK => ?_; refine wpD_region tyOK ?_; ((try simp only [wpAft_ret, wpAft_pan, putS, updS, setS]); (repeat (rw [wpS_cons]; simp [h1])); (try simp only [wpS_nil, thenD, blockD])); refine hK _ _ _ ?_; clear hK K)
    refine wpD_part rfl (fun _ => ?_) (fun h => by simp at h)
    (refine wpD_seqk fun K hK => ?_; refine wpD_region tyOK ?_; ((try simp only [wpAft_ret, wpAft_pan, putS, updS, setS]); (repeat (rw [wpS_cons]; simp)); (try simp only [wpS_nil, thenD, blockD])); refine hK _ _ _ ?_; clear hK K)
    (refine wpD_ret ?_; (try simp only [thenD, blockD]); refine EndQ.ret rfl (.inl ?_); simp [tmOf, Out.fgt, D.fgt, D.fgts])
    rw [hI]
    simp [show ¬ 1 ≤ k by omega]
  by_cases h2 : 24 < k
  · (refine wpD_seqk fun K hK => ?_; refine wpD_region tyOK ?_; ((try simp only [wpAft_ret, wpAft_pan, putS, updS, setS]); (repeat (rw [wpS_cons]; simp [h1, h2])); (try simp only [wpS_nil, thenD, blockD])); refine hK _ _ _ ?_; clear hK K)
    refine wpD_part rfl (fun _ => ?_) (fun h => by simp at h)
    (refine wpD_seqk fun K hK => ?_; refine wpD_region tyOK ?_; ((try simp only [wpAft_ret, wpAft_pan, putS, updS, setS]); (repeat (rw [wpS_cons]; simp)); (try simp only [wpS_nil, thenD, blockD])); refine hK _ _ _ ?_; clear hK K)
    (refine wpD_ret ?_; (try simp only [thenD, blockD]); refine EndQ.ret rfl (.inl ?_); simp [tmOf, Out.fgt, D.fgt, D.fgts])
    rw [hI]
    simp [show ¬ k ≤ 24 by omega]
  rw [show decide (1 ≤ k) = true from by simpa using (by omega : 1 ≤ k), show decide (k ≤ 24) = true from by simpa using (by omega : k ≤ 24)] at hI
  simp only [Bool.true_and] at hI
  subst hI
  cases W with
  | true =>
    (refine wpD_seqk fun K hK => ?_; refine wpD_region tyOK ?_; ((try simp only [wpAft_ret, wpAft_pan, putS, updS, setS]); (repeat (rw [wpS_cons]; simp [h1, h2])); (try simp only [wpS_nil, thenD, blockD])))
    refine CallX.pure globPure (hw) ?_ (by simp [D.fgts, D.fgt]) (by simp [D.pures, D.pure, Cp.free, D.pures_map]) (by simp [Out.pure, D.pure, D.pures, Cp.free, D.pures_map])
    ((try simp only [wpAft_ret, wpAft_pan, putS, updS, setS]); (repeat (rw [wpS_cons]; simp)); (try simp only [wpS_nil, thenD, blockD]))
    (refine hK _ _ _ ?_; clear hK K)
    refine wpD_part rfl (fun _ => ?_) (fun h => by simp at h)
    (refine wpD_seqk fun K hK => ?_; refine wpD_region tyOK ?_; ((try simp only [wpAft_ret, wpAft_pan, putS, updS, setS]); (repeat (rw [wpS_cons]; simp)); (try simp only [wpS_nil, thenD, blockD])); refine hK _ _ _ ?_; clear hK K)
    (refine wpD_ret ?_; (try simp only [thenD, blockD]); refine EndQ.ret rfl (.inl ?_); simp [tmOf, Out.fgt, D.fgt, D.fgts])
  | false =>
    (refine wpD_seqk fun K hK => ?_; refine wpD_region tyOK ?_; ((try simp only [wpAft_ret, wpAft_pan, putS, updS, setS]); (repeat (rw [wpS_cons]; simp [h1, h2])); (try simp only [wpS_nil, thenD, blockD])))
    refine CallX.pure globPure (hw) ?_ (by simp [D.fgts, D.fgt]) (by simp [D.pures, D.pure, Cp.free, D.pures_map]) (by simp [Out.pure, D.pure, D.pures, Cp.free, D.pures_map])
    ((try simp only [wpAft_ret, wpAft_pan, putS, updS, setS]); (repeat (rw [wpS_cons]; simp)); (try simp only [wpS_nil, thenD, blockD]))
    (refine hK _ _ _ ?_; clear hK K)
    refine wpD_part rfl (fun h => by simp at h) (fun _ => ?_)
    refine wpD_skip (hK1 _ _ _ ?_)
    clear hK1 K1 hw
    obtain ⟨j, rfl⟩ : ∃ j : Nat, k = j := ⟨k.toNat, by omega⟩
    have hj : j < 25 := by omega
    have hp := kind_part j hj
    simp [partD, TK.isAgg] at hp
    have hH : nodeHas j n a ls ks.length = (decide ((ks.length : Int) = nodeKids j a) && (decide (n = 0) || (kindAt j).1) && (decide (a = 0) || (kindAt j).2.1) && (decide ((kindAt j).2.2.1 < 0) || decide ((ls.length : Int) = (kindAt j).2.2.1)) && decide ((ls.length : Int) ≤ nodeMost j)) := rfl
    generalize nodeHas j n a ls ks.length = H at hH ⊢
    have hK0 : nodeKids j a = if (j : Int) = 24 then IntKind.i64.wrap ((kindAt j).2.2.2.1 + a) else (kindAt j).2.2.2.1 := rfl
    have hM0 : nodeMost j = if (j : Int) = 10 then 10 else 8 := rfl
    generalize nodeKids j a = NK at hH hK0
    generalize nodeMost j = NM at hH hM0
    generalize (kindAt j).1 = bN at hp hH
    generalize (kindAt j).2.1 = bA at hp hH
    generalize (kindAt j).2.2.1 = lv at hp hH
    generalize (kindAt j).2.2.2.1 = kd at hp hK0
    generalize (kindAt j).2.2.2.2 = bd at hp
    (refine wpD_seqk fun K hK => ?_; refine wpD_region tyOK ?_; ((try simp only [wpAft_ret, wpAft_pan, putS, updS, setS]); (repeat (rw [wpS_cons]; simp [hj, hp])); (try simp only [wpS_nil, thenD, blockD])); refine hK _ _ _ ?_; clear hK K)
    refine wpD_seqf [4, 26, 27, 28, 29, 30, 31, 32, 33, 34, 35, 36, 37, 38, 39] ([.int .i64 NM] ++ [26, 27, 28, 29, 30, 31, 32, 33, 34, 35, 36, 37, 38, 39].map fun _ => .junk) [.cells 27 [.int .i64 j, .int .i64 n, .int .i64 a, .slice (ls.map encL) .any, .slice (ks.map encT) .any], .cells 147 [.bool bN, .bool bA, .int .i64 lv, .int .i64 NK, .int .i64 bd]] ?_ ?_
    rotate_left
    · intro K hK
      (refine wpD_seqk fun K hK => ?_; refine wpD_region tyOK ?_; ((try simp only [wpAft_ret, wpAft_pan, putS, updS, setS]); (repeat (rw [wpS_cons]; simp)); (try simp only [wpS_nil, thenD, blockD])); refine hK _ _ _ ?_; clear hK K)
      refine wpD_block ?_
      by_cases h3 : (j : Int) = 24
      · have h3' : j = 24 := by omega
        rw [if_pos h3] at hK0
        rw [if_neg (by omega)] at hM0
        subst h3'
        subst hK0 hM0
        (refine wpD_seqk fun K hK => ?_; refine wpD_region tyOK ?_; ((try simp only [wpAft_ret, wpAft_pan, putS, updS, setS]); (repeat (rw [wpS_cons]; simp)); (try simp only [wpS_nil, thenD, blockD])); refine hK _ _ _ ?_; clear hK K)
        refine wpD_part rfl (fun _ => ?_) (fun h => by simp at h)
        (refine wpD_region tyOK ?_; ((try simp only [wpAft_ret, wpAft_pan, putS, updS, setS]); (repeat (rw [wpS_cons]; simp)); (try simp only [wpS_nil, thenD, blockD])))
        refine hK _ ?_
        simp [leT, putAll]
      · rw [if_neg h3] at hK0
        subst hK0
        (refine wpD_seqk fun K hK => ?_; refine wpD_region tyOK ?_; ((try simp only [wpAft_ret, wpAft_pan, putS, updS, setS]); (repeat (rw [wpS_cons]; simp [h3])); (try simp only [wpS_nil, thenD, blockD])); refine hK _ _ _ ?_; clear hK K)
        refine wpD_part rfl (fun h => by simp at h) (fun _ => ?_)
        by_cases h4 : (j : Int) = 10
        · have h4' : j = 10 := by omega
          rw [if_pos h4] at hM0
          subst h4'
          subst hM0
          (refine wpD_seqk fun K hK => ?_; refine wpD_region tyOK ?_; ((try simp only [wpAft_ret, wpAft_pan, putS, updS, setS]); (repeat (rw [wpS_cons]; simp)); (try simp only [wpS_nil, thenD, blockD])); refine hK _ _ _ ?_; clear hK K)
          refine wpD_part rfl (fun _ => ?_) (fun h => by simp at h)
          (refine wpD_region tyOK ?_; ((try simp only [wpAft_ret, wpAft_pan, putS, updS, setS]); (repeat (rw [wpS_cons]; simp)); (try simp only [wpS_nil, thenD, blockD])))
          refine hK _ ?_
          simp [leT, putAll]
          try exact (i64w (by omega) (by omega)).symm
        · rw [if_neg h4] at hM0
          subst hM0
          (refine wpD_seqk fun K hK => ?_; refine wpD_region tyOK ?_; ((try simp only [wpAft_ret, wpAft_pan, putS, updS, setS]); (repeat (rw [wpS_cons]; simp [h4])); (try simp only [wpS_nil, thenD, blockD])); refine hK _ _ _ ?_; clear hK K)
          refine wpD_part rfl (fun h => by simp at h) (fun _ => ?_)
          refine wpD_skip (hK _ ?_)
          simp [leT, putAll]
    · simp only [putAll, List.set, List.map_cons, List.map_nil, List.cons_append, List.nil_append]
      refine wpD_seqk fun K1 hK1 => ?_
      by_cases c1 : (ks.length : Int) = NK
      rotate_left
      · (refine wpD_seqk fun K hK => ?_; refine wpD_region tyOK ?_; ((try simp only [wpAft_ret, wpAft_pan, putS, updS, setS]); (repeat (rw [wpS_cons]; simp [c1])); (try simp only [wpS_nil, thenD, blockD])); refine hK _ _ _ ?_; clear hK K)
        refine wpD_part rfl (fun _ => ?_) (fun h => by simp at h)
        (refine wpD_seqk fun K hK => ?_; refine wpD_region tyOK ?_; ((try simp only [wpAft_ret, wpAft_pan, putS, updS, setS]); (repeat (rw [wpS_cons]; simp)); (try simp only [wpS_nil, thenD, blockD])); refine hK _ _ _ ?_; clear hK K)
        (refine wpD_ret ?_; (try simp only [thenD, blockD]); refine EndQ.ret rfl (.inl ?_); simp [tmOf, Out.fgt, D.fgt, D.fgts])
        simp [hH, c1]
      by_cases c2 : n = 0 ∨ (¬ n = 0 ∧ bN = true)
      rotate_left
      · have c2a : ¬ n = 0 := fun h => c2 (.inl h)
        have c2b : bN = false := by cases bN with
          | false => rfl
          | true => exact absurd (.inr ⟨c2a, rfl⟩) c2
        subst c2b
        (refine wpD_seqk fun K hK => ?_; refine wpD_region tyOK ?_; ((try simp only [wpAft_ret, wpAft_pan, putS, updS, setS]); (repeat (rw [wpS_cons]; simp [c1, c2a])); (try simp only [wpS_nil, thenD, blockD])); refine hK _ _ _ ?_; clear hK K)
        refine wpD_part rfl (fun _ => ?_) (fun h => by simp at h)
        (refine wpD_seqk fun K hK => ?_; refine wpD_region tyOK ?_; ((try simp only [wpAft_ret, wpAft_pan, putS, updS, setS]); (repeat (rw [wpS_cons]; simp)); (try simp only [wpS_nil, thenD, blockD])); refine hK _ _ _ ?_; clear hK K)
        (refine wpD_ret ?_; (try simp only [thenD, blockD]); refine EndQ.ret rfl (.inl ?_); simp [tmOf, Out.fgt, D.fgt, D.fgts])
        simp [hH, c1, c2a]
      by_cases c3 : a = 0 ∨ (¬ a = 0 ∧ bA = true)
      rotate_left
      · have c3a : ¬ a = 0 := fun h => c3 (.inl h)
        have c3b : bA = false := by cases bA with
          | false => rfl
          | true => exact absurd (.inr ⟨c3a, rfl⟩) c3
        subst c3b
        rcases c2 with c2 | ⟨c2, c2b⟩
        · (refine wpD_seqk fun K hK => ?_; refine wpD_region tyOK ?_; ((try simp only [wpAft_ret, wpAft_pan, putS, updS, setS]); (repeat (rw [wpS_cons]; simp [c1, c2, c3a])); (try simp only [wpS_nil, thenD, blockD])); refine hK _ _ _ ?_; clear hK K)
          refine wpD_part rfl (fun _ => ?_) (fun h => by simp at h)
          (refine wpD_seqk fun K hK => ?_; refine wpD_region tyOK ?_; ((try simp only [wpAft_ret, wpAft_pan, putS, updS, setS]); (repeat (rw [wpS_cons]; simp)); (try simp only [wpS_nil, thenD, blockD])); refine hK _ _ _ ?_; clear hK K)
          (refine wpD_ret ?_; (try simp only [thenD, blockD]); refine EndQ.ret rfl (.inl ?_); simp [tmOf, Out.fgt, D.fgt, D.fgts])
          simp [hH, c1, c3a]
        · (refine wpD_seqk fun K hK => ?_; refine wpD_region tyOK ?_; ((try simp only [wpAft_ret, wpAft_pan, putS, updS, setS]); (repeat (rw [wpS_cons]; simp [c1, c2, c2b, c3a])); (try simp only [wpS_nil, thenD, blockD])); refine hK _ _ _ ?_; clear hK K)
          refine wpD_part rfl (fun _ => ?_) (fun h => by simp at h)
          (refine wpD_seqk fun K hK => ?_; refine wpD_region tyOK ?_; ((try simp only [wpAft_ret, wpAft_pan, putS, updS, setS]); (repeat (rw [wpS_cons]; simp)); (try simp only [wpS_nil, thenD, blockD])); refine hK _ _ _ ?_; clear hK K)
          (refine wpD_ret ?_; (try simp only [thenD, blockD]); refine EndQ.ret rfl (.inl ?_); simp [tmOf, Out.fgt, D.fgt, D.fgts])
          simp [hH, c1, c3a]
      by_cases c4 : ¬ 0 ≤ lv ∨ (0 ≤ lv ∧ (ls.length : Int) = lv)
      rotate_left
      · have c4a : 0 ≤ lv := by omega
        have c4b : ¬ (ls.length : Int) = lv := fun h => c4 (.inr ⟨c4a, h⟩)
        have hf : H = false := by rw [hH]; simp [show ¬ lv < 0 by omega, c4b]
        rcases c2 with c2 | ⟨c2, c2b⟩ <;> rcases c3 with c3 | ⟨c3, c3b⟩
        · (refine wpD_seqk fun K hK => ?_; refine wpD_region tyOK ?_; ((try simp only [wpAft_ret, wpAft_pan, putS, updS, setS]); (repeat (rw [wpS_cons]; simp [c1, c2, c3, c4a, c4b])); (try simp only [wpS_nil, thenD, blockD])); refine hK _ _ _ ?_; clear hK K)
          refine wpD_part rfl (fun _ => ?_) (fun h => by simp at h)
          (refine wpD_seqk fun K hK => ?_; refine wpD_region tyOK ?_; ((try simp only [wpAft_ret, wpAft_pan, putS, updS, setS]); (repeat (rw [wpS_cons]; simp)); (try simp only [wpS_nil, thenD, blockD])); refine hK _ _ _ ?_; clear hK K)
          (refine wpD_ret ?_; (try simp only [thenD, blockD]); refine EndQ.ret rfl (.inl ?_); simp [tmOf, Out.fgt, D.fgt, D.fgts])
          simp [hf]
        · (refine wpD_seqk fun K hK => ?_; refine wpD_region tyOK ?_; ((try simp only [wpAft_ret, wpAft_pan, putS, updS, setS]); (repeat (rw [wpS_cons]; simp [c1, c2, c3, c3b, c4a, c4b])); (try simp only [wpS_nil, thenD, blockD])); refine hK _ _ _ ?_; clear hK K)
          refine wpD_part rfl (fun _ => ?_) (fun h => by simp at h)
          (refine wpD_seqk fun K hK => ?_; refine wpD_region tyOK ?_; ((try simp only [wpAft_ret, wpAft_pan, putS, updS, setS]); (repeat (rw [wpS_cons]; simp)); (try simp only [wpS_nil, thenD, blockD])); refine hK _ _ _ ?_; clear hK K)
          (refine wpD_ret ?_; (try simp only [thenD, blockD]); refine EndQ.ret rfl (.inl ?_); simp [tmOf, Out.fgt, D.fgt, D.fgts])
          simp [hf]
        · (refine wpD_seqk fun K hK => ?_; refine wpD_region tyOK ?_; ((try simp only [wpAft_ret, wpAft_pan, putS, updS, setS]); (repeat (rw [wpS_cons]; simp [c1, c2, c2b, c3, c4a, c4b])); (try simp only [wpS_nil, thenD, blockD])); refine hK _ _ _ ?_; clear hK K)
          refine wpD_part rfl (fun _ => ?_) (fun h => by simp at h)
          (refine wpD_seqk fun K hK => ?_; refine wpD_region tyOK ?_; ((try simp only [wpAft_ret, wpAft_pan, putS, updS, setS]); (repeat (rw [wpS_cons]; simp)); (try simp only [wpS_nil, thenD, blockD])); refine hK _ _ _ ?_; clear hK K)
          (refine wpD_ret ?_; (try simp only [thenD, blockD]); refine EndQ.ret rfl (.inl ?_); simp [tmOf, Out.fgt, D.fgt, D.fgts])
          simp [hf]
        · (refine wpD_seqk fun K hK => ?_; refine wpD_region tyOK ?_; ((try simp only [wpAft_ret, wpAft_pan, putS, updS, setS]); (repeat (rw [wpS_cons]; simp [c1, c2, c2b, c3, c3b, c4a, c4b])); (try simp only [wpS_nil, thenD, blockD])); refine hK _ _ _ ?_; clear hK K)
          refine wpD_part rfl (fun _ => ?_) (fun h => by simp at h)
          (refine wpD_seqk fun K hK => ?_; refine wpD_region tyOK ?_; ((try simp only [wpAft_ret, wpAft_pan, putS, updS, setS]); (repeat (rw [wpS_cons]; simp)); (try simp only [wpS_nil, thenD, blockD])); refine hK _ _ _ ?_; clear hK K)
          (refine wpD_ret ?_; (try simp only [thenD, blockD]); refine EndQ.ret rfl (.inl ?_); simp [tmOf, Out.fgt, D.fgt, D.fgts])
          simp [hf]
      have hHe : H = decide ((ls.length : Int) ≤ NM) := by
        rw [hH]
        rcases c2 with c2 | ⟨c2, c2b⟩ <;> rcases c3 with c3 | ⟨c3, c3b⟩ <;> rcases c4 with c4 | ⟨c4, c4b⟩ <;> simp [*] <;> omega
      clear hH
      by_cases c5 : NM < (ls.length : Int)
      · have hf : H = false := by rw [hHe]; simpa using c5
        rcases c2 with c2 | ⟨c2, c2b⟩ <;> rcases c3 with c3 | ⟨c3, c3b⟩ <;> rcases c4 with c4 | ⟨c4, rfl⟩
        · (refine wpD_seqk fun K hK => ?_; refine wpD_region tyOK ?_; ((try simp only [wpAft_ret, wpAft_pan, putS, updS, setS]); (repeat (rw [wpS_cons]; simp [c1, c2, c3, c4, c5])); (try simp only [wpS_nil, thenD, blockD])); refine hK _ _ _ ?_; clear hK K)
          refine wpD_part rfl (fun _ => ?_) (fun h => by simp at h)
          (refine wpD_seqk fun K hK => ?_; refine wpD_region tyOK ?_; ((try simp only [wpAft_ret, wpAft_pan, putS, updS, setS]); (repeat (rw [wpS_cons]; simp)); (try simp only [wpS_nil, thenD, blockD])); refine hK _ _ _ ?_; clear hK K)
          (refine wpD_ret ?_; (try simp only [thenD, blockD]); refine EndQ.ret rfl (.inl ?_); simp [tmOf, Out.fgt, D.fgt, D.fgts])
          simp [hf]
        · (refine wpD_seqk fun K hK => ?_; refine wpD_region tyOK ?_; ((try simp only [wpAft_ret, wpAft_pan, putS, updS, setS]); (repeat (rw [wpS_cons]; simp [c1, c2, c3, c4, c5])); (try simp only [wpS_nil, thenD, blockD])); refine hK _ _ _ ?_; clear hK K)
          refine wpD_part rfl (fun _ => ?_) (fun h => by simp at h)
          (refine wpD_seqk fun K hK => ?_; refine wpD_region tyOK ?_; ((try simp only [wpAft_ret, wpAft_pan, putS, updS, setS]); (repeat (rw [wpS_cons]; simp)); (try simp only [wpS_nil, thenD, blockD])); refine hK _ _ _ ?_; clear hK K)
          (refine wpD_ret ?_; (try simp only [thenD, blockD]); refine EndQ.ret rfl (.inl ?_); simp [tmOf, Out.fgt, D.fgt, D.fgts])
          simp [hf]
        · (refine wpD_seqk fun K hK => ?_; refine wpD_region tyOK ?_; ((try simp only [wpAft_ret, wpAft_pan, putS, updS, setS]); (repeat (rw [wpS_cons]; simp [c1, c2, c3, c3b, c4, c5])); (try simp only [wpS_nil, thenD, blockD])); refine hK _ _ _ ?_; clear hK K)
          refine wpD_part rfl (fun _ => ?_) (fun h => by simp at h)
          (refine wpD_seqk fun K hK => ?_; refine wpD_region tyOK ?_; ((try simp only [wpAft_ret, wpAft_pan, putS, updS, setS]); (repeat (rw [wpS_cons]; simp)); (try simp only [wpS_nil, thenD, blockD])); refine hK _ _ _ ?_; clear hK K)
          (refine wpD_ret ?_; (try simp only [thenD, blockD]); refine EndQ.ret rfl (.inl ?_); simp [tmOf, Out.fgt, D.fgt, D.fgts])
          simp [hf]
        · (refine wpD_seqk fun K hK => ?_; refine wpD_region tyOK ?_; ((try simp only [wpAft_ret, wpAft_pan, putS, updS, setS]); (repeat (rw [wpS_cons]; simp [c1, c2, c3, c3b, c4, c5])); (try simp only [wpS_nil, thenD, blockD])); refine hK _ _ _ ?_; clear hK K)
          refine wpD_part rfl (fun _ => ?_) (fun h => by simp at h)
          (refine wpD_seqk fun K hK => ?_; refine wpD_region tyOK ?_; ((try simp only [wpAft_ret, wpAft_pan, putS, updS, setS]); (repeat (rw [wpS_cons]; simp)); (try simp only [wpS_nil, thenD, blockD])); refine hK _ _ _ ?_; clear hK K)
          (refine wpD_ret ?_; (try simp only [thenD, blockD]); refine EndQ.ret rfl (.inl ?_); simp [tmOf, Out.fgt, D.fgt, D.fgts])
          simp [hf]
        · (refine wpD_seqk fun K hK => ?_; refine wpD_region tyOK ?_; ((try simp only [wpAft_ret, wpAft_pan, putS, updS, setS]); (repeat (rw [wpS_cons]; simp [c1, c2, c2b, c3, c4, c5])); (try simp only [wpS_nil, thenD, blockD])); refine hK _ _ _ ?_; clear hK K)
          refine wpD_part rfl (fun _ => ?_) (fun h => by simp at h)
          (refine wpD_seqk fun K hK => ?_; refine wpD_region tyOK ?_; ((try simp only [wpAft_ret, wpAft_pan, putS, updS, setS]); (repeat (rw [wpS_cons]; simp)); (try simp only [wpS_nil, thenD, blockD])); refine hK _ _ _ ?_; clear hK K)
          (refine wpD_ret ?_; (try simp only [thenD, blockD]); refine EndQ.ret rfl (.inl ?_); simp [tmOf, Out.fgt, D.fgt, D.fgts])
          simp [hf]
        · (refine wpD_seqk fun K hK => ?_; refine wpD_region tyOK ?_; ((try simp only [wpAft_ret, wpAft_pan, putS, updS, setS]); (repeat (rw [wpS_cons]; simp [c1, c2, c2b, c3, c4, c5])); (try simp only [wpS_nil, thenD, blockD])); refine hK _ _ _ ?_; clear hK K)
          refine wpD_part rfl (fun _ => ?_) (fun h => by simp at h)
          (refine wpD_seqk fun K hK => ?_; refine wpD_region tyOK ?_; ((try simp only [wpAft_ret, wpAft_pan, putS, updS, setS]); (repeat (rw [wpS_cons]; simp)); (try simp only [wpS_nil, thenD, blockD])); refine hK _ _ _ ?_; clear hK K)
          (refine wpD_ret ?_; (try simp only [thenD, blockD]); refine EndQ.ret rfl (.inl ?_); simp [tmOf, Out.fgt, D.fgt, D.fgts])
          simp [hf]
        · (refine wpD_seqk fun K hK => ?_; refine wpD_region tyOK ?_; ((try simp only [wpAft_ret, wpAft_pan, putS, updS, setS]); (repeat (rw [wpS_cons]; simp [c1, c2, c2b, c3, c3b, c4, c5])); (try simp only [wpS_nil, thenD, blockD])); refine hK _ _ _ ?_; clear hK K)
          refine wpD_part rfl (fun _ => ?_) (fun h => by simp at h)
          (refine wpD_seqk fun K hK => ?_; refine wpD_region tyOK ?_; ((try simp only [wpAft_ret, wpAft_pan, putS, updS, setS]); (repeat (rw [wpS_cons]; simp)); (try simp only [wpS_nil, thenD, blockD])); refine hK _ _ _ ?_; clear hK K)
          (refine wpD_ret ?_; (try simp only [thenD, blockD]); refine EndQ.ret rfl (.inl ?_); simp [tmOf, Out.fgt, D.fgt, D.fgts])
          simp [hf]
        · (refine wpD_seqk fun K hK => ?_; refine wpD_region tyOK ?_; ((try simp only [wpAft_ret, wpAft_pan, putS, updS, setS]); (repeat (rw [wpS_cons]; simp [c1, c2, c2b, c3, c3b, c4, c5])); (try simp only [wpS_nil, thenD, blockD])); refine hK _ _ _ ?_; clear hK K)
          refine wpD_part rfl (fun _ => ?_) (fun h => by simp at h)
          (refine wpD_seqk fun K hK => ?_; refine wpD_region tyOK ?_; ((try simp only [wpAft_ret, wpAft_pan, putS, updS, setS]); (repeat (rw [wpS_cons]; simp)); (try simp only [wpS_nil, thenD, blockD])); refine hK _ _ _ ?_; clear hK K)
          (refine wpD_ret ?_; (try simp only [thenD, blockD]); refine EndQ.ret rfl (.inl ?_); simp [tmOf, Out.fgt, D.fgt, D.fgts])
          simp [hf]
      · have hf : H = true := by rw [hHe]; simpa using (by omega : (ls.length : Int) ≤ NM)
        subst hf
        rcases c2 with c2 | ⟨c2, c2b⟩ <;> rcases c3 with c3 | ⟨c3, c3b⟩ <;> rcases c4 with c4 | ⟨c4, rfl⟩
        · (refine wpD_seqk fun K hK => ?_; refine wpD_region tyOK ?_; ((try simp only [wpAft_ret, wpAft_pan, putS, updS, setS]); (repeat (rw [wpS_cons]; simp [c1, c2, c3, c4, c5])); (try simp only [wpS_nil, thenD, blockD])); refine hK _ _ _ ?_; clear hK K)
          refine wpD_part rfl (fun h => by simp at h) (fun _ => ?_)
          refine wpD_skip (hK1 _ _ _ ?_)
          (refine wpD_seqk fun K hK => ?_; refine wpD_region tyOK ?_; ((try simp only [wpAft_ret, wpAft_pan, putS, updS, setS]); (repeat (rw [wpS_cons]; simp)); (try simp only [wpS_nil, thenD, blockD])))
          refine CallX.pure globPure (hcl) ?_ (by simp [D.fgts, D.fgt]) (by simp [D.pures, D.pure, Cp.free, D.pures_map]) (by simp [Out.pure, D.pure, D.pures, Cp.free, D.pures_map])
          ((try simp only [wpAft_ret, wpAft_pan, putS, updS, setS]); (repeat (rw [wpS_cons]; simp)); (try simp only [wpS_nil, thenD, blockD]))
          (refine hK _ _ _ ?_; clear hK K)
          (refine wpD_ret ?_; (try simp only [thenD, blockD]); refine EndQ.ret rfl (.inl ?_); simp [tmOf, Out.fgt, D.fgt, D.fgts])
        · (refine wpD_seqk fun K hK => ?_; refine wpD_region tyOK ?_; ((try simp only [wpAft_ret, wpAft_pan, putS, updS, setS]); (repeat (rw [wpS_cons]; simp [c1, c2, c3, c4, c5])); (try simp only [wpS_nil, thenD, blockD])); refine hK _ _ _ ?_; clear hK K)
          refine wpD_part rfl (fun h => by simp at h) (fun _ => ?_)
          refine wpD_skip (hK1 _ _ _ ?_)
          (refine wpD_seqk fun K hK => ?_; refine wpD_region tyOK ?_; ((try simp only [wpAft_ret, wpAft_pan, putS, updS, setS]); (repeat (rw [wpS_cons]; simp)); (try simp only [wpS_nil, thenD, blockD])))
          refine CallX.pure globPure (hcl) ?_ (by simp [D.fgts, D.fgt]) (by simp [D.pures, D.pure, Cp.free, D.pures_map]) (by simp [Out.pure, D.pure, D.pures, Cp.free, D.pures_map])
          ((try simp only [wpAft_ret, wpAft_pan, putS, updS, setS]); (repeat (rw [wpS_cons]; simp)); (try simp only [wpS_nil, thenD, blockD]))
          (refine hK _ _ _ ?_; clear hK K)
          (refine wpD_ret ?_; (try simp only [thenD, blockD]); refine EndQ.ret rfl (.inl ?_); simp [tmOf, Out.fgt, D.fgt, D.fgts])
        · (refine wpD_seqk fun K hK => ?_; refine wpD_region tyOK ?_; ((try simp only [wpAft_ret, wpAft_pan, putS, updS, setS]); (repeat (rw [wpS_cons]; simp [c1, c2, c3, c3b, c4, c5])); (try simp only [wpS_nil, thenD, blockD])); refine hK _ _ _ ?_; clear hK K)
          refine wpD_part rfl (fun h => by simp at h) (fun _ => ?_)
          refine wpD_skip (hK1 _ _ _ ?_)
          (refine wpD_seqk fun K hK => ?_; refine wpD_region tyOK ?_; ((try simp only [wpAft_ret, wpAft_pan, putS, updS, setS]); (repeat (rw [wpS_cons]; simp)); (try simp only [wpS_nil, thenD, blockD])))
          refine CallX.pure globPure (hcl) ?_ (by simp [D.fgts, D.fgt]) (by simp [D.pures, D.pure, Cp.free, D.pures_map]) (by simp [Out.pure, D.pure, D.pures, Cp.free, D.pures_map])
          ((try simp only [wpAft_ret, wpAft_pan, putS, updS, setS]); (repeat (rw [wpS_cons]; simp)); (try simp only [wpS_nil, thenD, blockD]))
          (refine hK _ _ _ ?_; clear hK K)
          (refine wpD_ret ?_; (try simp only [thenD, blockD]); refine EndQ.ret rfl (.inl ?_); simp [tmOf, Out.fgt, D.fgt, D.fgts])
        · (refine wpD_seqk fun K hK => ?_; refine wpD_region tyOK ?_; ((try simp only [wpAft_ret, wpAft_pan, putS, updS, setS]); (repeat (rw [wpS_cons]; simp [c1, c2, c3, c3b, c4, c5])); (try simp only [wpS_nil, thenD, blockD])); refine hK _ _ _ ?_; clear hK K)
          refine wpD_part rfl (fun h => by simp at h) (fun _ => ?_)
          refine wpD_skip (hK1 _ _ _ ?_)
          (refine wpD_seqk fun K hK => ?_; refine wpD_region tyOK ?_; ((try simp only [wpAft_ret, wpAft_pan, putS, updS, setS]); (repeat (rw [wpS_cons]; simp)); (try simp only [wpS_nil, thenD, blockD])))
          refine CallX.pure globPure (hcl) ?_ (by simp [D.fgts, D.fgt]) (by simp [D.pures, D.pure, Cp.free, D.pures_map]) (by simp [Out.pure, D.pure, D.pures, Cp.free, D.pures_map])
          ((try simp only [wpAft_ret, wpAft_pan, putS, updS, setS]); (repeat (rw [wpS_cons]; simp)); (try simp only [wpS_nil, thenD, blockD]))
          (refine hK _ _ _ ?_; clear hK K)
          (refine wpD_ret ?_; (try simp only [thenD, blockD]); refine EndQ.ret rfl (.inl ?_); simp [tmOf, Out.fgt, D.fgt, D.fgts])
        · (refine wpD_seqk fun K hK => ?_; refine wpD_region tyOK ?_; ((try simp only [wpAft_ret, wpAft_pan, putS, updS, setS]); (repeat (rw [wpS_cons]; simp [c1, c2, c2b, c3, c4, c5])); (try simp only [wpS_nil, thenD, blockD])); refine hK _ _ _ ?_; clear hK K)
          refine wpD_part rfl (fun h => by simp at h) (fun _ => ?_)
          refine wpD_skip (hK1 _ _ _ ?_)
          (refine wpD_seqk fun K hK => ?_; refine wpD_region tyOK ?_; ((try simp only [wpAft_ret, wpAft_pan, putS, updS, setS]); (repeat (rw [wpS_cons]; simp)); (try simp only [wpS_nil, thenD, blockD])))
          refine CallX.pure globPure (hcl) ?_ (by simp [D.fgts, D.fgt]) (by simp [D.pures, D.pure, Cp.free, D.pures_map]) (by simp [Out.pure, D.pure, D.pures, Cp.free, D.pures_map])
          ((try simp only [wpAft_ret, wpAft_pan, putS, updS, setS]); (repeat (rw [wpS_cons]; simp)); (try simp only [wpS_nil, thenD, blockD]))
          (refine hK _ _ _ ?_; clear hK K)
          (refine wpD_ret ?_; (try simp only [thenD, blockD]); refine EndQ.ret rfl (.inl ?_); simp [tmOf, Out.fgt, D.fgt, D.fgts])
        · (refine wpD_seqk fun K hK => ?_; refine wpD_region tyOK ?_; ((try simp only [wpAft_ret, wpAft_pan, putS, updS, setS]); (repeat (rw [wpS_cons]; simp [c1, c2, c2b, c3, c4, c5])); (try simp only [wpS_nil, thenD, blockD])); refine hK _ _ _ ?_; clear hK K)
          refine wpD_part rfl (fun h => by simp at h) (fun _ => ?_)
          refine wpD_skip (hK1 _ _ _ ?_)
          (refine wpD_seqk fun K hK => ?_; refine wpD_region tyOK ?_; ((try simp only [wpAft_ret, wpAft_pan, putS, updS, setS]); (repeat (rw [wpS_cons]; simp)); (try simp only [wpS_nil, thenD, blockD])))
          refine CallX.pure globPure (hcl) ?_ (by simp [D.fgts, D.fgt]) (by simp [D.pures, D.pure, Cp.free, D.pures_map]) (by simp [Out.pure, D.pure, D.pures, Cp.free, D.pures_map])
          ((try simp only [wpAft_ret, wpAft_pan, putS, updS, setS]); (repeat (rw [wpS_cons]; simp)); (try simp only [wpS_nil, thenD, blockD]))
          (refine hK _ _ _ ?_; clear hK K)
          (refine wpD_ret ?_; (try simp only [thenD, blockD]); refine EndQ.ret rfl (.inl ?_); simp [tmOf, Out.fgt, D.fgt, D.fgts])
        · (refine wpD_seqk fun K hK => ?_; refine wpD_region tyOK ?_; ((try simp only [wpAft_ret, wpAft_pan, putS, updS, setS]); (repeat (rw [wpS_cons]; simp [c1, c2, c2b, c3, c3b, c4, c5])); (try simp only [wpS_nil, thenD, blockD])); refine hK _ _ _ ?_; clear hK K)
          refine wpD_part rfl (fun h => by simp at h) (fun _ => ?_)
          refine wpD_skip (hK1 _ _ _ ?_)
          (refine wpD_seqk fun K hK => ?_; refine wpD_region tyOK ?_; ((try simp only [wpAft_ret, wpAft_pan, putS, updS, setS]); (repeat (rw [wpS_cons]; simp)); (try simp only [wpS_nil, thenD, blockD])))
          refine CallX.pure globPure (hcl) ?_ (by simp [D.fgts, D.fgt]) (by simp [D.pures, D.pure, Cp.free, D.pures_map]) (by simp [Out.pure, D.pure, D.pures, Cp.free, D.pures_map])
          ((try simp only [wpAft_ret, wpAft_pan, putS, updS, setS]); (repeat (rw [wpS_cons]; simp)); (try simp only [wpS_nil, thenD, blockD]))
          (refine hK _ _ _ ?_; clear hK K)
          (refine wpD_ret ?_; (try simp only [thenD, blockD]); refine EndQ.ret rfl (.inl ?_); simp [tmOf, Out.fgt, D.fgt, D.fgts])
        · (refine wpD_seqk fun K hK => ?_; refine wpD_region tyOK ?_; ((try simp only [wpAft_ret, wpAft_pan, putS, updS, setS]); (repeat (rw [wpS_cons]; simp [c1, c2, c2b, c3, c3b, c4, c5])); (try simp only [wpS_nil, thenD, blockD])); refine hK _ _ _ ?_; clear hK K)
          refine wpD_part rfl (fun h => by simp at h) (fun _ => ?_)
          refine wpD_skip (hK1 _ _ _ ?_)
          (refine wpD_seqk fun K hK => ?_; refine wpD_region tyOK ?_; ((try simp only [wpAft_ret, wpAft_pan, putS, updS, setS]); (repeat (rw [wpS_cons]; simp)); (try simp only [wpS_nil, thenD, blockD])))
          refine CallX.pure globPure (hcl) ?_ (by simp [D.fgts, D.fgt]) (by simp [D.pures, D.pure, Cp.free, D.pures_map]) (by simp [Out.pure, D.pure, D.pures, Cp.free, D.pures_map])
          ((try simp only [wpAft_ret, wpAft_pan, putS, updS, setS]); (repeat (rw [wpS_cons]; simp)); (try simp only [wpS_nil, thenD, blockD]))
          (refine hK _ _ _ ?_; clear hK K)
          (refine wpD_ret ?_; (try simp only [thenD, blockD]); refine EndQ.ret rfl (.inl ?_); simp [tmOf, Out.fgt, D.fgt, D.fgts])
end Go.Proofs.YtebmlojhdnldgaaDoor

namespace Go.Proofs.YtebmlojhdnldgaaDoor
set_option linter.unusedSimpArgs false
set_option linter.unusedVariables false
set_option maxHeartbeats 10000000
set_option maxRecDepth 20000
open Go.RowKit
attribute [local simp] wpAft_ret wpAft_pan wantD evOp opD tmOf putS updS setS hOf isFree isTok fillD TK.isAgg TK.known partD thenD blockD putAll D.ofV inB nilTest isNilS binX binD binE isCst bndD capB IntKind.min IntKind.max IntKind.signed IntKind.bits dstOf late
mutual
/-- what is counted: is all right, how many -/
def T.cnt : T → Int → Int → Bool × Int
  | .mk k n a ls ks, deep, c =>
    let c1 := IntKind.i64.wrap (c + 1)
    if deep ≤ 400 ∧ c1 ≤ 20000 ∧ nodeT (.mk k n a ls ks) = true then T.cnts ks (IntKind.i64.wrap (deep + 1)) c1 else (false, c1)
def T.cnts : List T → Int → Int → Bool × Int
  | [], _, c => (true, c)
  | t :: r, deep, c => if (T.cnt t deep c).1 = true then T.cnts r deep (T.cnt t deep c).2 else (false, (T.cnt t deep c).2)
end
def T.right (t : T) : Bool := (t.cnt 1 0).1
def numO (c : Int) : HO := .cells 3 [.int .i64 c]
/-- the kids from j on: where one is found, the count then -/
def findK (f : T → Int → Bool × Int) : List T → Nat → Int → Int × Int
  | [], _, c => (-1, c)
  | t :: r, j, c => if (f t c).1 = true then ((j : Int), (f t c).2) else findK f r (j + 1) (f t c).2
theorem findK_at {f : T → Int → Bool × Int} {l : List T} {k : Nat} {c : Int} (h : k < l.length) : findK f (l.drop k) k c = if (f l[k] c).1 = true then ((k : Int), (f l[k] c).2) else findK f (l.drop (k + 1)) (k + 1) (f l[k] c).2 := by
  rw [List.drop_eq_getElem_cons h, findK]
/-- IndexFunc with a closure that counts -/
theorem indexFuncC_spec (l : List T) (f : T → Int → Bool × Int) (g : FuncId) (dp : Int) (hl : l.length ≤ LMax)
    (hg : ∀ x, x ∈ l → ∀ c, Spec Tryd.prog glob g [encT x, .ref (.int .i64 dp), .ref (.box 0 0)] [numO c] (fun o hc => o = .ret (.bool (f x c).1) ∧ hc = [numO (f x c).2])) (c : Int) :
    Spec Tryd.prog glob 187 [.slice (l.map encT) .any, .fn (.func g) [] [.ref (.int .i64 dp), .ref (.box 0 0)]] [numO c] (fun o hc => o = .ret (.int .i64 (findK f l 0 c).1) ∧ hc = [numO (findK f l 0 c).2]) := by
  obtain ⟨R, hR⟩ : ∃ R, R = findK f l 0 c := ⟨_, rfl⟩
  rw [← hR]
  unfold numO
  refine Spec.movd globPure (wpD_spec tyOK Tryd.func187 rfl (enters _ _ Tryd.func187 rfl (by decide)) rfl rfl ?_)
  (refine wpD_seqk fun K hK => ?_; refine wpD_region tyOK ?_; ((try simp only [wpAft_ret, wpAft_pan, putS, updS, setS]); (repeat (rw [wpS_cons]; simp)); (try simp only [wpS_nil, thenD, blockD])); refine hK _ _ _ ?_; clear hK K)
  refine wpD_seqk fun K1 hK1 => ?_
  (refine wpD_seqk fun K hK => ?_; refine wpD_region tyOK ?_; ((try simp only [wpAft_ret, wpAft_pan, putS, updS, setS]); (repeat (rw [wpS_cons]; simp)); (try simp only [wpS_nil, thenD, blockD])); refine hK _ _ _ ?_; clear hK K)
  refine wpD_rangeJ tyOK globPure (ti := 3) (tk := 8) (tn := 7) (td := 9) (ts := 18) [4, 5, 8, 9, 10, 11, 12, 13, 14, 15, 16, 17, 18] [] (l.length) (fun k ys hl => ∃ (m : Int), ys = [] ∧ R = findK f (l.drop k) k m ∧ hl = [.cells 3 [.int .i64 m]]) rfl rfl rfl rfl rfl rfl rfl rfl rfl rfl rfl rfl (by simp) (by decide) rfl (by first | assumption | omega | (unfold LMax; omega)) rfl (by kernel_rfl) (by decide) ?_ ?_ ?_
  · exact ⟨c, rfl, hR, rfl⟩
  · rintro i ys hl A hi ⟨m, rfl, hF, rfl⟩ hA hA2
    simp only [putAll, List.set, List.map_cons, List.map_nil, List.cons_append, List.nil_append]
    have hi' : (i : Int) < l.length := by omega
    rw [findK_at hi] at hF
    have hrec := hg l[i] (List.getElem_mem hi) m
    obtain ⟨x, hx⟩ : ∃ x, l[i] = x := ⟨_, rfl⟩
    rw [hx] at hrec hF
    have hEx := encT_eq x
    rw [hEx] at hrec
    unfold numO at hrec
    generalize f x m = B at hrec hF
    obtain ⟨b, m2⟩ := B
    (refine wpD_seqk fun K hK => ?_; refine wpD_region tyOK ?_; ((try simp only [wpAft_ret, wpAft_pan, putS, updS, setS]); (repeat (rw [wpS_cons]; simp)); (try simp only [wpS_nil, thenD, blockD])); refine hK _ _ _ ?_; clear hK K)
    (refine wpD_seqk fun K hK => ?_; refine wpD_region tyOK ?_; ((try simp only [wpAft_ret, wpAft_pan, putS, updS, setS]); (repeat (rw [wpS_cons]; simp [hi, hi', hx, hEx])); (try simp only [wpS_nil, thenD, blockD])))
    refine CallX.objs globPure [0] true (hrec) ?_ (by rintro o hc ⟨_, rfl⟩; simp) (by decide) (by simp) (by simp [D.ren, D.rens, D.okN, D.okNs, Cp.ren, Cp.okN, HO.ren, HO.okN, okA, renA, renO, hOf, handed, D.fgt, D.fgts, List.range_succ, List.idxOf_cons]) (by simp [D.ren, D.rens, D.okN, D.okNs, Cp.ren, Cp.okN, HO.ren, HO.okN, okA, renA, renO, hOf, handed, D.fgt, D.fgts, List.range_succ, List.idxOf_cons]) (by simp [D.ren, D.rens, D.okN, D.okNs, Cp.ren, Cp.okN, HO.ren, HO.okN, okA, renA, renO, hOf, handed, D.fgt, D.fgts, List.range_succ, List.idxOf_cons]) (by simp [D.ren, D.rens, D.okN, D.okNs, Cp.ren, Cp.okN, HO.ren, HO.okN, okA, renA, renO, hOf, handed, D.fgt, D.fgts, List.range_succ, List.idxOf_cons])
    (rintro o hc ⟨rfl, rfl⟩; refine ⟨false, ?_⟩; simp [D.ren, D.rens, D.okN, D.okNs, Cp.ren, Cp.okN, HO.ren, HO.okN, okA, renA, renO, hOf, handed, D.fgt, D.fgts, List.range_succ, List.idxOf_cons, Out.ren, told, Out.fgt, upO, updS, setS])
    ((try simp only [wpAft_ret, wpAft_pan, putS, updS, setS]); (repeat (rw [wpS_cons]; simp)); (try simp only [wpS_nil, thenD, blockD]))
    (refine hK _ _ _ ?_; clear hK K)
    cases b with
    | true =>
      refine wpD_part rfl (fun _ => ?_) (fun h => by simp at h)
      (refine wpD_seqk fun K hK => ?_; refine wpD_region tyOK ?_; ((try simp only [wpAft_ret, wpAft_pan, putS, updS, setS]); (repeat (rw [wpS_cons]; simp)); (try simp only [wpS_nil, thenD, blockD])); refine hK _ _ _ ?_; clear hK K)
      (refine wpD_ret ?_; (try simp only [thenD, blockD]); refine EndQ.ret rfl (.inr ⟨[], by decide, by simp, ?_⟩); simp [Out.mov, movT, movH, movD, D.mov, HO.mov, okM, renM, getW, D.ren, D.rens, D.okN, D.okNs, Cp.ren, Cp.okN, HO.ren, HO.okN, okA, renA, renO, hOf, handed, D.fgt, D.fgts, List.range_succ, List.idxOf_cons, tmOf, Out.fgt, D.fgt, D.fgts])
      rw [hF, if_pos rfl]
      exact ⟨rfl, rfl⟩
    | false =>
      refine wpD_part rfl (fun h => by simp at h) (fun _ => ?_)
      refine wpD_skip ?_
      (refine hA2 ([]) _ _ _ (LeT.refl _) (by decide) (by simp) (by simp [movT, movH, movD, D.mov, HO.mov, okM, renM, getW, D.ren, D.rens, D.okN, D.okNs, Cp.ren, Cp.okN, HO.ren, HO.okN, okA, renA, renO, hOf, handed, D.fgt, D.fgts, List.range_succ, List.idxOf_cons, putAll]) ?_ rfl; simp [movT, movH, movD, D.mov, HO.mov, okM, renM, getW, D.ren, D.rens, D.okN, D.okNs, Cp.ren, Cp.okN, HO.ren, HO.okN, okA, renA, renO, hOf, handed, D.fgt, D.fgts, List.range_succ, List.idxOf_cons])
      exact hF
  · rintro ys hl tl' ⟨m, rfl, hF, rfl⟩ htl
    refine hK1 _ _ _ (wpD_weakL htl ?_)
    simp only [putAll, List.set, List.map_cons, List.map_nil, List.cons_append, List.nil_append]
    rw [List.drop_length, findK] at hF
    subst hF
    (refine wpD_seqk fun K hK => ?_; refine wpD_region tyOK ?_; ((try simp only [wpAft_ret, wpAft_pan, putS, updS, setS]); (repeat (rw [wpS_cons]; simp)); (try simp only [wpS_nil, thenD, blockD])); refine hK _ _ _ ?_; clear hK K)
    (refine wpD_ret ?_; (try simp only [thenD, blockD]); refine EndQ.ret rfl (.inr ⟨[], by decide, by simp, ?_⟩); simp [Out.mov, movT, movH, movD, D.mov, HO.mov, okM, renM, getW, D.ren, D.rens, D.okN, D.okNs, Cp.ren, Cp.okN, HO.ren, HO.okN, okA, renA, renO, hOf, handed, D.fgt, D.fgts, List.range_succ, List.idxOf_cons, tmOf, Out.fgt, D.fgt, D.fgts])
theorem containsFuncC_spec (l : List T) (f : T → Int → Bool × Int) (g : FuncId) (dp : Int) (hl : l.length ≤ LMax)
    (hg : ∀ x, x ∈ l → ∀ c, Spec Tryd.prog glob g [encT x, .ref (.int .i64 dp), .ref (.box 0 0)] [numO c] (fun o hc => o = .ret (.bool (f x c).1) ∧ hc = [numO (f x c).2])) (c : Int) :
    Spec Tryd.prog glob 144 [.slice (l.map encT) .any, .fn (.func g) [] [.ref (.int .i64 dp), .ref (.box 0 0)]] [numO c] (fun o hc => o = .ret (.bool (decide (0 ≤ (findK f l 0 c).1))) ∧ hc = [numO (findK f l 0 c).2]) := by
  have h := indexFuncC_spec l f g dp hl hg c
  generalize findK f l 0 c = R at h ⊢
  unfold numO at h ⊢
  refine Spec.movd globPure (wpD_spec tyOK Tryd.func144 rfl (enters _ _ Tryd.func144 rfl (by decide)) rfl rfl ?_)
  (refine wpD_seqk fun K hK => ?_; refine wpD_region tyOK ?_; ((try simp only [wpAft_ret, wpAft_pan, putS, updS, setS]); (repeat (rw [wpS_cons]; simp)); (try simp only [wpS_nil, thenD, blockD])); refine hK _ _ _ ?_; clear hK K)
  (refine wpD_seqk fun K hK => ?_; refine wpD_region tyOK ?_; ((try simp only [wpAft_ret, wpAft_pan, putS, updS, setS]); (repeat (rw [wpS_cons]; simp)); (try simp only [wpS_nil, thenD, blockD])))
  refine CallX.objs globPure [0] true (h) ?_ (by rintro o hc ⟨_, rfl⟩; simp) (by decide) (by simp) (by simp [D.ren, D.rens, D.okN, D.okNs, Cp.ren, Cp.okN, HO.ren, HO.okN, okA, renA, renO, hOf, handed, D.fgt, D.fgts, List.range_succ, List.idxOf_cons]) (by simp [D.ren, D.rens, D.okN, D.okNs, Cp.ren, Cp.okN, HO.ren, HO.okN, okA, renA, renO, hOf, handed, D.fgt, D.fgts, List.range_succ, List.idxOf_cons]) (by simp [D.ren, D.rens, D.okN, D.okNs, Cp.ren, Cp.okN, HO.ren, HO.okN, okA, renA, renO, hOf, handed, D.fgt, D.fgts, List.range_succ, List.idxOf_cons]) (by simp [D.ren, D.rens, D.okN, D.okNs, Cp.ren, Cp.okN, HO.ren, HO.okN, okA, renA, renO, hOf, handed, D.fgt, D.fgts, List.range_succ, List.idxOf_cons])
  (rintro o hc ⟨rfl, rfl⟩; refine ⟨false, ?_⟩; simp [D.ren, D.rens, D.okN, D.okNs, Cp.ren, Cp.okN, HO.ren, HO.okN, okA, renA, renO, hOf, handed, D.fgt, D.fgts, List.range_succ, List.idxOf_cons, Out.ren, told, Out.fgt, upO, updS, setS])
  ((try simp only [wpAft_ret, wpAft_pan, putS, updS, setS]); (repeat (rw [wpS_cons]; simp)); (try simp only [wpS_nil, thenD, blockD]))
  (refine hK _ _ _ ?_; clear hK K)
  (refine wpD_ret ?_; (try simp only [thenD, blockD]); refine EndQ.ret rfl (.inr ⟨[], by decide, by simp, ?_⟩); simp [Out.mov, movT, movH, movD, D.mov, HO.mov, okM, renM, getW, D.ren, D.rens, D.okN, D.okNs, Cp.ren, Cp.okN, HO.ren, HO.okN, okA, renA, renO, hOf, handed, D.fgt, D.fgts, List.range_succ, List.idxOf_cons, tmOf, Out.fgt, D.fgt, D.fgts])
theorem cnts_find (d : Int) : ∀ (ks : List T) (j : Nat) (c : Int), (T.cnts ks d c).1 = !decide (0 ≤ (findK (fun x c => (!(T.cnt x d c).1, (T.cnt x d c).2)) ks j c).1) ∧ (T.cnts ks d c).2 = (findK (fun x c => (!(T.cnt x d c).1, (T.cnt x d c).2)) ks j c).2
  | [], j, c => by rw [T.cnts, findK]; simp
  | t :: r, j, c => by
    rw [T.cnts, findK]
    have ih := cnts_find d r (j + 1) (T.cnt t d c).2
    cases h : (T.cnt t d c).1 with
    | true => simp only [Bool.not_true, if_true, if_neg Bool.false_ne_true]; exact ih
    | false =>
      simp only [Bool.not_false, if_true, if_neg Bool.false_ne_true]
      refine ⟨?_, by first | rfl | trivial⟩
      have : (0 : Int) ≤ (j : Int) := by omega
      simp [this]
theorem count_spec (t : T) : ∀ (dp c : Int), okT t → Spec Tryd.prog glob 92 [encT t, .int .i64 dp, .box 0 0] [numO c] (fun o hc => o = .ret (.bool (t.cnt dp c).1) ∧ hc = [numO (t.cnt dp c).2]) := by
  induction t using T.ind with
  | h k n a ls ks ih =>
    intro dp c ht
    have hkl : ks.length ≤ LMax := ht.kl
    have hks := ht.ks
    simp only [T.ks_mk] at hks
    have hnode := node_spec _ ht
    have hcl : ∀ x, x ∈ ks → ∀ m, Spec Tryd.prog glob 145 [encT x, .ref (.int .i64 dp), .ref (.box 0 0)] [numO m] (fun o hc => o = .ret (.bool (!(T.cnt x (IntKind.i64.wrap (dp + 1)) m).1)) ∧ hc = [numO (T.cnt x (IntKind.i64.wrap (dp + 1)) m).2]) := by
      intro x hx m
      have h := ih x hx (IntKind.i64.wrap (dp + 1)) m (hks x hx)
      generalize T.cnt x (IntKind.i64.wrap (dp + 1)) m = R at h ⊢
      have hE := encT_eq x
      rw [hE] at h ⊢
      unfold numO at h ⊢
      refine Spec.movd globPure (wpD_spec tyOK Tryd.func145 rfl (enters _ _ Tryd.func145 rfl (by decide)) rfl rfl ?_)
      (refine wpD_seqk fun K hK => ?_; refine wpD_region tyOK ?_; ((try simp only [wpAft_ret, wpAft_pan, putS, updS, setS]); (repeat (rw [wpS_cons]; simp)); (try simp only [wpS_nil, thenD, blockD])); refine hK _ _ _ ?_; clear hK K)
      (refine wpD_seqk fun K hK => ?_; refine wpD_region tyOK ?_; ((try simp only [wpAft_ret, wpAft_pan, putS, updS, setS]); (repeat (rw [wpS_cons]; simp)); (try simp only [wpS_nil, thenD, blockD])))
      refine CallX.objs globPure [0] true (h) ?_ (by rintro o hc ⟨_, rfl⟩; simp) (by decide) (by simp) (by simp [D.ren, D.rens, D.okN, D.okNs, Cp.ren, Cp.okN, HO.ren, HO.okN, okA, renA, renO, hOf, handed, D.fgt, D.fgts, List.range_succ, List.idxOf_cons]) (by simp [D.ren, D.rens, D.okN, D.okNs, Cp.ren, Cp.okN, HO.ren, HO.okN, okA, renA, renO, hOf, handed, D.fgt, D.fgts, List.range_succ, List.idxOf_cons]) (by simp [D.ren, D.rens, D.okN, D.okNs, Cp.ren, Cp.okN, HO.ren, HO.okN, okA, renA, renO, hOf, handed, D.fgt, D.fgts, List.range_succ, List.idxOf_cons]) (by simp [D.ren, D.rens, D.okN, D.okNs, Cp.ren, Cp.okN, HO.ren, HO.okN, okA, renA, renO, hOf, handed, D.fgt, D.fgts, List.range_succ, List.idxOf_cons])
      (rintro o hc ⟨rfl, rfl⟩; refine ⟨false, ?_⟩; simp [D.ren, D.rens, D.okN, D.okNs, Cp.ren, Cp.okN, HO.ren, HO.okN, okA, renA, renO, hOf, handed, D.fgt, D.fgts, List.range_succ, List.idxOf_cons, Out.ren, told, Out.fgt, upO, updS, setS])
      ((try simp only [wpAft_ret, wpAft_pan, putS, updS, setS]); (repeat (rw [wpS_cons]; simp)); (try simp only [wpS_nil, thenD, blockD]))
      (refine hK _ _ _ ?_; clear hK K)
      (refine wpD_ret ?_; (try simp only [thenD, blockD]); refine EndQ.ret rfl (.inr ⟨[], by decide, by simp, ?_⟩); simp [Out.mov, movT, movH, movD, D.mov, HO.mov, okM, renM, getW, D.ren, D.rens, D.okN, D.okNs, Cp.ren, Cp.okN, HO.ren, HO.okN, okA, renA, renO, hOf, handed, D.fgt, D.fgts, List.range_succ, List.idxOf_cons, tmOf, Out.fgt, D.fgt, D.fgts])
    have hc1 : T.cnt (.mk k n a ls ks) dp c = if dp ≤ 400 ∧ IntKind.i64.wrap (c + 1) ≤ 20000 ∧ nodeT (.mk k n a ls ks) = true then T.cnts ks (IntKind.i64.wrap (dp + 1)) (IntKind.i64.wrap (c + 1)) else (false, IntKind.i64.wrap (c + 1)) := by rw [T.cnt]
    generalize hC : IntKind.i64.wrap (c + 1) = c1 at hc1
    have hcont := containsFuncC_spec ks (fun x c => (!(T.cnt x (IntKind.i64.wrap (dp + 1)) c).1, (T.cnt x (IntKind.i64.wrap (dp + 1)) c).2)) 145 dp hkl hcl c1
    have hfind := cnts_find (IntKind.i64.wrap (dp + 1)) ks 0 c1
    generalize findK (fun x c => (!(T.cnt x (IntKind.i64.wrap (dp + 1)) c).1, (T.cnt x (IntKind.i64.wrap (dp + 1)) c).2)) ks 0 c1 = F at hcont hfind
    generalize T.cnts ks (IntKind.i64.wrap (dp + 1)) c1 = G at hc1 hfind
    generalize T.cnt (.mk k n a ls ks) dp c = R at hc1 ⊢
    obtain ⟨g1, g2⟩ := G
    obtain ⟨f1, f2⟩ := F
    simp only at hfind
    obtain ⟨rfl, rfl⟩ := hfind
    clear hcl ih hks ht
    generalize nodeT (.mk k n a ls ks) = N at hnode hc1
    rw [encT_eq] at hnode ⊢
    simp only [T.k_mk, T.n_mk, T.a_mk, T.ls_mk, T.ks_mk] at hnode ⊢
    unfold numO at hcont ⊢
    refine Spec.movd globPure (wpD_spec tyOK Tryd.func92 rfl (enters _ _ Tryd.func92 rfl (by decide)) rfl rfl ?_)
    (refine wpD_seqk fun K hK => ?_; refine wpD_region tyOK ?_; ((try simp only [wpAft_ret, wpAft_pan, putS, updS, setS]); (repeat (rw [wpS_cons]; simp)); (try simp only [wpS_nil, thenD, blockD])); refine hK _ _ _ ?_; clear hK K)
    (refine wpD_seqk fun K hK => ?_; refine wpD_region tyOK ?_; ((try simp only [wpAft_ret, wpAft_pan, putS, updS, setS]); (repeat (rw [wpS_cons]; simp [hC])); (try simp only [wpS_nil, thenD, blockD])); refine hK _ _ _ ?_; clear hK K)
    by_cases h1 : dp ≤ 400
    · by_cases h2 : c1 ≤ 20000
      · cases N with
        | true =>
          rw [if_pos ⟨h1, h2, rfl⟩] at hc1
          subst hc1
          (refine wpD_stay (T := tyOf) 2 (ty := 3) (ds := [.int .i64 dp]) rfl rfl (by first | exact ⟨rfl, .inr ⟨_, rfl, rfl⟩⟩ | exact ⟨rfl, .inl rfl⟩) ?_; simp [D.frzs, D.frz, HO.frz, dfFrz, refOf, TK.isAgg, FK.isB, FK.isM, FK.isO, D.isLen])
          (refine wpD_stay (T := tyOf) 3 (ty := 135) (ds := [.box 0 0]) rfl rfl (by first | exact ⟨rfl, .inr ⟨_, rfl, rfl⟩⟩ | exact ⟨rfl, .inl rfl⟩) ?_; simp [D.frzs, D.frz, HO.frz, dfFrz, refOf, TK.isAgg, FK.isB, FK.isM, FK.isO, D.isLen])
          (refine wpD_seqk fun K hK => ?_; refine wpD_region tyOK ?_; ((try simp only [wpAft_ret, wpAft_pan, putS, updS, setS]); (repeat (rw [wpS_cons]; simp [h1, h2])); (try simp only [wpS_nil, thenD, blockD])))
          refine CallX.pure globPure (hnode) ?_ (by simp [D.fgts, D.fgt]) (by simp [D.pures, D.pure, Cp.free, D.pures_map]) (by simp [Out.pure, D.pure, D.pures, Cp.free, D.pures_map])
          ((try simp only [wpAft_ret, wpAft_pan, putS, updS, setS]); (repeat (rw [wpS_cons]; simp)); (try simp only [wpS_nil, thenD, blockD]))
          refine CallX.objs globPure [0] true (hcont) ?_ (by rintro o hc ⟨_, rfl⟩; simp) (by decide) (by simp) (by simp [D.ren, D.rens, D.okN, D.okNs, Cp.ren, Cp.okN, HO.ren, HO.okN, okA, renA, renO, hOf, handed, D.fgt, D.fgts, List.range_succ, List.idxOf_cons]) (by simp [D.ren, D.rens, D.okN, D.okNs, Cp.ren, Cp.okN, HO.ren, HO.okN, okA, renA, renO, hOf, handed, D.fgt, D.fgts, List.range_succ, List.idxOf_cons]) (by simp [D.ren, D.rens, D.okN, D.okNs, Cp.ren, Cp.okN, HO.ren, HO.okN, okA, renA, renO, hOf, handed, D.fgt, D.fgts, List.range_succ, List.idxOf_cons]) (by simp [D.ren, D.rens, D.okN, D.okNs, Cp.ren, Cp.okN, HO.ren, HO.okN, okA, renA, renO, hOf, handed, D.fgt, D.fgts, List.range_succ, List.idxOf_cons])
          (rintro o hc ⟨rfl, rfl⟩; refine ⟨false, ?_⟩; simp [D.ren, D.rens, D.okN, D.okNs, Cp.ren, Cp.okN, HO.ren, HO.okN, okA, renA, renO, hOf, handed, D.fgt, D.fgts, List.range_succ, List.idxOf_cons, Out.ren, told, Out.fgt, upO, updS, setS])
          ((try simp only [wpAft_ret, wpAft_pan, putS, updS, setS]); (repeat (rw [wpS_cons]; simp)); (try simp only [wpS_nil, thenD, blockD]))
          (refine hK _ _ _ ?_; clear hK K)
          (refine wpD_ret ?_; (try simp only [thenD, blockD]); refine EndQ.ret rfl (.inr ⟨[], by decide, by simp, ?_⟩); simp [Out.mov, movT, movH, movD, D.mov, HO.mov, okM, renM, getW, D.ren, D.rens, D.okN, D.okNs, Cp.ren, Cp.okN, HO.ren, HO.okN, okA, renA, renO, hOf, handed, D.fgt, D.fgts, List.range_succ, List.idxOf_cons, tmOf, Out.fgt, D.fgt, D.fgts])
        | false =>
          rw [if_neg (by simp)] at hc1
          subst hc1
          (refine wpD_seqk fun K hK => ?_; refine wpD_region tyOK ?_; ((try simp only [wpAft_ret, wpAft_pan, putS, updS, setS]); (repeat (rw [wpS_cons]; simp [h1, h2])); (try simp only [wpS_nil, thenD, blockD])))
          refine CallX.pure globPure (hnode) ?_ (by simp [D.fgts, D.fgt]) (by simp [D.pures, D.pure, Cp.free, D.pures_map]) (by simp [Out.pure, D.pure, D.pures, Cp.free, D.pures_map])
          ((try simp only [wpAft_ret, wpAft_pan, putS, updS, setS]); (repeat (rw [wpS_cons]; simp)); (try simp only [wpS_nil, thenD, blockD]))
          (refine hK _ _ _ ?_; clear hK K)
          (refine wpD_ret ?_; (try simp only [thenD, blockD]); refine EndQ.ret rfl (.inr ⟨[], by decide, by simp, ?_⟩); simp [Out.mov, movT, movH, movD, D.mov, HO.mov, okM, renM, getW, D.ren, D.rens, D.okN, D.okNs, Cp.ren, Cp.okN, HO.ren, HO.okN, okA, renA, renO, hOf, handed, D.fgt, D.fgts, List.range_succ, List.idxOf_cons, tmOf, Out.fgt, D.fgt, D.fgts])
      · rw [if_neg (fun h => h2 h.2.1)] at hc1
        subst hc1
        (refine wpD_seqk fun K hK => ?_; refine wpD_region tyOK ?_; ((try simp only [wpAft_ret, wpAft_pan, putS, updS, setS]); (repeat (rw [wpS_cons]; simp [h1, h2])); (try simp only [wpS_nil, thenD, blockD])); refine hK _ _ _ ?_; clear hK K)
        (refine wpD_ret ?_; (try simp only [thenD, blockD]); refine EndQ.ret rfl (.inr ⟨[], by decide, by simp, ?_⟩); simp [Out.mov, movT, movH, movD, D.mov, HO.mov, okM, renM, getW, D.ren, D.rens, D.okN, D.okNs, Cp.ren, Cp.okN, HO.ren, HO.okN, okA, renA, renO, hOf, handed, D.fgt, D.fgts, List.range_succ, List.idxOf_cons, tmOf, Out.fgt, D.fgt, D.fgts])
    · rw [if_neg (fun h => h1 h.1)] at hc1
      subst hc1
      (refine wpD_seqk fun K hK => ?_; refine wpD_region tyOK ?_; ((try simp only [wpAft_ret, wpAft_pan, putS, updS, setS]); (repeat (rw [wpS_cons]; simp [h1])); (try simp only [wpS_nil, thenD, blockD])); refine hK _ _ _ ?_; clear hK K)
      (refine wpD_ret ?_; (try simp only [thenD, blockD]); refine EndQ.ret rfl (.inr ⟨[], by decide, by simp, ?_⟩); simp [Out.mov, movT, movH, movD, D.mov, HO.mov, okM, renM, getW, D.ren, D.rens, D.okN, D.okNs, Cp.ren, Cp.okN, HO.ren, HO.okN, okA, renA, renO, hOf, handed, D.fgt, D.fgts, List.range_succ, List.idxOf_cons, tmOf, Out.fgt, D.fgt, D.fgts])
theorem right_spec (t : T) (ht : okT t) : Spec Tryd.prog glob 36 [encT t] [] (fun o _ => o.fgt = .ret (.bool t.right)) := by
  have h := count_spec t 1 0 ht
  have hR : t.right = (t.cnt 1 0).1 := rfl
  rw [hR]
  generalize t.cnt 1 0 = R at h ⊢
  rw [encT_eq] at h ⊢
  unfold numO at h
  refine Spec.movd globPure (wpD_spec tyOK Tryd.func36 rfl (enters _ _ Tryd.func36 rfl (by decide)) rfl rfl ?_)
  (refine wpD_seqk fun K hK => ?_; refine wpD_region tyOK ?_; ((try simp only [wpAft_ret, wpAft_pan, putS, updS, setS]); (repeat (rw [wpS_cons]; simp)); (try simp only [wpS_nil, thenD, blockD])); refine hK _ _ _ ?_; clear hK K)
  (refine wpD_seqk fun K hK => ?_; refine wpD_region tyOK ?_; ((try simp only [wpAft_ret, wpAft_pan, putS, updS, setS]); (repeat (rw [wpS_cons]; simp)); (try simp only [wpS_nil, thenD, blockD])); refine hK _ _ _ ?_; clear hK K)
  (refine wpD_seqk fun K hK => ?_; refine wpD_region tyOK ?_; ((try simp only [wpAft_ret, wpAft_pan, putS, updS, setS]); (repeat (rw [wpS_cons]; simp)); (try simp only [wpS_nil, thenD, blockD])))
  refine CallX.objs globPure [1] true (h) ?_ (by rintro o hc ⟨_, rfl⟩; simp) (by decide) (by simp) (by simp [D.ren, D.rens, D.okN, D.okNs, Cp.ren, Cp.okN, HO.ren, HO.okN, okA, renA, renO, hOf, handed, D.fgt, D.fgts, List.range_succ, List.idxOf_cons]) (by simp [D.ren, D.rens, D.okN, D.okNs, Cp.ren, Cp.okN, HO.ren, HO.okN, okA, renA, renO, hOf, handed, D.fgt, D.fgts, List.range_succ, List.idxOf_cons]) (by simp [D.ren, D.rens, D.okN, D.okNs, Cp.ren, Cp.okN, HO.ren, HO.okN, okA, renA, renO, hOf, handed, D.fgt, D.fgts, List.range_succ, List.idxOf_cons]) (by simp [D.ren, D.rens, D.okN, D.okNs, Cp.ren, Cp.okN, HO.ren, HO.okN, okA, renA, renO, hOf, handed, D.fgt, D.fgts, List.range_succ, List.idxOf_cons])
  (rintro o hc ⟨rfl, rfl⟩; refine ⟨false, ?_⟩; simp [D.ren, D.rens, D.okN, D.okNs, Cp.ren, Cp.okN, HO.ren, HO.okN, okA, renA, renO, hOf, handed, D.fgt, D.fgts, List.range_succ, List.idxOf_cons, Out.ren, told, Out.fgt, upO, updS, setS])
  ((try simp only [wpAft_ret, wpAft_pan, putS, updS, setS]); (repeat (rw [wpS_cons]; simp)); (try simp only [wpS_nil, thenD, blockD]))
  (refine hK _ _ _ ?_; clear hK K)
  (refine wpD_ret ?_; (try simp only [thenD, blockD]); refine EndQ.ret rfl (.inl ?_); simp [tmOf, Out.fgt, D.fgt, D.fgts])
end Go.Proofs.YtebmlojhdnldgaaDoor

namespace Go.Proofs.YtebmlojhdnldgaaDoor
set_option linter.unusedSimpArgs false
set_option linter.unusedVariables false
open Go.RowKit
mutual
/-- all variables from 0 to 1000 -/
def T.tameB : T → Bool
  | .mk k n _ _ ks => !(decide (k = 1) && (decide (n < 0) || decide (1000 < n))) && T.tamesB ks
def T.tamesB : List T → Bool
  | [] => true
  | t :: r => T.tameB t && T.tamesB r
end
theorem T.tamesB_mem {ks : List T} (h : T.tamesB ks = true) {t : T} (ht : t ∈ ks) : t.tameB = true := by
  induction ks with
  | nil => cases ht
  | cons x r ih =>
    rw [T.tamesB, Bool.and_eq_true] at h
    cases ht with
    | head => exact h.1
    | tail _ hm => exact ih h.2 hm
theorem T.tame_num {k n a : Int} {ls : List LV} {ks : List T} (h : (T.mk k n a ls ks).tameB = true) : k = 1 → 0 ≤ n ∧ n ≤ 1000 := by
  rw [T.tameB, Bool.and_eq_true] at h
  intro hk
  have := h.1
  simp [hk] at this
  omega
theorem T.tame_kids {k n a : Int} {ls : List LV} {ks : List T} (h : (T.mk k n a ls ks).tameB = true) : T.tamesB ks = true := by
  rw [T.tameB, Bool.and_eq_true] at h; exact h.2
theorem walk_inr {f : Turn} {k n a : Int} {ls : List LV} {ks : List T} {d : Int} {x : Int × List LV} (h : f d (.mk k n a ls ks) = .inr x) : T.walk f (.mk k n a ls ks) d = .mk k x.1 a x.2 (T.walks f k ks 0 d) := by rw [T.walk, h]
theorem walk_inl {f : Turn} {k n a : Int} {ls : List LV} {ks : List T} {d : Int} {u : T} (h : f d (.mk k n a ls ks) = .inl u) : T.walk f (.mk k n a ls ks) d = u := by rw [T.walk, h]
theorem walk_lift (m fr k n a : Int) (ls : List LV) (ks : List T) (d : Int) : T.walk (liftTurn m fr) (.mk k n a ls ks) d = .mk k (liftNum m fr d k n) a ls (T.walks (liftTurn m fr) k ks 0 d) := by rw [T.walk]; rfl
theorem walks_comp {f g h : Turn} {k d1 d2 d3 : Int} (ks : List T) : ∀ i, (∀ (j : Nat) t, t ∈ ks → T.walk g (T.walk f t (belowD d1 k j)) (belowD d2 k j) = T.walk h t (belowD d3 k j)) → T.walks g k (T.walks f k ks i d1) i d2 = T.walks h k ks i d3 := by
  induction ks with
  | nil => intro i _; simp [T.walks]
  | cons t r ih =>
    intro i H
    simp only [T.walks]
    rw [H i t List.mem_cons_self, ih (i + 1) (fun j t ht => H j t (List.mem_cons_of_mem _ ht))]
theorem Fits.le {d : Int} {t : T} (h : Fits d t) : 0 ≤ d ∧ d ≤ 1099511627776 := by unfold Fits DM at h; omega
theorem w64s {n : Int} (h1 : -4000000000000000 ≤ n) (h2 : n ≤ 4000000000000000) : IntKind.i64.wrap n = n := i64w (by omega) (by omega)
theorem liftNum_in {n fr d k m : Int} (hd : 0 ≤ d ∧ d ≤ 1099511627776) (hm : k = 1 → 0 ≤ m ∧ m ≤ 1000000) (hn : 0 ≤ n ∧ n ≤ 1000000) : liftNum n fr d k m = if k = 1 ∧ d ≤ m ∧ fr ≤ m - d then m + n else m := by
  unfold liftNum
  by_cases h1 : k = 1
  · have := hm h1
    rw [w64s (n := m - d) (by omega) (by omega), w64s (n := m + n) (by omega) (by omega)]
  · rw [if_neg (fun h => h1 h.1), if_neg (fun h => h1 h.1)]
theorem lift_lift (n m fr : Int) (hn : 0 ≤ n ∧ n ≤ 1000) (hm : 0 ≤ m ∧ m ≤ 1000) (t : T) : ∀ d, t.tameB = true → Fits d t → T.walk (liftTurn m fr) (T.walk (liftTurn n fr) t d) d = T.walk (liftTurn (n + m) fr) t d := by
  induction t using T.ind with
  | h k num a ls ks ih =>
    intro d ht hd
    have hnum := T.tame_num ht
    have hd' := hd.le
    rw [walk_lift, walk_lift, walk_lift]
    rw [walks_comp ks 0 (fun j t hm' => ih t hm' _ (T.tamesB_mem (T.tame_kids ht) hm') (hd.kid hm' j))]
    rw [liftNum_in (n := n) hd' (fun h => by have := hnum h; omega) (by omega), liftNum_in (n := n + m) hd' (fun h => by have := hnum h; omega) (by omega), liftNum_in (n := m) hd' (fun h => by have := hnum h; split <;> omega) (by omega)]
    congr 1
    repeat' split
    all_goals first | omega | (rename_i h1 h2; first | omega | exact absurd ⟨h1.1, by omega, by omega⟩ h2) | (exfalso; rename_i h1 h2 h3; first | exact h2 ⟨h1.1, by omega, by omega⟩ | exact h3 ⟨h1.1, by omega, by omega⟩ | omega)
mutual
theorem T.lift_zero_aux (fr : Int) : ∀ (t : T) (d : Int), okT t → T.walk (liftTurn 0 fr) t d = t
  | .mk k n a ls ks, d, h => by
    rw [walk_lift, T.lifts_zero_aux fr k ks 0 d h.ks]
    have hn := h.n
    simp only [T.n_mk] at hn
    unfold I64 at hn
    have : liftNum 0 fr d k n = n := by
      unfold liftNum
      split
      · rw [Int.add_zero, i64w hn.1 hn.2]
      · rfl
    rw [this]
theorem T.lifts_zero_aux (fr k : Int) : ∀ (ks : List T) (i : Nat) (d : Int), (∀ t, t ∈ ks → okT t) → T.walks (liftTurn 0 fr) k ks i d = ks
  | [], _, _, _ => by rw [T.walks]
  | t :: r, i, d, h => by
    rw [T.walks, T.lift_zero_aux fr t _ (h t List.mem_cons_self), T.lifts_zero_aux fr k r (i + 1) d (fun t ht => h t (List.mem_cons_of_mem _ ht))]
end
theorem lift_zero {t : T} (h : okT t) (fr : Int) : t.lift 0 fr 0 = t := T.lift_zero_aux fr t 0 h
/-! sizes -/
mutual
theorem sz_lift (n fr : Int) : ∀ (t : T) (d : Int), (T.walk (liftTurn n fr) t d).sz = t.sz
  | .mk k m a ls ks, d => by rw [walk_lift, T.sz, T.sz, szs_lift n fr k ks 0 d 1]
theorem szs_lift (n fr k : Int) : ∀ (ks : List T) (i : Nat) (d s : Int), T.szs (T.walks (liftTurn n fr) k ks i d) s = T.szs ks s
  | [], _, _, _ => by rw [T.walks]
  | t :: r, i, d, s => by rw [T.walks, T.szs, T.szs, sz_lift n fr t, szs_lift n fr k r]
end
/-! what is free -/
theorem free_lift {n fr lo hi lo' hi' : Int} (H : ∀ d num, 0 ≤ d → d ≤ 1099511627776 → 0 ≤ num → num ≤ 1000 → hitB lo hi 1 (liftNum n fr d 1 num) d = hitB lo' hi' 1 num d) (t : T) : ∀ d, t.tameB = true → Fits d t → (T.walk (liftTurn n fr) t d).freeB lo hi d = t.freeB lo' hi' d := by
  induction t using T.ind with
  | h k num a ls ks ih =>
    intro d ht hd
    have hnum := T.tame_num ht
    have hd' := hd.le
    have hks : ∀ (l : List T), (∀ x, x ∈ l → x ∈ ks) → ∀ i, T.freesB lo hi k (T.walks (liftTurn n fr) k l i d) i d = T.freesB lo' hi' k l i d := by
      intro l
      induction l with
      | nil => intro _ i; simp [T.walks, T.freesB]
      | cons x r ihl =>
        intro hl i
        have hx := hl x List.mem_cons_self
        rw [T.walks, T.freesB, T.freesB, ih x hx _ (T.tamesB_mem (T.tame_kids ht) hx) (hd.kid hx i), ihl (fun y hy => hl y (List.mem_cons_of_mem _ hy))]
    rw [walk_lift, T.freeB, T.freeB, hks ks (fun _ h => h) 0]
    congr 1
    by_cases h1 : k = 1
    · subst h1
      have := hnum rfl
      exact H d num hd'.1 hd'.2 this.1 this.2
    · simp [hitB, h1]
theorem hitB_in {lo hi num d : Int} (hd : 0 ≤ d ∧ d ≤ 1099511627776) (h : 0 ≤ num ∧ num ≤ 1000000) : (hitB lo hi 1 num d = true ↔ d ≤ num ∧ lo ≤ num - d ∧ num - d < hi) := by
  unfold hitB
  rw [w64s (n := num - d) (by omega) (by omega)]
  simp [Bool.and_eq_true, and_assoc]
mutual
theorem free_none (lo : Int) : ∀ (t : T) (d : Int), t.freeB lo lo d = false
  | .mk k n a ls ks, d => by
    rw [T.freeB, frees_none lo k ks 0 d]
    simp [hitB]
theorem frees_none (lo k : Int) : ∀ (ks : List T) (i : Nat) (d : Int), T.freesB lo lo k ks i d = false
  | [], _, _ => by rw [T.freesB]
  | t :: r, i, d => by rw [T.freesB, free_none lo t, frees_none lo k r]; rfl
end
theorem free_gap (n fr : Int) (hn : 0 ≤ n ∧ n ≤ 1000) (hf : 0 ≤ fr ∧ fr ≤ 1000) (t : T) (ht : t.tameB = true) (hd : Fits 0 t) : (t.lift n fr 0).freeB fr (fr + n) 0 = false := by
  unfold T.lift
  rw [free_lift (lo' := 0) (hi' := 0) ?_ t 0 ht hd, free_none]
  intro d num h1 h2 h3 h4
  rw [liftNum_in ⟨h1, h2⟩ (fun _ => by omega) (by omega)]
  rw [Bool.eq_iff_iff, hitB_in ⟨h1, h2⟩ (by split <;> omega), hitB_in ⟨h1, h2⟩ (by omega)]
  split <;> rename_i h <;> constructor <;> intro h' <;> first | omega | (exfalso; exact h ⟨rfl, by omega, by omega⟩)
theorem free_above (n fr : Int) (hn : 0 ≤ n ∧ n ≤ 1000) (hf : 0 ≤ fr ∧ fr ≤ 1000) (t : T) (ht : t.tameB = true) (hd : Fits 0 t) : (t.lift n fr 0).freeB (fr + n) 6000 0 = t.freeB fr 5000 0 := by
  unfold T.lift
  refine free_lift ?_ t 0 ht hd
  intro d num h1 h2 h3 h4
  rw [liftNum_in ⟨h1, h2⟩ (fun _ => by omega) (by omega)]
  rw [Bool.eq_iff_iff, hitB_in ⟨h1, h2⟩ (by split <;> omega), hitB_in ⟨h1, h2⟩ (by omega)]
  split <;> rename_i h <;> constructor <;> intro h' <;> first | omega | (exfalso; exact h ⟨rfl, by omega, by omega⟩)
theorem free_below (n fr : Int) (hn : 0 ≤ n ∧ n ≤ 1000) (hf : 0 ≤ fr ∧ fr ≤ 1000) (t : T) (ht : t.tameB = true) (hd : Fits 0 t) : (t.lift n fr 0).freeB 0 fr 0 = t.freeB 0 fr 0 := by
  unfold T.lift
  refine free_lift ?_ t 0 ht hd
  intro d num h1 h2 h3 h4
  rw [liftNum_in ⟨h1, h2⟩ (fun _ => by omega) (by omega)]
  rw [Bool.eq_iff_iff, hitB_in ⟨h1, h2⟩ (by split <;> omega), hitB_in ⟨h1, h2⟩ (by omega)]
  split <;> rename_i h <;> constructor <;> intro h' <;> first | omega | (exfalso; exact h ⟨rfl, by omega, by omega⟩)
/-! what is the same -/
theorem sameLs_refl : ∀ l : List LV, sameLs l l = true
  | [] => rfl
  | a :: r => by rw [sameLs, sameLs_refl r]; simp
mutual
theorem T.same_refl : ∀ t : T, T.sameB t t = true
  | .mk k n a ls ks => by rw [T.sameB, sameLs_refl, T.sames_refl ks]; simp
theorem T.sames_refl : ∀ ks : List T, T.samesB ks ks = true
  | [] => by rw [T.samesB]
  | t :: r => by rw [T.samesB, T.same_refl t, T.sames_refl r]; rfl
end
theorem T.same_mk {k n a k' n' a' : Int} {ls ls' : List LV} {ks ks' : List T} : T.sameB (.mk k n a ls ks) (.mk k' n' a' ls' ks') = true ↔ k = k' ∧ n = n' ∧ a = a' ∧ sameLs ls ls' = true ∧ T.samesB ks ks' = true := by
  rw [T.sameB]; simp [and_assoc]
/-- turns that do the same to what is the same -/
def TurnSame (f g : Turn) : Prop := ∀ d t u, T.sameB t u = true → (∃ v w, f d t = .inl v ∧ g d u = .inl w ∧ T.sameB v w = true) ∨ (∃ m l l', f d t = .inr (m, l) ∧ g d u = .inr (m, l') ∧ sameLs l l' = true)
theorem same_walk {f g : Turn} (H : TurnSame f g) (t : T) : ∀ u d, T.sameB t u = true → T.sameB (T.walk f t d) (T.walk g u d) = true := by
  induction t using T.ind with
  | h k n a ls ks ih =>
    rintro ⟨k', n', a', ls', ks'⟩ d h
    have h0 := H d _ _ h
    obtain ⟨rfl, rfl, rfl, h4, h5⟩ := T.same_mk.1 h
    rcases h0 with ⟨v, w, h1, h2, h3⟩ | ⟨m, l, l', h1, h2, h3⟩
    · rw [walk_inl h1, walk_inl h2]; exact h3
    · rw [walk_inr h1, walk_inr h2]
      refine T.same_mk.2 ⟨rfl, rfl, rfl, h3, ?_⟩
      have : ∀ (l l' : List T), (∀ x, x ∈ l → x ∈ ks) → T.samesB l l' = true → ∀ i, T.samesB (T.walks f k l i d) (T.walks g k l' i d) = true := by
        intro l
        induction l with
        | nil =>
          intro l' _ hs i
          cases l' with
          | nil => simp [T.walks, T.samesB]
          | cons _ _ => simp [T.samesB] at hs
        | cons x r ihl =>
          intro l' hl hs i
          cases l' with
          | nil => simp [T.samesB] at hs
          | cons y s =>
            rw [T.samesB, Bool.and_eq_true] at hs
            rw [T.walks, T.walks, T.samesB, ih x (hl x List.mem_cons_self) y _ hs.1, ihl s (fun z hz => hl z (List.mem_cons_of_mem _ hz)) hs.2]
            rfl
      exact this ks ks' (fun _ h => h) h5 0
theorem same_k {t u : T} (h : T.sameB t u = true) : t.k = u.k ∧ t.n = u.n ∧ t.a = u.a ∧ sameLs t.ls u.ls = true := by
  cases t; cases u
  obtain ⟨h1, h2, h3, h4, h5⟩ := T.same_mk.1 h
  exact ⟨h1, h2, h3, h4⟩
theorem same_lift (n fr : Int) {t u : T} (h : T.sameB t u = true) : T.sameB (t.lift n fr 0) (u.lift n fr 0) = true := by
  refine same_walk ?_ t u 0 h
  intro d t u h
  obtain ⟨h1, h2, h3, h4⟩ := same_k h
  exact .inr ⟨_, _, _, rfl, by unfold liftTurn; rw [h1, h2], h4⟩
theorem putTurn_in {bys : List T} {d : Int} {t : T} (h1 : t.k = 1 ∧ d ≤ t.n) (h : (t.n - d).toNat < bys.length) : putTurn bys d t = .inl ((bys[bys.length - 1 - (t.n - d).toNat]'(by omega)).lift d 0 0) := by
  unfold putTurn; rw [if_pos h1, dif_pos h]
theorem putTurn_over {bys : List T} {d : Int} {t : T} (h1 : t.k = 1 ∧ d ≤ t.n) (h : ¬ (t.n - d).toNat < bys.length) : putTurn bys d t = .inr (IntKind.i64.wrap (t.n - bys.length), t.ls) := by
  unfold putTurn; rw [if_pos h1, dif_neg h]
theorem putTurn_low {bys : List T} {d : Int} {t : T} (h1 : ¬ (t.k = 1 ∧ d ≤ t.n)) : putTurn bys d t = .inr (t.n, t.ls) := by
  unfold putTurn; rw [if_neg h1]
theorem same_put (bys : List T) {t u : T} (h : T.sameB t u = true) : T.sameB (t.put bys 0) (u.put bys 0) = true := by
  refine same_walk ?_ t u 0 h
  rintro d ⟨k, n, a, ls, ks⟩ ⟨k', n', a', ls', ks'⟩ h
  obtain ⟨rfl, rfl, rfl, h4, h5⟩ := T.same_mk.1 h
  by_cases hh : k = 1 ∧ d ≤ n
  · by_cases hl : (n - d).toNat < bys.length
    · exact .inl ⟨_, _, putTurn_in (t := .mk k n a ls ks) hh hl, putTurn_in (t := .mk k n a ls' ks') hh hl, T.same_refl _⟩
    · exact .inr ⟨_, _, _, putTurn_over (t := .mk k n a ls ks) hh hl, putTurn_over (t := .mk k n a ls' ks') hh hl, h4⟩
  · exact .inr ⟨_, _, _, putTurn_low (t := .mk k n a ls ks) hh, putTurn_low (t := .mk k n a ls' ks') hh, h4⟩
theorem sameLs_map (f : LV → LV) (hf : ∀ a b, normOf a = normOf b → f a = f b) : ∀ l l' : List LV, sameLs l l' = true → sameLs (l.map f) (l'.map f) = true
  | [], [], _ => rfl
  | [], _ :: _, h => by simp [sameLs] at h
  | _ :: _, [], h => by simp [sameLs] at h
  | a :: r, b :: s, h => by
    rw [sameLs, Bool.and_eq_true, decide_eq_true_eq] at h
    rw [List.map_cons, List.map_cons, sameLs, sameLs_map f hf r s h.2, hf a b h.1]
    simp
theorem same_levels (bys : List LV) {t u : T} (h : T.sameB t u = true) : T.sameB (t.levels bys 0) (u.levels bys 0) = true := by
  refine same_walk ?_ t u 0 h
  intro d t u h
  obtain ⟨h1, h2, h3, h4⟩ := same_k h
  unfold levTurn
  rw [← h2]
  exact .inr ⟨_, _, _, rfl, rfl, sameLs_map _ (fun a b hab => by unfold putL; rw [hab]) _ _ h4⟩
mutual
theorem sz_same : ∀ (t u : T), T.sameB t u = true → t.sz = u.sz
  | .mk k n a ls ks, .mk k' n' a' ls' ks', h => by
    obtain ⟨_, _, _, _, h5⟩ := T.same_mk.1 h
    rw [T.sz, T.sz, szs_same ks ks' 1 h5]
theorem szs_same : ∀ (ks ks' : List T) (n : Int), T.samesB ks ks' = true → T.szs ks n = T.szs ks' n
  | [], [], n, _ => rfl
  | [], _ :: _, _, h => by simp [T.samesB] at h
  | _ :: _, [], _, h => by simp [T.samesB] at h
  | t :: r, u :: s, n, h => by
    rw [T.samesB, Bool.and_eq_true] at h
    rw [T.szs, T.szs, sz_same t u h.1, szs_same r s _ h.2]
end
end Go.Proofs.YtebmlojhdnldgaaDoor

namespace Go.Proofs.YtebmlojhdnldgaaDoor
set_option linter.unusedSimpArgs false
set_option linter.unusedVariables false
set_option maxHeartbeats 10000000
set_option maxRecDepth 20000
open Go.RowKit
attribute [local simp] wpAft_ret wpAft_pan wantD evOp opD tmOf putS updS setS hOf isFree isTok fillD TK.isAgg TK.known partD thenD blockD putAll D.ofV inB nilTest isNilS binX binD binE isCst bndD capB IntKind.min IntKind.max IntKind.signed IntKind.bits dstOf late
def cntF {α : Type} (step : α → Int → Int) (q : Int) : List α → Int → Int
  | [], n => n
  | x :: r, n => if n ≤ q then cntF step q r (step x n) else n
def lvOf (q : Int) (l : LV) : Int := min (IntKind.i64.wrap (1 + (l.length : Int))) (IntKind.i64.wrap (q + 1))
theorem lvOf_spec (l : LV) (q : Int) : Spec Tryd.prog glob 70 [encL l, .int .i64 q] [] (fun o _ => o.fgt = .ret (.int .i64 (lvOf q l))) := by
  refine Spec.movd globPure (wpD_spec tyOK Tryd.func70 rfl (enters _ _ Tryd.func70 rfl (by decide)) rfl rfl ?_)
  unfold encL
  (refine wpD_seqk fun K hK => ?_; refine wpD_region tyOK ?_; ((try simp only [wpAft_ret, wpAft_pan, putS, updS, setS]); (repeat (rw [wpS_cons]; simp)); (try simp only [wpS_nil, thenD, blockD])); refine hK _ _ _ ?_; clear hK K)
  (refine wpD_seqk fun K hK => ?_; refine wpD_region tyOK ?_; ((try simp only [wpAft_ret, wpAft_pan, putS, updS, setS]); (repeat (rw [wpS_cons]; simp)); (try simp only [wpS_nil, thenD, blockD])); refine hK _ _ _ ?_; clear hK K)
  (refine wpD_ret ?_; (try simp only [thenD, blockD]); refine EndQ.ret rfl (.inl ?_); simp [tmOf, Out.fgt, D.fgt, D.fgts])
  rfl
theorem lvsOf_gen (l : List (LV)) (q : Int) (step : LV → Int → Int) (hl : l.length ≤ LMax) (hst : ∀ x s, step x s = IntKind.i64.wrap (s + lvOf q x)) (hg : ∀ x, x ∈ l → ∀ s : Int, Spec Tryd.prog glob 70 [encL x, .int .i64 q] [] (fun o _ => o.fgt = .ret (.int .i64 (lvOf q x)))) :
    Spec Tryd.prog glob 50 [.slice (l.map encL) .any, .int .i64 q] [] (fun o _ => o.fgt = .ret (.int .i64 (cntF step q l 0))) := by
  obtain ⟨R, hR⟩ : ∃ R, R = cntF step q l 0 := ⟨_, rfl⟩
  rw [← hR]
  have hl0 := hl
  unfold LMax at hl0
  refine Spec.movd globPure (wpD_spec tyOK Tryd.func50 rfl (enters _ _ Tryd.func50 rfl (by decide)) rfl rfl ?_)
  (refine wpD_seqk fun K hK => ?_; refine wpD_region tyOK ?_; ((try simp only [wpAft_ret, wpAft_pan, putS, updS, setS]); (repeat (rw [wpS_cons]; simp)); (try simp only [wpS_nil, thenD, blockD])); refine hK _ _ _ ?_; clear hK K)
  (refine wpD_seqk fun K hK => ?_; refine wpD_region tyOK ?_; ((try simp only [wpAft_ret, wpAft_pan, putS, updS, setS]); (repeat (rw [wpS_cons]; simp)); (try simp only [wpS_nil, thenD, blockD])); refine hK _ _ _ ?_; clear hK K)
  refine wpD_seqk fun K1 hK1 => ?_
  (refine wpD_seqk fun K hK => ?_; refine wpD_region tyOK ?_; ((try simp only [wpAft_ret, wpAft_pan, putS, updS, setS]); (repeat (rw [wpS_cons]; simp)); (try simp only [wpS_nil, thenD, blockD])); refine hK _ _ _ ?_; clear hK K)
  refine wpD_block ?_
  refine wpD_loopWJ [7, 8, 9, 10, 11, 12, 13, 14, 15, 16, 17, 18, 19, 20, 21, 22, 23, 24, 25] [5, 6] (fun n ys hl => ∃ (k : Nat) (s : Int), ys = [.int .i64 s, .int .i64 k] ∧ n + k = l.length ∧ R = cntF step q (l.drop k) s ∧ hl = []) (l.length) (by kernel_rfl) ?_ ?_
  · exact ⟨0, 0, rfl, rfl, hR, rfl⟩
  · rintro n ys hl A hA ⟨i, s, rfl, hn, hF, rfl⟩
    simp only [putAll, List.set, List.map_cons, List.map_nil, List.cons_append, List.nil_append]
    refine wpD_seqk fun K2 hK2 => ?_
    by_cases hi : i < l.length
    · have hi' : (i : Int) < l.length := by omega
      by_cases hs : s ≤ q
      · (refine wpD_seqk fun K hK => ?_; refine wpD_region tyOK ?_; ((try simp only [wpAft_ret, wpAft_pan, putS, updS, setS]); (repeat (rw [wpS_cons]; simp [hi, hi', hs])); (try simp only [wpS_nil, thenD, blockD])); refine hK _ _ _ ?_; clear hK K)
        refine wpD_part rfl (fun _ => ?_) (fun h => by simp at h)
        refine wpD_skip (hK2 _ _ _ ?_)
        clear hK2 K2
        refine wpD_seqk fun K3 hK3 => ?_
        refine wpD_block ?_
        rw [List.drop_eq_getElem_cons hi, cntF, if_pos hs] at hF
        have hrec := hg l[i] (List.getElem_mem hi) s
        obtain ⟨x, hx⟩ : ∃ x, l[i] = x := ⟨_, rfl⟩
        rw [hx] at hrec hF
        unfold encL at hrec
        obtain ⟨v, hv⟩ : ∃ v, lvOf q x = v := ⟨_, rfl⟩
        rw [hv] at hrec
        rw [hst, hv] at hF
        (refine wpD_region tyOK ?_; ((try simp only [wpAft_ret, wpAft_pan, putS, updS, setS]); (repeat (rw [wpS_cons]; simp [hi, hi', hx, encL])); (try simp only [wpS_nil, thenD, blockD])))
        refine CallX.pure globPure (hrec) ?_ (by simp [D.fgts, D.fgt]) (by simp [D.pures, D.pure, Cp.free, D.pures_map]) (by simp [Out.pure, D.pure, D.pures, Cp.free, D.pures_map])
        ((try simp only [wpAft_ret, wpAft_pan, putS, updS, setS]); (repeat (rw [wpS_cons]; simp)); (try simp only [wpS_nil, thenD, blockD]))
        refine hK3 _ _ _ ?_
        clear hK3 K3
        have hw1 : IntKind.i64.wrap ((i : Int) + 1) = (i : Int) + 1 := i64w (by omega) (by omega)
        (refine wpD_region tyOK ?_; ((try simp only [wpAft_ret, wpAft_pan, putS, updS, setS]); (repeat (rw [wpS_cons]; simp [hw1])); (try simp only [wpS_nil, thenD, blockD])))
        refine hA (n - 1) _ _ _ (LeT.refl _) (by omega) (by kernel_rfl) ?_
        exact ⟨i + 1, _, rfl, by omega, hF, rfl⟩
      · (refine wpD_seqk fun K hK => ?_; refine wpD_region tyOK ?_; ((try simp only [wpAft_ret, wpAft_pan, putS, updS, setS]); (repeat (rw [wpS_cons]; simp [hi, hi', hs])); (try simp only [wpS_nil, thenD, blockD])); refine hK _ _ _ ?_; clear hK K)
        refine wpD_part rfl (fun h => by simp at h) (fun _ => ?_)
        refine wpD_exit ?_
        refine hK1 _ _ _ ?_
        rw [List.drop_eq_getElem_cons hi, cntF, if_neg hs] at hF
        subst hF
        (refine wpD_seqk fun K hK => ?_; refine wpD_region tyOK ?_; ((try simp only [wpAft_ret, wpAft_pan, putS, updS, setS]); (repeat (rw [wpS_cons]; simp)); (try simp only [wpS_nil, thenD, blockD])); refine hK _ _ _ ?_; clear hK K)
        (refine wpD_ret ?_; (try simp only [thenD, blockD]); refine EndQ.ret rfl (.inl ?_); simp [tmOf, Out.fgt, D.fgt, D.fgts])
    · have hi' : ¬ (i : Int) < l.length := by omega
      (refine wpD_seqk fun K hK => ?_; refine wpD_region tyOK ?_; ((try simp only [wpAft_ret, wpAft_pan, putS, updS, setS]); (repeat (rw [wpS_cons]; simp [hi, hi'])); (try simp only [wpS_nil, thenD, blockD])); refine hK _ _ _ ?_; clear hK K)
      refine wpD_part rfl (fun h => by simp at h) (fun _ => ?_)
      refine wpD_exit ?_
      refine hK1 _ _ _ ?_
      rw [List.drop_of_length_le (by omega), cntF] at hF
      subst hF
      (refine wpD_seqk fun K hK => ?_; refine wpD_region tyOK ?_; ((try simp only [wpAft_ret, wpAft_pan, putS, updS, setS]); (repeat (rw [wpS_cons]; simp)); (try simp only [wpS_nil, thenD, blockD])); refine hK _ _ _ ?_; clear hK K)
      (refine wpD_ret ?_; (try simp only [thenD, blockD]); refine EndQ.ret rfl (.inl ?_); simp [tmOf, Out.fgt, D.fgt, D.fgts])
def lvsN (q : Int) (ls : List LV) : Int := cntF (fun x s => IntKind.i64.wrap (s + lvOf q x)) q ls 0
theorem lvsN_spec (ls : List LV) (q : Int) (hl : ls.length ≤ LMax) : Spec Tryd.prog glob 50 [.slice (ls.map encL) .any, .int .i64 q] [] (fun o _ => o.fgt = .ret (.int .i64 (lvsN q ls))) :=
  lvsOf_gen ls q _ hl (fun _ _ => rfl) (fun x _ _ => lvOf_spec x q)
mutual
def T.tof : T → Int → Int
  | .mk _ _ _ ls ks, q => IntKind.i64.wrap (IntKind.i64.wrap (1 + lvsN q ls) + T.tofs ks 0 q)
def T.tofs : List T → Int → Int → Int
  | [], n, _ => n
  | t :: r, n, q => if n ≤ q then T.tofs r (IntKind.i64.wrap (n + T.tof t (IntKind.i64.wrap (q - n)))) q else n
end
theorem tofs_cnt (q : Int) : ∀ (l : List T) (n : Int), T.tofs l n q = cntF (fun x s => IntKind.i64.wrap (s + T.tof x (IntKind.i64.wrap (q - s)))) q l n
  | [], n => by rw [T.tofs, cntF]
  | t :: r, n => by rw [T.tofs, cntF, tofs_cnt q r]
theorem tofs_gen (l : List (T)) (q : Int) (step : T → Int → Int) (hl : l.length ≤ LMax) (hst : ∀ x s, step x s = IntKind.i64.wrap (s + T.tof x (IntKind.i64.wrap (q - s)))) (hg : ∀ x, x ∈ l → ∀ s : Int, Spec Tryd.prog glob 12 [encT x, .int .i64 (IntKind.i64.wrap (q - s))] [] (fun o _ => o.fgt = .ret (.int .i64 (T.tof x (IntKind.i64.wrap (q - s)))))) :
    Spec Tryd.prog glob 51 [.slice (l.map encT) .any, .int .i64 q] [] (fun o _ => o.fgt = .ret (.int .i64 (cntF step q l 0))) := by
  obtain ⟨R, hR⟩ : ∃ R, R = cntF step q l 0 := ⟨_, rfl⟩
  rw [← hR]
  have hl0 := hl
  unfold LMax at hl0
  refine Spec.movd globPure (wpD_spec tyOK Tryd.func51 rfl (enters _ _ Tryd.func51 rfl (by decide)) rfl rfl ?_)
  (refine wpD_seqk fun K hK => ?_; refine wpD_region tyOK ?_; ((try simp only [wpAft_ret, wpAft_pan, putS, updS, setS]); (repeat (rw [wpS_cons]; simp)); (try simp only [wpS_nil, thenD, blockD])); refine hK _ _ _ ?_; clear hK K)
  (refine wpD_seqk fun K hK => ?_; refine wpD_region tyOK ?_; ((try simp only [wpAft_ret, wpAft_pan, putS, updS, setS]); (repeat (rw [wpS_cons]; simp)); (try simp only [wpS_nil, thenD, blockD])); refine hK _ _ _ ?_; clear hK K)
  refine wpD_seqk fun K1 hK1 => ?_
  (refine wpD_seqk fun K hK => ?_; refine wpD_region tyOK ?_; ((try simp only [wpAft_ret, wpAft_pan, putS, updS, setS]); (repeat (rw [wpS_cons]; simp)); (try simp only [wpS_nil, thenD, blockD])); refine hK _ _ _ ?_; clear hK K)
  refine wpD_block ?_
  refine wpD_loopWJ [7, 8, 9, 10, 11, 12, 13, 14, 15, 16, 17, 18, 19, 20, 21, 22, 23, 24, 25, 26, 27] [5, 6] (fun n ys hl => ∃ (k : Nat) (s : Int), ys = [.int .i64 s, .int .i64 k] ∧ n + k = l.length ∧ R = cntF step q (l.drop k) s ∧ hl = []) (l.length) (by kernel_rfl) ?_ ?_
  · exact ⟨0, 0, rfl, rfl, hR, rfl⟩
  · rintro n ys hl A hA ⟨i, s, rfl, hn, hF, rfl⟩
    simp only [putAll, List.set, List.map_cons, List.map_nil, List.cons_append, List.nil_append]
    refine wpD_seqk fun K2 hK2 => ?_
    by_cases hi : i < l.length
    · have hi' : (i : Int) < l.length := by omega
      by_cases hs : s ≤ q
      · (refine wpD_seqk fun K hK => ?_; refine wpD_region tyOK ?_; ((try simp only [wpAft_ret, wpAft_pan, putS, updS, setS]); (repeat (rw [wpS_cons]; simp [hi, hi', hs])); (try simp only [wpS_nil, thenD, blockD])); refine hK _ _ _ ?_; clear hK K)
        refine wpD_part rfl (fun _ => ?_) (fun h => by simp at h)
        refine wpD_skip (hK2 _ _ _ ?_)
        clear hK2 K2
        refine wpD_seqk fun K3 hK3 => ?_
        refine wpD_block ?_
        rw [List.drop_eq_getElem_cons hi, cntF, if_pos hs] at hF
        have hrec := hg l[i] (List.getElem_mem hi) s
        obtain ⟨x, hx⟩ : ∃ x, l[i] = x := ⟨_, rfl⟩
        rw [hx] at hrec hF
        have hEx := encT_eq x
        rw [hEx] at hrec
        rw [hst] at hF
        generalize T.tof x (IntKind.i64.wrap (q - s)) = v at hrec hF
        (refine wpD_region tyOK ?_; ((try simp only [wpAft_ret, wpAft_pan, putS, updS, setS]); (repeat (rw [wpS_cons]; simp [hi, hi', hx, hEx])); (try simp only [wpS_nil, thenD, blockD])))
        refine CallX.pure globPure (hrec) ?_ (by simp [D.fgts, D.fgt]) (by simp [D.pures, D.pure, Cp.free, D.pures_map]) (by simp [Out.pure, D.pure, D.pures, Cp.free, D.pures_map])
        ((try simp only [wpAft_ret, wpAft_pan, putS, updS, setS]); (repeat (rw [wpS_cons]; simp)); (try simp only [wpS_nil, thenD, blockD]))
        refine hK3 _ _ _ ?_
        clear hK3 K3
        have hw1 : IntKind.i64.wrap ((i : Int) + 1) = (i : Int) + 1 := i64w (by omega) (by omega)
        (refine wpD_region tyOK ?_; ((try simp only [wpAft_ret, wpAft_pan, putS, updS, setS]); (repeat (rw [wpS_cons]; simp [hw1])); (try simp only [wpS_nil, thenD, blockD])))
        refine hA (n - 1) _ _ _ (LeT.refl _) (by omega) (by kernel_rfl) ?_
        exact ⟨i + 1, _, rfl, by omega, hF, rfl⟩
      · (refine wpD_seqk fun K hK => ?_; refine wpD_region tyOK ?_; ((try simp only [wpAft_ret, wpAft_pan, putS, updS, setS]); (repeat (rw [wpS_cons]; simp [hi, hi', hs])); (try simp only [wpS_nil, thenD, blockD])); refine hK _ _ _ ?_; clear hK K)
        refine wpD_part rfl (fun h => by simp at h) (fun _ => ?_)
        refine wpD_exit ?_
        refine hK1 _ _ _ ?_
        rw [List.drop_eq_getElem_cons hi, cntF, if_neg hs] at hF
        subst hF
        (refine wpD_seqk fun K hK => ?_; refine wpD_region tyOK ?_; ((try simp only [wpAft_ret, wpAft_pan, putS, updS, setS]); (repeat (rw [wpS_cons]; simp)); (try simp only [wpS_nil, thenD, blockD])); refine hK _ _ _ ?_; clear hK K)
        (refine wpD_ret ?_; (try simp only [thenD, blockD]); refine EndQ.ret rfl (.inl ?_); simp [tmOf, Out.fgt, D.fgt, D.fgts])
    · have hi' : ¬ (i : Int) < l.length := by omega
      (refine wpD_seqk fun K hK => ?_; refine wpD_region tyOK ?_; ((try simp only [wpAft_ret, wpAft_pan, putS, updS, setS]); (repeat (rw [wpS_cons]; simp [hi, hi'])); (try simp only [wpS_nil, thenD, blockD])); refine hK _ _ _ ?_; clear hK K)
      refine wpD_part rfl (fun h => by simp at h) (fun _ => ?_)
      refine wpD_exit ?_
      refine hK1 _ _ _ ?_
      rw [List.drop_of_length_le (by omega), cntF] at hF
      subst hF
      (refine wpD_seqk fun K hK => ?_; refine wpD_region tyOK ?_; ((try simp only [wpAft_ret, wpAft_pan, putS, updS, setS]); (repeat (rw [wpS_cons]; simp)); (try simp only [wpS_nil, thenD, blockD])); refine hK _ _ _ ?_; clear hK K)
      (refine wpD_ret ?_; (try simp only [thenD, blockD]); refine EndQ.ret rfl (.inl ?_); simp [tmOf, Out.fgt, D.fgt, D.fgts])
theorem tof_spec (t : T) : ∀ q, okT t → Spec Tryd.prog glob 12 [encT t, .int .i64 q] [] (fun o _ => o.fgt = .ret (.int .i64 (t.tof q))) := by
  induction t using T.ind with
  | h k n a ls ks ih =>
    intro q ht
    have hks := ht.ks
    simp only [T.ks_mk] at hks
    have hL := lvsN_spec ls q ht.ll
    have hT := tofs_gen ks q _ ht.kl (fun _ _ => rfl) (fun x hx s => ih x hx _ (hks x hx))
    rw [← tofs_cnt] at hT
    have e : (T.mk k n a ls ks).tof q = IntKind.i64.wrap (IntKind.i64.wrap (1 + lvsN q ls) + T.tofs ks 0 q) := by rw [T.tof]
    rw [e]
    generalize lvsN q ls = v at hL ⊢
    generalize T.tofs ks 0 q = v2 at hT ⊢
    rw [encT_eq]
    simp only [T.k_mk, T.n_mk, T.a_mk, T.ls_mk, T.ks_mk]
    refine Spec.movd globPure (wpD_spec tyOK Tryd.func12 rfl (enters _ _ Tryd.func12 rfl (by decide)) rfl rfl ?_)
    (refine wpD_seqk fun K hK => ?_; refine wpD_region tyOK ?_; ((try simp only [wpAft_ret, wpAft_pan, putS, updS, setS]); (repeat (rw [wpS_cons]; simp)); (try simp only [wpS_nil, thenD, blockD])); refine hK _ _ _ ?_; clear hK K)
    (refine wpD_seqk fun K hK => ?_; refine wpD_drawk tyOK (by kernel_rfl) (by kernel_rfl) fun KT hKT => ?_; ((try simp only [wpAftT_ret, wpAftT_pan, putS, updS, setS]); (repeat (rw [wpT_cons]; simp)); (try simp only [wpT_nil])))
    refine CallY.pure globPure (hL) ?_ (by simp [D.fgts, D.fgt]) (by simp [D.pures, D.pure, Cp.free, D.pures_map]) (by simp [Out.pure, D.pure, D.pures, Cp.free, D.pures_map])
    ((try simp only [wpAftT_ret, wpAftT_pan, putS, updS, setS]); (repeat (rw [wpT_cons]; simp)); (try simp only [wpT_nil]))
    refine CallY.pure globPure (hT) ?_ (by simp [D.fgts, D.fgt]) (by simp [D.pures, D.pure, Cp.free, D.pures_map]) (by simp [Out.pure, D.pure, D.pures, Cp.free, D.pures_map])
    ((try simp only [wpAftT_ret, wpAftT_pan, putS, updS, setS]); (repeat (rw [wpT_cons]; simp)); (try simp only [wpT_nil]))
    (refine hKT _ _ _ _ (by kernel_rfl) ?_; clear hKT KT; (try simp only [thenD, blockD]))
    (refine hK _ _ _ ?_; clear hK K)
    (refine wpD_ret ?_; (try simp only [thenD, blockD]); refine EndQ.ret rfl (.inl ?_); simp [tmOf, Out.fgt, D.fgt, D.fgts])
theorem tofs_spec (l : List T) (q : Int) (hl : l.length ≤ LMax) (hls : ∀ x, x ∈ l → okT x) : Spec Tryd.prog glob 51 [.slice (l.map encT) .any, .int .i64 q] [] (fun o _ => o.fgt = .ret (.int .i64 (T.tofs l 0 q))) := by
  rw [tofs_cnt]
  exact tofs_gen l q _ hl (fun _ _ => rfl) (fun x hx s => tof_spec x _ (hls x hx))
end Go.Proofs.YtebmlojhdnldgaaDoor

namespace Go.Proofs.YtebmlojhdnldgaaDoor
set_option linter.unusedSimpArgs false
set_option linter.unusedVariables false
set_option maxHeartbeats 10000000
set_option maxRecDepth 20000
open Go.RowKit
attribute [local simp] wpAft_ret wpAft_pan wantD evOp opD tmOf putS updS setS hOf isFree isTok fillD TK.isAgg TK.known partD thenD blockD putAll D.ofV inB nilTest isNilS binX binD binE isCst bndD capB IntKind.min IntKind.max IntKind.signed IntKind.bits dstOf late
def vT (n : Int) : T := .mk 1 n 0 [] []
def appT (f a : T) : T := .mk 6 0 0 [] [f, a]
def lamT (a b : T) : T := .mk 5 0 0 [] [a, b]
theorem encT_mk (k n a : Int) (ls : List LV) (ks : List T) : encT (.mk k n a ls ks) = .agg [.int .i64 k, .int .i64 n, .int .i64 a, .slice (ls.map encL) .any, .slice (ks.map encT) .any] := encT_eq _
theorem v2_spec (n : Int) : Spec Tryd.prog glob 79 [.int .i64 n] [] (fun o _ => o.fgt = .ret (encT (vT n))) := by
  unfold vT
  rw [encT_mk]
  refine Spec.movd globPure (wpD_spec tyOK Tryd.func79 rfl (enters _ _ Tryd.func79 rfl (by decide)) rfl rfl ?_)
  (refine wpD_seqk fun K hK => ?_; refine wpD_region tyOK ?_; ((try simp only [wpAft_ret, wpAft_pan, putS, updS, setS]); (repeat (rw [wpS_cons]; simp)); (try simp only [wpS_nil, thenD, blockD])); refine hK _ _ _ ?_; clear hK K)
  (refine wpD_seqk fun K hK => ?_; refine wpD_region tyOK ?_; ((try simp only [wpAft_ret, wpAft_pan, putS, updS, setS]); (repeat (rw [wpS_cons]; simp)); (try simp only [wpS_nil, thenD, blockD])); refine hK _ _ _ ?_; clear hK K)
  (refine wpD_ret ?_; (try simp only [thenD, blockD]); refine EndQ.ret rfl (.inl ?_); simp [tmOf, Out.fgt, D.fgt, D.fgts])
theorem app2_spec (f a : T) : Spec Tryd.prog glob 80 [encT f, encT a] [] (fun o _ => o.fgt = .ret (encT (appT f a))) := by
  have hf := encT_eq f
  have ha := encT_eq a
  unfold appT
  rw [encT_mk]
  simp only [List.map_cons, List.map_nil]
  rw [hf, ha]
  refine Spec.movd globPure (wpD_spec tyOK Tryd.func80 rfl (enters _ _ Tryd.func80 rfl (by decide)) rfl rfl ?_)
  (refine wpD_seqk fun K hK => ?_; refine wpD_region tyOK ?_; ((try simp only [wpAft_ret, wpAft_pan, putS, updS, setS]); (repeat (rw [wpS_cons]; simp)); (try simp only [wpS_nil, thenD, blockD])); refine hK _ _ _ ?_; clear hK K)
  (refine wpD_seqk fun K hK => ?_; refine wpD_region tyOK ?_; ((try simp only [wpAft_ret, wpAft_pan, putS, updS, setS]); (repeat (rw [wpS_cons]; simp)); (try simp only [wpS_nil, thenD, blockD])); refine hK _ _ _ ?_; clear hK K)
  (refine wpD_ret ?_; (try simp only [thenD, blockD]); refine EndQ.ret rfl (.inl ?_); simp [tmOf, Out.fgt, D.fgt, D.fgts])
theorem lam2_spec (f a : T) : Spec Tryd.prog glob 78 [encT f, encT a] [] (fun o _ => o.fgt = .ret (encT (lamT f a))) := by
  have hf := encT_eq f
  have ha := encT_eq a
  unfold lamT
  rw [encT_mk]
  simp only [List.map_cons, List.map_nil]
  rw [hf, ha]
  refine Spec.movd globPure (wpD_spec tyOK Tryd.func78 rfl (enters _ _ Tryd.func78 rfl (by decide)) rfl rfl ?_)
  (refine wpD_seqk fun K hK => ?_; refine wpD_region tyOK ?_; ((try simp only [wpAft_ret, wpAft_pan, putS, updS, setS]); (repeat (rw [wpS_cons]; simp)); (try simp only [wpS_nil, thenD, blockD])); refine hK _ _ _ ?_; clear hK K)
  (refine wpD_seqk fun K hK => ?_; refine wpD_region tyOK ?_; ((try simp only [wpAft_ret, wpAft_pan, putS, updS, setS]); (repeat (rw [wpS_cons]; simp)); (try simp only [wpS_nil, thenD, blockD])); refine hK _ _ _ ?_; clear hK K)
  (refine wpD_ret ?_; (try simp only [thenD, blockD]); refine EndQ.ret rfl (.inl ?_); simp [tmOf, Out.fgt, D.fgt, D.fgts])
theorem same2_spec (t u : T) (ht : okT t) (hu : okT u) : Spec Tryd.prog glob 30 [encT t, encT u] [] (fun o _ => o.fgt = .ret (.bool (t.eqB u))) := by
  have h := eqT_spec t u ht hu
  have hf := encT_eq t
  have ha := encT_eq u
  rw [hf, ha] at h ⊢
  refine Spec.movd globPure (wpD_spec tyOK Tryd.func30 rfl (enters _ _ Tryd.func30 rfl (by decide)) rfl rfl ?_)
  (refine wpD_seqk fun K hK => ?_; refine wpD_region tyOK ?_; ((try simp only [wpAft_ret, wpAft_pan, putS, updS, setS]); (repeat (rw [wpS_cons]; simp)); (try simp only [wpS_nil, thenD, blockD])); refine hK _ _ _ ?_; clear hK K)
  (refine wpD_seqk fun K hK => ?_; refine wpD_region tyOK ?_; ((try simp only [wpAft_ret, wpAft_pan, putS, updS, setS]); (repeat (rw [wpS_cons]; simp)); (try simp only [wpS_nil, thenD, blockD])))
  refine CallX.pure globPure (h) ?_ (by simp [D.fgts, D.fgt]) (by simp [D.pures, D.pure, Cp.free, D.pures_map]) (by simp [Out.pure, D.pure, D.pures, Cp.free, D.pures_map])
  ((try simp only [wpAft_ret, wpAft_pan, putS, updS, setS]); (repeat (rw [wpS_cons]; simp)); (try simp only [wpS_nil, thenD, blockD]))
  (refine hK _ _ _ ?_; clear hK K)
  (refine wpD_ret ?_; (try simp only [thenD, blockD]); refine EndQ.ret rfl (.inl ?_); simp [tmOf, Out.fgt, D.fgt, D.fgts])
theorem great2_spec (l : List T) (hl : l.length ≤ LMax) (hls : ∀ x, x ∈ l → okT x) : ∃ b, Spec Tryd.prog glob 27 [.slice (l.map encT) .any] [] (fun o _ => o.fgt = .ret (.bool b)) := by
  have h := tofs_spec l 600 hl hls
  generalize T.tofs l 0 600 = v at h
  refine ⟨decide (600 < v), ?_⟩
  refine Spec.movd globPure (wpD_spec tyOK Tryd.func27 rfl (enters _ _ Tryd.func27 rfl (by decide)) rfl rfl ?_)
  (refine wpD_seqk fun K hK => ?_; refine wpD_region tyOK ?_; ((try simp only [wpAft_ret, wpAft_pan, putS, updS, setS]); (repeat (rw [wpS_cons]; simp)); (try simp only [wpS_nil, thenD, blockD])); refine hK _ _ _ ?_; clear hK K)
  (refine wpD_seqk fun K hK => ?_; refine wpD_region tyOK ?_; ((try simp only [wpAft_ret, wpAft_pan, putS, updS, setS]); (repeat (rw [wpS_cons]; simp)); (try simp only [wpS_nil, thenD, blockD])))
  refine CallX.pure globPure (h) ?_ (by simp [D.fgts, D.fgt]) (by simp [D.pures, D.pure, Cp.free, D.pures_map]) (by simp [Out.pure, D.pure, D.pures, Cp.free, D.pures_map])
  ((try simp only [wpAft_ret, wpAft_pan, putS, updS, setS]); (repeat (rw [wpS_cons]; simp)); (try simp only [wpS_nil, thenD, blockD]))
  (refine hK _ _ _ ?_; clear hK K)
  (refine wpD_ret ?_; (try simp only [thenD, blockD]); refine EndQ.ret rfl (.inl ?_); simp [tmOf, Out.fgt, D.fgt, D.fgts])
theorem tames_gen (l : List T) (hl : l.length ≤ LMax) (hg : ∀ x, x ∈ l → Spec Tryd.prog glob 28 [.slice (x.ks.map encT) .any] [] (fun o _ => o.fgt = .ret (.bool (T.tamesB x.ks)))) :
    Spec Tryd.prog glob 28 [.slice (l.map encT) .any] [] (fun o _ => o.fgt = .ret (.bool (T.tamesB l))) := by
  obtain ⟨R, hR⟩ : ∃ R, R = T.tamesB l := ⟨_, rfl⟩
  rw [← hR]
  have hl0 := hl
  unfold LMax at hl0
  refine Spec.movd globPure (wpD_spec tyOK Tryd.func28 rfl (enters _ _ Tryd.func28 rfl (by decide)) rfl rfl ?_)
  (refine wpD_seqk fun K hK => ?_; refine wpD_region tyOK ?_; ((try simp only [wpAft_ret, wpAft_pan, putS, updS, setS]); (repeat (rw [wpS_cons]; simp)); (try simp only [wpS_nil, thenD, blockD])); refine hK _ _ _ ?_; clear hK K)
  refine wpD_seqk fun K1 hK1 => ?_
  (refine wpD_seqk fun K hK => ?_; refine wpD_region tyOK ?_; ((try simp only [wpAft_ret, wpAft_pan, putS, updS, setS]); (repeat (rw [wpS_cons]; simp)); (try simp only [wpS_nil, thenD, blockD])); refine hK _ _ _ ?_; clear hK K)
  refine wpD_block ?_
  refine wpD_loopWJ [2, 4, 5, 6, 7, 8, 9, 10, 11, 12, 13, 14, 15, 16, 17, 18, 19, 20, 21, 22, 23, 24, 25, 26, 27, 28, 29, 30, 31, 32, 33, 34, 35, 36, 37, 38, 39, 40] [3] (fun n ys hl => ∃ (k : Nat), ys = [.int .i64 k] ∧ n + k = l.length ∧ R = T.tamesB (l.drop k) ∧ hl = []) (l.length) (by kernel_rfl) ?_ ?_
  · exact ⟨0, rfl, rfl, hR, rfl⟩
  · rintro n ys hl A hA ⟨i, rfl, hn, hF, rfl⟩
    simp only [putAll, List.set, List.map_cons, List.map_nil, List.cons_append, List.nil_append]
    refine wpD_seqk fun K2 hK2 => ?_
    by_cases hi : i < l.length
    · have hi' : (i : Int) < l.length := by omega
      (refine wpD_seqk fun K hK => ?_; refine wpD_region tyOK ?_; ((try simp only [wpAft_ret, wpAft_pan, putS, updS, setS]); (repeat (rw [wpS_cons]; simp [hi, hi'])); (try simp only [wpS_nil, thenD, blockD])); refine hK _ _ _ ?_; clear hK K)
      refine wpD_part rfl (fun _ => ?_) (fun h => by simp at h)
      refine wpD_skip (hK2 _ _ _ ?_)
      clear hK2 K2
      refine wpD_seqk fun K3 hK3 => ?_
      refine wpD_block ?_
      rw [List.drop_eq_getElem_cons hi, T.tamesB] at hF
      have hrec := hg l[i] (List.getElem_mem hi)
      obtain ⟨x, hx⟩ : ∃ x, l[i] = x := ⟨_, rfl⟩
      rw [hx] at hrec hF
      obtain ⟨xk, xn, xa, xls, xks⟩ := x
      have hEx := encT_mk xk xn xa xls xks
      simp only [T.ks_mk] at hrec
      rw [T.tameB] at hF
      generalize T.tamesB xks = B at hrec hF
      have hw1 : IntKind.i64.wrap ((i : Int) + 1) = (i : Int) + 1 := i64w (by omega) (by omega)
      have fin : ∀ (b : Bool), R = (b && T.tamesB (l.drop (i + 1))) → b = true → R = T.tamesB (l.drop (i + 1)) := fun b h1 h2 => by rw [h1, h2, Bool.true_and]
      by_cases h1 : xk = 1
      · subst h1
        by_cases h2 : xn < 0
        · (refine wpD_seqk fun K hK => ?_; refine wpD_region tyOK ?_; ((try simp only [wpAft_ret, wpAft_pan, putS, updS, setS]); (repeat (rw [wpS_cons]; simp [hi, hi', hx, hEx, h2])); (try simp only [wpS_nil, thenD, blockD])); refine hK _ _ _ ?_; clear hK K)
          refine wpD_part rfl (fun _ => ?_) (fun h => by simp at h)
          (refine wpD_seqk fun K hK => ?_; refine wpD_region tyOK ?_; ((try simp only [wpAft_ret, wpAft_pan, putS, updS, setS]); (repeat (rw [wpS_cons]; simp)); (try simp only [wpS_nil, thenD, blockD])); refine hK _ _ _ ?_; clear hK K)
          (refine wpD_ret ?_; (try simp only [thenD, blockD]); refine EndQ.ret rfl (.inl ?_); simp [tmOf, Out.fgt, D.fgt, D.fgts])
          rw [hF]; simp [h2]
        by_cases h3 : 1000 < xn
        · (refine wpD_seqk fun K hK => ?_; refine wpD_region tyOK ?_; ((try simp only [wpAft_ret, wpAft_pan, putS, updS, setS]); (repeat (rw [wpS_cons]; simp [hi, hi', hx, hEx, h2, h3])); (try simp only [wpS_nil, thenD, blockD])); refine hK _ _ _ ?_; clear hK K)
          refine wpD_part rfl (fun _ => ?_) (fun h => by simp at h)
          (refine wpD_seqk fun K hK => ?_; refine wpD_region tyOK ?_; ((try simp only [wpAft_ret, wpAft_pan, putS, updS, setS]); (repeat (rw [wpS_cons]; simp)); (try simp only [wpS_nil, thenD, blockD])); refine hK _ _ _ ?_; clear hK K)
          (refine wpD_ret ?_; (try simp only [thenD, blockD]); refine EndQ.ret rfl (.inl ?_); simp [tmOf, Out.fgt, D.fgt, D.fgts])
          rw [hF]; simp [h3]
        cases B with
        | true =>
          (refine wpD_seqk fun K hK => ?_; refine wpD_region tyOK ?_; ((try simp only [wpAft_ret, wpAft_pan, putS, updS, setS]); (repeat (rw [wpS_cons]; simp [hi, hi', hx, hEx, h2, h3])); (try simp only [wpS_nil, thenD, blockD])))
          refine CallX.pure globPure (hrec) ?_ (by simp [D.fgts, D.fgt]) (by simp [D.pures, D.pure, Cp.free, D.pures_map]) (by simp [Out.pure, D.pure, D.pures, Cp.free, D.pures_map])
          ((try simp only [wpAft_ret, wpAft_pan, putS, updS, setS]); (repeat (rw [wpS_cons]; simp)); (try simp only [wpS_nil, thenD, blockD]))
          (refine hK _ _ _ ?_; clear hK K)
          refine wpD_part rfl (fun h => by simp at h) (fun _ => ?_)
          refine wpD_skip (hK3 _ _ _ ?_)
          clear hK3 K3
          (refine wpD_region tyOK ?_; ((try simp only [wpAft_ret, wpAft_pan, putS, updS, setS]); (repeat (rw [wpS_cons]; simp [hw1])); (try simp only [wpS_nil, thenD, blockD])))
          refine hA (n - 1) _ _ _ (LeT.refl _) (by omega) (by kernel_rfl) ?_
          exact ⟨i + 1, rfl, by omega, fin _ hF (by simp [h2, h3]), rfl⟩
        | false =>
          (refine wpD_seqk fun K hK => ?_; refine wpD_region tyOK ?_; ((try simp only [wpAft_ret, wpAft_pan, putS, updS, setS]); (repeat (rw [wpS_cons]; simp [hi, hi', hx, hEx, h2, h3])); (try simp only [wpS_nil, thenD, blockD])))
          refine CallX.pure globPure (hrec) ?_ (by simp [D.fgts, D.fgt]) (by simp [D.pures, D.pure, Cp.free, D.pures_map]) (by simp [Out.pure, D.pure, D.pures, Cp.free, D.pures_map])
          ((try simp only [wpAft_ret, wpAft_pan, putS, updS, setS]); (repeat (rw [wpS_cons]; simp)); (try simp only [wpS_nil, thenD, blockD]))
          (refine hK _ _ _ ?_; clear hK K)
          refine wpD_part rfl (fun _ => ?_) (fun h => by simp at h)
          (refine wpD_seqk fun K hK => ?_; refine wpD_region tyOK ?_; ((try simp only [wpAft_ret, wpAft_pan, putS, updS, setS]); (repeat (rw [wpS_cons]; simp)); (try simp only [wpS_nil, thenD, blockD])); refine hK _ _ _ ?_; clear hK K)
          (refine wpD_ret ?_; (try simp only [thenD, blockD]); refine EndQ.ret rfl (.inl ?_); simp [tmOf, Out.fgt, D.fgt, D.fgts])
          rw [hF]; simp
      · cases B with
        | true =>
          (refine wpD_seqk fun K hK => ?_; refine wpD_region tyOK ?_; ((try simp only [wpAft_ret, wpAft_pan, putS, updS, setS]); (repeat (rw [wpS_cons]; simp [hi, hi', hx, hEx, h1])); (try simp only [wpS_nil, thenD, blockD])))
          refine CallX.pure globPure (hrec) ?_ (by simp [D.fgts, D.fgt]) (by simp [D.pures, D.pure, Cp.free, D.pures_map]) (by simp [Out.pure, D.pure, D.pures, Cp.free, D.pures_map])
          ((try simp only [wpAft_ret, wpAft_pan, putS, updS, setS]); (repeat (rw [wpS_cons]; simp)); (try simp only [wpS_nil, thenD, blockD]))
          (refine hK _ _ _ ?_; clear hK K)
          refine wpD_part rfl (fun h => by simp at h) (fun _ => ?_)
          refine wpD_skip (hK3 _ _ _ ?_)
          clear hK3 K3
          (refine wpD_region tyOK ?_; ((try simp only [wpAft_ret, wpAft_pan, putS, updS, setS]); (repeat (rw [wpS_cons]; simp [hw1])); (try simp only [wpS_nil, thenD, blockD])))
          refine hA (n - 1) _ _ _ (LeT.refl _) (by omega) (by kernel_rfl) ?_
          exact ⟨i + 1, rfl, by omega, fin _ hF (by simp [h1]), rfl⟩
        | false =>
          (refine wpD_seqk fun K hK => ?_; refine wpD_region tyOK ?_; ((try simp only [wpAft_ret, wpAft_pan, putS, updS, setS]); (repeat (rw [wpS_cons]; simp [hi, hi', hx, hEx, h1])); (try simp only [wpS_nil, thenD, blockD])))
          refine CallX.pure globPure (hrec) ?_ (by simp [D.fgts, D.fgt]) (by simp [D.pures, D.pure, Cp.free, D.pures_map]) (by simp [Out.pure, D.pure, D.pures, Cp.free, D.pures_map])
          ((try simp only [wpAft_ret, wpAft_pan, putS, updS, setS]); (repeat (rw [wpS_cons]; simp)); (try simp only [wpS_nil, thenD, blockD]))
          (refine hK _ _ _ ?_; clear hK K)
          refine wpD_part rfl (fun _ => ?_) (fun h => by simp at h)
          (refine wpD_seqk fun K hK => ?_; refine wpD_region tyOK ?_; ((try simp only [wpAft_ret, wpAft_pan, putS, updS, setS]); (repeat (rw [wpS_cons]; simp)); (try simp only [wpS_nil, thenD, blockD])); refine hK _ _ _ ?_; clear hK K)
          (refine wpD_ret ?_; (try simp only [thenD, blockD]); refine EndQ.ret rfl (.inl ?_); simp [tmOf, Out.fgt, D.fgt, D.fgts])
          rw [hF]; simp
    · have hi' : ¬ (i : Int) < l.length := by omega
      (refine wpD_seqk fun K hK => ?_; refine wpD_region tyOK ?_; ((try simp only [wpAft_ret, wpAft_pan, putS, updS, setS]); (repeat (rw [wpS_cons]; simp [hi, hi'])); (try simp only [wpS_nil, thenD, blockD])); refine hK _ _ _ ?_; clear hK K)
      refine wpD_part rfl (fun h => by simp at h) (fun _ => ?_)
      refine wpD_exit ?_
      refine hK1 _ _ _ ?_
      rw [List.drop_of_length_le (by omega), T.tamesB] at hF
      subst hF
      (refine wpD_seqk fun K hK => ?_; refine wpD_region tyOK ?_; ((try simp only [wpAft_ret, wpAft_pan, putS, updS, setS]); (repeat (rw [wpS_cons]; simp)); (try simp only [wpS_nil, thenD, blockD])); refine hK _ _ _ ?_; clear hK K)
      (refine wpD_ret ?_; (try simp only [thenD, blockD]); refine EndQ.ret rfl (.inl ?_); simp [tmOf, Out.fgt, D.fgt, D.fgts])
theorem tame1_spec (t : T) : okT t → Spec Tryd.prog glob 28 [.slice (t.ks.map encT) .any] [] (fun o _ => o.fgt = .ret (.bool (T.tamesB t.ks))) := by
  induction t using T.ind with
  | h k n a ls ks ih =>
    intro ht
    exact tames_gen ks ht.kl (fun x hx => ih x hx (ht.ks x hx))
theorem tame_spec (l : List T) (hl : l.length ≤ LMax) (hls : ∀ x, x ∈ l → okT x) : Spec Tryd.prog glob 28 [.slice (l.map encT) .any] [] (fun o _ => o.fgt = .ret (.bool (T.tamesB l))) :=
  tames_gen l hl (fun x hx => tame1_spec x (hls x hx))
end Go.Proofs.YtebmlojhdnldgaaDoor

namespace Go.Proofs.YtebmlojhdnldgaaDoor
set_option linter.unusedSimpArgs false
set_option linter.unusedVariables false
open Go.RowKit
theorem CallOK.deepA {P : Program} {G : Nat → Option D} {f : FuncId} {args' : List D} {hh : Nat → HO} {out : Out} {rd : List Nat} {up : List (Nat × HO)} (h : CallOK P G f (D.deeps args') hh out rd up) : CallOK P G f args' hh out rd up :=
  fun ρ w H vs hR hx hvs => h ρ w H vs hR hx (RpL_deep _ _ hvs)
theorem CallX.pureD {P : Program} {G : Nat → Option D} (hG : ∀ g d, G g = some d → d.pure = true) {f : FuncId} {args args' : List D} {out : Out} (h : Spec P G f args [] (fun o _ => o.fgt = out)) {hl : List HO} {K : Out → List HO → Prop} (hK : K out hl) (ha : D.fgts (D.deeps args') = args) (hp : D.pures args = true) (ho : out.pure = true) : CallX P G f args' hl K :=
  ⟨fun o up => o = out ∧ up = [], (CallOK.deepA (CallOK.pure hG h ha hp ho _)).toR, fun o up ⟨h1, h2⟩ => by subst h1; subst h2; exact hK⟩
theorem CallY.pureD {P : Program} {G : Nat → Option D} (hG : ∀ g d, G g = some d → d.pure = true) {f : FuncId} {args args' : List D} {out : Out} (h : Spec P G f args [] (fun o _ => o.fgt = out)) {hl : List HO} {K : Out → List Nat → List (Nat × HO) → Prop} (hK : K out [] []) (ha : D.fgts (D.deeps args') = args) (hp : D.pures args = true) (ho : out.pure = true) : CallY P G f args' hl K :=
  ⟨out, [], [], CallOK.deepA (CallOK.pure hG h ha hp ho _), hK⟩
@[simp high] theorem encP_deep (p : Int × Int) : (encP p).deep = encP p := rfl
theorem mapP_deep (l : LV) : D.deeps (l.map encP) = l.map encP := by rw [D.deeps_map, List.map_map]; rfl
@[simp high] theorem mapP_deep' (l : LV) : D.deeps (l.map encP) = l.map encP := mapP_deep l
@[simp high] theorem encL_deep (l : LV) : (encL l).deep = encL l := by
  unfold encL
  simp only [D.deep, D.deeps, mapP_deep]
@[simp high] theorem mapL_deep (l : List LV) : D.deeps (l.map encL) = l.map encL := by
  rw [D.deeps_map, List.map_map]
  exact List.map_congr_left fun x _ => encL_deep x
@[simp high] theorem encT_deep (t : T) : (encT t).deep = encT t := by
  induction t using T.ind with
  | h k n a ls ks ih =>
    rw [encT_eq]
    have : D.deeps (ks.map encT) = ks.map encT := by
      rw [D.deeps_map, List.map_map]
      exact List.map_congr_left fun x hx => ih x hx
    simp only [D.deep, D.deeps, mapL_deep, T.ks_mk, this]
@[simp high] theorem mapT_deep (l : List T) : D.deeps (l.map encT) = l.map encT := by
  rw [D.deeps_map, List.map_map]
  exact List.map_congr_left fun x _ => encT_deep x
@[simp high] theorem mapI_deep (l : List Int) : D.deeps (l.map (.int .i64)) = l.map (.int .i64) := by
  rw [D.deeps_map, List.map_map]; rfl
end Go.Proofs.YtebmlojhdnldgaaDoor

