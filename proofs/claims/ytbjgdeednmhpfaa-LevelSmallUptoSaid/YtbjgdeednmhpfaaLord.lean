/-
  level: Leq is an order; Max, Succ, Put keep it: plainly.
-/
import Derived.Test.YtbjgdeednmhpfaaLdec
namespace Go.Proofs.Ytbjgdeednmhpfaa
open Go.RowKit

theorem leqM_refl {a : LV} (ha : okV a) : leqM a a = true := (leqM_iff ha ha).2 (leR.refl a)
theorem leqM_trans {a b c : LV} (ha : okV a) (hb : okV b) (hc : okV c) (h1 : leqM a b = true) (h2 : leqM b c = true) : leqM a c = true :=
  (leqM_iff ha hc).2 (((leqM_iff ha hb).1 h1).trans ha ((leqM_iff hb hc).1 h2))
theorem same_leq {a b : LV} (ha : okV a) (hb : okV b) : decide (normOf a = normOf b) = (leqM a b && leqM b a) := by
  rw [Bool.eq_iff_iff, decide_eq_true_iff, Bool.and_eq_true, leqM_iff ha hb, leqM_iff hb ha]
  exact same_iff ha hb
theorem norm_norm (a : LV) : normOf (normOf a) = normOf a := norm_id (normOf_nf a)
theorem norm_okV (a : LV) : okV (normOf a) := (normOf_nf a).ok

theorem app_okV {a b : LV} (ha : okV a) (hb : okV b) : okV (a ++ b) := fun p hp => (List.mem_append.1 hp).elim (ha p) (hb p)
def maxL (a b : LV) : LV := normOf (a ++ b)
theorem le_maxL {a b : LV} (ha : okV a) (hb : okV b) : leqM a (maxL a b) = true ∧ leqM b (maxL a b) = true := by
  have hab := app_okV ha hb
  refine ⟨(leqM_iff ha (norm_okV _)).2 fun p hp => norm_dom hab (badP_nn (ha p hp)).2.1 (.self (List.mem_append_left _ hp)), (leqM_iff hb (norm_okV _)).2 fun p hp => norm_dom hab (badP_nn (hb p hp)).2.1 (.self (List.mem_append_right _ hp))⟩
theorem maxL_le {a b c : LV} (ha : okV a) (hb : okV b) (hc : okV c) (h1 : leqM a c = true) (h2 : leqM b c = true) : leqM (maxL a b) c = true :=
  (leqM_iff (norm_okV _) hc).2 fun p hp => (List.mem_append.1 (norm_mem (app_okV ha hb) hp)).elim ((leqM_iff ha hc).1 h1 p) ((leqM_iff hb hc).1 h2 p)

theorem inc_okV {l : LV} (h : ∀ p, p ∈ l → 0 ≤ p.1 ∧ p.1 ≤ 200 ∧ 0 ≤ p.2 ∧ p.2 ≤ 262144) : okV (l.map incP) := fun p hp => by
  obtain ⟨q, hq, rfl⟩ := List.mem_map.1 hp
  have := h q hq
  show badP (q.1, q.2 + 1) = false
  simp only [badP, Bool.or_eq_false_iff, decide_eq_false_iff_not]
  omega
theorem small_norm {a : LV} (ha : a.all smallP = true) : ∀ p, p ∈ normOf a → 0 ≤ p.1 ∧ p.1 ≤ 200 ∧ 0 ≤ p.2 ∧ p.2 ≤ 262144 := fun p hp => small_ok ha p (norm_mem (small_okV ha) hp)
theorem le_succ {a : LV} (ha : a.all smallP = true) : leqM a (succL a) = true := by
  have hoa := small_okV ha
  unfold succL
  split
  · rename_i h
    unfold leqM
    rw [h]; rfl
  · have hi := inc_okV (small_norm ha)
    refine (leqM_iff hoa (norm_okV _)).2 fun p hp => ?_
    have h0 := (badP_nn (hoa p hp)).2.1
    refine norm_dom hi h0 ?_
    refine (norm_leR hoa p hp).trans h0 fun q hq => .inr ⟨incP q, List.mem_map.2 ⟨q, hq, rfl⟩, .inr rfl, by simp only [incP]; omega⟩
theorem exists_top : ∀ {l : LV}, l ≠ [] → ∃ p, p ∈ l ∧ ∀ q, q ∈ l → q.2 ≤ p.2
  | [], h => absurd rfl h
  | [x], _ => ⟨x, by simp, fun q hq => by simp at hq; subst hq; exact Int.le_refl _⟩
  | x :: y :: r, _ => by
    obtain ⟨p, hp, h⟩ := exists_top (l := y :: r) (by simp)
    by_cases hx : p.2 ≤ x.2
    · exact ⟨x, List.mem_cons_self .., fun q hq => (List.mem_cons.1 hq).elim (fun e => by rw [e]; exact Int.le_refl _) (fun hq => Int.le_trans (h q hq) hx)⟩
    · exact ⟨p, List.mem_cons_of_mem _ hp, fun q hq => (List.mem_cons.1 hq).elim (fun e => by rw [e]; omega) (h q)⟩
theorem succ_not {a : LV} (ha : a.all smallP = true) : leqM (succL a) a = false := by
  have hoa := small_okV ha
  cases hq : leqM (succL a) a with
  | false => rfl
  | true =>
    exfalso
    unfold succL at hq
    split at hq
    · rename_i h
      have hnf := nf_n 1 (by omega) (by omega)
      rw [norm_id hnf] at hq
      unfold leqM at hq
      rw [norm_id hnf, h] at hq
      cases hq
    · rename_i h
      have hi := inc_okV (small_norm ha)
      have h1 := (leqM_iff (norm_okV _) hoa).1 hq
      obtain ⟨p, hp, htop⟩ := exists_top h
      have h2 := small_norm ha p hp
      have h3 : domP a (incP p) := (norm_leR hi (incP p) (List.mem_map.2 ⟨p, hp, rfl⟩)).trans (by simp only [incP]; omega) h1
      have h4 : domP (normOf a) (incP p) := norm_dom hoa (by simp only [incP]; omega) h3
      rcases h4 with ⟨-, h5⟩ | ⟨q, hq, -, h5⟩
      · simp only [incP] at h5; omega
      · have := htop q hq
        simp only [incP] at h5; omega

/-! levels for variables -/
def orZero (x : LV) : LV := if x = [] then [(0, 0)] else x
def levOf (bys : List LV) (v : Int) : LV := if 0 < v ∧ v ≤ bys.length then normOf (bys.getD (v - 1).toNat []) else []
def xsP (bys : List LV) (p : Int × Int) : LV := orZero (levOf bys p.1)
theorem orZero_ne (x : LV) : orZero x ≠ [] := by
  unfold orZero
  split
  · simp
  · assumption
theorem orZero_mem {x : LV} {q : Int × Int} (h : q ∈ orZero x) : q = (0, 0) ∨ q ∈ x := by
  unfold orZero at h
  split at h
  · left; simpa using h
  · exact .inr h
def addP (n : Int) (q : Int × Int) : Int × Int := (q.1, q.2 + n)
def rowP (bys : List LV) (p : Int × Int) : LV := (xsP bys p).map (addP p.2)
def putL (l : LV) (bys : List LV) : LV := ((normOf l).map (rowP bys)).flatten

theorem xsP_ne (bys : List LV) (p : Int × Int) : xsP bys p ≠ [] := orZero_ne _
theorem xsP_zero (bys : List LV) {p : Int × Int} (h : p.1 = 0) : xsP bys p = [(0, 0)] := by
  unfold xsP levOf orZero
  rw [if_neg (c := 0 < p.1 ∧ p.1 ≤ bys.length) (by omega), if_pos rfl]
theorem levOf_mem {bys : List LV} {v : Int} {q : Int × Int} (h : q ∈ levOf bys v) : ∃ l, l ∈ bys ∧ q ∈ normOf l := by
  unfold levOf at h
  split at h
  · rename_i hv
    refine ⟨_, ?_, h⟩
    rw [List.getD_eq_getElem?_getD, List.getElem?_eq_getElem (by omega)]
    exact List.getElem_mem _
  · cases h
theorem xsP_ok (bys : List LV) (p : Int × Int) : okV (xsP bys p) := fun q hq => by
  rcases orZero_mem hq with rfl | hq
  · rfl
  · obtain ⟨l, -, h⟩ := levOf_mem hq
    exact norm_okV _ q h
theorem xsP_small {bys : List LV} (hb : ∀ l, l ∈ bys → l.all smallP = true) (p : Int × Int) : ∀ q, q ∈ xsP bys p → 0 ≤ q.1 ∧ q.1 ≤ 200 ∧ 0 ≤ q.2 ∧ q.2 ≤ 262144 := fun q hq => by
  rcases orZero_mem hq with rfl | hq
  · decide
  · obtain ⟨l, hl, h⟩ := levOf_mem hq
    exact small_norm (hb l hl) q h
theorem row_ok {bys : List LV} (hb : ∀ l, l ∈ bys → l.all smallP = true) {p : Int × Int} (hp : 0 ≤ p.2 ∧ p.2 ≤ 262144) : okV (rowP bys p) := fun r hr => by
  obtain ⟨q, hq, rfl⟩ := List.mem_map.1 hr
  have := xsP_small hb p q hq
  show badP (q.1, q.2 + p.2) = false
  simp only [badP, Bool.or_eq_false_iff, decide_eq_false_iff_not]
  omega
theorem put_ok {bys : List LV} (hb : ∀ l, l ∈ bys → l.all smallP = true) {l : LV} (hl : ∀ p, p ∈ normOf l → 0 ≤ p.2 ∧ p.2 ≤ 262144) : okV (putL l bys) := fun r hr => by
  obtain ⟨s, hs, hr⟩ := List.mem_flatten.1 hr
  obtain ⟨p, hp, rfl⟩ := List.mem_map.1 hs
  exact row_ok hb (hl p hp) r hr

theorem row_mono (bys : List LV) {p p' : Int × Int} (h1 : p.1 = 0 ∨ p.1 = p'.1) (h2 : p.2 ≤ p'.2) {r : Int × Int} (hr : r ∈ rowP bys p) : ∃ r', r' ∈ rowP bys p' ∧ (r.1 = 0 ∨ r.1 = r'.1) ∧ r.2 ≤ r'.2 := by
  obtain ⟨q, hq, rfl⟩ := List.mem_map.1 hr
  rcases h1 with h1 | h1
  · rw [xsP_zero bys h1] at hq
    simp at hq
    subst hq
    obtain ⟨q', hq'⟩ := List.exists_mem_of_ne_nil _ (xsP_ne bys p')
    have := (badP_nn (xsP_ok bys p' q' hq')).2.1
    exact ⟨_, List.mem_map.2 ⟨q', hq', rfl⟩, .inl rfl, by simp only [addP]; omega⟩
  · have e : xsP bys p = xsP bys p' := by unfold xsP; rw [h1]
    rw [e] at hq
    exact ⟨_, List.mem_map.2 ⟨q, hq, rfl⟩, .inr rfl, by simp only [addP]; omega⟩
theorem put_mem {l : LV} {bys : List LV} {r : Int × Int} : r ∈ putL l bys ↔ ∃ p, p ∈ normOf l ∧ r ∈ rowP bys p := by
  unfold putL
  rw [List.mem_flatten]
  constructor
  · rintro ⟨s, hs, hr⟩
    obtain ⟨p, hp, rfl⟩ := List.mem_map.1 hs
    exact ⟨p, hp, hr⟩
  · rintro ⟨p, hp, hr⟩
    exact ⟨_, List.mem_map.2 ⟨p, hp, rfl⟩, hr⟩
/-- a part of a normal form that is below a level: what is put for it is below what is put for that -/
theorem row_dom {bys : List LV} {l : LV} {p : Int × Int} (hz : ¬ (p.1 = 0 ∧ p.2 = 0)) (h : domP (normOf l) p) : ∀ r, r ∈ rowP bys p → domP (putL l bys) r := fun r hr => by
  rcases h with h | ⟨p', hp', h1, h2⟩
  · exact absurd h hz
  · obtain ⟨r', hr', h3, h4⟩ := row_mono bys h1 h2 hr
    exact .inr ⟨r', put_mem.2 ⟨p', hp', hr'⟩, h3, h4⟩
theorem nf_nz {l : LV} (h : NF l) {p : Int × Int} (hp : p ∈ l) : ¬ (p.1 = 0 ∧ p.2 = 0) := fun ⟨h1, h2⟩ => by have := (h.z p hp h1).1; omega

section
variable {a b : LV} {bys : List LV}
theorem put_leR (ha : a.all smallP = true) (hb : b.all smallP = true) (h : leqM a b = true) : leR (putL a bys) (putL b bys) := fun r hr => by
  obtain ⟨p, hp, hr⟩ := put_mem.1 hr
  have hoa := small_okV ha
  have hob := small_okV hb
  have h1 := (leqM_iff hoa hob).1 h
  have hp0 := (badP_nn (norm_okV a p hp)).2.1
  exact row_dom (nf_nz (normOf_nf a) hp) (norm_dom hob hp0 (h1 p (norm_mem hoa hp))) r hr
theorem small_nn (ha : a.all smallP = true) : ∀ p, p ∈ normOf a → 0 ≤ p.2 ∧ p.2 ≤ 262144 := fun p hp => (small_norm ha p hp).2.2
theorem max_small (ha : a.all smallP = true) (hb : b.all smallP = true) : (maxL a b).all smallP = true := List.all_eq_true.2 fun p hp =>
  (List.mem_append.1 (norm_mem (app_okV (small_okV ha) (small_okV hb)) hp)).elim (List.all_eq_true.1 ha p) (List.all_eq_true.1 hb p)

theorem put_le (hby : ∀ l, l ∈ bys → l.all smallP = true) (ha : a.all smallP = true) (hb : b.all smallP = true) (h : leqM a b = true) : leqM (normOf (putL a bys)) (normOf (putL b bys)) = true := by
  have h1 := put_ok hby (small_nn ha)
  have h2 := put_ok hby (small_nn hb)
  exact (leqM_iff (norm_okV _) (norm_okV _)).2 (((norm_geR h1).trans (norm_okV _) (put_leR ha hb h)).trans (norm_okV _) (norm_leR h2))
theorem put_max (hby : ∀ l, l ∈ bys → l.all smallP = true) (ha : a.all smallP = true) (hb : b.all smallP = true) :
    normOf (normOf (putL (maxL a b) bys)) = normOf (maxL (normOf (putL a bys)) (normOf (putL b bys))) := by
  have hm := max_small ha hb
  have h1 := put_ok hby (small_nn ha)
  have h2 := put_ok hby (small_nn hb)
  have h3 := put_ok hby (small_nn hm)
  have hoa := small_okV ha
  have hob := small_okV hb
  have hle := le_maxL hoa hob
  have hxy : okV (normOf (putL a bys) ++ normOf (putL b bys)) := app_okV (norm_okV _) (norm_okV _)
  rw [norm_norm]
  unfold maxL
  rw [norm_norm]
  refine norm_ext h3 hxy (fun r hr => ?_) (fun r hr => ?_)
  · have hr0 := (badP_nn (h3 r hr)).2.1
    obtain ⟨p, hp, hr⟩ := put_mem.1 hr
    rw [norm_norm] at hp
    have hnz := nf_nz (normOf_nf _) hp
    have hp0 := (badP_nn (norm_okV _ p hp)).2.1
    rcases List.mem_append.1 (norm_mem (app_okV hoa hob) hp) with h | h
    · have := row_dom hnz (norm_dom hoa hp0 (.self h)) r hr
      refine (norm_dom h1 hr0 this).trans hr0 fun q hq => .self (List.mem_append_left _ hq)
    · have := row_dom hnz (norm_dom hob hp0 (.self h)) r hr
      refine (norm_dom h2 hr0 this).trans hr0 fun q hq => .self (List.mem_append_right _ hq)
  · rcases List.mem_append.1 hr with h | h
    · exact put_leR ha hm hle.1 r (norm_mem h1 h)
    · exact put_leR hb hm hle.2 r (norm_mem h2 h)

theorem val_le (ns : List Int) (hoa : okV a) (hob : okV b) (h : leR a b) : valN ns (normOf a) ≤ valN ns (normOf b) := dec_true ((leqM_iff hoa hob).2 h)
theorem val_max (ns : List Int) (hoa : okV a) (hob : okV b) : valN ns (normOf (maxL a b)) = max (valN ns (normOf a)) (valN ns (normOf b)) := by
  have hle := le_maxL hoa hob
  have h1 := dec_true (ns := ns) hle.1
  have h2 := dec_true (ns := ns) hle.2
  have h3 : valN ns (normOf (maxL a b)) ≤ max (valN ns (normOf a)) (valN ns (normOf b)) := by
    unfold maxL
    rw [norm_norm]
    refine valN_le (Int.le_trans valN_0 (Int.le_max_left ..)) fun p hp => ?_
    have key : ∀ {l : LV}, okV l → p ∈ l → numV ns p.1 + p.2 ≤ valN ns (normOf l) := fun {l} hl hpl => by
      rcases norm_leR hl p hpl with ⟨e1, e2⟩ | ⟨q, hq, e1, e2⟩
      · rw [e1, e2, numV_0]; exact valN_0
      · have := valN_ge (ns := ns) hq
        rcases e1 with e1 | e1
        · rw [e1, numV_0]
          have := (numV_nn ns q.1).1
          omega
        · rw [e1]; omega
    rcases List.mem_append.1 (norm_mem (app_okV hoa hob) hp) with h | h
    · exact Int.le_trans (key hoa h) (Int.le_max_left ..)
    · exact Int.le_trans (key hob h) (Int.le_max_right ..)
  omega
end
end Go.Proofs.Ytbjgdeednmhpfaa
