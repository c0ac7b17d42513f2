/-
  level.work.hidden: a loop over a map, its round free to return.
-/
import Derived.Test.YtbjgdeednmhpfaaLmap
import Derived.WalkKit
import Derived.Maps.RangeWalk
set_option linter.unusedSimpArgs false
set_option linter.unusedVariables false
namespace Go.Proofs.Ytbjgdeednmhpfaa
open Go.RowKit Go.Maps Go.MapKept
open Go.ChangeMaps (setBlock)

section
variable {P : Program} (w : World) {ops : Array Oper} {rest : List Oper} {o : Oper} {a : Act} {Q : Exit → Act → World → Prop}
theorem wpList_range_m (hg : o.guard = none) (m : Operand) (t : TypeId) (hop : o.op = Op.range t m) (k e : TypeId) (ht : P.underlying t = some (.map k e)) {b clock : Nat} {es : Array MapEntry} (hm : a.eval m = .map (some b)) (hb : w.heap[b]? = some (.map es clock))
    (hK : wpList P ops Q rest (a.put o.dst (.pointer (some ⟨w.heap.size, 0, none⟩))) (w.alloc (.mapIter (some b) clock #[] clock))) :
    wpList P ops Q (o :: rest) a w := by
  refine wpList_plain hg fun K' hK' => ?_
  unfold Oper.wp
  have hrun : (Instr.range t (.map (some b))).run P w = .ok (.pointer (some ⟨w.heap.size, 0, none⟩)) (w.alloc (.mapIter (some b) clock #[] clock)) := by
    simp [Instr.range, run_underlying ht, getObj, Sem.run, hb, newObj]
  simp [execOp, hop, hm, hrun, Result.andThen]
  exact hK' _ _ hK

theorem wpList_next_m (hg : o.guard = none) (it : Operand) (hop : o.op = Op.next it false) {b r clock : Nat} {es : Array MapEntry} {seen : Array Nat} (hit : a.eval it = .pointer (some ⟨r, 0, none⟩)) (hb : w.heap[b]? = some (.map es clock)) (hr : w.heap[r]? = some (.mapIter (some b) clock seen clock)) (hst : Stamped es clock)
    (hDone : (leftOf es seen).size = 0 → wpList P ops Q rest (a.put o.dst (.tuple #[.bool false])) w)
    (hMore : ∀ (e : MapEntry) (w1 : World), e ∈ (leftOf es seen).toList → (w1 = w ∨ w1 = w.drew) → wpList P ops Q rest (a.put o.dst (.tuple #[.bool true, e.key, e.val])) (setBlock w1 r (.mapIter (some b) clock (seen.push e.born) clock))) :
    wpList P ops Q (o :: rest) a w := by
  refine wpList_plain hg fun K' hK' => ?_
  unfold Oper.wp
  rcases run_next_at (P := P) w o.type r b clock clock seen es clock hr hb hst.1 (Nat.le_refl _) with ⟨h0, hrun⟩ | ⟨e, he, w1, hw1, hrun⟩
  · simp [execOp, hop, hit, hrun, Result.andThen]
    exact hK' _ _ (hDone h0)
  · simp [execOp, hop, hit, hrun, Result.andThen]
    exact hK' _ _ (hMore e w1 he hw1)
end

def hitV (n : Int) (e : MapEntry) : Bool := match e.key, e.val with
  | .int _ x, .int _ c => decide (0 < x) && decide (n ≤ c)
  | _, _ => false

theorem setBlock_far {w : World} {r k : Nat} {o : Obj} (h : k ≠ r) : (setBlock w r o).heap[k]? = w.heap[k]? := by simp [setBlock, Array.getElem?_setIfInBounds_ne (Ne.symm h)]
theorem setBlock_at {w : World} {r : Nat} {o : Obj} (h : r < w.heap.size) : (setBlock w r o).heap[r]? = some o := by simp [setBlock, h]

theorem left_push {es : Array MapEntry} {seen : Array Nat} {e : MapEntry} (hn : (es.toList.map (·.born)).Nodup) (he : e ∈ (leftOf es seen).toList) : (leftOf es (seen.push e.born)).size < (leftOf es seen).size := by
  unfold leftOf at he ⊢
  show (Array.filter _ es).toList.length < (Array.filter _ es).toList.length
  rw [Array.toList_filter, Array.toList_filter]
  rw [Array.toList_filter] at he
  have h1 : (es.toList.filter fun x => !(seen.push e.born).contains x.born) = (es.toList.filter fun x => !seen.contains x.born).filter fun x => !(x.born == e.born) := by
    rw [List.filter_filter]
    refine List.filter_congr fun x _ => ?_
    rw [show (x.born == e.born) = decide (x.born = e.born) from rfl]
    simp [Array.contains_push, Bool.and_comm]
  rw [h1]
  refine List.length_filter_lt_length_iff_exists.2 ⟨e, he, by simp⟩

set_option maxRecDepth 100000 in
theorem hidden_calls (b clock : Nat) (ents : Array MapEntry) (n : Int) (w : World) (hb : w.heap[b]? = some (.map ents clock)) (hst : Stamped ents clock) (hsh : ∀ e ∈ ents.toList, ∃ x c, e.key = .int .i64 x ∧ e.val = .int .i64 c) :
    Calls Try.prog 56 #[.agg #[.map (some b)], .int .i64 n] w fun e w' => e = .returned (.bool (ents.toList.any (hitV n))) ∧ Below w.heap.size w w' := by
  have hbl : b < w.heap.size := (Array.getElem?_eq_some_iff.1 hb).1
  go_enter Try.func56, Try.ntmps56
  go_wp2_with (first
    | (at_range; refine wpList_range_m _ rfl _ 46 rfl 3 3 Try.underlying46 rfl ((Below.heap_alloc _ _ b hbl).trans hb) ?_)
    | go_in)
  go_frame
  simp only [World.size_alloc]
  go_loopw [5] (fun _ wr => ∃ seen, wr.heap[b]? = some (.map ents clock) ∧ wr.heap[w.heap.size + 1]? = some (.mapIter (some b) clock seen clock) ∧ (∀ e ∈ ents.toList, seen.contains e.born = true → hitV n e = false) ∧ Below w.heap.size w wr)
    (fun _ wr => wr.rangeLeft b (w.heap.size + 1))
  case atStart =>
    refine ⟨#[], ?_, ?_, fun e _ h => by simp at h, ((Below.refl _ w).alloc (Nat.le_refl _) _).alloc (by simp) _⟩
    · exact (Below.heap_alloc _ _ b (by simp; omega)).trans ((Below.heap_alloc _ _ b hbl).trans hb)
    · have := heap_new (w.alloc (.cells #[.map (some b)] 50)) (.mapIter (some b) clock #[] clock)
      simpa using this
  case round =>
    obtain ⟨seen, hbr, hrr, hseen, hbel⟩ := hrel
    have hleft : wr.rangeLeft b (w.heap.size + 1) = (leftOf ents seen).size := by simp [World.rangeLeft, hbr, hrr]
    go_wp2_with (first
      | (at_next; refine wpList_next_m _ rfl _ rfl rfl hbr hrr hst ?_ ?_)
      | go_in)
    · intro h0
      have hall : (ents.toList.any (hitV n)) = false := by
        rw [List.any_eq_false]
        intro e he
        have : seen.contains e.born = true := by
          cases hc : seen.contains e.born with
          | true => rfl
          | false =>
            exfalso
            have hm : e ∈ (leftOf ents seen).toList := by unfold leftOf; rw [Array.toList_filter]; exact List.mem_filter.2 ⟨he, by rw [hc]; rfl⟩
            have hz : (leftOf ents seen).toList = [] := by rw [h0]
            rw [hz] at hm; cases hm
        rw [hseen e he this]; simp
      go_wp2
      go_ret
      exact ⟨by rw [hall]; rfl, hbel⟩
    · intro e w1 he0 hw1
      have he : e ∈ (leftOf ents seen).toList := by simpa using he0
      have hem : e ∈ ents.toList := by unfold leftOf at he; rw [Array.toList_filter] at he; exact (List.mem_filter.1 he).1
      obtain ⟨x, c, hx, hc⟩ := hsh e hem
      have hh : w1.heap = wr.heap := by rcases hw1 with rfl | rfl <;> rfl
      have hrl : w.heap.size + 1 < w1.heap.size := by rw [hh]; exact (Array.getElem?_eq_some_iff.1 hrr).1
      have hne : b ≠ w.heap.size + 1 := by omega
      have hb2 : (setBlock w1 (w.heap.size + 1) (.mapIter (some b) clock (seen.push e.born) clock)).heap[b]? = some (.map ents clock) := by rw [setBlock_far hne, hh]; exact hbr
      have hr2 : (setBlock w1 (w.heap.size + 1) (.mapIter (some b) clock (seen.push e.born) clock)).heap[w.heap.size + 1]? = some (.mapIter (some b) clock (seen.push e.born) clock) := setBlock_at hrl
      have hlt := left_push hst.2.1 he
      have hbel2 : Below w.heap.size w (setBlock w1 (w.heap.size + 1) (.mapIter (some b) clock (seen.push e.born) clock)) := by
        refine hbel.trans ⟨?_, ?_, ?_, ?_, fun k hk => ?_⟩
        · rcases hw1 with rfl | rfl <;> rfl
        · rcases hw1 with rfl | rfl <;> rfl
        · rcases hw1 with rfl | rfl <;> rfl
        · simp [setBlock, hh]
        · rw [setBlock_far (by omega), hh]
      have hen := run_entry_at (P := Try.prog) _ _ _ _ seen ents clock e hr2 hb2 hem hst.2.1
      have hseen2 : (∀ e' ∈ ents.toList, (seen.push e.born).contains e'.born = true → hitV n e' = false) ↔ hitV n e = false := by
        constructor
        · intro h; exact h e hem (by simp)
        · intro h e' he' hc'
          simp [Array.contains_push] at hc'
          rcases hc' with hc' | hc'
          · exact hseen e' he' (by simpa using hc')
          · have : e' = e := by
              obtain ⟨i, hi⟩ := List.getElem?_of_mem he'
              obtain ⟨j, hj⟩ := List.getElem?_of_mem hem
              have hi' : (ents.toList.map (·.born))[i]? = some e'.born := by rw [List.getElem?_map, hi]; rfl
              have hj' : (ents.toList.map (·.born))[j]? = some e.born := by rw [List.getElem?_map, hj]; rfl
              have hil := (List.getElem?_eq_some_iff.1 hi').1
              have hij : i = j := by
                exact (List.getElem?_inj hil hst.2.1).1 (by rw [hi', hj', hc'])
              subst hij
              rw [hi] at hj; exact Option.some.inj hj
            rw [this]; exact h
      have hhit : hitV n e = (decide (0 < x) && decide (n ≤ c)) := by simp [hitV, hx, hc]
      generalize setBlock w1 (w.heap.size + 1) (.mapIter (some b) clock (seen.push e.born) clock) = W2 at *
      rw [hx, hc] at hen ⊢
      clear hw1 hh hrl hx hc
      go_wp2
      · have hall : (ents.toList.any (hitV n)) = true := List.any_eq_true.2 ⟨e, hem, by rw [hhit]; simp [*]⟩
        go_ret
        exact ⟨by rw [hall]; rfl, hbel2⟩
      · refine ⟨⟨_, hb2, hr2, hseen2.2 (by rw [hhit]; simp; omega), hbel2⟩, ?_⟩
        rw [hleft]
        simpa [World.rangeLeft, hb2, hr2] using hlt
      · refine ⟨⟨_, hb2, hr2, hseen2.2 (by rw [hhit]; simp; omega), hbel2⟩, ?_⟩
        rw [hleft]
        simpa [World.rangeLeft, hb2, hr2] using hlt

theorem Rel.below {G : Nat → Option D} {ρ : Rho} {w w' : World} {H : Nat → HO} (hR : Rel G ρ w H) (hb : Below w.heap.size w w') : Rel G ρ w' H ∧ Ex ρ w H ρ w' H :=
  Ex.quiet hR ⟨hb.os, hb.tape, hb.output, hb.size, fun b h hc => ⟨hc, hb.block b h⟩, fun b k h hc => ⟨.inl ⟨k, hc, Nat.le_refl _⟩, fun vs ty fz hh => ⟨vs, (hb.block b h).trans hh, rfl, fun _ _ => rfl⟩⟩, fun _ _ h => h⟩ (fun b h => hb.block b h)

theorem Rp_map {ρ : Rho} {w : World} {i : Nat} {v : Value} : Rp ρ w (.map i) v = ∃ b f, ρ.nm i = some (b, f) ∧ v = .map (some b) := by rw [Rp]

theorem Rp_agg {ρ : Rho} {w : World} {ds : List D} {v : Value} : Rp ρ w (.agg ds) v = ∃ us : List Value, v = .agg us.toArray ∧ RpL ρ w ds us := by rw [Rp]
theorem Rp_int {ρ : Rho} {w : World} {k : IntKind} {n : Int} {v : Value} : Rp ρ w (.int k n) v = (v = .int k n ∧ k.min ≤ n ∧ n ≤ k.max) := by rw [Rp]

theorem ints_of {ρ : Rho} {w : World} {f : Int × Int → Int} : ∀ {m : List (Int × Int)} {vs : List Value}, RpL ρ w (m.map fun p => (.int .i64 (f p) : D)) vs → vs = m.map fun p => .int .i64 (f p)
  | [], vs, h => by rw [List.map_nil, RpL_nil] at h; exact h
  | p :: r, vs, h => by
    rw [List.map_cons, RpL_cons] at h
    obtain ⟨v, us, rfl, h1, h2⟩ := h
    rw [Rp] at h1
    rw [ints_of h2, h1.1]; rfl

/-- what a map of numbers is in memory -/
theorem obj_map {G : Nat → Option D} {ρ : Rho} {w : World} {H : Nat → HO} {i b f : Nat} {m : MP} (hR : Rel G ρ w H) (hi : H i = .mp (encM m)) (hn : ρ.nm i = some (b, f)) :
    ∃ ents clock, w.heap[b]? = some (.map ents clock) ∧ ents.toList.map (·.key) = m.map (fun p => .int .i64 p.1) ∧ ents.toList.map (·.val) = m.map (fun p => .int .i64 p.2) ∧ Stamped ents clock ∧ m.length ≤ LMax := by
  have h := hR.obj i b f hn
  rw [hi] at h
  obtain ⟨-, ents, clock, h1, h2, h3, h4, h5⟩ := h
  refine ⟨ents, clock, h1, ints_of (ρ := ρ) (w := w) (f := (·.1)) ?_, ints_of (ρ := ρ) (w := w) (f := (·.2)) ?_, h4, by simpa [encM] using h5⟩
  · simpa [encM, encE, List.map_map, Function.comp_def] using h2
  · simpa [encM, encE, List.map_map, Function.comp_def] using h3

def hiddenM (m : MP) (n : Int) : Bool := m.any fun p => decide (0 < p.1) && decide (n ≤ p.2)

theorem hit_any {n : Int} : ∀ {m : MP} {l : List MapEntry}, l.map (·.key) = m.map (fun p => .int .i64 p.1) → l.map (·.val) = m.map (fun p => .int .i64 p.2) → l.any (hitV n) = hiddenM m n
  | [], l, h, _ => by
    have : l = [] := List.map_eq_nil_iff.1 h
    subst this; rfl
  | p :: m, [], h, _ => by simp at h
  | p :: m, e :: l, h1, h2 => by
    simp only [List.map_cons, List.cons.injEq] at h1 h2
    have ih := hit_any (n := n) h1.2 h2.2
    unfold hiddenM at ih ⊢
    rw [List.any_cons, List.any_cons, ih]
    congr 1
    simp [hitV, h1.1, h2.1]

theorem hidden_spec (m : MP) (n : Int) : Spec Try.prog glob 56 [.agg [.map 0], .int .i64 n] [.mp (encM m)] (fun o hc => o.fgt = .ret (.bool (hiddenM m n)) ∧ hc = [.mp (encM m)]) := by
  intro ρ w vs hR hvs
  refine ⟨enters _ _ Try.func56 rfl (by decide) _ _, ?_⟩
  rw [RpL_cons] at hvs
  obtain ⟨v1, us, rfl, h1, h2⟩ := hvs
  rw [RpL_cons] at h2
  obtain ⟨v2, us2, rfl, h2, h3⟩ := h2
  rw [RpL_nil] at h3
  subst h3
  rw [Rp_agg] at h1
  rw [Rp_int] at h2
  obtain ⟨l1, rfl, hl1⟩ := h1
  rw [RpL_cons] at hl1
  obtain ⟨v3, us3, rfl, h4, h5⟩ := hl1
  rw [RpL_nil] at h5
  subst h5
  rw [Rp_map] at h4
  obtain ⟨b, f, hnm, rfl⟩ := h4
  obtain ⟨ents, clock, k1, k2, k3, k4, -⟩ := obj_map hR (i := 0) rfl hnm
  have hsh : ∀ e ∈ ents.toList, ∃ x c, e.key = .int .i64 x ∧ e.val = .int .i64 c := fun e he => by
    have a1 : e.key ∈ ents.toList.map (·.key) := List.mem_map.2 ⟨e, he, rfl⟩
    have a2 : e.val ∈ ents.toList.map (·.val) := List.mem_map.2 ⟨e, he, rfl⟩
    rw [k2] at a1
    rw [k3] at a2
    obtain ⟨p, -, hp⟩ := List.mem_map.1 a1
    obtain ⟨q, -, hq⟩ := List.mem_map.1 a2
    exact ⟨_, _, hp.symm, hq.symm⟩
  rw [h2.1]
  refine (hidden_calls b clock ents n w k1 k4 hsh).mono ?_
  rintro e w' ⟨rfl, hbel⟩
  obtain ⟨r1, r2⟩ := hR.below hbel
  refine ⟨ρ, .ret (.bool (hiddenM m n)), [.mp (encM m)], ⟨rfl, rfl⟩, ⟨_, rfl, ?_⟩, r1, r2⟩
  rw [Rp, hit_any k2 k3]
end Go.Proofs.Ytbjgdeednmhpfaa
