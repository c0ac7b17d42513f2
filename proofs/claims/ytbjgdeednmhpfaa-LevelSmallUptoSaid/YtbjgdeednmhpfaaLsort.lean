/-
  slices.Sorted(maps.Keys(m)): the keys, rising.
-/
import Derived.Test.YtbjgdeednmhpfaaLhid
import Derived.Test.YtbjgdeednmhpfaaLay
set_option linter.unusedSimpArgs false
set_option linter.unusedVariables false
namespace Go.Proofs.Ytbjgdeednmhpfaa
open Go.RowKit Go.Maps Go.MapKept Go.Sort Go.Shelf Go.WideAt Go.WideElems Go.WideShapes

theorem sortsIn (k : Nat) : AnyZI.SortsIn Try.prog sortedL_ren Fence.wide k :=
  ⟨fun blk off cap ss W hH hblk hsz => callsIn_wide.2 (AnyM.slices_Sort_int sortL blk off cap ss W hH hblk hsz),
   fun p cap W => callsIn_wide.2 (AnyM.slices_Sort_int_none sortL p cap W)⟩

def anyR (v : Value) : Option (DataW Unit × List MemPlace) := some (.nil, [])

theorem intKeys_perm {es : Array MapEntry} {m : MP} (hk : es.toList.map (·.key) = m.map (fun p => .int .i64 p.1)) (hb : ∀ p ∈ m, (Lit.int .i64 p.1).wf = true) :
    (intKeys (.map ((es.toList.map (rg Try.prog 3 anyR)).foldr DataW.insert []))).Perm (m.map (·.1)) := by
  have h1 : ∀ l : List MapEntry, ∀ m : MP, (∀ p ∈ m, (Lit.int .i64 p.1).wf = true) → l.map (·.key) = m.map (fun p => .int .i64 p.1) → (l.map (rg Try.prog 3 anyR)).map (fun q => Go.intOf q.1) = m.map (·.1) := by
    intro l
    induction l with
    | nil =>
      intro m _ h
      have : m = [] := List.map_eq_nil_iff.1 h.symm
      subst this; rfl
    | cons e r ih =>
      intro m hw h
      cases m with
      | nil => simp at h
      | cons p m =>
        simp only [List.map_cons, List.cons.injEq] at h ⊢
        refine ⟨?_, ih m (fun q hq => hw q (List.mem_cons_of_mem _ hq)) h.2⟩
        have hkey : keyOf Try.prog 3 e.key = some (.int .i64 p.1) := by rw [h.1]; exact keyOf_int_mk Try.underlying3 (hw p (List.mem_cons_self ..))
        have : rg Try.prog 3 anyR e = (.int .i64 p.1, .nil) := by simp [rg, WideElems.rd, hkey, anyR]
        rw [this]; rfl
  have h2 := h1 es.toList m hb hk
  show (List.map (fun p : Lit × DataW Unit => Go.intOf p.1) _).Perm _
  rw [← h2]
  exact (sorted_perm _).map _

theorem sorted_calls (b bx clock : Nat) (ents : Array MapEntry) (m : MP) (w : World) (hb : w.heap[b]? = some (.map ents clock)) (hst : Stamped ents clock) (hk : ents.toList.map (·.key) = m.map (fun p => .int .i64 p.1)) (hw : ∀ p ∈ m, (Lit.int .i64 p.1).wf = true) (hm : m.length ≤ 16777216)
    (hbx : w.cell? ⟨bx, 0, none⟩ = some (.map (some b))) :
    Calls Try.prog 54 #[.func (.func 60) #[] #[.pointer (some ⟨bx, 0, none⟩)]] w fun e w' => ∃ (v : Value) (ss : List Int), e = .returned v ∧ ss.Perm (m.map (·.1)) ∧
      w'.ownsRow w.heap.size 3 1 v ss.length ((ss.mergeSort (fun x y => decide (x ≤ y))).map encZ) ∧ Below w.heap.size w w' := by
  have hsz : ents.size = m.length := by have := congrArg List.length hk; simpa using this
  have hmax : ents.size ≤ maxLen := by simp only [maxLen]; omega
  have hF : Fit Try.prog 3 anyR ents clock := ⟨hmax, hst, fun x hx => by
    have a1 : x.key ∈ ents.toList.map (·.key) := List.mem_map.2 ⟨x, hx, rfl⟩
    rw [hk] at a1
    obtain ⟨p, hp, e⟩ := List.mem_map.1 a1
    have hkey : keyOf Try.prog 3 x.key = some (.int .i64 p.1) := by rw [← e]; exact keyOf_int_mk Try.underlying3 (hw p hp)
    exact ⟨_, by simp [WideElems.rd, hkey, anyR]; rfl⟩⟩
  have hown : w.ownsMap Try.prog 3 anyR b ents.size (.map ((ents.toList.map (rg Try.prog 3 anyR)).foldr DataW.insert [])) := ⟨ents, clock, hb, hF, Nat.le_refl _, rfl⟩
  have hseq : SeqGives Fence.wide 2 Try.prog 60 #[.pointer (some ⟨bx, 0, none⟩)] encZ (fun ss => ss.Perm (intKeys (.map ((ents.toList.map (rg Try.prog 3 anyR)).foldr DataW.insert [])))) (Maps.size (.map ((ents.toList.map (rg Try.prog 3 anyR)).foldr DataW.insert []))) w :=
    AnyZI.keys_gives (ρ := keysL_ren) { keysL with } Fence.wide _ trivial rfl (by omega) bx b ents.size _ w (World.block_lt_of_cell? w _ hbx) hbx hown
  have hDs : Maps.size (.map ((ents.toList.map (rg Try.prog 3 anyR)).foldr DataW.insert [])) = m.length := by
    rw [Maps.size_eq, (sorted_perm _).length_eq, List.length_map, Array.length_toList]; exact hsz
  have cS := AnyZI.sorted_in sortedL Fence.wide 5 trivial trivial trivial trivial rfl (by omega) (sortsIn _) (enters_of Try.func59 (by kernel_rfl) rfl) 60 #[.pointer (some ⟨bx, 0, none⟩)] trivial (enters_of Try.func60 (by kernel_rfl) rfl) _ _ (by rw [hDs]; omega) (by rw [hDs]; omega) _ hseq
  refine ((callsIn_wide (n := 5)).1 cS).mono ?_
  rintro e w' ⟨v, ss, rfl, hS, hrow, hnil, hbel⟩
  exact ⟨v, ss, rfl, hS.trans (intKeys_perm hk hw), hrow, hbel⟩

def sortK (m : MP) : List Int := (m.map (·.1)).mergeSort fun x y => decide (x ≤ y)

theorem perm_sortI {l l' : List Int} (h : l.Perm l') : (l.mergeSort fun x y => decide (x ≤ y)) = l'.mergeSort fun x y => decide (x ≤ y) := by
  have tr : ∀ a b c : Int, decide (a ≤ b) = true → decide (b ≤ c) = true → decide (a ≤ c) = true := fun a b c h1 h2 => by simp only [decide_eq_true_eq] at *; omega
  have to : ∀ a b : Int, (decide (a ≤ b) || decide (b ≤ a)) = true := fun a b => by simp only [Bool.or_eq_true, decide_eq_true_eq]; omega
  refine List.Perm.eq_of_pairwise (le := fun x y => decide (x ≤ y) = true) ?_ (List.pairwise_mergeSort tr to l) (List.pairwise_mergeSort tr to l') (((List.mergeSort_perm l _).trans h).trans (List.mergeSort_perm l' _).symm)
  intro a b _ _ h1 h2
  simp only [decide_eq_true_eq] at h1 h2
  omega

/-- a new row, as a slice -/
theorem Rp_row {ρ : Rho} {w w' : World} {e : TypeId} {v : Value} {l : List Int} (hfr : ∀ b, w.heap.size ≤ b → ρ.c b = none) (h : w'.ownsRow w.heap.size e 1 v l.length (l.map encZ)) (hb : ∀ x, x ∈ l → IntKind.i64.min ≤ x ∧ x ≤ IntKind.i64.max) (hl : l.length ≤ LMax) : Rp ρ w' (Ints l) v := by
  unfold Ints
  rw [Rp]
  rw [List.length_map]
  rcases h.2 with ⟨rfl, hz⟩ | ⟨g, cap, cur, rfl, hbase, hg, r1, r2, r3, r4⟩
  · have : l = [] := List.eq_nil_of_length_eq_zero hz
    subst this
    exact ⟨none, 0, 1, rfl, Nat.le_refl _, Nat.zero_le _, Nat.zero_le _, (fun _ h => by cases h), trivial, fun h => absurd rfl h⟩
  · refine ⟨_, cap, 1, rfl, r1, r2, hl, fun d hd => ?_, trivial, fun _ => ⟨g, 0, rfl, RpE.of (sz := 1) (fun d hd => ?_) fun i d hi => ?_⟩⟩
    · obtain ⟨x, -, rfl⟩ := List.mem_map.1 hd; rfl
    · obtain ⟨x, -, rfl⟩ := List.mem_map.1 hd; rfl
    · rw [List.getElem?_map] at hi
      cases hx : l[i]? with
      | none => rw [hx] at hi; cases hi
      | some x =>
        rw [hx] at hi; cases hi
        have hm := hb x (List.mem_of_getElem? hx)
        refine ⟨.int .i64 x, ⟨(fun k hk => by rw [hfr g hbase] at hk; cases hk), ?_, rfl⟩, by rw [Rp]; exact ⟨rfl, hm⟩⟩
        have h1 : (l.map encZ)[i]? = some (.int .i64 x) := by rw [List.getElem?_map, hx]; rfl
        rw [← r4, Nat.mul_one] at h1
        have hi' : i < l.length := (List.getElem?_eq_some_iff.1 hx).1
        rw [List.getElem?_take_of_lt hi', Array.getElem?_toList] at h1
        simp [World.cell?, hg, h1]

theorem sorted_spec (m : MP) (hm : MOK m) : Spec Try.prog glob 54 [.fn (.func 60) [] [.box 1 0]] [.mp (encM m), .cells 46 [.map 0]]
    (fun o hc => o.fgt = .ret (Ints (sortK m)) ∧ hc = [.mp (encM m), .cells 46 [.map 0]]) := by
  intro ρ w vs hR hvs
  refine ⟨enters _ _ Try.func54 rfl (by decide) _ _, ?_⟩
  rw [RpL_cons] at hvs
  obtain ⟨v1, us, rfl, h1, h2⟩ := hvs
  rw [RpL_nil] at h2
  subst h2
  rw [Rp] at h1
  obtain ⟨us, vs, rfl, h2, h3⟩ := h1
  rw [RpL_nil] at h2
  subst h2
  rw [RpL_cons] at h3
  obtain ⟨v2, us2, rfl, h4, h5⟩ := h3
  rw [RpL_nil] at h5
  subst h5
  obtain ⟨bx, f, cs, rfl, hnm, -, hh, hr⟩ := obj_cells hR (i := 1) (ty := 46) (ds := [.map 0]) rfl h4
  rw [RpL_cons] at hr
  obtain ⟨v3, us3, rfl, h6, h7⟩ := hr
  rw [RpL_nil] at h7
  subst h7
  rw [Rp_map] at h6
  obtain ⟨b, f0, hnm0, rfl⟩ := h6
  obtain ⟨ents, clock, k1, k2, k3, k4, -⟩ := obj_map hR (i := 0) rfl hnm0
  have hw : ∀ p ∈ m, (Lit.int .i64 p.1).wf = true := fun p hp => by
    have := hm.v p hp
    simp [Lit.wf, IntKind.min, IntKind.max, IntKind.signed, IntKind.bits]
    omega
  have hlen := hm.len
  refine (sorted_calls b bx clock ents m w k1 k4 k2 hw (by omega) (by simp [World.cell?, hh])).mono ?_
  rintro e w' ⟨v, ss, rfl, hperm, hrow, hbel⟩
  obtain ⟨r1, r2⟩ := hR.below hbel
  have hs : (ss.mergeSort fun x y => decide (x ≤ y)) = sortK m := by
    exact perm_sortI hperm
  rw [hs] at hrow
  have hmem : ∀ x, x ∈ sortK m → 0 ≤ x ∧ x ≤ 1048576 := fun x hx => by
    have hx' : x ∈ m.map (·.1) := (List.mergeSort_perm _ _).mem_iff.1 hx
    obtain ⟨p, hp, rfl⟩ := List.mem_map.1 hx'
    exact hm.v p hp
  have hsl : (sortK m).length = ss.length := by rw [← hs, List.length_mergeSort]
  have hsl2 : ss.length = m.length := by rw [hperm.length_eq, List.length_map]
  refine ⟨ρ, .ret (Ints (sortK m)), _, ⟨?_, rfl⟩, ⟨v, rfl, Rp_row hR.fresh (by rw [hsl]; exact hrow) (fun x hx => ?_) (by unfold LMax; omega)⟩, r1, r2⟩
  · simp [Out.fgt, Ints, D.fgt]
  · have := hmem x hx
    have h1 : IntKind.i64.min = -9223372036854775808 := by decide
    have h2 : IntKind.i64.max = 9223372036854775807 := by decide
    omega
end Go.Proofs.Ytbjgdeednmhpfaa
