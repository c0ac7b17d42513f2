/-
  term.walk.term: what becomes of a term, by a closure that turns its nodes.
-/
import Derived.Test.YtmghkfiepcomgaaDoorTown2
set_option linter.unusedSimpArgs false
set_option linter.unusedVariables false
namespace Go.Proofs.YtmghkfiepcomgaaDoor
open Go.RowKit

/-- of a node: what it is at once; or its new number and levels -/
abbrev Turn := Int → T → Sum T (Int × List LV)

mutual
def T.walk (turn : Turn) : T → Int → T
  | .mk k n a ls ks, d => match turn d (.mk k n a ls ks) with
    | .inl u => u
    | .inr x => .mk k x.1 a x.2 (T.walks turn k ks 0 d)
def T.walks (turn : Turn) (k : Int) : List T → Nat → Int → List T
  | [], _, _ => []
  | t :: r, i, d => T.walk turn t (belowZ d k i) :: T.walks turn k r (i + 1) d
end

theorem T.walks_length (turn : Turn) (k d : Int) (ks : List T) : ∀ i, (T.walks turn k ks i d).length = ks.length := by
  induction ks with
  | nil => intro i; rfl
  | cons t r ih => intro i; simp [T.walks, ih]

theorem T.walks_snoc (turn : Turn) (k d : Int) (ks : List T) : ∀ (i j : Nat) (h : j < ks.length), T.walks turn k (ks.take (j + 1)) i d = T.walks turn k (ks.take j) i d ++ [T.walk turn ks[j] (belowZ d k ((i + j : Nat)))] := by
  induction ks with
  | nil => intro i j h; simp at h
  | cons t r ih =>
    intro i j h
    cases j with
    | zero => simp [T.walks]
    | succ j =>
      have h' : j < r.length := by simpa using h
      simp only [List.take_succ_cons, T.walks, List.cons_append, List.getElem_cons_succ]
      rw [ih (i + 1) j h', show i + 1 + j = i + (j + 1) by omega]

theorem belowZ_ok {d k : Int} {i m n : Nat} (h : 0 ≤ d ∧ d + n ≤ DM) (hm : m + 1 ≤ n) : 0 ≤ belowZ d k i ∧ belowZ d k i + m ≤ DM := by
  unfold belowZ
  split
  · have hw : wrap64 (d + 1) = d + 1 := IntWalk.wrap64_in _ (by have := h.2; unfold DM at this; omega)
    rw [hw]; omega
  · omega

/-- blocks laid between two worlds -/
def Fr (w w' : World) (b : Nat) : Prop := w.heap.size ≤ b ∧ b < w'.heap.size

/-- how a closure's call ends -/
def TurnPost (turn : Turn) (d : Int) (t : T) (Ak : Option Addr) (ck : Nat) (w : World) (e : Ending) (w' : World) : Prop :=
  match turn d t with
  | .inl u => ∃ r, e = .returned (.tuple #[r, .bool true]) ∧ Below w.heap.size w w' ∧ RTv (Fr w w') w' u r
  | .inr x => ∃ Bl dl, e = .returned (.tuple #[.agg #[.int .i64 t.k, .int .i64 x.1, .int .i64 t.a, .slice Bl x.2.length dl, .slice Ak t.ks.length ck], .bool false]) ∧ Below w.heap.size w w' ∧ RLs (Fr w w') w' (.slice Bl x.2.length dl) x.2 ∧ I64 x.1

/-- what is asked of a closure -/
def TurnOk (turn : Turn) (f : FuncId) (caps : Array Value) (F : Nat → Prop) (w0 : World) : Prop :=
  ∀ (d : Int) (t : T) (Al : Option Addr) (cl : Nat) (Ak : Option Addr) (ck : Nat) (w : World), 0 ≤ d ∧ d ≤ DM → Below w0.heap.size w0 w →
    RTv F w t (.agg #[.int .i64 t.k, .int .i64 t.n, .int .i64 t.a, .slice Al t.ls.length cl, .slice Ak t.ks.length ck]) →
    Calls Tryd.prog f (#[.agg #[.int .i64 d, .func (.func f) #[] caps], .agg #[.int .i64 t.k, .int .i64 t.n, .int .i64 t.a, .slice Al t.ls.length cl, .slice Ak t.ks.length ck]] ++ caps) w (TurnPost turn d t Ak ck w)

/-- what the statement 'out.Kids = append(out.Kids, ..)' reads -/
def WalkS (pw pt po pk : Nat) (d k : Int) (f : FuncId) (caps : Array Value) (v' : Value) (c0 c1 c2 c3 c4 : Value) (w : World) : Prop :=
  w.cell? ⟨po, 4, none⟩ = some v' ∧ w.cell? ⟨pw, 0, none⟩ = some (.int .i64 d) ∧ w.cell? ⟨pw, 1, none⟩ = some (.func (.func f) #[] caps) ∧ w.cell? ⟨pt, 0, none⟩ = some (.int .i64 k) ∧
  w.cell? ⟨pk, 0, none⟩ = some c0 ∧ w.cell? ⟨pk, 1, none⟩ = some c1 ∧ w.cell? ⟨pk, 2, none⟩ = some c2 ∧ w.cell? ⟨pk, 3, none⟩ = some c3 ∧ w.cell? ⟨pk, 4, none⟩ = some c4

theorem WalkS.later {pw pt po pk : Nat} {d k : Int} {f : FuncId} {caps : Array Value} {v' c0 c1 c2 c3 c4 : Value} {w w' : World} (h : WalkS pw pt po pk d k f caps v' c0 c1 c2 c3 c4 w) (hb : Below w.heap.size w w') : WalkS pw pt po pk d k f caps v' c0 c1 c2 c3 c4 w' := by
  obtain ⟨h1, h2, h3, h4, h5, h6, h7, h8, h9⟩ := h
  exact ⟨cell_later hb h1, cell_later hb h2, cell_later hb h3, cell_later hb h4, cell_later hb h5, cell_later hb h6, cell_later hb h7, cell_later hb h8, cell_later hb h9⟩

theorem WalkS.grown {pw pt po pk : Nat} {d k : Int} {f : FuncId} {caps : Array Value} {v' c0 c1 c2 c3 c4 : Value} {w w' : World} {o : Option Nat} (h : WalkS pw pt po pk d k f caps v' c0 c1 c2 c3 c4 w) (hg : w.grownBy w' o)
    (h1 : some po ≠ o) (h2 : some pw ≠ o) (h3 : some pt ≠ o) (h4 : some pk ≠ o) : WalkS pw pt po pk d k f caps v' c0 c1 c2 c3 c4 w' := by
  obtain ⟨a1, a2, a3, a4, a5, a6, a7, a8, a9⟩ := h
  exact ⟨hg.cell a1 h1, hg.cell a2 h2, hg.cell a3 h2, hg.cell a4 h3, hg.cell a5 h4, hg.cell a6 h4, hg.cell a7 h4, hg.cell a8 h4, hg.cell a9 h4⟩

set_option maxRecDepth 10000 in
set_option maxHeartbeats 4000000 in
theorem walk_term (turn : Turn) (f : FuncId) (caps : Array Value) (F : Nat → Prop) (w0 : World) (hF : ∀ b, F b → b < w0.heap.size) (hL : Lk w0) (hT : TurnOk turn f caps F w0) (hcf : ∀ args w, (callFunc f args).run Tryd.prog w = .ok (.enter f args) w) (t : T) : ∀ (d : Int) (w : World) (v : Value), 0 ≤ d ∧ d + t.deep ≤ DM → Below w0.heap.size w0 w → RTv F w t v →
    Calls Tryd.prog 33 #[.agg #[.int .i64 d, .func (.func f) #[] caps], v] w fun e w' => ∃ r, e = .returned r ∧ Below w.heap.size w w' ∧ RTv (Fr w w') w' (t.walk turn d) r := by
  induction t using T.ind with
  | h k n a ls ks ih =>
    intro d w v hd hb hv
    have HD := hid hd
    clear hd
    obtain ⟨Al, cl, Ak, ck, rfl, i1, i2, i3, hls, hks⟩ := id hv
    simp only [T.ks, T.k, T.n, T.a, T.ls] at hks hls i1 i2 i3 ⊢
    have IH := hid ih
    have HV := hid hv
    have HB := hid hb
    have HF := hid hF
    have HL := hid hL
    have HT := hid hT
    have HKS := hid hks
    have HI := hid (And.intro i1 i3)
    clear ih hv hb hF hL hT hls hks i1 i2 i3
    go_enter Tryd.func33, Tryd.ntmps33
    go_wp2_with fail
    rw [show ((#[Value.agg #[Value.int IntKind.i64 d, Value.func (Fn.func f) #[] caps], Value.agg #[.int .i64 k, .int .i64 n, .int .i64 a, .slice Al ls.length cl, .slice Ak ks.length ck]] : Array Value) ++ caps) = _ from rfl]
    refine (HT.out d (.mk k n a ls ks) Al cl Ak ck _ ⟨HD.out.1, by have := HD.out.2; omega⟩ (HB.out.trans (Below.mono (B := w.heap.size) (by repeat (first | exact Below.refl _ _ | assumption | refine Below.alloc ?_ (by simp <;> omega) _ | refine Below.setCell ?_ (by simp <;> omega) _ | refine Below.drew ?_ | refine below_drewN ?_ _)) HB.out.size)) (HV.out.mono (keepF (w := w) (B := w.heap.size) (by repeat (first | exact Below.refl _ _ | assumption | refine Below.alloc ?_ (by simp <;> omega) _ | refine Below.setCell ?_ (by simp <;> omega) _ | refine Below.drew ?_ | refine below_drewN ?_ _)) (fun b hb => by have := HF.out b hb; have := HB.out.size; omega)) (fun _ h => h))).mono ?_
    intro e w1 hpost
    unfold TurnPost at hpost
    cases hturn : turn d (.mk k n a ls ks) with
    | inl u =>
      rw [hturn] at hpost
      obtain ⟨r, rfl, hb1, hr⟩ := hpost
      have hres : T.walk turn (.mk k n a ls ks) d = u := by rw [T.walk, hturn]
      have HRES := hid hres
      obtain ⟨Bl, dl, Bk, dk, rfl, -⟩ := id hr
      have hq := Blk.grow (Blk.new ((w.alloc _).alloc _) 26 [_, _, _, _, _]) hb1
      simp only [World.size_alloc] at hq
      obtain ⟨⟨q0, q1, q2, q3, q4⟩, ⟨g0, g1, g2, g3, g4⟩⟩ := hq.five
      have HQ := hid hq
      have HB1 := hid hb1
      have HR := hid hr
      have hz1 : w.heap.size + 1 + 1 < w1.heap.size := by have := hb1.size; simp at this; omega
      clear hq hb1 hr hres hturn IH HT
      dsimp only
      go_wp2
      obtain ⟨⟨z0, z1, z2, z3, z4⟩, -⟩ := ((((((HQ.out.set_ 0 (.int .i64 u.k)).set_ 1 (.int .i64 u.n)).set_ 2 (.int .i64 u.a)).set_ 3 (.slice Bl u.ls.length dl)).set_ 4 (.slice Bk u.ks.length dk)).alloc (.cells #[.int .i64 u.k, .int .i64 u.n, .int .i64 u.a, .slice Bl u.ls.length dl, .slice Bk u.ks.length dk] 26)).five
      refine bodyPost_ret (v := .agg #[.int .i64 u.k, .int .i64 u.n, .int .i64 u.a, .slice Bl u.ls.length dl, .slice Bk u.ks.length dk]) (by simp [results, Tryd.f33, go_sem, z0, z1, z2, z3, z4]) rfl ?_
      have hbw : Below w.heap.size w w1 := Below.trans (b := ((w.alloc _).alloc _).alloc _) (by repeat (first | exact Below.refl _ _ | assumption | refine Below.alloc ?_ (by simp <;> omega) _ | refine Below.setCell ?_ (by simp <;> omega) _ | refine Below.drew ?_ | refine below_drewN ?_ _)) (HB1.out.mono (by simp; omega))
      rw [HRES.out]
      have hsz : w.heap.size ≤ w1.heap.size := hbw.size
      refine ⟨_, rfl, Below.alloc (set5_below hbw (w.heap.size + 1 + 1) (by omega) _ _ _ _ _) (by rw [set5_size]; omega) _, HR.out.mono (G := Fr w _) ?_ ?_⟩
      · intro b hb
        have h2 : b < w1.heap.size ∧ w.heap.size + 1 + 1 + 1 ≤ b := ⟨hb.2, by have := hb.1; simpa using this⟩
        exact (Below.heap_alloc (set5 _ (w.heap.size + 1 + 1) _ _ _ _ _) _ b (by rw [set5_size]; omega)).trans (set5_keep _ (w.heap.size + 1 + 1) _ _ _ _ _ b (by omega))
      · intro b hb
        have h2 : b < w1.heap.size ∧ w.heap.size + 1 + 1 + 1 ≤ b := ⟨hb.2, by have := hb.1; simpa using this⟩
        refine ⟨by omega, ?_⟩
        show b < ((set5 _ (w.heap.size + 1 + 1) _ _ _ _ _).alloc _).heap.size
        rw [World.size_alloc, set5_size]; omega
    | inr x =>
      rw [hturn] at hpost
      obtain ⟨Bl, dl, rfl, hb1, hnl, hx1⟩ := hpost
      have hres : T.walk turn (.mk k n a ls ks) d = .mk k x.1 a x.2 (T.walks turn k ks 0 d) := by rw [T.walk, hturn]
      have HRES := hid hres
      have hq := Blk.grow (Blk.new ((w.alloc _).alloc _) 26 [_, _, _, _, _]) hb1
      have hw := Blk.grow (Blk.alloc (Blk.alloc (Blk.new w 50 [_, _]) _) _) hb1
      have ht := Blk.grow (Blk.alloc (Blk.new (w.alloc _) 26 [_, _, _, _, _]) _) hb1
      simp only [World.size_alloc] at hq ht
      have hz1 : w.heap.size + 3 ≤ w1.heap.size := by have := hb1.size; simp at this; omega
      have hbw : Below w.heap.size w w1 := Below.trans (b := ((w.alloc _).alloc _).alloc _) (by repeat (first | exact Below.refl _ _ | assumption | refine Below.alloc ?_ (by simp <;> omega) _ | refine Below.setCell ?_ (by simp <;> omega) _ | refine Below.drew ?_ | refine below_drewN ?_ _)) (hb1.mono (by simp; omega))
      have hnl' : RLs (fun b => w.heap.size + 3 ≤ b ∧ b < w1.heap.size) w1 (.slice Bl x.2.length dl) x.2 := hnl.mono (Keep.refl _ _) (fun b hb => ⟨by have := hb.1; simp at this; omega, hb.2⟩)
      have hkl := HKS.out.len
      have hn63 : ks.length ≤ 9223372036854775807 := by have := hkl.2.2.2; unfold LM at this; omega
      have HKL := hid hkl.2.2.2
      have HQ := hid hq
      have HW := hid hw
      have HTB := hid ht
      have HB1 := hid hbw
      have HZ1 := hid hz1
      have HNL := hid hnl'
      have HX := hid hx1
      clear hq hw ht hb1 hnl hnl' hbw hres hturn hz1 hkl hx1 HT
      dsimp only
      go_wp2_with fail
      go_loopw [25] (fun i wr => ∃ (j : Nat) (A' : Option Addr) (n' c' : Nat), j ≤ ks.length ∧ i = .int .i64 j ∧ Below w.heap.size w wr ∧ w1.heap.size + 1 ≤ wr.heap.size ∧ Blk wr w.heap.size 50 [.int .i64 d, .func (.func f) #[] caps] ∧
          Blk wr (w.heap.size + 1) 26 [.int .i64 k, .int .i64 n, .int .i64 a, .slice Al ls.length cl, .slice Ak ks.length ck] ∧ Blk wr (w.heap.size + 1 + 1) 26 [.int .i64 0, .int .i64 0, .int .i64 0, .slice none 0 0, .slice none 0 0] ∧
          Blk wr w1.heap.size 26 [.int .i64 k, .int .i64 x.1, .int .i64 a, .slice Bl x.2.length dl, .slice A' n' c'] ∧ Acc termRep 26 (fun _ => False) (w1.heap.size + 1) wr (.slice A' n' c') (T.walks turn k (ks.take j) 0 d) ∧
          RLs (fun b => w.heap.size + 3 ≤ b ∧ b < w1.heap.size) wr (.slice Bl x.2.length dl) x.2) (fun i wr => ks.length - (intOf i).toNat)
      case atStart =>
        refine ⟨0, none, 0, 0, Nat.zero_le _, rfl, HB1.out.alloc HB1.out.size _, by simp, HW.out.alloc _, HTB.out.alloc _, HQ.out.alloc _, Blk.new w1 26 [_, _, _, _, _], ?_, HNL.out.mono (fun b hb => Below.heap_alloc _ _ _ hb.2) (fun _ h => h)⟩
        exact Acc.nil _ _ _ _ _
      case round =>
        obtain ⟨j, A', n', c', hj, rfl, hb, hz, hw, ht, hq, ho, hacc, hnl⟩ := hrel
        by_cases hlt : j < ks.length
        · obtain ⟨i0, hi0, hz0, hzs1, hzs2⟩ := info_parts info_term
          have hks' := HKS.out.mono (keepF hb (fun b hb => by have := HF.out b hb; have := HB.out.size; omega)) (fun _ h => h)
          obtain ⟨b, o, rfl, hFb, hrow⟩ := hks'.at (by omega)
          obtain ⟨Cl, el, Ck, ek, c0, c1, c2, c3, c4, hx⟩ := RTs.get hrow hlt
          have hS0 : WalkS w.heap.size (w.heap.size + 1) w1.heap.size wr.heap.size d k f caps (.slice A' n' c') (.int .i64 ks[j].k) (.int .i64 ks[j].n) (.int .i64 ks[j].a) (.slice Cl ks[j].ls.length el) (.slice Ck ks[j].ks.length ek)
              (wr.alloc (.cells #[.int .i64 ks[j].k, .int .i64 ks[j].n, .int .i64 ks[j].a, .slice Cl ks[j].ls.length el, .slice Ck ks[j].ks.length ek] 26)).drew :=
            have hk := Blk.new wr 26 [.int .i64 ks[j].k, .int .i64 ks[j].n, .int .i64 ks[j].a, .slice Cl ks[j].ls.length el, .slice Ck ks[j].ks.length ek]
            ⟨(ho.alloc _).cell 4, (hw.alloc _).cell 0, (hw.alloc _).cell 1, (ht.alloc _).cell 0, hk.cell 0, hk.cell 1, hk.cell 2, hk.cell 3, hk.cell 4⟩
          have hown : ∀ g, (Value.slice A' n' c').ownBlock = some g → w1.heap.size + 1 ≤ g ∧ g < wr.heap.size := by
            obtain ⟨cells, h1, -⟩ := hacc
            exact h1.lt
          have hbx : Below w0.heap.size w0 wr := HB.out.trans (hb.mono HB.out.size)
          have hzx : w0.heap.size ≤ wr.heap.size := hbx.size
          have HLr := hid (HL.out.grow hbx)
          have HS0 := hid hS0
          have HWB := hid hw
          have HTT := hid ht
          have HQQ := hid hq
          have HOO := hid ho
          have HACC := hid hacc
          have HNN := hid hnl
          have HXX := hid hx
          have HBB := hid hb
          have HZZ := hid hz
          have HOW := hid hown
          have HHI := hid (And.intro hi0 (And.intro hz0 (And.intro hzs1 hzs2)))
          clear hks' hrow hw ht hq ho hacc hnl hx hb hz hown hS0 hi0 hz0 hzs1 hzs2
          have hj0 : (0 : Int) ≤ (j : Int) := Int.natCast_nonneg _
          have hj1 : (j : Int) < (ks.length : Int) := by omega
          go_wp2_with fail
          clear c0 c1 c2 c3 c4
          refine startJ (fun j => j == 12) (WalkS w.heap.size (w.heap.size + 1) w1.heap.size wr.heap.size d k f caps (.slice A' n' c') (.int .i64 ks[j].k) (.int .i64 ks[j].n) (.int .i64 ks[j].a) (.slice Cl ks[j].ls.length el) (.slice Ck ks[j].ks.length ek)) (by kernel_rfl) ?_ (fun hS => ?_)
          · exact HS0.out
          refine pureJ (i := 0) (v := ?_) rfl (by kernel_rfl) (by kernel_rfl) (by kernel_rfl) (by kernel_rfl) (fun _ _ _ h => h) (.inl ⟨by rfl, ?_⟩) hS ?_
          rotate_left
          · intro w hSw
            obtain ⟨s0, s1, s2, s3, s4, s5, s6, s7, s8⟩ := hSw
            go_simp
            try with_reducible rfl
          try simp only [Act.put, List.setIfInBounds_toArray, List.set_cons_zero, List.set_cons_succ]
          refine takeJ (i := 1) (v := ?_) rfl (by kernel_rfl) (by kernel_rfl) (by kernel_rfl) (by kernel_rfl) (fun _ _ _ h => h) (.inl ⟨by rfl, ?_⟩) hS ?_
          rotate_left
          · intro w hSw
            obtain ⟨s0, s1, s2, s3, s4, s5, s6, s7, s8⟩ := hSw
            go_simp
            try with_reducible rfl
          try simp only [Act.put, List.setIfInBounds_toArray, List.set_cons_zero, List.set_cons_succ]
          refine takeJ (i := 2) (v := ?_) rfl (by kernel_rfl) (by kernel_rfl) (by kernel_rfl) (by kernel_rfl) (fun _ _ _ h => h) (.inl ⟨by rfl, ?_⟩) hS ?_
          rotate_left
          · intro w hSw
            obtain ⟨s0, s1, s2, s3, s4, s5, s6, s7, s8⟩ := hSw
            go_simp
            try with_reducible rfl
          try simp only [Act.put, List.setIfInBounds_toArray, List.set_cons_zero, List.set_cons_succ]
          refine pureJ (i := 3) (v := ?_) rfl (by kernel_rfl) (by kernel_rfl) (by kernel_rfl) (by kernel_rfl) (fun _ _ _ h => h) (.inl ⟨by rfl, ?_⟩) hS ?_
          rotate_left
          · intro w hSw
            obtain ⟨s0, s1, s2, s3, s4, s5, s6, s7, s8⟩ := hSw
            go_simp
            try with_reducible rfl
          try simp only [Act.put, List.setIfInBounds_toArray, List.set_cons_zero, List.set_cons_succ]
          refine takeJ (i := 4) (v := ?_) rfl (by kernel_rfl) (by kernel_rfl) (by kernel_rfl) (by kernel_rfl) (fun _ _ _ h => h) (.inl ⟨by rfl, ?_⟩) hS ?_
          rotate_left
          · intro w hSw
            obtain ⟨s0, s1, s2, s3, s4, s5, s6, s7, s8⟩ := hSw
            go_simp
            try with_reducible rfl
          try simp only [Act.put, List.setIfInBounds_toArray, List.set_cons_zero, List.set_cons_succ]
          refine pureJ (i := 5) (v := ?_) rfl (by kernel_rfl) (by kernel_rfl) (by kernel_rfl) (by kernel_rfl) (fun _ _ _ h => h) (.inl ⟨by rfl, ?_⟩) hS ?_
          rotate_left
          · intro w hSw
            obtain ⟨s0, s1, s2, s3, s4, s5, s6, s7, s8⟩ := hSw
            go_simp
            try with_reducible rfl
          try simp only [Act.put, List.setIfInBounds_toArray, List.set_cons_zero, List.set_cons_succ]
          refine takeJ (i := 7) (v := ?_) rfl (by kernel_rfl) (by kernel_rfl) (by kernel_rfl) (by kernel_rfl) (fun _ _ _ h => h) (.inl ⟨by rfl, ?_⟩) hS ?_
          rotate_left
          · intro w hSw
            obtain ⟨s0, s1, s2, s3, s4, s5, s6, s7, s8⟩ := hSw
            go_simp
            try with_reducible rfl
          try simp only [Act.put, List.setIfInBounds_toArray, List.set_cons_zero, List.set_cons_succ]
          refine soloJ (i := 6) (by kernel_rfl) rfl rfl (fun K hK => ?_)
          go_simp
          (refine (walk_below d k j (.func f) caps _ (HLr.out.grow (by repeat (first | exact Below.refl _ _ | assumption | refine Below.alloc ?_ (by simp <;> omega) _ | refine Below.setCell ?_ (by simp <;> omega) _ | refine Below.drew ?_ | refine below_drewN ?_ _)))).mono ?_; rintro e w2 ⟨rfl, rfl⟩)
          try dsimp only
          try simp only [Act.put, List.setIfInBounds_toArray, List.set_cons_zero, List.set_cons_succ]
          refine hK _ _ ?hs (fun hS2 => ?_)
          case hs => exact hS.later (by repeat (first | exact Below.refl _ _ | assumption | refine Below.alloc ?_ (by simp <;> omega) _ | refine Below.setCell ?_ (by simp <;> omega) _ | refine Below.drew ?_ | refine below_drewN ?_ _))
          clear hK K hS
          have hS := hS2
          clear hS2
          refine soloJ (i := 8) (by kernel_rfl) rfl rfl (fun K hK => ?_)
          go_simp
          (refine (IH.out ks[j] (List.getElem_mem _) (belowZ d k j) _ _ (belowZ_ok HD.out (T.deep_kid (List.getElem_mem _))) (hbx.trans (Below.mono (B := wr.heap.size) (by repeat (first | exact Below.refl _ _ | assumption | refine Below.alloc ?_ (by simp <;> omega) _ | refine Below.setCell ?_ (by simp <;> omega) _ | refine Below.drew ?_ | refine below_drewN ?_ _)) hzx)) (HXX.out.mono (keepF (B := wr.heap.size) (by repeat (first | exact Below.refl _ _ | assumption | refine Below.alloc ?_ (by simp <;> omega) _ | refine Below.setCell ?_ (by simp <;> omega) _ | refine Below.drew ?_ | refine below_drewN ?_ _)) (fun b hb => by have := HF.out b hb; omega)) (fun _ h => h))).mono ?_; rintro e w3 ⟨r, rfl, hb3, hr⟩; obtain ⟨Dl, fl, Dk, fk, rfl, -⟩ := id hr; have hb3m := Below.mono hb3 (B' := wr.heap.size) (by simp <;> omega); have hb3w : Below wr.heap.size wr w3 := Below.trans (by repeat (first | exact Below.refl _ _ | assumption | refine Below.alloc ?_ (by simp <;> omega) _ | refine Below.setCell ?_ (by simp <;> omega) _ | refine Below.drew ?_ | refine below_drewN ?_ _)) hb3m; have hr3 : RTv (fun b => wr.heap.size ≤ b ∧ b < w3.heap.size) w3 _ _ := hr.mono (Keep.refl _ _) (fun b hb => ⟨by have := hb.1; simp at this; omega, hb.2⟩))
          try dsimp only
          try simp only [Act.put, List.setIfInBounds_toArray, List.set_cons_zero, List.set_cons_succ]
          refine hK _ _ ?hs (fun hS2 => ?_)
          case hs => exact hS.later hb3
          clear hK K hS
          have hS := hS2
          clear hS2
          refine soloJ (i := 9) (by kernel_rfl) rfl rfl (fun K hK => ?_)
          go_simp
          try dsimp only
          try simp only [Act.put, List.setIfInBounds_toArray, List.set_cons_zero, List.set_cons_succ]
          refine hK _ _ ?hs (fun hS2 => ?_)
          case hs => exact hS.later (Below.alloc (Below.refl _ _) (Nat.le_refl _) _)
          clear hK K hS
          have hS := hS2
          clear hS2
          refine soloJ (i := 10) (by kernel_rfl) rfl rfl (fun K hK => ?_)
          have hb3a := hb3w.alloc hb3w.size (.cells #[.int .i64 (T.walk turn ks[j] (belowZ d k j)).k, .int .i64 (T.walk turn ks[j] (belowZ d k j)).n, .int .i64 (T.walk turn ks[j] (belowZ d k j)).a, .slice Dl (T.walk turn ks[j] (belowZ d k j)).ls.length fl, .slice Dk (T.walk turn ks[j] (belowZ d k j)).ks.length fk] 26)
          have hz3 := hb3w.size
          have hzz := HZZ.out
          have hzw := HZ1.out
          have hacc3 := HACC.out.below hb3a
          have hlen3 : (T.walks turn k (ks.take j) 0 d).length < LM := by have h1 := HKL.out; rw [T.walks_length, List.length_take]; omega
          have hx3 : termRep.R (Fo (fun _ => False) (w1.heap.size + 1) (w3.alloc (.cells #[.int .i64 (T.walk turn ks[j] (belowZ d k j)).k, .int .i64 (T.walk turn ks[j] (belowZ d k j)).n, .int .i64 (T.walk turn ks[j] (belowZ d k j)).a, .slice Dl (T.walk turn ks[j] (belowZ d k j)).ls.length fl, .slice Dk (T.walk turn ks[j] (belowZ d k j)).ks.length fk] 26)) (.slice A' n' c')) (w3.alloc (.cells #[.int .i64 (T.walk turn ks[j] (belowZ d k j)).k, .int .i64 (T.walk turn ks[j] (belowZ d k j)).n, .int .i64 (T.walk turn ks[j] (belowZ d k j)).a, .slice Dl (T.walk turn ks[j] (belowZ d k j)).ls.length fl, .slice Dk (T.walk turn ks[j] (belowZ d k j)).ks.length fk] 26)) [.int .i64 (T.walk turn ks[j] (belowZ d k j)).k, .int .i64 (T.walk turn ks[j] (belowZ d k j)).n, .int .i64 (T.walk turn ks[j] (belowZ d k j)).a, .slice Dl (T.walk turn ks[j] (belowZ d k j)).ls.length fl, .slice Dk (T.walk turn ks[j] (belowZ d k j)).ks.length fk] (T.walk turn ks[j] (belowZ d k j)) := RT.mono (F := fun b => wr.heap.size ≤ b ∧ b < w3.heap.size) (w := w3) (fun b hb => Below.heap_alloc _ _ _ hb.2) (fun b hb => ⟨.inr (by omega), by simp; omega, fun e => by have := HOW.out b e.symm; omega⟩) (RTv.to hr3)
          refine wp_push termRep (.tmp 31) (.tmp 39) _ rfl 26 i0 _ 72 Tryd.underlying24 HHI.out.1 HHI.out.2.1 HHI.out.2.2.1 HHI.out.2.2.2 rfl rfl hacc3 hx3 w3.heap.size _ rfl (Blk.new w3 26 [.int .i64 (T.walk turn ks[j] (belowZ d k j)).k, .int .i64 (T.walk turn ks[j] (belowZ d k j)).n, .int .i64 (T.walk turn ks[j] (belowZ d k j)).a, .slice Dl (T.walk turn ks[j] (belowZ d k j)).ls.length fl, .slice Dk (T.walk turn ks[j] (belowZ d k j)).ks.length fk]).at_ hlen3 (by decide) (by simp; omega) ?_
          intro v2 w4 hacc4 hg4 hat4
          obtain ⟨cells4, ho4, hr4⟩ := hacc4
          obtain ⟨A2, e2, rfl⟩ := ownsRow_form ho4
          have hacc4 : Acc termRep 26 (fun _ => False) (w1.heap.size + 1) w4 (.slice A2 _ e2) _ := ⟨cells4, ho4, hr4⟩
          have hthru : ∀ b t cs, Blk wr b t cs → b ≤ w1.heap.size → Blk w4 b t cs := fun _ _ _ h hb => ((h.below hb3a h.lt)).grown hg4 (fun e => by have := HOW.out _ e.symm; omega)
          clear hx3 hacc3 ho4 hr4
          try simp only [Act.put, List.setIfInBounds_toArray, List.set_cons_zero, List.set_cons_succ]
          refine hK _ _ ?hs (fun hS2 => ?_)
          case hs => exact hS.grown hg4 (fun e => by have := HOW.out _ e.symm; omega) (fun e => by have := HOW.out _ e.symm; omega) (fun e => by have := HOW.out _ e.symm; omega) (fun e => by have := HOW.out _ e.symm; omega)
          clear hK K hS
          have hS := hS2
          clear hS2
          refine pureJ (i := 11) (v := ?_) rfl (by kernel_rfl) (by kernel_rfl) (by kernel_rfl) (by kernel_rfl) (fun _ _ _ h => h) (.inl ⟨by rfl, ?_⟩) hS ?_
          rotate_left
          · intro w hSw
            obtain ⟨s0, s1, s2, s3, s4, s5, s6, s7, s8⟩ := hSw
            go_simp
            try with_reducible rfl
          try simp only [Act.put, List.setIfInBounds_toArray, List.set_cons_zero, List.set_cons_succ]
          refine lastJ (i := 12) (by kernel_rfl) rfl rfl (by kernel_rfl) (by kernel_rfl) (fun K hK => ?_)
          (obtain ⟨s0, s1, s2, s3, s4, s5, s6, s7, s8⟩ := hS; have sf := (hthru _ _ _ HOO.out (Nat.le_refl _)).frozen 4; go_simp)
          try simp only [Act.put, List.setIfInBounds_toArray, List.set_cons_zero, List.set_cons_succ]
          refine hK _ _ ?_
          clear hK K
          have HACC4 := hid hacc4
          have HTH := hid hthru
          have HG4 := hid hg4
          have HB3 := hid hb3a
          clear hacc4 hthru hg4 hb3a s0 s1 s2 s3 s4 s5 s6 s7 s8 sf hr3 hr hb3 hb3m hb3w
          go_wp2
          have hz4 : w3.heap.size + 1 ≤ w4.heap.size := by have := HG4.out.size; simpa using this
          have hb4 : Below w.heap.size w w4 := (HBB.out.trans (HB3.out.mono HBB.out.size)).grown HG4.out (by simp; have := HBB.out.size; omega) (fun g hg => by have := HOW.out g hg; omega)
          go_roundw
          case rel =>
            refine ⟨j + 1, A2, _, e2, by omega, by go_num, hb4.setCell (by show w.heap.size ≤ w1.heap.size; omega) _, by simp only [World.setCell, Array.size_modify]; omega, (HTH.out _ _ _ HWB.out (by omega)).far (by show w.heap.size ≠ w1.heap.size; omega) _,
              (HTH.out _ _ _ HTT.out (by omega)).far (by show w.heap.size + 1 ≠ w1.heap.size; omega) _, (HTH.out _ _ _ HQQ.out (by omega)).far (by show w.heap.size + 1 + 1 ≠ w1.heap.size; omega) _, (HTH.out _ _ _ HOO.out (Nat.le_refl _)).set_ 4 _, ?_, ?_⟩
            · rw [T.walks_snoc turn k d ks 0 j hlt, Nat.zero_add]
              have hA := HACC4.out
              rw [List.length_append, List.length_singleton] at hA
              exact hA.set (p := ⟨w1.heap.size, 4, none⟩) (by show w1.heap.size < w1.heap.size + 1; omega) (fun h => h) _
            · refine HNN.out.mono (fun b hb => ?_) (fun _ h => h)
              rw [Below.heap_setCell _ _ _ b (by show b ≠ w1.heap.size; omega), HG4.out.block b (by simp; omega) (fun e => by have := HOW.out _ e.symm; omega), HB3.out.block b (by omega)]
          case measure => simp [intOf]; omega
        · obtain rfl : j = ks.length := by omega
          obtain ⟨⟨p0, p1, p2, p3, p4⟩, -⟩ := ho.five
          obtain ⟨⟨q0, q1, q2, q3, q4⟩, ⟨g0, g1, g2, g3, g4⟩⟩ := hq.five
          have HBB := hid hb
          have HZZ := hid hz
          have HQQ := hid hq
          have HACC := hid hacc
          have HNN := hid hnl
          clear hb hz hw ht hq ho hacc hnl
          go_wp2
          obtain ⟨⟨z0, z1, z2, z3, z4⟩, -⟩ := (((((HQQ.out.set_ 0 (.int .i64 k)).set_ 1 (.int .i64 x.1)).set_ 2 (.int .i64 a)).set_ 3 (.slice Bl x.2.length dl)).set_ 4 (.slice A' n' c')).five
          refine bodyPost_ret (v := .agg #[.int .i64 k, .int .i64 x.1, .int .i64 a, .slice Bl x.2.length dl, .slice A' n' c']) (by simp [results, Tryd.f33, go_sem, z0, z1, z2, z3, z4]) rfl ?_
          rw [HRES.out]
          have hz1 := HZ1.out
          have hzz := HZZ.out
          have hsz := HBB.out.size
          refine ⟨_, rfl, set5_below HBB.out (w.heap.size + 1 + 1) (by omega) _ _ _ _ _, ?_⟩
          have hacc2 := HACC.out
          rw [List.take_length] at hacc2
          have hlen := hacc2.length.symm
          have hks2 : RTs (fun b => w1.heap.size + 1 ≤ b ∧ b < wr.heap.size) wr (.slice A' n' c') (T.walks turn k ks 0 d) := Acc.sl (r := termRep) hacc2 (by rw [T.walks_length]; exact HKL.out) (fun b hb hlt => ⟨hb.elim False.elim id, hlt⟩)
          have hsub : ∀ b, w1.heap.size + 1 ≤ b ∧ b < wr.heap.size → Fr w (set5 wr (w.heap.size + 1 + 1) (.int .i64 k) (.int .i64 x.1) (.int .i64 a) (.slice Bl x.2.length dl) (.slice A' n' c')) b := fun b hb => ⟨by omega, by rw [set5_size]; exact hb.2⟩
          have hkk := hks2.mono (G := Fr w (set5 wr (w.heap.size + 1 + 1) (.int .i64 k) (.int .i64 x.1) (.int .i64 a) (.slice Bl x.2.length dl) (.slice A' n' c'))) (fun b hb => set5_keep wr (w.heap.size + 1 + 1) (.int .i64 k) (.int .i64 x.1) (.int .i64 a) (.slice Bl x.2.length dl) (.slice A' n' c') b (by omega)) hsub
          have hll := HNN.out.mono (G := Fr w (set5 wr (w.heap.size + 1 + 1) (.int .i64 k) (.int .i64 x.1) (.int .i64 a) (.slice Bl x.2.length dl) (.slice A' n' c'))) (fun b hb => set5_keep wr (w.heap.size + 1 + 1) (.int .i64 k) (.int .i64 x.1) (.int .i64 a) (.slice Bl x.2.length dl) (.slice A' n' c') b (by omega)) (fun b hb => ⟨by omega, by rw [set5_size]; omega⟩)
          subst hlen
          exact ⟨Bl, dl, A', c', rfl, HI.out.1, HX.out, HI.out.2, hll, hkk⟩
end Go.Proofs.YtmghkfiepcomgaaDoor
