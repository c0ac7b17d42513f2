/-
  Tlc: the texts Tl3 Tok Tl4 Dopen Dcard Hdd Dot Dla Tlc, one behind the other.
-/
import Derived.Test.YtebmlojhdnldgaaDoorRows
import Derived.ProofKit
import Derived.OpenShut
import Derived.Carry
import Derived.Below
import Derived.Lib.LaidTab
import Derived.Test.YtebmlojhdnldgaaDoorCards
import Derived.Test.YtebmlojhdnldgaaDoorTie
import Derived.Deep.DeepHandedRow
import Derived.Test.YtebmlojhdnldgaaDoorMTlc4
namespace Go.Proofs.YtebmlojhdnldgaaDoor
set_option linter.unusedSimpArgs false
set_option linter.unusedVariables false
set_option maxHeartbeats 10000000
set_option maxRecDepth 20000
open Go.RowKit
attribute [local simp] wpAft_ret wpAft_pan wantD evOp opD tmOf putS updS setS hOf isFree isTok fillD TK.isAgg TK.known partD thenD blockD putAll D.ofV inB nilTest isNilS binX binD binE isCst bndD capB IntKind.min IntKind.max IntKind.signed IntKind.bits dstOf late
theorem ok_leaf {k n a : Int} (h1 : I64 k) (h2 : I64 n) (h3 : I64 a) : okT (.mk k n a [] []) := .mk h1 h2 h3 (by simp) (fun _ h => nomatch h) (by simp) (fun _ h => nomatch h)
theorem ok_two {k n a : Int} {x y : T} (h1 : I64 k) (h2 : I64 n) (h3 : I64 a) (hx : okT x) (hy : okT y) : okT (.mk k n a [] [x, y]) := .mk h1 h2 h3 (by simp) (fun _ h => nomatch h) (by unfold LMax; simp) (fun t h => by
  simp only [List.mem_cons, List.not_mem_nil, or_false] at h
  rcases h with rfl | rfl <;> assumption)
theorem i64c {n : Int} (h : -1000000 ≤ n ∧ n ≤ 1000000 := by decide) : I64 n := by unfold I64; omega
theorem ok_v {n : Int} (h : -1000000 ≤ n ∧ n ≤ 1000000 := by decide) : okT (vT n) := ok_leaf (i64c) (i64c h) (i64c)
theorem ok_app {x y : T} (hx : okT x) (hy : okT y) : okT (appT x y) := ok_two (i64c) (i64c) (i64c) hx hy
theorem ok_lam {x y : T} (hx : okT x) (hy : okT y) : okT (lamT x y) := ok_two (i64c) (i64c) (i64c) hx hy
def finT3 : T := .mk 22 3 0 [] []
theorem ok_fin3 : okT finT3 := ok_leaf i64c i64c i64c
def appE : T := .mk 6 0 0 [] []
theorem ok_appE : okT appE := ok_leaf i64c i64c i64c
theorem awake2_spec : Spec Tryd.prog glob 26 [] [] (fun o _ => o.fgt = .ret (.bool true)) := by
  have v0 := v2_spec 0
  have v1 := v2_spec 1
  have v7 := v2_spec 7
  have v8 := v2_spec 8
  have a1 := app2_spec (vT 0) (vT 1)
  have l1 := lam2_spec (vT 0) (appT (vT 0) (vT 1))
  have p1 := putT_spec (lamT (vT 0) (appT (vT 0) (vT 1))) [vT 7] (by unfold LMax; simp) (fun b hb => by
    simp only [List.mem_cons, List.not_mem_nil, or_false] at hb
    subst hb
    exact ⟨ok_v, by decide⟩) (by decide) (ok_lam ok_v (ok_app ok_v ok_v))
  rw [show (lamT (vT 0) (appT (vT 0) (vT 1))).put [vT 7] 0 = lamT (vT 7) (appT (vT 0) (vT 8)) from by kernel_rfl] at p1
  have p2 := putT_spec (appT (vT 0) (vT 1)) [finT3] (by unfold LMax; simp) (fun b hb => by
    simp only [List.mem_cons, List.not_mem_nil, or_false] at hb
    subst hb
    exact ⟨ok_fin3, by decide⟩) (by decide) (ok_app ok_v ok_v)
  rw [show (appT (vT 0) (vT 1)).put [finT3] 0 = appT finT3 (vT 0) from by kernel_rfl] at p2
  have a2 := app2_spec finT3 (vT 0)
  have s1 := same2_spec (appT finT3 (vT 0)) (appT finT3 (vT 0)) (ok_app ok_fin3 ok_v) (ok_app ok_fin3 ok_v)
  rw [(T.eqB_iff _ _).2 rfl] at s1
  have a3 := app2_spec (vT 0) (vT 8)
  have l3 := lam2_spec (vT 7) (appT (vT 0) (vT 8))
  have okP : okT (lamT (vT 7) (appT (vT 0) (vT 8))) := ok_lam ok_v (ok_app ok_v ok_v)
  have s2 := same2_spec (lamT (vT 7) (appT (vT 0) (vT 8))) (lamT (vT 7) (appT (vT 0) (vT 8))) okP okP
  rw [(T.eqB_iff _ _).2 rfl] at s2
  have r1 := right_spec _ okP
  rw [show (lamT (vT 7) (appT (vT 0) (vT 8))).right = true from by kernel_rfl] at r1
  have r2 := right_spec _ ok_appE
  rw [show appE.right = false from by kernel_rfl] at r2
  have z1 := size_spec _ okP
  rw [show (lamT (vT 7) (appT (vT 0) (vT 8))).sz = 5 from by kernel_rfl] at z1
  have hEf : encT finT3 = .agg [.int .i64 22, .int .i64 3, .int .i64 0, .slice [] .any, .slice [] .any] := encT_eq _
  have hEa : encT appE = .agg [.int .i64 6, .int .i64 0, .int .i64 0, .slice [] .any, .slice [] .any] := encT_eq _
  generalize hP : lamT (vT 7) (appT (vT 0) (vT 8)) = P at p1 l3 s2 r1 z1
  have hEP := encT_eq P
  unfold Ts at p1 p2
  simp only [List.map_cons, List.map_nil] at p1 p2
  rw [hEf] at p2 a2
  rw [hEa] at r2
  rw [hEP] at r1 z1
  have s2' := s2
  rw [hEP] at s2
  refine Spec.movd globPure (wpD_spec tyOK Tryd.func26 rfl (enters _ _ Tryd.func26 rfl (by decide)) rfl rfl ?_)
  (refine wpD_seqk fun K hK => ?_; refine wpD_region tyOK ?_; ((try simp only [wpAft_ret, wpAft_pan, putS, updS, setS]); (repeat (rw [wpS_cons]; simp)); (try simp only [wpS_nil, thenD, blockD])); refine hK _ _ _ ?_; clear hK K)
  (refine wpD_seqk fun K hK => ?_; refine wpD_region tyOK ?_; ((try simp only [wpAft_ret, wpAft_pan, putS, updS, setS]); (repeat (rw [wpS_cons]; simp)); (try simp only [wpS_nil, thenD, blockD])); refine hK _ _ _ ?_; clear hK K)
  (refine wpD_seqk fun K hK => ?_; refine wpD_region tyOK ?_; ((try simp only [wpAft_ret, wpAft_pan, putS, updS, setS]); (repeat (rw [wpS_cons]; simp)); (try simp only [wpS_nil, thenD, blockD])))
  refine CallX.pure globPure (v0) ?_ (by simp [D.fgts, D.fgt]) (by simp [D.pures, D.pure, Cp.free, D.pures_map]) (by simp [Out.pure, D.pure, D.pures, Cp.free, D.pures_map])
  ((try simp only [wpAft_ret, wpAft_pan, putS, updS, setS]); (repeat (rw [wpS_cons]; simp)); (try simp only [wpS_nil, thenD, blockD]))
  refine CallX.pure globPure (v0) ?_ (by simp [D.fgts, D.fgt]) (by simp [D.pures, D.pure, Cp.free, D.pures_map]) (by simp [Out.pure, D.pure, D.pures, Cp.free, D.pures_map])
  ((try simp only [wpAft_ret, wpAft_pan, putS, updS, setS]); (repeat (rw [wpS_cons]; simp)); (try simp only [wpS_nil, thenD, blockD]))
  refine CallX.pure globPure (v1) ?_ (by simp [D.fgts, D.fgt]) (by simp [D.pures, D.pure, Cp.free, D.pures_map]) (by simp [Out.pure, D.pure, D.pures, Cp.free, D.pures_map])
  ((try simp only [wpAft_ret, wpAft_pan, putS, updS, setS]); (repeat (rw [wpS_cons]; simp)); (try simp only [wpS_nil, thenD, blockD]))
  refine CallX.pure globPure (a1) ?_ (by simp [D.fgts, D.fgt]) (by simp [D.pures, D.pure, Cp.free, D.pures_map]) (by simp [Out.pure, D.pure, D.pures, Cp.free, D.pures_map])
  ((try simp only [wpAft_ret, wpAft_pan, putS, updS, setS]); (repeat (rw [wpS_cons]; simp)); (try simp only [wpS_nil, thenD, blockD]))
  refine CallX.pure globPure (l1) ?_ (by simp [D.fgts, D.fgt]) (by simp [D.pures, D.pure, Cp.free, D.pures_map]) (by simp [Out.pure, D.pure, D.pures, Cp.free, D.pures_map])
  ((try simp only [wpAft_ret, wpAft_pan, putS, updS, setS]); (repeat (rw [wpS_cons]; simp)); (try simp only [wpS_nil, thenD, blockD]))
  refine CallX.pure globPure (v7) ?_ (by simp [D.fgts, D.fgt]) (by simp [D.pures, D.pure, Cp.free, D.pures_map]) (by simp [Out.pure, D.pure, D.pures, Cp.free, D.pures_map])
  ((try simp only [wpAft_ret, wpAft_pan, putS, updS, setS]); (repeat (rw [wpS_cons]; simp)); (try simp only [wpS_nil, thenD, blockD]))
  refine CallX.pure globPure (p1) ?_ (by simp [D.fgts, D.fgt]) (by simp [D.pures, D.pure, Cp.free, D.pures_map]) (by simp [Out.pure, D.pure, D.pures, Cp.free, D.pures_map])
  ((try simp only [wpAft_ret, wpAft_pan, putS, updS, setS]); (repeat (rw [wpS_cons]; simp)); (try simp only [wpS_nil, thenD, blockD]))
  (refine hK _ _ _ ?_; clear hK K)
  (refine wpD_seqk fun K hK => ?_; refine wpD_drawk tyOK (by kernel_rfl) (by kernel_rfl) fun KT hKT => ?_; ((try simp only [wpAftT_ret, wpAftT_pan, putS, updS, setS]); (repeat (rw [wpT_cons]; simp)); (try simp only [wpT_nil])))
  refine CallY.pure globPure (v0) ?_ (by simp [D.fgts, D.fgt]) (by simp [D.pures, D.pure, Cp.free, D.pures_map]) (by simp [Out.pure, D.pure, D.pures, Cp.free, D.pures_map])
  ((try simp only [wpAftT_ret, wpAftT_pan, putS, updS, setS]); (repeat (rw [wpT_cons]; simp)); (try simp only [wpT_nil]))
  refine CallY.pure globPure (v1) ?_ (by simp [D.fgts, D.fgt]) (by simp [D.pures, D.pure, Cp.free, D.pures_map]) (by simp [Out.pure, D.pure, D.pures, Cp.free, D.pures_map])
  ((try simp only [wpAftT_ret, wpAftT_pan, putS, updS, setS]); (repeat (rw [wpT_cons]; simp)); (try simp only [wpT_nil]))
  refine CallY.pure globPure (a1) ?_ (by simp [D.fgts, D.fgt]) (by simp [D.pures, D.pure, Cp.free, D.pures_map]) (by simp [Out.pure, D.pure, D.pures, Cp.free, D.pures_map])
  ((try simp only [wpAftT_ret, wpAftT_pan, putS, updS, setS]); (repeat (rw [wpT_cons]; simp)); (try simp only [wpT_nil]))
  refine CallY.pureD globPure (p2) ?_ (by simp [D.deeps, D.deep, D.fgts, D.fgt]) (by simp [D.pures, D.pure, Cp.free, D.pures_map]) (by simp [Out.pure, D.pure, D.pures, Cp.free, D.pures_map])
  ((try simp only [wpAftT_ret, wpAftT_pan, putS, updS, setS]); (repeat (rw [wpT_cons]; simp)); (try simp only [wpT_nil]))
  refine CallY.pure globPure (v0) ?_ (by simp [D.fgts, D.fgt]) (by simp [D.pures, D.pure, Cp.free, D.pures_map]) (by simp [Out.pure, D.pure, D.pures, Cp.free, D.pures_map])
  ((try simp only [wpAftT_ret, wpAftT_pan, putS, updS, setS]); (repeat (rw [wpT_cons]; simp)); (try simp only [wpT_nil]))
  refine CallY.pureD globPure (a2) ?_ (by simp [D.deeps, D.deep, D.fgts, D.fgt]) (by simp [D.pures, D.pure, Cp.free, D.pures_map]) (by simp [Out.pure, D.pure, D.pures, Cp.free, D.pures_map])
  ((try simp only [wpAftT_ret, wpAftT_pan, putS, updS, setS]); (repeat (rw [wpT_cons]; simp)); (try simp only [wpT_nil]))
  refine CallY.pure globPure (s1) ?_ (by simp [D.fgts, D.fgt]) (by simp [D.pures, D.pure, Cp.free, D.pures_map]) (by simp [Out.pure, D.pure, D.pures, Cp.free, D.pures_map])
  ((try simp only [wpAftT_ret, wpAftT_pan, putS, updS, setS]); (repeat (rw [wpT_cons]; simp)); (try simp only [wpT_nil]))
  refine CallY.pure globPure (v7) ?_ (by simp [D.fgts, D.fgt]) (by simp [D.pures, D.pure, Cp.free, D.pures_map]) (by simp [Out.pure, D.pure, D.pures, Cp.free, D.pures_map])
  ((try simp only [wpAftT_ret, wpAftT_pan, putS, updS, setS]); (repeat (rw [wpT_cons]; simp)); (try simp only [wpT_nil]))
  refine CallY.pure globPure (v0) ?_ (by simp [D.fgts, D.fgt]) (by simp [D.pures, D.pure, Cp.free, D.pures_map]) (by simp [Out.pure, D.pure, D.pures, Cp.free, D.pures_map])
  ((try simp only [wpAftT_ret, wpAftT_pan, putS, updS, setS]); (repeat (rw [wpT_cons]; simp)); (try simp only [wpT_nil]))
  refine CallY.pure globPure (v8) ?_ (by simp [D.fgts, D.fgt]) (by simp [D.pures, D.pure, Cp.free, D.pures_map]) (by simp [Out.pure, D.pure, D.pures, Cp.free, D.pures_map])
  ((try simp only [wpAftT_ret, wpAftT_pan, putS, updS, setS]); (repeat (rw [wpT_cons]; simp)); (try simp only [wpT_nil]))
  refine CallY.pure globPure (a3) ?_ (by simp [D.fgts, D.fgt]) (by simp [D.pures, D.pure, Cp.free, D.pures_map]) (by simp [Out.pure, D.pure, D.pures, Cp.free, D.pures_map])
  ((try simp only [wpAftT_ret, wpAftT_pan, putS, updS, setS]); (repeat (rw [wpT_cons]; simp)); (try simp only [wpT_nil]))
  refine CallY.pure globPure (l3) ?_ (by simp [D.fgts, D.fgt]) (by simp [D.pures, D.pure, Cp.free, D.pures_map]) (by simp [Out.pure, D.pure, D.pures, Cp.free, D.pures_map])
  ((try simp only [wpAftT_ret, wpAftT_pan, putS, updS, setS]); (repeat (rw [wpT_cons]; simp)); (try simp only [wpT_nil]))
  refine CallY.pure globPure (s2) ?_ (by simp [D.fgts, D.fgt, hEP]) (by simp [D.pures, D.pure, Cp.free, D.pures_map, hEP]) (by simp [Out.pure, D.pure, D.pures, Cp.free, D.pures_map, hEP])
  ((try simp only [wpAftT_ret, wpAftT_pan, putS, updS, setS]); (repeat (rw [wpT_cons]; simp)); (try simp only [wpT_nil]))
  refine CallY.pure globPure (r1) ?_ (by simp [D.fgts, D.fgt]) (by simp [D.pures, D.pure, Cp.free, D.pures_map]) (by simp [Out.pure, D.pure, D.pures, Cp.free, D.pures_map])
  ((try simp only [wpAftT_ret, wpAftT_pan, putS, updS, setS]); (repeat (rw [wpT_cons]; simp)); (try simp only [wpT_nil]))
  refine CallY.pureD globPure (r2) ?_ (by simp [D.deeps, D.deep, D.fgts, D.fgt]) (by simp [D.pures, D.pure, Cp.free, D.pures_map]) (by simp [Out.pure, D.pure, D.pures, Cp.free, D.pures_map])
  ((try simp only [wpAftT_ret, wpAftT_pan, putS, updS, setS]); (repeat (rw [wpT_cons]; simp)); (try simp only [wpT_nil]))
  refine CallY.pure globPure (z1) ?_ (by simp [D.fgts, D.fgt]) (by simp [D.pures, D.pure, Cp.free, D.pures_map]) (by simp [Out.pure, D.pure, D.pures, Cp.free, D.pures_map])
  ((try simp only [wpAftT_ret, wpAftT_pan, putS, updS, setS]); (repeat (rw [wpT_cons]; simp)); (try simp only [wpT_nil]))
  (refine hKT _ _ _ _ (by kernel_rfl) ?_; clear hKT KT; (try simp only [thenD, blockD]))
  (refine hK _ _ _ ?_; clear hK K)
  (refine wpD_ret ?_; (try simp only [thenD, blockD]); refine EndQ.ret rfl (.inl ?_); simp [tmOf, Out.fgt, D.fgt, D.fgts])
end Go.Proofs.YtebmlojhdnldgaaDoor

namespace Go.Proofs.YtebmlojhdnldgaaDoor
set_option linter.unusedSimpArgs false
set_option linter.unusedVariables false
open Go.RowKit
def TurnOk (f : Turn) : Prop := ∀ d t, okT t → (∀ u, f d t = .inl u → okT u) ∧ (∀ x, f d t = .inr x → I64 x.1 ∧ x.2.length ≤ LMax ∧ ∀ l, l ∈ x.2 → okL l)
theorem walk_ok {f : Turn} (hf : TurnOk f) (t : T) : ∀ d, okT t → okT (T.walk f t d) := by
  induction t using T.ind with
  | h k m a ls ks ih =>
    intro d ht
    obtain ⟨h1, h2⟩ := hf d _ ht
    cases hturn : f d (.mk k m a ls ks) with
    | inl u => rw [walk_inl hturn]; exact h1 u hturn
    | inr x =>
      rw [walk_inr hturn]
      obtain ⟨h3, h4, h5⟩ := h2 x hturn
      refine .mk ht.k h3 ht.a h4 h5 (by rw [T.walks_length]; exact ht.kl) ?_
      have hks := ht.ks
      simp only [T.ks_mk] at hks
      have : ∀ (l : List T), (∀ x, x ∈ l → x ∈ ks) → ∀ (i : Nat) t, t ∈ T.walks f k l i d → okT t := by
        intro l
        induction l with
        | nil => intro _ i t h; rw [T.walks] at h; cases h
        | cons x r ihl =>
          intro hl i t h
          rw [T.walks] at h
          cases h with
          | head => exact ih x (hl x List.mem_cons_self) _ (hks x (hl x List.mem_cons_self))
          | tail _ hm => exact ihl (fun y hy => hl y (List.mem_cons_of_mem _ hy)) (i + 1) t hm
      exact this ks (fun _ h => h) 0
theorem lift_turn_ok (n fr : Int) : TurnOk (liftTurn n fr) := fun d t ht => ⟨(fun u h => by cases h), fun x h => by
  cases h
  exact ⟨liftNum_ok ht.n, ht.ll, ht.ls⟩⟩
theorem lift_ok {t : T} (n fr d : Int) (h : okT t) : okT (t.lift n fr d) := walk_ok (lift_turn_ok n fr) t d h
theorem put_turn_ok {bys : List T} (hb : ∀ b, b ∈ bys → okT b) : TurnOk (putTurn bys) := fun d t ht => by
  by_cases hh : t.k = 1 ∧ d ≤ t.n
  · by_cases hl : (t.n - d).toNat < bys.length
    · rw [putTurn_in hh hl]
      exact ⟨(fun u h => by cases h; exact lift_ok _ _ _ (hb _ (List.getElem_mem _))), (fun x h => by cases h)⟩
    · rw [putTurn_over hh hl]
      exact ⟨(fun u h => by cases h), (fun x h => by cases h; exact ⟨i64_wrap _, ht.ll, ht.ls⟩)⟩
  · rw [putTurn_low hh]
    exact ⟨(fun u h => by cases h), (fun x h => by cases h; exact ⟨ht.n, ht.ll, ht.ls⟩)⟩
theorem put_ok {t : T} {bys : List T} (hb : ∀ b, b ∈ bys → okT b) (d : Int) (h : okT t) : okT (t.put bys d) := walk_ok (put_turn_ok hb) t d h
theorem norm_okL (l : LV) : okL (normOf l) := ⟨normOf_lmax l, fun p hp => by
  have := badP_nn ((normOf_nf l).ok p hp)
  unfold I64
  omega⟩
theorem lev_turn_ok (bys : List LV) : TurnOk (levTurn bys) := fun d t ht => ⟨(fun u h => by cases h), fun x h => by
  cases h
  refine ⟨ht.n, by rw [List.length_map]; exact ht.ll, fun l hl => ?_⟩
  rw [List.mem_map] at hl
  obtain ⟨y, _, rfl⟩ := hl
  exact norm_okL _⟩
theorem levels_ok {t : T} (bys : List LV) (d : Int) (h : okT t) : okT (t.levels bys d) := walk_ok (lev_turn_ok bys) t d h
theorem deep_walks {f : Turn} {B : Nat} {k d : Int} (ks : List T) : ∀ i, (∀ (j : Nat) t, t ∈ ks → (T.walk f t (belowD d k j)).deep ≤ t.deep + B) → T.deeps (T.walks f k ks i d) ≤ T.deeps ks + B := by
  induction ks with
  | nil => intro i _; simp [T.walks, T.deeps]
  | cons t r ih =>
    intro i H
    simp only [T.walks, T.deeps]
    have h1 := H i t List.mem_cons_self
    have h2 := ih (i + 1) (fun j t ht => H j t (List.mem_cons_of_mem _ ht))
    omega
theorem deep_lift (n fr : Int) (t : T) : ∀ d, (t.lift n fr d).deep ≤ t.deep := by
  unfold T.lift
  induction t using T.ind with
  | h k m a ls ks ih =>
    intro d
    rw [walk_lift, T.deep, T.deep]
    have := deep_walks (f := liftTurn n fr) (B := 0) (k := k) (d := d) ks 0 (fun j t ht => ih t ht _)
    omega
theorem deep_put (bys : List T) (B : Nat) (hB : ∀ b, b ∈ bys → b.deep ≤ B) (t : T) : ∀ d, (t.put bys d).deep ≤ t.deep + B := by
  unfold T.put
  induction t using T.ind with
  | h k m a ls ks ih =>
    intro d
    have hks : T.deeps (T.walks (putTurn bys) k ks 0 d) ≤ T.deeps ks + B := deep_walks ks 0 (fun j t ht => ih t ht _)
    by_cases hh : k = 1 ∧ d ≤ m
    · by_cases hl : (m - d).toNat < bys.length
      · rw [walk_inl (putTurn_in (t := .mk k m a ls ks) hh hl)]
        have h1 := hB _ (List.getElem_mem (l := bys) (n := bys.length - 1 - ((T.mk k m a ls ks).n - d).toNat) (by simp only [T.n_mk]; omega))
        exact Nat.le_trans (deep_lift _ _ _ _) (by omega)
      · rw [walk_inr (putTurn_over (t := .mk k m a ls ks) hh hl), T.deep, T.deep]
        omega
    · rw [walk_inr (putTurn_low (t := .mk k m a ls ks) hh), T.deep, T.deep]
      omega
theorem deep_levels (bys : List LV) (t : T) : ∀ d, (t.levels bys d).deep ≤ t.deep := by
  unfold T.levels
  induction t using T.ind with
  | h k m a ls ks ih =>
    intro d
    rw [walk_inr (f := levTurn bys) (x := (m, ls.map fun l => normOf (putL l bys))) rfl, T.deep, T.deep]
    have := deep_walks (f := levTurn bys) (B := 0) (k := k) (d := d) ks 0 (fun j t ht => ih t ht _)
    omega
end Go.Proofs.YtebmlojhdnldgaaDoor

namespace Go.Proofs.YtebmlojhdnldgaaDoor
set_option linter.unusedSimpArgs false
set_option linter.unusedVariables false
set_option maxHeartbeats 10000000
set_option maxRecDepth 20000
open Go.RowKit
attribute [local simp] wpAft_ret wpAft_pan wantD evOp opD tmOf putS updS setS hOf isFree isTok fillD TK.isAgg TK.known partD thenD blockD putAll D.ofV inB nilTest isNilS binX binD binE isCst bndD capB IntKind.min IntKind.max IntKind.signed IntKind.bits dstOf late
theorem lifts_spec (t u a : T) (n m fr : Int) (bys : List LV) (ht : okT t) (hu : okT u) (ha : okT a) (dt : t.deep ≤ DM) (du : u.deep ≤ DM) (da : a.deep ≤ DM) (hb : bys.length ≤ LMax) (hbo : ∀ b, b ∈ bys → b.length ≤ LMax) :
    Spec Tryd.prog glob 5 [encT t, encT u, encT a, .int .i64 n, .int .i64 m, .int .i64 fr, Lvs bys] [] (fun o _ => o.fgt = .ret (.bool true)) := by
  have hEt := encT_eq t
  have hEu := encT_eq u
  have hEa := encT_eq a
  obtain ⟨G, hgr⟩ := great2_spec [t, u, a] (by unfold LMax; simp) (fun x hx => by
    simp only [List.mem_cons, List.not_mem_nil, or_false] at hx
    rcases hx with rfl | rfl | rfl <;> assumption)
  have hta := tame_spec [t, u, a] (by unfold LMax; simp) (fun x hx => by
    simp only [List.mem_cons, List.not_mem_nil, or_false] at hx
    rcases hx with rfl | rfl | rfl <;> assumption)
  simp only [List.map_cons, List.map_nil] at hgr hta
  obtain ⟨M, hM⟩ : ∃ M, M = T.tamesB [t, u, a] := ⟨_, rfl⟩
  rw [← hM] at hta
  have haw := awake2_spec
  rw [hEt, hEu, hEa] at hgr hta
  have rest : ∀ (hn : 0 ≤ n ∧ n ≤ 1000) (hm : 0 ≤ m ∧ m ≤ 1000) (hf : 0 ≤ fr ∧ fr ≤ 1000), M = true →
      t.tameB = true := fun _ _ _ h => by
    rw [hM, T.tamesB, Bool.and_eq_true] at h
    exact h.1
  unfold Lvs
  refine Spec.movd globPure (wpD_spec tyOK Tryd.func5 rfl (enters _ _ Tryd.func5 rfl (by decide)) rfl rfl ?_)
  (refine wpD_seqk fun K hK => ?_; refine wpD_region tyOK ?_; ((try simp only [wpAft_ret, wpAft_pan, putS, updS, setS]); (repeat (rw [wpS_cons]; simp)); (try simp only [wpS_nil, thenD, blockD])); refine hK _ _ _ ?_; clear hK K)
  refine wpD_seqk fun K1 hK1 => ?_
  (refine wpD_seqk fun K hK => ?_; refine wpD_region tyOK ?_; ((try simp only [wpAft_ret, wpAft_pan, putS, updS, setS]); (repeat (rw [wpS_cons]; simp)); (try simp only [wpS_nil, thenD, blockD])))
  refine CallX.pure globPure (haw) ?_ (by simp [D.fgts, D.fgt]) (by simp [D.pures, D.pure, Cp.free, D.pures_map]) (by simp [Out.pure, D.pure, D.pures, Cp.free, D.pures_map])
  ((try simp only [wpAft_ret, wpAft_pan, putS, updS, setS]); (repeat (rw [wpS_cons]; simp)); (try simp only [wpS_nil, thenD, blockD]))
  (refine hK _ _ _ ?_; clear hK K)
  refine wpD_part rfl (fun h => by simp at h) (fun _ => ?_)
  refine wpD_skip (hK1 _ _ _ ?_)
  clear hK1 K1
  refine wpD_seqk fun K1 hK1 => ?_
  cases G with
  | true =>
    (refine wpD_seqk fun K hK => ?_; refine wpD_region tyOK ?_; ((try simp only [wpAft_ret, wpAft_pan, putS, updS, setS]); (repeat (rw [wpS_cons]; simp)); (try simp only [wpS_nil, thenD, blockD])))
    refine CallX.pure globPure (hgr) ?_ (by simp [D.fgts, D.fgt]) (by simp [D.pures, D.pure, Cp.free, D.pures_map]) (by simp [Out.pure, D.pure, D.pures, Cp.free, D.pures_map])
    ((try simp only [wpAft_ret, wpAft_pan, putS, updS, setS]); (repeat (rw [wpS_cons]; simp)); (try simp only [wpS_nil, thenD, blockD]))
    (refine hK _ _ _ ?_; clear hK K)
    refine wpD_part rfl (fun _ => ?_) (fun h => by simp at h)
    (refine wpD_seqk fun K hK => ?_; refine wpD_region tyOK ?_; ((try simp only [wpAft_ret, wpAft_pan, putS, updS, setS]); (repeat (rw [wpS_cons]; simp)); (try simp only [wpS_nil, thenD, blockD])); refine hK _ _ _ ?_; clear hK K)
    (refine wpD_ret ?_; (try simp only [thenD, blockD]); refine EndQ.ret rfl (.inl ?_); simp [tmOf, Out.fgt, D.fgt, D.fgts])
  | false =>
  cases hMM : M with
  | false =>
    rw [hMM] at hta
    (refine wpD_seqk fun K hK => ?_; refine wpD_region tyOK ?_; ((try simp only [wpAft_ret, wpAft_pan, putS, updS, setS]); (repeat (rw [wpS_cons]; simp)); (try simp only [wpS_nil, thenD, blockD])))
    refine CallX.pure globPure (hgr) ?_ (by simp [D.fgts, D.fgt]) (by simp [D.pures, D.pure, Cp.free, D.pures_map]) (by simp [Out.pure, D.pure, D.pures, Cp.free, D.pures_map])
    ((try simp only [wpAft_ret, wpAft_pan, putS, updS, setS]); (repeat (rw [wpS_cons]; simp)); (try simp only [wpS_nil, thenD, blockD]))
    refine CallX.pure globPure (hta) ?_ (by simp [D.fgts, D.fgt]) (by simp [D.pures, D.pure, Cp.free, D.pures_map]) (by simp [Out.pure, D.pure, D.pures, Cp.free, D.pures_map])
    ((try simp only [wpAft_ret, wpAft_pan, putS, updS, setS]); (repeat (rw [wpS_cons]; simp)); (try simp only [wpS_nil, thenD, blockD]))
    (refine hK _ _ _ ?_; clear hK K)
    refine wpD_part rfl (fun _ => ?_) (fun h => by simp at h)
    (refine wpD_seqk fun K hK => ?_; refine wpD_region tyOK ?_; ((try simp only [wpAft_ret, wpAft_pan, putS, updS, setS]); (repeat (rw [wpS_cons]; simp)); (try simp only [wpS_nil, thenD, blockD])); refine hK _ _ _ ?_; clear hK K)
    (refine wpD_ret ?_; (try simp only [thenD, blockD]); refine EndQ.ret rfl (.inl ?_); simp [tmOf, Out.fgt, D.fgt, D.fgts])
  | true =>
  rw [hMM] at hta
  by_cases g1 : n < 0
  · (refine wpD_seqk fun K hK => ?_; refine wpD_region tyOK ?_; ((try simp only [wpAft_ret, wpAft_pan, putS, updS, setS]); (repeat (rw [wpS_cons]; simp [g1])); (try simp only [wpS_nil, thenD, blockD])))
    refine CallX.pure globPure (hgr) ?_ (by simp [D.fgts, D.fgt]) (by simp [D.pures, D.pure, Cp.free, D.pures_map]) (by simp [Out.pure, D.pure, D.pures, Cp.free, D.pures_map])
    ((try simp only [wpAft_ret, wpAft_pan, putS, updS, setS]); (repeat (rw [wpS_cons]; simp [g1])); (try simp only [wpS_nil, thenD, blockD]))
    refine CallX.pure globPure (hta) ?_ (by simp [D.fgts, D.fgt]) (by simp [D.pures, D.pure, Cp.free, D.pures_map]) (by simp [Out.pure, D.pure, D.pures, Cp.free, D.pures_map])
    ((try simp only [wpAft_ret, wpAft_pan, putS, updS, setS]); (repeat (rw [wpS_cons]; simp [g1])); (try simp only [wpS_nil, thenD, blockD]))
    (refine hK _ _ _ ?_; clear hK K)
    refine wpD_part rfl (fun _ => ?_) (fun h => by simp at h)
    (refine wpD_seqk fun K hK => ?_; refine wpD_region tyOK ?_; ((try simp only [wpAft_ret, wpAft_pan, putS, updS, setS]); (repeat (rw [wpS_cons]; simp)); (try simp only [wpS_nil, thenD, blockD])); refine hK _ _ _ ?_; clear hK K)
    (refine wpD_ret ?_; (try simp only [thenD, blockD]); refine EndQ.ret rfl (.inl ?_); simp [tmOf, Out.fgt, D.fgt, D.fgts])
  by_cases g2 : 1000 < n
  · (refine wpD_seqk fun K hK => ?_; refine wpD_region tyOK ?_; ((try simp only [wpAft_ret, wpAft_pan, putS, updS, setS]); (repeat (rw [wpS_cons]; simp [g1, g2])); (try simp only [wpS_nil, thenD, blockD])))
    refine CallX.pure globPure (hgr) ?_ (by simp [D.fgts, D.fgt]) (by simp [D.pures, D.pure, Cp.free, D.pures_map]) (by simp [Out.pure, D.pure, D.pures, Cp.free, D.pures_map])
    ((try simp only [wpAft_ret, wpAft_pan, putS, updS, setS]); (repeat (rw [wpS_cons]; simp [g1, g2])); (try simp only [wpS_nil, thenD, blockD]))
    refine CallX.pure globPure (hta) ?_ (by simp [D.fgts, D.fgt]) (by simp [D.pures, D.pure, Cp.free, D.pures_map]) (by simp [Out.pure, D.pure, D.pures, Cp.free, D.pures_map])
    ((try simp only [wpAft_ret, wpAft_pan, putS, updS, setS]); (repeat (rw [wpS_cons]; simp [g1, g2])); (try simp only [wpS_nil, thenD, blockD]))
    (refine hK _ _ _ ?_; clear hK K)
    refine wpD_part rfl (fun _ => ?_) (fun h => by simp at h)
    (refine wpD_seqk fun K hK => ?_; refine wpD_region tyOK ?_; ((try simp only [wpAft_ret, wpAft_pan, putS, updS, setS]); (repeat (rw [wpS_cons]; simp)); (try simp only [wpS_nil, thenD, blockD])); refine hK _ _ _ ?_; clear hK K)
    (refine wpD_ret ?_; (try simp only [thenD, blockD]); refine EndQ.ret rfl (.inl ?_); simp [tmOf, Out.fgt, D.fgt, D.fgts])
  by_cases g3 : m < 0
  · (refine wpD_seqk fun K hK => ?_; refine wpD_region tyOK ?_; ((try simp only [wpAft_ret, wpAft_pan, putS, updS, setS]); (repeat (rw [wpS_cons]; simp [g1, g2, g3])); (try simp only [wpS_nil, thenD, blockD])))
    refine CallX.pure globPure (hgr) ?_ (by simp [D.fgts, D.fgt]) (by simp [D.pures, D.pure, Cp.free, D.pures_map]) (by simp [Out.pure, D.pure, D.pures, Cp.free, D.pures_map])
    ((try simp only [wpAft_ret, wpAft_pan, putS, updS, setS]); (repeat (rw [wpS_cons]; simp [g1, g2, g3])); (try simp only [wpS_nil, thenD, blockD]))
    refine CallX.pure globPure (hta) ?_ (by simp [D.fgts, D.fgt]) (by simp [D.pures, D.pure, Cp.free, D.pures_map]) (by simp [Out.pure, D.pure, D.pures, Cp.free, D.pures_map])
    ((try simp only [wpAft_ret, wpAft_pan, putS, updS, setS]); (repeat (rw [wpS_cons]; simp [g1, g2, g3])); (try simp only [wpS_nil, thenD, blockD]))
    (refine hK _ _ _ ?_; clear hK K)
    refine wpD_part rfl (fun _ => ?_) (fun h => by simp at h)
    (refine wpD_seqk fun K hK => ?_; refine wpD_region tyOK ?_; ((try simp only [wpAft_ret, wpAft_pan, putS, updS, setS]); (repeat (rw [wpS_cons]; simp)); (try simp only [wpS_nil, thenD, blockD])); refine hK _ _ _ ?_; clear hK K)
    (refine wpD_ret ?_; (try simp only [thenD, blockD]); refine EndQ.ret rfl (.inl ?_); simp [tmOf, Out.fgt, D.fgt, D.fgts])
  by_cases g4 : 1000 < m
  · (refine wpD_seqk fun K hK => ?_; refine wpD_region tyOK ?_; ((try simp only [wpAft_ret, wpAft_pan, putS, updS, setS]); (repeat (rw [wpS_cons]; simp [g1, g2, g3, g4])); (try simp only [wpS_nil, thenD, blockD])))
    refine CallX.pure globPure (hgr) ?_ (by simp [D.fgts, D.fgt]) (by simp [D.pures, D.pure, Cp.free, D.pures_map]) (by simp [Out.pure, D.pure, D.pures, Cp.free, D.pures_map])
    ((try simp only [wpAft_ret, wpAft_pan, putS, updS, setS]); (repeat (rw [wpS_cons]; simp [g1, g2, g3, g4])); (try simp only [wpS_nil, thenD, blockD]))
    refine CallX.pure globPure (hta) ?_ (by simp [D.fgts, D.fgt]) (by simp [D.pures, D.pure, Cp.free, D.pures_map]) (by simp [Out.pure, D.pure, D.pures, Cp.free, D.pures_map])
    ((try simp only [wpAft_ret, wpAft_pan, putS, updS, setS]); (repeat (rw [wpS_cons]; simp [g1, g2, g3, g4])); (try simp only [wpS_nil, thenD, blockD]))
    (refine hK _ _ _ ?_; clear hK K)
    refine wpD_part rfl (fun _ => ?_) (fun h => by simp at h)
    (refine wpD_seqk fun K hK => ?_; refine wpD_region tyOK ?_; ((try simp only [wpAft_ret, wpAft_pan, putS, updS, setS]); (repeat (rw [wpS_cons]; simp)); (try simp only [wpS_nil, thenD, blockD])); refine hK _ _ _ ?_; clear hK K)
    (refine wpD_ret ?_; (try simp only [thenD, blockD]); refine EndQ.ret rfl (.inl ?_); simp [tmOf, Out.fgt, D.fgt, D.fgts])
  by_cases g5 : fr < 0
  · (refine wpD_seqk fun K hK => ?_; refine wpD_region tyOK ?_; ((try simp only [wpAft_ret, wpAft_pan, putS, updS, setS]); (repeat (rw [wpS_cons]; simp [g1, g2, g3, g4, g5])); (try simp only [wpS_nil, thenD, blockD])))
    refine CallX.pure globPure (hgr) ?_ (by simp [D.fgts, D.fgt]) (by simp [D.pures, D.pure, Cp.free, D.pures_map]) (by simp [Out.pure, D.pure, D.pures, Cp.free, D.pures_map])
    ((try simp only [wpAft_ret, wpAft_pan, putS, updS, setS]); (repeat (rw [wpS_cons]; simp [g1, g2, g3, g4, g5])); (try simp only [wpS_nil, thenD, blockD]))
    refine CallX.pure globPure (hta) ?_ (by simp [D.fgts, D.fgt]) (by simp [D.pures, D.pure, Cp.free, D.pures_map]) (by simp [Out.pure, D.pure, D.pures, Cp.free, D.pures_map])
    ((try simp only [wpAft_ret, wpAft_pan, putS, updS, setS]); (repeat (rw [wpS_cons]; simp [g1, g2, g3, g4, g5])); (try simp only [wpS_nil, thenD, blockD]))
    (refine hK _ _ _ ?_; clear hK K)
    refine wpD_part rfl (fun _ => ?_) (fun h => by simp at h)
    (refine wpD_seqk fun K hK => ?_; refine wpD_region tyOK ?_; ((try simp only [wpAft_ret, wpAft_pan, putS, updS, setS]); (repeat (rw [wpS_cons]; simp)); (try simp only [wpS_nil, thenD, blockD])); refine hK _ _ _ ?_; clear hK K)
    (refine wpD_ret ?_; (try simp only [thenD, blockD]); refine EndQ.ret rfl (.inl ?_); simp [tmOf, Out.fgt, D.fgt, D.fgts])
  by_cases g6 : 1000 < fr
  · (refine wpD_seqk fun K hK => ?_; refine wpD_region tyOK ?_; ((try simp only [wpAft_ret, wpAft_pan, putS, updS, setS]); (repeat (rw [wpS_cons]; simp [g1, g2, g3, g4, g5, g6])); (try simp only [wpS_nil, thenD, blockD])))
    refine CallX.pure globPure (hgr) ?_ (by simp [D.fgts, D.fgt]) (by simp [D.pures, D.pure, Cp.free, D.pures_map]) (by simp [Out.pure, D.pure, D.pures, Cp.free, D.pures_map])
    ((try simp only [wpAft_ret, wpAft_pan, putS, updS, setS]); (repeat (rw [wpS_cons]; simp [g1, g2, g3, g4, g5, g6])); (try simp only [wpS_nil, thenD, blockD]))
    refine CallX.pure globPure (hta) ?_ (by simp [D.fgts, D.fgt]) (by simp [D.pures, D.pure, Cp.free, D.pures_map]) (by simp [Out.pure, D.pure, D.pures, Cp.free, D.pures_map])
    ((try simp only [wpAft_ret, wpAft_pan, putS, updS, setS]); (repeat (rw [wpS_cons]; simp [g1, g2, g3, g4, g5, g6])); (try simp only [wpS_nil, thenD, blockD]))
    (refine hK _ _ _ ?_; clear hK K)
    refine wpD_part rfl (fun _ => ?_) (fun h => by simp at h)
    (refine wpD_seqk fun K hK => ?_; refine wpD_region tyOK ?_; ((try simp only [wpAft_ret, wpAft_pan, putS, updS, setS]); (repeat (rw [wpS_cons]; simp)); (try simp only [wpS_nil, thenD, blockD])); refine hK _ _ _ ?_; clear hK K)
    (refine wpD_ret ?_; (try simp only [thenD, blockD]); refine EndQ.ret rfl (.inl ?_); simp [tmOf, Out.fgt, D.fgt, D.fgts])
  by_cases g7 : 20 < (bys.length : Int)
  · (refine wpD_seqk fun K hK => ?_; refine wpD_region tyOK ?_; ((try simp only [wpAft_ret, wpAft_pan, putS, updS, setS]); (repeat (rw [wpS_cons]; simp [g1, g2, g3, g4, g5, g6, g7])); (try simp only [wpS_nil, thenD, blockD])))
    refine CallX.pure globPure (hgr) ?_ (by simp [D.fgts, D.fgt]) (by simp [D.pures, D.pure, Cp.free, D.pures_map]) (by simp [Out.pure, D.pure, D.pures, Cp.free, D.pures_map])
    ((try simp only [wpAft_ret, wpAft_pan, putS, updS, setS]); (repeat (rw [wpS_cons]; simp [g1, g2, g3, g4, g5, g6, g7])); (try simp only [wpS_nil, thenD, blockD]))
    refine CallX.pure globPure (hta) ?_ (by simp [D.fgts, D.fgt]) (by simp [D.pures, D.pure, Cp.free, D.pures_map]) (by simp [Out.pure, D.pure, D.pures, Cp.free, D.pures_map])
    ((try simp only [wpAft_ret, wpAft_pan, putS, updS, setS]); (repeat (rw [wpS_cons]; simp [g1, g2, g3, g4, g5, g6, g7])); (try simp only [wpS_nil, thenD, blockD]))
    (refine hK _ _ _ ?_; clear hK K)
    refine wpD_part rfl (fun _ => ?_) (fun h => by simp at h)
    (refine wpD_seqk fun K hK => ?_; refine wpD_region tyOK ?_; ((try simp only [wpAft_ret, wpAft_pan, putS, updS, setS]); (repeat (rw [wpS_cons]; simp)); (try simp only [wpS_nil, thenD, blockD])); refine hK _ _ _ ?_; clear hK K)
    (refine wpD_ret ?_; (try simp only [thenD, blockD]); refine EndQ.ret rfl (.inl ?_); simp [tmOf, Out.fgt, D.fgt, D.fgts])
  · (refine wpD_seqk fun K hK => ?_; refine wpD_region tyOK ?_; ((try simp only [wpAft_ret, wpAft_pan, putS, updS, setS]); (repeat (rw [wpS_cons]; simp [g1, g2, g3, g4, g5, g6, g7])); (try simp only [wpS_nil, thenD, blockD])))
    refine CallX.pure globPure (hgr) ?_ (by simp [D.fgts, D.fgt]) (by simp [D.pures, D.pure, Cp.free, D.pures_map]) (by simp [Out.pure, D.pure, D.pures, Cp.free, D.pures_map])
    ((try simp only [wpAft_ret, wpAft_pan, putS, updS, setS]); (repeat (rw [wpS_cons]; simp [g1, g2, g3, g4, g5, g6, g7])); (try simp only [wpS_nil, thenD, blockD]))
    refine CallX.pure globPure (hta) ?_ (by simp [D.fgts, D.fgt]) (by simp [D.pures, D.pure, Cp.free, D.pures_map]) (by simp [Out.pure, D.pure, D.pures, Cp.free, D.pures_map])
    ((try simp only [wpAft_ret, wpAft_pan, putS, updS, setS]); (repeat (rw [wpS_cons]; simp [g1, g2, g3, g4, g5, g6, g7])); (try simp only [wpS_nil, thenD, blockD]))
    (refine hK _ _ _ ?_; clear hK K)
    refine wpD_part rfl (fun h => by simp at h) (fun _ => ?_)
    refine wpD_skip (hK1 _ _ _ ?_)
    clear hK1 K1
    have htame := rest ⟨by omega, by omega⟩ ⟨by omega, by omega⟩ ⟨by omega, by omega⟩ hMM
    clear rest hgr hta hM
    have hft : Fits 0 t := ⟨by omega, by unfold DM at dt ⊢; omega⟩
    have w1 : IntKind.i64.wrap (n + m) = n + m := i64w (by omega) (by omega)
    have w2 : IntKind.i64.wrap (fr + n) = fr + n := i64w (by omega) (by omega)
    have okx := lift_ok n fr 0 ht
    have dx : (t.lift n fr 0).deep ≤ DM := Nat.le_trans (deep_lift n fr t 0) dt
    have L1 := lift_spec t n fr dt ht
    have L2 := lift_spec (t.lift n fr 0) m fr dx okx
    have L3 := lift_spec t (n + m) fr dt ht
    have e1 : (t.lift n fr 0).lift m fr 0 = t.lift (n + m) fr 0 := lift_lift n m fr ⟨by omega, by omega⟩ ⟨by omega, by omega⟩ t 0 htame hft
    rw [e1] at L2
    have oky := lift_ok (n + m) fr 0 ht
    have S1 := same2_spec _ _ oky oky
    rw [(T.eqB_iff _ _).2 rfl] at S1
    have Z1 := size_spec _ okx
    rw [show (t.lift n fr 0).sz = t.sz from sz_lift n fr t 0] at Z1
    have Z2 := size_spec t ht
    have F1 := free_spec (t.lift n fr 0) fr (fr + n) okx
    rw [free_gap n fr ⟨by omega, by omega⟩ ⟨by omega, by omega⟩ t htame hft] at F1
    have F2 := free_spec t fr 5000 ht
    have F3 := free_spec (t.lift n fr 0) (fr + n) 6000 okx
    rw [free_above n fr ⟨by omega, by omega⟩ ⟨by omega, by omega⟩ t htame hft] at F3
    have F4 := free_spec t 0 fr ht
    have F5 := free_spec (t.lift n fr 0) 0 fr okx
    rw [free_below n fr ⟨by omega, by omega⟩ ⟨by omega, by omega⟩ t htame hft] at F5
    have SA := sameT_spec t u ht hu
    have L4 := lift_spec u n fr du hu
    have SB : t.sameB u = true → Spec Tryd.prog glob 33 [encT (t.lift n fr 0), encT (u.lift n fr 0)] [] (fun o _ => o.fgt = .ret (.bool true)) := fun h => by
      have := sameT_spec _ _ okx (lift_ok n fr 0 hu)
      rw [same_lift n fr h] at this
      exact this
    have hba : ∀ b, b ∈ [a] → okT b ∧ b.deep ≤ DM := fun b hb => by
      simp only [List.mem_cons, List.not_mem_nil, or_false] at hb
      subst hb
      exact ⟨ha, da⟩
    have P1 := putT_spec t [a] (by unfold LMax; simp) hba dt ht
    have P2 := putT_spec u [a] (by unfold LMax; simp) hba du hu
    unfold Ts at P1 P2
    simp only [List.map_cons, List.map_nil] at P1 P2
    have SC : t.sameB u = true → Spec Tryd.prog glob 33 [encT (t.put [a] 0), encT (u.put [a] 0)] [] (fun o _ => o.fgt = .ret (.bool true)) := fun h => by
      have := sameT_spec _ _ (put_ok (fun b hb => (hba b hb).1) 0 ht) (put_ok (fun b hb => (hba b hb).1) 0 hu)
      rw [same_put [a] h] at this
      exact this
    have V1 := levels_spec t bys hb hbo dt ht
    have V2 := levels_spec u bys hb hbo du hu
    have SD : t.sameB u = true → Spec Tryd.prog glob 33 [encT (t.levels bys 0), encT (u.levels bys 0)] [] (fun o _ => o.fgt = .ret (.bool true)) := fun h => by
      have := sameT_spec _ _ (levels_ok bys 0 ht) (levels_ok bys 0 hu)
      rw [same_levels bys h] at this
      exact this
    have Z3 := size_spec u hu
    have hz : t.sameB u = true → t.sz = u.sz := sz_same t u
    have SE := sameT_spec t t ht ht
    rw [T.same_refl] at SE
    have SF := same2_spec t u ht hu
    have hne : t.sameB u = false → t.eqB u = false := fun h => by
      rw [Bool.eq_false_iff]
      intro he
      rw [(T.eqB_iff _ _).1 he, T.same_refl] at h
      cases h
    have L5 := lift_spec t 0 0 dt ht
    rw [lift_zero ht 0] at L5
    have R1 := right_spec t ht
    generalize t.lift (n + m) fr 0 = y at L2 L3 S1
    generalize hX : t.lift n fr 0 = x at L1 L2 Z1 F1 F3 F5 SB
    generalize u.lift n fr 0 = x' at L4 SB
    generalize t.put [a] 0 = q1 at P1 SC
    generalize u.put [a] 0 = q2 at P2 SC
    generalize t.levels bys 0 = v1 at V1 SD
    generalize u.levels bys 0 = v2 at V2 SD
    generalize t.freeB fr 5000 0 = b1 at F2 F3
    generalize t.freeB 0 fr 0 = b2 at F4 F5
    generalize t.sz = z1 at Z1 Z2 hz
    generalize u.sz = z2 at Z3 hz
    generalize t.right = rr at R1
    generalize t.eqB u = eb at SF hne
    generalize hsb : t.sameB u = sb at SA SB SC SD hz hne
    have hEx := encT_eq x
    have L5' := L5
    have R1' := R1
    rw [hEt] at L1 L3 Z2 F2 F4 SA P1 V1 SE SF L5 R1
    rw [hEu] at SA L4 P2 V2 Z3 SF
    rw [hEa] at P1 P2
    rw [hEx] at L2 Z1 F1 F3 F5 SB
    unfold Lvs at V1 V2
    (refine wpD_seqk fun K hK => ?_; refine wpD_region tyOK ?_; ((try simp only [wpAft_ret, wpAft_pan, putS, updS, setS]); (repeat (rw [wpS_cons]; simp)); (try simp only [wpS_nil, thenD, blockD])))
    refine CallX.pure globPure (L1) ?_ (by simp [D.fgts, D.fgt]) (by simp [D.pures, D.pure, Cp.free, D.pures_map]) (by simp [Out.pure, D.pure, D.pures, Cp.free, D.pures_map])
    ((try simp only [wpAft_ret, wpAft_pan, putS, updS, setS]); (repeat (rw [wpS_cons]; simp)); (try simp only [wpS_nil, thenD, blockD]))
    (refine hK _ _ _ ?_; clear hK K)
    refine wpD_seqk fun K1 hK1 => ?_
    (refine wpD_seqk fun K hK => ?_; refine wpD_drawk tyOK (by kernel_rfl) (by kernel_rfl) fun KT hKT => ?_; ((try simp only [wpAftT_ret, wpAftT_pan, putS, updS, setS]); (repeat (rw [wpT_cons]; simp [w1, w2])); (try simp only [wpT_nil])))
    refine CallY.pure globPure (L2) ?_ (by simp [D.fgts, D.fgt]) (by simp [D.pures, D.pure, Cp.free, D.pures_map]) (by simp [Out.pure, D.pure, D.pures, Cp.free, D.pures_map])
    ((try simp only [wpAftT_ret, wpAftT_pan, putS, updS, setS]); (repeat (rw [wpT_cons]; simp [w1, w2, pairX])); (try simp only [wpT_nil]))
    refine CallY.pure globPure (L3) ?_ (by simp [D.fgts, D.fgt]) (by simp [D.pures, D.pure, Cp.free, D.pures_map]) (by simp [Out.pure, D.pure, D.pures, Cp.free, D.pures_map])
    ((try simp only [wpAftT_ret, wpAftT_pan, putS, updS, setS]); (repeat (rw [wpT_cons]; simp [w1, w2, pairX])); (try simp only [wpT_nil]))
    refine CallY.pure globPure (S1) ?_ (by simp [D.fgts, D.fgt]) (by simp [D.pures, D.pure, Cp.free, D.pures_map]) (by simp [Out.pure, D.pure, D.pures, Cp.free, D.pures_map])
    ((try simp only [wpAftT_ret, wpAftT_pan, putS, updS, setS]); (repeat (rw [wpT_cons]; simp [w1, w2, pairX])); (try simp only [wpT_nil]))
    refine CallY.pure globPure (Z1) ?_ (by simp [D.fgts, D.fgt]) (by simp [D.pures, D.pure, Cp.free, D.pures_map]) (by simp [Out.pure, D.pure, D.pures, Cp.free, D.pures_map])
    ((try simp only [wpAftT_ret, wpAftT_pan, putS, updS, setS]); (repeat (rw [wpT_cons]; simp [w1, w2, pairX])); (try simp only [wpT_nil]))
    refine CallY.pure globPure (Z2) ?_ (by simp [D.fgts, D.fgt]) (by simp [D.pures, D.pure, Cp.free, D.pures_map]) (by simp [Out.pure, D.pure, D.pures, Cp.free, D.pures_map])
    ((try simp only [wpAftT_ret, wpAftT_pan, putS, updS, setS]); (repeat (rw [wpT_cons]; simp [w1, w2, pairX])); (try simp only [wpT_nil]))
    refine CallY.pure globPure (F1) ?_ (by simp [D.fgts, D.fgt]) (by simp [D.pures, D.pure, Cp.free, D.pures_map]) (by simp [Out.pure, D.pure, D.pures, Cp.free, D.pures_map])
    ((try simp only [wpAftT_ret, wpAftT_pan, putS, updS, setS]); (repeat (rw [wpT_cons]; simp [w1, w2, pairX])); (try simp only [wpT_nil]))
    refine CallY.pure globPure (F2) ?_ (by simp [D.fgts, D.fgt]) (by simp [D.pures, D.pure, Cp.free, D.pures_map]) (by simp [Out.pure, D.pure, D.pures, Cp.free, D.pures_map])
    ((try simp only [wpAftT_ret, wpAftT_pan, putS, updS, setS]); (repeat (rw [wpT_cons]; simp [w1, w2, pairX])); (try simp only [wpT_nil]))
    refine CallY.pure globPure (F3) ?_ (by simp [D.fgts, D.fgt]) (by simp [D.pures, D.pure, Cp.free, D.pures_map]) (by simp [Out.pure, D.pure, D.pures, Cp.free, D.pures_map])
    ((try simp only [wpAftT_ret, wpAftT_pan, putS, updS, setS]); (repeat (rw [wpT_cons]; simp [w1, w2, pairX])); (try simp only [wpT_nil]))
    refine CallY.pure globPure (F4) ?_ (by simp [D.fgts, D.fgt]) (by simp [D.pures, D.pure, Cp.free, D.pures_map]) (by simp [Out.pure, D.pure, D.pures, Cp.free, D.pures_map])
    ((try simp only [wpAftT_ret, wpAftT_pan, putS, updS, setS]); (repeat (rw [wpT_cons]; simp [w1, w2, pairX])); (try simp only [wpT_nil]))
    refine CallY.pure globPure (F5) ?_ (by simp [D.fgts, D.fgt]) (by simp [D.pures, D.pure, Cp.free, D.pures_map]) (by simp [Out.pure, D.pure, D.pures, Cp.free, D.pures_map])
    ((try simp only [wpAftT_ret, wpAftT_pan, putS, updS, setS]); (repeat (rw [wpT_cons]; simp [w1, w2, pairX])); (try simp only [wpT_nil]))
    (refine hKT _ _ _ _ (by kernel_rfl) ?_; clear hKT KT; (try simp only [thenD, blockD]))
    (refine hK _ _ _ ?_; clear hK K)
    refine wpD_part rfl (fun h => by simp at h) (fun _ => ?_)
    refine wpD_skip (hK1 _ _ _ ?_)
    clear hK1 K1
    refine wpD_seqk fun K1 hK1 => ?_
    cases sb with
    | true =>
      have SB := SB rfl
      have SC := SC rfl
      have SD := SD rfl
      have hz := hz rfl
      subst hz
      (refine wpD_seqk fun K hK => ?_; refine wpD_region tyOK ?_; ((try simp only [wpAft_ret, wpAft_pan, putS, updS, setS]); (repeat (rw [wpS_cons]; simp)); (try simp only [wpS_nil, thenD, blockD])))
      refine CallX.pure globPure (SA) ?_ (by simp [D.fgts, D.fgt]) (by simp [D.pures, D.pure, Cp.free, D.pures_map]) (by simp [Out.pure, D.pure, D.pures, Cp.free, D.pures_map])
      ((try simp only [wpAft_ret, wpAft_pan, putS, updS, setS]); (repeat (rw [wpS_cons]; simp)); (try simp only [wpS_nil, thenD, blockD]))
      (refine hK _ _ _ ?_; clear hK K)
      refine wpD_part rfl (fun _ => ?_) (fun h => by simp at h)
      (refine wpD_seqk fun K hK => ?_; refine wpD_drawk tyOK (by kernel_rfl) (by kernel_rfl) fun KT hKT => ?_; ((try simp only [wpAftT_ret, wpAftT_pan, putS, updS, setS]); (repeat (rw [wpT_cons]; simp)); (try simp only [wpT_nil])))
      refine CallY.pure globPure (L4) ?_ (by simp [D.fgts, D.fgt]) (by simp [D.pures, D.pure, Cp.free, D.pures_map]) (by simp [Out.pure, D.pure, D.pures, Cp.free, D.pures_map])
      ((try simp only [wpAftT_ret, wpAftT_pan, putS, updS, setS]); (repeat (rw [wpT_cons]; simp)); (try simp only [wpT_nil]))
      refine CallY.pure globPure (SB) ?_ (by simp [D.fgts, D.fgt]) (by simp [D.pures, D.pure, Cp.free, D.pures_map]) (by simp [Out.pure, D.pure, D.pures, Cp.free, D.pures_map])
      ((try simp only [wpAftT_ret, wpAftT_pan, putS, updS, setS]); (repeat (rw [wpT_cons]; simp)); (try simp only [wpT_nil]))
      refine CallY.pure globPure (P1) ?_ (by simp [D.fgts, D.fgt]) (by simp [D.pures, D.pure, Cp.free, D.pures_map]) (by simp [Out.pure, D.pure, D.pures, Cp.free, D.pures_map])
      ((try simp only [wpAftT_ret, wpAftT_pan, putS, updS, setS]); (repeat (rw [wpT_cons]; simp)); (try simp only [wpT_nil]))
      refine CallY.pure globPure (P2) ?_ (by simp [D.fgts, D.fgt]) (by simp [D.pures, D.pure, Cp.free, D.pures_map]) (by simp [Out.pure, D.pure, D.pures, Cp.free, D.pures_map])
      ((try simp only [wpAftT_ret, wpAftT_pan, putS, updS, setS]); (repeat (rw [wpT_cons]; simp)); (try simp only [wpT_nil]))
      refine CallY.pure globPure (SC) ?_ (by simp [D.fgts, D.fgt]) (by simp [D.pures, D.pure, Cp.free, D.pures_map]) (by simp [Out.pure, D.pure, D.pures, Cp.free, D.pures_map])
      ((try simp only [wpAftT_ret, wpAftT_pan, putS, updS, setS]); (repeat (rw [wpT_cons]; simp)); (try simp only [wpT_nil]))
      refine CallY.pure globPure (V1) ?_ (by simp [D.fgts, D.fgt]) (by simp [D.pures, D.pure, Cp.free, D.pures_map]) (by simp [Out.pure, D.pure, D.pures, Cp.free, D.pures_map])
      ((try simp only [wpAftT_ret, wpAftT_pan, putS, updS, setS]); (repeat (rw [wpT_cons]; simp)); (try simp only [wpT_nil]))
      refine CallY.pure globPure (V2) ?_ (by simp [D.fgts, D.fgt]) (by simp [D.pures, D.pure, Cp.free, D.pures_map]) (by simp [Out.pure, D.pure, D.pures, Cp.free, D.pures_map])
      ((try simp only [wpAftT_ret, wpAftT_pan, putS, updS, setS]); (repeat (rw [wpT_cons]; simp)); (try simp only [wpT_nil]))
      refine CallY.pure globPure (SD) ?_ (by simp [D.fgts, D.fgt]) (by simp [D.pures, D.pure, Cp.free, D.pures_map]) (by simp [Out.pure, D.pure, D.pures, Cp.free, D.pures_map])
      ((try simp only [wpAftT_ret, wpAftT_pan, putS, updS, setS]); (repeat (rw [wpT_cons]; simp)); (try simp only [wpT_nil]))
      refine CallY.pure globPure (Z2) ?_ (by simp [D.fgts, D.fgt]) (by simp [D.pures, D.pure, Cp.free, D.pures_map]) (by simp [Out.pure, D.pure, D.pures, Cp.free, D.pures_map])
      ((try simp only [wpAftT_ret, wpAftT_pan, putS, updS, setS]); (repeat (rw [wpT_cons]; simp)); (try simp only [wpT_nil]))
      refine CallY.pure globPure (Z3) ?_ (by simp [D.fgts, D.fgt]) (by simp [D.pures, D.pure, Cp.free, D.pures_map]) (by simp [Out.pure, D.pure, D.pures, Cp.free, D.pures_map])
      ((try simp only [wpAftT_ret, wpAftT_pan, putS, updS, setS]); (repeat (rw [wpT_cons]; simp)); (try simp only [wpT_nil]))
      (refine hKT _ _ _ _ (by kernel_rfl) ?_; clear hKT KT; (try simp only [thenD, blockD]))
      (refine hK _ _ _ ?_; clear hK K)
      (refine wpD_ret ?_; (try simp only [thenD, blockD]); refine EndQ.ret rfl (.inl ?_); simp [tmOf, Out.fgt, D.fgt, D.fgts])
    | false =>
      have hne := hne rfl
      subst hne
      (refine wpD_seqk fun K hK => ?_; refine wpD_region tyOK ?_; ((try simp only [wpAft_ret, wpAft_pan, putS, updS, setS]); (repeat (rw [wpS_cons]; simp)); (try simp only [wpS_nil, thenD, blockD])))
      refine CallX.pure globPure (SA) ?_ (by simp [D.fgts, D.fgt]) (by simp [D.pures, D.pure, Cp.free, D.pures_map]) (by simp [Out.pure, D.pure, D.pures, Cp.free, D.pures_map])
      ((try simp only [wpAft_ret, wpAft_pan, putS, updS, setS]); (repeat (rw [wpS_cons]; simp)); (try simp only [wpS_nil, thenD, blockD]))
      (refine hK _ _ _ ?_; clear hK K)
      refine wpD_part rfl (fun h => by simp at h) (fun _ => ?_)
      refine wpD_skip (hK1 _ _ _ ?_)
      (refine wpD_seqk fun K hK => ?_; refine wpD_drawk tyOK (by kernel_rfl) (by kernel_rfl) fun KT hKT => ?_; ((try simp only [wpAftT_ret, wpAftT_pan, putS, updS, setS]); (repeat (rw [wpT_cons]; simp)); (try simp only [wpT_nil])))
      refine CallY.pure globPure (SE) ?_ (by simp [D.fgts, D.fgt]) (by simp [D.pures, D.pure, Cp.free, D.pures_map]) (by simp [Out.pure, D.pure, D.pures, Cp.free, D.pures_map])
      ((try simp only [wpAftT_ret, wpAftT_pan, putS, updS, setS]); (repeat (rw [wpT_cons]; simp [pairX])); (try simp only [wpT_nil]))
      refine CallY.pure globPure (SF) ?_ (by simp [D.fgts, D.fgt]) (by simp [D.pures, D.pure, Cp.free, D.pures_map]) (by simp [Out.pure, D.pure, D.pures, Cp.free, D.pures_map])
      ((try simp only [wpAftT_ret, wpAftT_pan, putS, updS, setS]); (repeat (rw [wpT_cons]; simp [pairX])); (try simp only [wpT_nil]))
      refine CallY.pure globPure (R1) ?_ (by simp [D.fgts, D.fgt]) (by simp [D.pures, D.pure, Cp.free, D.pures_map]) (by simp [Out.pure, D.pure, D.pures, Cp.free, D.pures_map])
      ((try simp only [wpAftT_ret, wpAftT_pan, putS, updS, setS]); (repeat (rw [wpT_cons]; simp [pairX])); (try simp only [wpT_nil]))
      refine CallY.pure globPure (L5) ?_ (by simp [D.fgts, D.fgt]) (by simp [D.pures, D.pure, Cp.free, D.pures_map]) (by simp [Out.pure, D.pure, D.pures, Cp.free, D.pures_map])
      ((try simp only [wpAftT_ret, wpAftT_pan, putS, updS, setS]); (repeat (rw [wpT_cons]; simp [pairX])); (try simp only [wpT_nil]))
      refine CallY.pure globPure (R1) ?_ (by simp [D.fgts, D.fgt, hEt]) (by simp [D.pures, D.pure, Cp.free, D.pures_map, hEt]) (by simp [Out.pure, D.pure, D.pures, Cp.free, D.pures_map, hEt])
      ((try simp only [wpAftT_ret, wpAftT_pan, putS, updS, setS]); (repeat (rw [wpT_cons]; simp [pairX])); (try simp only [wpT_nil]))
      (refine hKT _ _ _ _ (by kernel_rfl) ?_; clear hKT KT; (try simp only [thenD, blockD]))
      (refine hK _ _ _ ?_; clear hK K)
      (refine wpD_ret ?_; (try simp only [thenD, blockD]); refine EndQ.ret rfl (.inl ?_); simp [tmOf, Out.fgt, D.fgt, D.fgts])
end Go.Proofs.YtebmlojhdnldgaaDoor

namespace Go.Proofs.YtebmlojhdnldgaaDoor
open Go.RowKit
theorem bulk_one {H : Type} (d : DataW H) : 1 ≤ Rows.uptoBulk d := by
  cases d with
  | lit l => cases l <;> simp [Rows.uptoBulk]
  | nil => simp [Rows.uptoBulk]
  | ptr d => simp [Rows.uptoBulk]
  | slice elems spare => simp [Rows.uptoBulk]
  | agg parts => simp [Rows.uptoBulk]
  | iface t d => simp [Rows.uptoBulk]
  | map entries => simp [Rows.uptoBulk]
  | held h => simp [Rows.uptoBulk]
theorem bulk_part {H : Type} {d : DataW H} {l : List (DataW H)} (h : d ∈ l) : Rows.uptoBulk d ≤ Rows.uptoBulkAll l := by
  induction l with
  | nil => cases h
  | cons x r ih =>
    simp only [Rows.uptoBulkAll]
    cases List.mem_cons.1 h with
    | inl e => subst e; omega
    | inr e => have := ih e; omega
theorem bulk_len {H : Type} (l : List (DataW H)) : l.length ≤ Rows.uptoBulkAll l := by
  induction l with
  | nil => simp [Rows.uptoBulkAll]
  | cons x r ih => have := bulk_one x; simp only [Rows.uptoBulkAll, List.length_cons]; omega
theorem mapM_some {α β : Type} {f : α → Option β} : ∀ {l : List α} {xs : List β}, l.mapM f = some xs → xs.length = l.length ∧ ∀ i (h : i < l.length) (h' : i < xs.length), f l[i] = some xs[i] := by
  intro l
  induction l with
  | nil => intro xs h; simp at h; subst h; exact ⟨rfl, fun i h => absurd h (by simp)⟩
  | cons a r ih =>
    intro xs h
    rw [List.mapM_cons] at h
    cases ha : f a with
    | none => rw [ha] at h; simp at h
    | some b =>
      rw [ha] at h
      cases hr : r.mapM f with
      | none => rw [hr] at h; simp at h
      | some ys =>
        rw [hr] at h
        simp at h
        subst h
        obtain ⟨h1, h2⟩ := ih hr
        refine ⟨by simp [h1], fun i hi hi' => ?_⟩
        cases i with
        | zero => simpa using ha
        | succ i => simpa using h2 i (by simpa using hi) (by simpa using hi')
section
variable {H : Type} {enc : TypeId × Value → H} {P : Program} {w : World} {base : Nat} {sp : Nat → Bool} {held : Bool}
theorem trod_int {fuel : Nat} {t : TypeId} {cs : List Value} {d : DataW H} {ps : List MemPlace} (ht : P.underlying t = some (.int .i64)) (h : DataW.trod enc P w base sp held fuel t cs = some (d, ps)) : ∃ n, cs = [.int .i64 n] ∧ IntKind.i64.min ≤ n ∧ n ≤ IntKind.i64.max := by
  cases fuel with
  | zero => simp [DataW.trod] at h
  | succ fuel =>
    unfold DataW.trod at h
    rw [ht] at h
    rcases cs with _ | ⟨v, _ | ⟨v2, r⟩⟩
    · simp at h
    · cases v <;> simp at h
      rename_i k n
      obtain ⟨⟨rfl, hw⟩, -⟩ := h
      refine ⟨n, rfl, ?_⟩
      simp only [Lit.wf, Bool.and_eq_true, decide_eq_true_eq] at hw
      exact hw
    · simp at h
theorem cells_at {n : Nat} {a : Addr} {cs : List Value} (h : w.cells? base a n = some cs) (hn : 0 < n) : ∃ b o, a = ⟨b, o, none⟩ ∧ b < w.heap.size ∧ cs.length = n ∧ ∀ i u, cs[i]? = some u → w.cell? ⟨b, o + i, none⟩ = some u := by
  unfold World.cells? at h
  split at h
  · obtain ⟨h1, h2⟩ := mapM_some h
    simp only [List.length_range] at h1
    have hall : ∀ i, i < n → w.cell? (a.add i) = some (cs.getD i undef) := fun i hi => by
      have := h2 i (by simpa using hi) (by omega)
      simp only [List.getElem_range] at this
      rw [this]; simp [show i < cs.length by omega]
    have h0 := hall 0 hn
    rw [show a.add 0 = a from by simp [Addr.add]] at h0
    have hs : a.spot = none := by
      cases hsp : a.spot with
      | none => rfl
      | some x =>
        unfold World.cell? at h0
        rw [hsp] at h0
        split at h0 <;> simp at h0
    obtain ⟨b, o, s⟩ := a
    simp only at hs
    subst hs
    refine ⟨b, o, rfl, World.block_lt_of_cell? w _ h0, h1, fun i u hu => ?_⟩
    have hi : i < cs.length := (List.getElem?_eq_some_iff.1 hu).1
    have := hall i (by omega)
    have hadd : (⟨b, o, none⟩ : Addr).add i = ⟨b, o + i, none⟩ := by unfold Addr.add; split <;> simp_all
    rw [hadd] at this
    rw [this]
    simp [List.getD_eq_getElem?_getD, hu]
  · cases h
theorem trod_slice {fuel : Nat} {t e : TypeId} {cs : List Value} {d : DataW H} {ps : List MemPlace} (ht : P.underlying t = some (.slice e)) (h : DataW.trod enc P w base sp held fuel t cs = some (d, ps)) :
    cs = [.slice none 0 0] ∨ ∃ fuel' a len cap elems rest, fuel = fuel' + 1 ∧ cs = [.slice (some a) len cap] ∧ len ≤ cap ∧ cap ≤ maxLen ∧ d = .slice elems rest ∧ elems.length = len ∧
      ∀ i (hi : i < elems.length), ∃ ecs p, w.cells? base (a.add (i * P.cellsOf e)) (P.cellsOf e) = some ecs ∧ DataW.trod enc P w base sp held fuel' e ecs = some (elems[i], p) := by
  cases fuel with
  | zero => simp [DataW.trod] at h
  | succ fuel =>
    unfold DataW.trod at h
    rw [ht] at h
    rcases cs with _ | ⟨v, _ | ⟨v2, r⟩⟩
    · simp at h
    rotate_left
    · simp at h
    cases v <;> try (simp at h; done)
    rename_i ao len cap
    cases ao with
    | none =>
      left
      rcases len with _ | len
      · rcases cap with _ | cap
        · rfl
        · simp at h
      · simp at h
    | some a =>
    right
    dsimp only at h
    split at h
    · rename_i hc
      cases hm : (List.range len).mapM fun i => (w.cells? base (a.add (i * P.cellsOf e)) (P.cellsOf e)).bind (DataW.trod enc P w base sp held fuel e) with
      | none => rw [hm] at h; simp at h
      | some xs =>
        rw [hm] at h
        simp only [Option.bind_some] at h
        obtain ⟨h2, h3⟩ := mapM_some hm
        simp only [List.length_range] at h2
        rw [Option.map_eq_some_iff] at h
        obtain ⟨rest, -, h4⟩ := h
        simp only [Prod.mk.injEq] at h4
        refine ⟨fuel, a, len, cap, xs.map (·.1), rest.map (·.1), rfl, rfl, hc.2.1, hc.2.2, h4.1.symm, by simpa using h2, fun i hi => ?_⟩
        have hi' : i < xs.length := by simpa using hi
        have := h3 i (by simp; omega) hi'
        simp only [List.getElem_range] at this
        rw [Option.bind_eq_some_iff] at this
        obtain ⟨ecs, e1, e2⟩ := this
        exact ⟨ecs, (xs[i]).2, e1, by simpa using e2⟩
    · cases h
theorem trod_struct {fuel : Nat} {t : TypeId} {fs : Array Field} {cs : List Value} {d : DataW H} {ps : List MemPlace} (ht : P.underlying t = some (.struct fs)) (h : DataW.trod enc P w base sp held fuel t cs = some (d, ps)) :
    ∃ fuel' ds, fuel = fuel' + 1 ∧ cs.length = P.cellsOf t ∧ d = .agg ds ∧ ds.length = fs.toList.length ∧ ∀ i (hi : i < fs.toList.length) (hi' : i < ds.length), ∃ p, DataW.trod enc P w base sp held fuel' (fs.toList[i]).type ((cs.drop (fs.toList[i]).offset).take (P.cellsOf (fs.toList[i]).type)) = some (ds[i], p) := by
  cases fuel with
  | zero => simp [DataW.trod] at h
  | succ fuel =>
    unfold DataW.trod at h
    rw [ht] at h
    dsimp only at h
    split at h
    · rename_i hl
      rw [Option.map_eq_some_iff] at h
      obtain ⟨xs, hm, h4⟩ := h
      simp only [Prod.mk.injEq] at h4
      obtain ⟨h2, h3⟩ := mapM_some hm
      refine ⟨fuel, xs.map (·.1), rfl, hl, h4.1.symm, by simpa using h2, fun i hi hi' => ?_⟩
      have hi2 : i < xs.length := by simpa using hi'
      exact ⟨(xs[i]).2, by simpa using h3 i hi hi2⟩
    · cases h
end
theorem len1 {l : List Value} (h : l.length = 1) : ∃ a, l = [a] := by
  rcases l with _ | ⟨a, _ | ⟨b, r⟩⟩
  · cases h
  · exact ⟨a, rfl⟩
  · simp at h
theorem len2 {l : List Value} (h : l.length = 2) : ∃ a b, l = [a, b] := by
  rcases l with _ | ⟨a, r⟩
  · cases h
  · obtain ⟨b, rfl⟩ := len1 (l := r) (by simpa using h)
    exact ⟨a, b, rfl⟩
theorem len5 {l : List Value} (h : l.length = 5) : ∃ a b c d e, l = [a, b, c, d, e] := by
  rcases l with _ | ⟨a, _ | ⟨b, _ | ⟨c, r⟩⟩⟩
  · cases h
  · simp at h
  · simp at h
  · obtain ⟨d, e, rfl⟩ := len2 (l := r) (by simpa using h)
    exact ⟨a, b, c, d, e, rfl⟩
theorem trod_fields {H : Type} {enc : TypeId × Value → H} {P : Program} {w : World} {base : Nat} {sp : Nat → Bool} {held : Bool} {fuel : Nat} {t : TypeId} {fs : Array Field} {cs : List Value} {d : DataW H} {ps : List MemPlace} {l : List (TypeId × Nat)} (ht : P.underlying t = some (.struct fs)) (hl : fs.toList.map (fun f => (f.type, f.offset)) = l)
    (h : DataW.trod enc P w base sp held fuel t cs = some (d, ps)) :
    cs.length = P.cellsOf t ∧ ∀ (i : Nat) ti oi, l[i]? = some (ti, oi) → ∃ f di p, f < fuel ∧ Rows.uptoBulk di < Rows.uptoBulk d ∧ DataW.trod enc P w base sp held f ti ((cs.drop oi).take (P.cellsOf ti)) = some (di, p) := by
  obtain ⟨fuel', ds, rfl, h1, rfl, h3, h4⟩ := trod_struct ht h
  refine ⟨h1, fun i ti oi hi => ?_⟩
  rw [← hl, List.getElem?_map, Option.map_eq_some_iff] at hi
  obtain ⟨f, hf, he⟩ := hi
  obtain ⟨hlt, rfl⟩ := List.getElem?_eq_some_iff.1 hf
  simp only [Prod.mk.injEq] at he
  obtain ⟨rfl, rfl⟩ := he
  obtain ⟨p, hp⟩ := h4 i hlt (by omega)
  refine ⟨fuel', _, p, by omega, ?_, hp⟩
  have := bulk_part (List.getElem_mem (l := ds) (n := i) (by omega))
  simp only [Rows.uptoBulk]; omega
/-- before the call: all stays -/
def rho0 : Rho := ⟨fun _ => none, fun _ => none⟩
theorem cellAt0 {w : World} {b o : Nat} {v : Value} (h : w.cell? ⟨b, o, none⟩ = some v) (h1 : v.oneCell' = true) : cellAt rho0 w b o v := ⟨(fun k hk => nomatch hk), h, h1⟩
theorem RpC_mk {w : World} : ∀ {ds : List D} {cs : List Value} {b o : Nat}, RpL rho0 w ds cs → ds.all D.one = true → (∀ i u, cs[i]? = some u → w.cell? ⟨b, o + i, none⟩ = some u) → RpC rho0 w ds b o
  | [], _, _, _, _, _, _ => by rw [RpC]; trivial
  | d :: r, cs, b, o, h, h1, h2 => by
    rw [RpL] at h
    obtain ⟨v, us, rfl, hv, hr⟩ := h
    rw [List.all_cons, Bool.and_eq_true] at h1
    rw [RpC]
    refine ⟨⟨v, cellAt0 (h2 0 v rfl) (D.one_cell h1.1 hv), hv⟩, RpC_mk hr h1.2 fun i u hu => ?_⟩
    have := h2 (i + 1) u (by simpa using hu)
    rwa [show o + 1 + i = o + (i + 1) by omega]
theorem RpE_mk {w : World} {sz : Nat} : ∀ {els : List D} {b o : Nat}, (∀ e, e ∈ els → e.size = sz ∧ e.cells.all D.one = true) → (∀ i (hi : i < els.length), ∃ cs, RpL rho0 w els[i].cells cs ∧ ∀ j u, cs[j]? = some u → w.cell? ⟨b, o + i * sz + j, none⟩ = some u) → RpE rho0 w els b o
  | [], _, _, _, _ => by rw [RpE]; trivial
  | e :: r, b, o, h, hi => by
    obtain ⟨he, ho⟩ := h e (List.mem_cons_self ..)
    obtain ⟨cs, hc, ha⟩ := hi 0 (by simp)
    have hr : RpE rho0 w r b (o + sz) := RpE_mk (fun x hx => h x (List.mem_cons_of_mem _ hx)) fun i hlt => by
      obtain ⟨cs, h1, h2⟩ := hi (i + 1) (by simpa using hlt)
      refine ⟨cs, by simpa using h1, fun j u hu => ?_⟩
      have := h2 j u hu
      rwa [show o + (i + 1) * sz + j = o + sz + i * sz + j by rw [Nat.add_mul]; omega] at this
    have ha' : ∀ j u, cs[j]? = some u → w.cell? ⟨b, o + j, none⟩ = some u := fun j u hu => by
      have := ha j u hu
      rwa [Nat.zero_mul, Nat.add_zero] at this
    have key : RpC rho0 w e.cells b o := RpC_mk (by simpa using hc) ho ha'
    cases e with
    | agg ds =>
      rw [RpE]
      rw [show o + ds.length = o + sz by rw [← he]; rfl]
      exact ⟨key, hr⟩
    | _ =>
      rw [RpE]
      · have h1 : sz = 1 := he.symm
        rw [h1] at hr
        simp only [D.cells] at key
        rw [RpC] at key
        exact ⟨key.1, hr⟩
      · intro ds hds; cases hds
section
variable {H : Type} {enc : TypeId × Value → H} {w : World} {base : Nat} {sp : Nat → Bool} {held : Bool}
/-- how a slice reads whose elements can be read -/
theorem open_sl {α : Type} (en : α → D) {t e : TypeId} {sz : Nat} (ht : Tryd.prog.underlying t = some (.slice e)) (he : Tryd.prog.cellsOf e = sz) (hsz : 0 < sz) (hes : ∀ x, (en x).size = sz ∧ (en x).cells.all D.one = true) (M : Nat → α → Prop) {fuel : Nat} {cs : List Value} {d : DataW H} {ps : List MemPlace} (hb : Rows.uptoBulk d ≤ 1048576)
    (hE : ∀ f ecs de p, f < fuel → Rows.uptoBulk de < Rows.uptoBulk d → DataW.trod enc Tryd.prog w base sp held f e ecs = some (de, p) → ∃ x, RpL rho0 w (en x).cells ecs ∧ M (Rows.uptoBulk de) x) (hM : ∀ x m n, m ≤ n → M m x → M n x)
    (h : DataW.trod enc Tryd.prog w base sp held fuel t cs = some (d, ps)) : ∃ (v : Value) (xs : List α), cs = [v] ∧ Rp rho0 w (.slice (xs.map en) .any) v ∧ xs.length < Rows.uptoBulk d + 1 ∧ ∀ x, x ∈ xs → M (Rows.uptoBulk d - 1) x := by
  rcases trod_slice ht h with rfl | ⟨fuel', a, len, cap, elems, rest, rfl, rfl, h1, h2, rfl, h3, h4⟩
  · refine ⟨_, [], rfl, ?_, by simp, (fun x hx => nomatch hx)⟩
    rw [Rp]
    exact ⟨none, 0, sz, rfl, by simp, by simp, by simp, (fun e he => nomatch he), trivial, fun h => absurd rfl h⟩
  · have hlen : elems.length + 1 ≤ Rows.uptoBulk (.slice elems rest) := by
      have := bulk_len elems
      simp only [Rows.uptoBulk]; omega
    have key : ∀ i (hi : i < elems.length), ∃ x ecs, w.cells? base (a.add (i * sz)) sz = some ecs ∧ RpL rho0 w (en x).cells ecs ∧ M (Rows.uptoBulk (DataW.slice elems rest) - 1) x := fun i hi => by
      obtain ⟨ecs, p, h5, h6⟩ := h4 i hi
      have hlt : Rows.uptoBulk elems[i] < Rows.uptoBulk (.slice elems rest) := by
        have := bulk_part (List.getElem_mem (l := elems) hi)
        simp only [Rows.uptoBulk]; omega
      obtain ⟨x, h7, h8⟩ := hE fuel' ecs elems[i] p (by omega) hlt h6
      exact ⟨x, ecs, by rw [← he]; exact h5, h7, hM _ _ _ (by omega) h8⟩
    let xs : List α := List.ofFn (n := elems.length) fun i => (key i.1 i.2).choose
    have hxl : xs.length = elems.length := by simp [xs]
    have hget : ∀ i (hi : i < elems.length), xs[i]? = some (key i hi).choose := fun i hi => by simp [xs, List.getElem?_ofFn, hi]
    refine ⟨_, xs, rfl, ?_, by omega, ?_⟩
    · rw [Rp]
      refine ⟨some a, cap, sz, by rw [List.length_map, hxl, h3], by rw [List.length_map]; omega, h2, by rw [List.length_map]; unfold LMax; omega, fun e he => ?_, trivial, fun hne => ?_⟩
      · obtain ⟨x, -, rfl⟩ := List.mem_map.1 he
        exact (hes x).1
      · have h0 : 0 < elems.length := by
          rcases Nat.eq_zero_or_pos elems.length with h | h
          · exact absurd (List.eq_nil_of_length_eq_zero (by rw [List.length_map]; omega)) hne
          · exact h
        obtain ⟨ecs0, c0, -⟩ := (key 0 h0).choose_spec
        rw [show a.add (0 * sz) = a from by simp [Addr.add]] at c0
        obtain ⟨b, o, rfl, hlt, -, -⟩ := cells_at c0 hsz
        refine ⟨b, o, rfl, RpE_mk (sz := sz) (fun e he => ?_) fun i hi => ?_⟩
        · obtain ⟨x, -, rfl⟩ := List.mem_map.1 he
          exact hes x
        · have hi' : i < elems.length := by rw [List.length_map] at hi; omega
          have hx := hget i hi'
          have hx' : (xs.map en)[i] = en (key i hi').choose := by
            rw [List.getElem_map]
            have := List.getElem?_eq_some_iff.1 hx
            exact congrArg en this.2
          rw [hx']
          obtain ⟨ecs, c1, c2, -⟩ := (key i hi').choose_spec
          have hadd : (⟨b, o, none⟩ : Addr).add (i * sz) = ⟨b, o + i * sz, none⟩ := by unfold Addr.add; split <;> simp_all
          rw [hadd] at c1
          obtain ⟨b', o', e, -, c3, c4⟩ := cells_at c1 hsz
          simp only [Addr.mk.injEq, and_true] at e
          obtain ⟨rfl, rfl⟩ := e
          exact ⟨ecs, c2, c4⟩
    · intro x hx
      obtain ⟨i, hi, rfl⟩ := List.getElem_of_mem hx
      have hi' : i < elems.length := by rw [← hxl]; exact hi
      have := hget i hi'
      rw [List.getElem?_eq_getElem hi] at this
      simp only [Option.some.injEq] at this
      rw [this]
      obtain ⟨-, -, -, c⟩ := (key i hi').choose_spec
      exact c
theorem part_under : Tryd.prog.underlying 74 = some (.struct (Tryd.prog.fieldsOf 74)) := by kernel_rfl
theorem level_under : Tryd.prog.underlying 30 = some (.struct (Tryd.prog.fieldsOf 30)) := by kernel_rfl
theorem open_part {fuel : Nat} {cs : List Value} {d : DataW H} {ps : List MemPlace} (h : DataW.trod enc Tryd.prog w base sp held fuel 74 cs = some (d, ps)) : ∃ p : Int × Int, RpL rho0 w (encP p).cells cs := by
  obtain ⟨h1, h2⟩ := trod_fields (l := [(3, 0), (3, 1)]) part_under (by kernel_rfl) h
  rw [show Tryd.prog.cellsOf 74 = 2 from by kernel_rfl] at h1
  obtain ⟨f0, d0, p0, -, -, e0⟩ := h2 0 _ _ rfl
  obtain ⟨f1, d1, p1, -, -, e1⟩ := h2 1 _ _ rfl
  rw [show Tryd.prog.cellsOf 3 = 1 from by kernel_rfl] at e0 e1
  obtain ⟨c0, c1, rfl⟩ := len2 h1
  obtain ⟨n0, k0, b0⟩ := trod_int Tryd.underlying3 e0
  obtain ⟨n1, k1, b1⟩ := trod_int Tryd.underlying3 e1
  simp at k0 k1
  subst k0; subst k1
  refine ⟨(n0, n1), ?_⟩
  show RpL rho0 w [.int .i64 n0, .int .i64 n1] _
  simp only [RpL, Rp]
  exact ⟨_, _, rfl, ⟨rfl, b0⟩, _, _, rfl, ⟨rfl, b1⟩, rfl⟩
theorem open_level {fuel : Nat} {cs : List Value} {d : DataW H} {ps : List MemPlace} (hb : Rows.uptoBulk d ≤ 1048576) (h : DataW.trod enc Tryd.prog w base sp held fuel 30 cs = some (d, ps)) : ∃ l : LV, RpL rho0 w (encL l).cells cs ∧ l.length ≤ Rows.uptoBulk d := by
  obtain ⟨h1, h2⟩ := trod_fields (l := [(28, 0)]) level_under (by kernel_rfl) h
  rw [show Tryd.prog.cellsOf 30 = 1 from by kernel_rfl] at h1
  obtain ⟨f0, d0, p0, -, hb0, e0⟩ := h2 0 _ _ rfl
  rw [show Tryd.prog.cellsOf 28 = 1 from by kernel_rfl] at e0
  obtain ⟨c0, rfl⟩ := len1 h1
  obtain ⟨v, xs, k0, hs, hl, -⟩ := open_sl encP (sz := 2) Tryd.underlying28 (by kernel_rfl) (by omega) (fun x => ⟨rfl, rfl⟩) (fun _ _ => True) (by omega) (fun f ecs de p _ _ he => (open_part he).imp fun _ h => ⟨h, trivial⟩) (fun _ _ _ _ h => h) e0
  simp at k0
  subst k0
  refine ⟨xs, ?_, by omega⟩
  show RpL rho0 w [.slice (xs.map encP) .any] _
  rw [RpL]
  exact ⟨_, [], rfl, hs, by rw [RpL]⟩
theorem open_levels {fuel : Nat} {cs : List Value} {d : DataW H} {ps : List MemPlace} (hb : Rows.uptoBulk d ≤ 1048576) (h : DataW.trod enc Tryd.prog w base sp held fuel 24 cs = some (d, ps)) : ∃ v ls, cs = [v] ∧ Rp rho0 w (Lvs ls) v ∧ ls.length ≤ 1048576 ∧ ∀ l, l ∈ ls → l.length ≤ 1048576 := by
  obtain ⟨v, xs, k0, hs, hl, hm⟩ := open_sl encL (sz := 1) Tryd.underlying24 (by kernel_rfl) (by omega) (fun x => ⟨rfl, rfl⟩) (fun m l => l.length ≤ m) hb (fun f ecs de p _ hlt he => open_level (by omega) he) (fun _ _ _ h1 h2 => Nat.le_trans h2 h1) h
  exact ⟨v, xs, k0, hs, by omega, fun l hl => by have := hm l hl; omega⟩
theorem open_ints {fuel : Nat} {cs : List Value} {d : DataW H} {ps : List MemPlace} (hb : Rows.uptoBulk d ≤ 1048576) (h : DataW.trod enc Tryd.prog w base sp held fuel 66 cs = some (d, ps)) : ∃ v ns, cs = [v] ∧ Rp rho0 w (Ints ns) v ∧ ns.length ≤ 1048576 := by
  obtain ⟨v, xs, k0, hs, hl, hm⟩ := open_sl (D.int .i64) (sz := 1) Tryd.underlying66 (by kernel_rfl) (by omega) (fun x => ⟨rfl, rfl⟩) (fun _ _ => True) hb (fun f ecs de p _ hlt he => by
    obtain ⟨n, rfl, hn⟩ := trod_int Tryd.underlying3 he
    refine ⟨n, ?_, trivial⟩
    show RpL rho0 w [.int .i64 n] _
    simp only [RpL, Rp]
    exact ⟨_, _, rfl, ⟨rfl, hn⟩, rfl⟩) (fun _ _ _ _ h => h) h
  exact ⟨v, xs, k0, hs, by omega⟩
end
end Go.Proofs.YtebmlojhdnldgaaDoor

namespace Go.Proofs.YtebmlojhdnldgaaDoor
open Go.RowKit Go.WideShapes Go.ChangeShapes
theorem ex_below {w w' : World} {ρ' : Rho} {H : Nat → HO} (h : Ex rho0 w (hOf []) ρ' w' H) : Below w.heap.size w w' :=
  ⟨h.grow.os, h.grow.tape, h.grow.output, h.grow.size, fun k hk => (h.grow.whole k hk rfl).2⟩
theorem laidOut : laidOutB Tryd.prog = true := by kernel_rfl
section
variable {H : Type} {enc : TypeId × Value → H} {P : Program}
theorem trodAll_stays (hl : laidOutB P = true) {W W' : World} {sp : Nat → Bool} (hb : Below W.heap.size W W') : ∀ (ts : List TypeId) (vs : List Value) (ds : List (DataW H)) (ps : List MemPlace), (∀ t, t ∈ ts → P.readableRec t = true ∧ t < P.types.size) →
    DataW.TrodAll enc P W 0 (fun _ => true) true ts vs ds ps → (∀ x ∈ ps, x.block < W.heap.size) → (∀ x ∈ ps, sp x.block = true) → DataW.TrodAll enc P W' 0 sp true ts vs ds ps
  | [], [], [], ps, _, h, _, _ => h
  | t :: ts, v :: vs, d :: ds, ps, ht, h, hlt, hsp => by
    obtain ⟨p, q, h1, h2, rfl⟩ := h
    obtain ⟨r1, r2⟩ := ht t List.mem_cons_self
    exact ⟨p, q, WideElems.Trod_stays hl r1 r2 h1 (fun x hx => hb.same (hlt x (List.mem_append_left _ hx))) (fun x hx => hsp x (List.mem_append_left _ hx)),
      trodAll_stays hl hb ts vs ds q (fun t h => ht t (List.mem_cons_of_mem _ h)) h2 (fun x hx => hlt x (List.mem_append_right _ hx)) (fun x hx => hsp x (List.mem_append_right _ hx)), rfl⟩
  | [], [], _ :: _, _, _, h, _, _ => h.elim
  | [], _ :: _, _, _, _, h, _, _ => h.elim
  | _ :: _, [], _, _, _, h, _, _ => h.elim
  | _ :: _, _ :: _, [], _, _, h, _, _ => h.elim
theorem post_of_below {f : Func} {s : ChangeSpec} {apart fresh handsOn again : Bool} {W W' : World} {args : Array Value} {v : Value} {ds gs : List (DataW H)} {before pa pv : List MemPlace}
    (hW : DataW.Whole enc P f.params.toList s.vars apart W args.toList ds gs before)
    (hres : ∀ (b : Nat) (sp : Nat → Bool) (hd : Bool), DataW.TrodAll enc P W' b sp hd f.resultTypes.toList (v.resultList f.resultTypes.size) (s.fn H (ds ++ gs)).results [])
    (hargs : ∀ sp : Nat → Bool, (∀ p ∈ before, sp p.block = true) → DataW.TrodAll enc P W' 0 sp true f.params.toList args.toList (s.fn H (ds ++ gs)).args pa)
    (hvars : ∀ sp : Nat → Bool, (∀ p ∈ before, sp p.block = true) → DataW.TrodVars enc P W' sp s.vars (s.fn H (ds ++ gs)).vars pv)
    (hps : before = pa ++ pv) (hb : Below W.heap.size W W')
    (hok : ∀ (j : Nat) (t : TypeId) (r : Value), f.resultTypes[j]? = some t → (v.resultList f.resultTypes.size)[j]? = some r → Value.okWide P W' .any 0 t r) :
    s.post enc P f apart fresh handsOn again W args v W' := by
  have hlt : ∀ p ∈ before, p.block < W.heap.size := fun p hp => hW.lt p hp
  have hold : ∀ p ∈ before, (fun b => decide (b < W.heap.size)) p.block = true := fun p hp => by simpa using hlt p hp
  refine ⟨ds, gs, before, [], pa, pv, hW, hres _ _ _, hargs _ hold, hvars _ hold, World.keptBut_mono (fun p hp => ⟨hp, ?_⟩) (hb.frame (· ∈ before)), fun _ => ?_⟩
  · rw [hps, List.mem_append] at hp
    exact Or.inr hp
  · obtain ⟨_, _, _, _, _, hz, hn⟩ := hW
    refine ⟨hok, _, _, ([] ++ pa) ++ pv, ⟨[] ++ pa, pv, trodAll_append (hargs _ (fun _ _ => rfl)) (hres _ _ _), hvars _ (fun _ _ => rfl), rfl, ?_, ?_⟩, ?_⟩
    · intro b off hp
      have hin : MemPlace.cell b off ∈ before := by rw [hps]; simpa using hp
      rw [hb.frozen (hlt _ hin)]
      exact hz b off hin
    · intro ha
      have := hn ha
      rw [hps] at this
      simpa using this
    · intro p hp _
      rw [hps]
      simpa using hp
/-- the row's end: true is told, memory has grown -/
theorem post_law {f : Func} {s : ChangeSpec} {apart fresh handsOn again : Bool} {W W' : World} {args : Array Value} {ds gs : List (DataW H)} {before : List MemPlace} {tb : TypeId} (hl : laidOutB P = true) (htb : P.underlying tb = some .bool) (hrt : f.resultTypes = #[tb]) (hsv : s.vars = [])
    (hts : ∀ t, t ∈ f.params.toList → P.readableRec t = true ∧ t < P.types.size) (hW : DataW.Whole enc P f.params.toList s.vars apart W args.toList ds gs before) (hs : gs = [] → s.fn H (ds ++ gs) = { results := [.lit (.bool true)], args := ds }) (hb : Below W.heap.size W W') :
    s.post enc P f apart fresh handsOn again W args (.bool true) W' := by
  have hW' := hW
  obtain ⟨p, q, hA, hV, hbf, -, -⟩ := hW
  rw [hsv] at hV
  obtain ⟨rfl, rfl⟩ := trodVars_none hV
  have hs' := hs rfl
  have hlt : ∀ x ∈ p, x.block < W.heap.size := fun x hx => hW'.lt x (by rw [hbf]; simpa using hx)
  refine post_of_below (pa := p) (pv := []) hW' (fun b sp hd => ?_) (fun sp hsp => ?_) (fun sp hsp => ?_) (by rw [hbf]) hb ?_
  · rw [hrt, hs']
    exact trodAll_cons_mk (shut_bool htb _) trodAll_mk0
  · rw [hs']
    exact trodAll_stays hl hb _ _ _ _ hts hA hlt (fun x hx => hsp x (by rw [hbf]; simpa using hx))
  · rw [hs', hsv]; rfl
  · exact ok_one hrt rfl (okWide_bool_mk htb _)
/-! an argument -/
theorem arg_agg {W : World} {base : Nat} {t : TypeId} {v : Value} {fs : Array Field} (ht : P.underlying t = some (.struct fs)) (h : Value.okWide P W .any base t v) : ∃ cs : Array Value, v = .agg cs := by
  unfold Value.okWide at h
  rw [ht] at h
  obtain ⟨cs, h, -⟩ := h
  exact ⟨cs, h⟩
end
section
variable {H : Type} {enc : TypeId × Value → H} {W : World} {base b0 : Nat} {sp : Nat → Bool} {held : Bool} {v : Value} {d : DataW H} {p : List MemPlace}
set_option maxRecDepth 100000 in
theorem arg_level (hk : Rows.uptoBulk d ≤ 1048576) (hv : Value.okWide Tryd.prog W .any base 30 v) (h : DataW.Trod enc Tryd.prog W b0 sp held 30 v d p) : ∃ l : LV, Rp rho0 W (encL l) v ∧ l.length ≤ 1048576 := by
  obtain ⟨cs, rfl⟩ := arg_agg level_under hv
  obtain ⟨fuel, hf⟩ := h
  obtain ⟨l, hl, hn⟩ := open_level hk hf
  refine ⟨l, ?_, by omega⟩
  unfold encL at hl ⊢
  rw [Rp]
  exact ⟨_, (by cases cs; rfl), hl⟩
set_option maxRecDepth 100000 in
theorem arg_levels (hk : Rows.uptoBulk d ≤ 1048576) (hv : Value.okWide Tryd.prog W .any base 24 v) (h : DataW.Trod enc Tryd.prog W b0 sp held 24 v d p) : ∃ ls : List LV, Rp rho0 W (Lvs ls) v ∧ ls.length ≤ 1048576 ∧ ∀ l, l ∈ ls → l.length ≤ 1048576 := by
  obtain ⟨a, len, cap, rfl⟩ := okWide_slice Tryd.underlying24 hv
  obtain ⟨fuel, hf⟩ := h
  obtain ⟨v', ls, he, hr, hl, hm⟩ := open_levels hk hf
  have : v' = .slice a len cap := by
    have : ([Value.slice a len cap] : List Value) = [v'] := he
    simpa using this.symm
  subst this
  exact ⟨ls, hr, hl, hm⟩
set_option maxRecDepth 100000 in
theorem arg_ints (hk : Rows.uptoBulk d ≤ 1048576) (hv : Value.okWide Tryd.prog W .any base 66 v) (h : DataW.Trod enc Tryd.prog W b0 sp held 66 v d p) : ∃ ns : List Int, Rp rho0 W (Ints ns) v ∧ ns.length ≤ 1048576 := by
  obtain ⟨a, len, cap, rfl⟩ := okWide_slice Tryd.underlying66 hv
  obtain ⟨fuel, hf⟩ := h
  obtain ⟨v', ns, he, hr, hl⟩ := open_ints hk hf
  have : v' = .slice a len cap := by
    have : ([Value.slice a len cap] : List Value) = [v'] := he
    simpa using this.symm
  subst this
  exact ⟨ns, hr, hl⟩
end
end Go.Proofs.YtebmlojhdnldgaaDoor

namespace Go.Proofs.YtebmlojhdnldgaaDoor
set_option linter.unusedSimpArgs false
set_option linter.unusedVariables false
open Go.RowKit
/-- a constant: how many levels, its type, its body if it has one -/
structure C where
  lv : Int
  ty : T
  has : Bool
  bo : T
def zeroT : T := .mk 0 0 0 [] []
def T.kid (t : T) (i : Nat) : T := t.ks.getD i zeroT
def withK (ks : List T) (x : T) (i many : Nat) : List T := (List.range many).map fun j => if j = i then x else ks.getD j zeroT
def T.withT (t x : T) (i many : Nat) : T := .mk t.k t.n t.a t.ls (withK t.ks x i many)
def ofT (k : Int) (ks : List T) : T := .mk k 0 0 [] ks
/-- the place that decides, how many kids -/
def spot (t : T) : Option (Nat × Nat) :=
  if t.k = 6 then some (0, 2) else if t.k = 14 ∨ t.k = 15 then some (0, 1) else if t.k = 18 then some (4, 5) else if t.k = 21 then some (5, 6)
  else if t.k = 24 ∧ 0 ≤ t.a ∧ (t.ks.length : Int) - 2 = t.a then some (t.a.toNat + 1, t.a.toNat + 2) else none
mutual
/-- how many nodes -/
def T.nsz : T → Nat
  | .mk _ _ _ _ ks => 1 + T.nszs ks
def T.nszs : List T → Nat
  | [] => 0
  | t :: r => T.nsz t + T.nszs r
end
mutual
/-- how many nodes, one of so many put for a variable -/
def T.sd (many : Nat) : T → Int → Nat
  | .mk k n _ _ ks, b => if k = 1 ∧ n = b then many else 1 + T.sds many k ks 0 b
def T.sds (many : Nat) (k : Int) : List T → Nat → Int → Nat
  | [], _, _ => 0
  | t :: r, i, b => T.sd many t (belowD b k i) + T.sds many k r (i + 1) b
end
def bodyC (l : List C) (num : Int) (lv : List LV) : Option T :=
  if h : 0 ≤ num ∧ num.toNat < l.length then if (l[num.toNat]'h.2).lv = lv.length ∧ (l[num.toNat]'h.2).has = true then some ((l[num.toNat]'h.2).bo.levels lv 0) else none else none
def treeT (t s : T) : T :=
  let a := s.kid 0
  let f := s.kid 1
  let rest := ofT 18 [(t.kid 0).lift 1 0 0, (t.kid 1).lift 1 1 0, (t.kid 2).lift 1 0 0, (t.kid 3).lift 1 0 0, ofT 6 [f.lift 1 0 0, ofT 1 []]]
  ofT 6 [ofT 6 [ofT 6 [t.kid 3, a], f], ofT 5 [(t.kid 1).put [a] 0, rest]]
def treeN (t s : T) : Nat :=
  let a := s.kid 0
  let f := s.kid 1
  7 + (a.nsz + f.nsz + f.nsz + (t.kid 3).nsz + (t.kid 3).nsz + (t.kid 0).nsz + (t.kid 1).nsz + (t.kid 2).nsz) + (t.kid 1).sd a.nsz 0
/-- a term's own step, its place at its head -/
def ownS (l : List C) (t x : T) : Option (T × Nat) :=
  if t.k = 6 then if x.k = 5 then some ((x.kid 1).put [t.kid 1] 0, (x.kid 1).sd (t.kid 1).nsz 0) else none
  else if t.k = 14 ∨ t.k = 15 then if x.k = 13 then some (x.kid (if t.k = 15 then 1 else 0), (x.kid (if t.k = 15 then 1 else 0)).nsz) else none
  else if t.k = 7 then some ((t.kid 2).put [t.kid 1] 0, (t.kid 2).sd (t.kid 1).nsz 0)
  else if t.k = 3 then (bodyC l t.n t.ls).map fun b => (b, b.nsz)
  else if t.k = 18 then if x.k = 17 then some (treeT t x, treeN t x) else none
  else if t.k = 21 then if x.k = 20 then some (t.kid 3, (t.kid 3).nsz) else none
  else if t.k = 24 ∧ (spot t).isSome then if x.k = 23 ∧ 0 ≤ x.n ∧ x.n < t.a then some (t.kid (x.n.toNat + 1), (t.kid (x.n.toNat + 1)).nsz) else none
  else none
/-- what is left of a term that does not step -/
def T.trunc (t : T) : T :=
  match spot t with
  | none => t
  | some (i, many) => if h : i < t.ks.length then t.withT (T.trunc t.ks[i]) i many else t.withT zeroT i many
termination_by t.deep
decreasing_by
  cases t with
  | mk k n a ls ks => exact T.deep_kid (List.getElem_mem h)
/-- the first step of a term's head, what it costs -/
def hstep (l : List C) (t : T) : Option (T × Nat) :=
  match spot t with
  | none => ownS l t zeroT
  | some (i, many) => if h : i < t.ks.length then (match hstep l t.ks[i] with
      | some u => some (t.withT u.1 i many, u.2)
      | none => ownS l (t.withT (T.trunc t.ks[i]) i many) (T.trunc t.ks[i])) else ownS l (t.withT zeroT i many) zeroT
termination_by t.deep
decreasing_by
  cases t with
  | mk k n a ls ks => exact T.deep_kid (List.getElem_mem h)
/-- comes to its head, at a cost -/
inductive Hd (l : List C) : T → Nat → T → Prop where
  | stop {t : T} (h : hstep l t = none) : Hd l t 0 t.trunc
  | step {t u v : T} {c n : Nat} (h : hstep l t = some (u, c)) (r : Hd l u n v) : Hd l t (c + n) v
/-- the fuel is gone ahead of that -/
inductive Gone (l : List C) : T → Int → Prop where
  | now {t u : T} {c : Nat} {f : Int} (h : hstep l t = some (u, c)) (hf : f < c) : Gone l t f
  | later {t u : T} {c : Nat} {f : Int} (h : hstep l t = some (u, c)) (hf : (c : Int) ≤ f) (r : Gone l u (f - c)) : Gone l t f
theorem Hd.det {l : List C} {t v w : T} {n m : Nat} (h : Hd l t n v) : Hd l t m w → n = m ∧ v = w := by
  induction h generalizing m w with
  | stop h => intro h2; cases h2 with
    | stop _ => exact ⟨rfl, rfl⟩
    | step h3 _ => rw [h] at h3; cases h3
  | step h r ih => intro h2; cases h2 with
    | stop h3 => rw [h] at h3; cases h3
    | step h3 r3 =>
      rw [h] at h3
      cases h3
      obtain ⟨rfl, rfl⟩ := ih r3
      exact ⟨rfl, rfl⟩
theorem Hd.not_gone {l : List C} {t v : T} {n : Nat} (h : Hd l t n v) : ∀ {f : Int}, (n : Int) ≤ f → ¬ Gone l t f := by
  induction h with
  | stop h => intro f _ hg; cases hg with
    | now h3 _ => rw [h] at h3; cases h3
    | later h3 _ _ => rw [h] at h3; cases h3
  | step h r ih => intro f hf hg; cases hg with
    | now h3 h4 => rw [h] at h3; cases h3; omega
    | later h3 h4 r3 => rw [h] at h3; cases h3; exact ih (by omega) r3
theorem Hd.gone {l : List C} {t v : T} {n : Nat} (h : Hd l t n v) : ∀ {f : Int}, f < (n : Int) → 0 ≤ f → Gone l t f := by
  induction h with
  | stop h => intro f hf h0; omega
  | @step t u v c n h r ih =>
    intro f hf h0
    by_cases hc : (c : Int) ≤ f
    · exact .later h hc (ih (by omega) (by omega))
    · exact .now h (by omega)
theorem spot_of (t : T) : spot t = none ∨ ∃ i many, spot t = some (i, many) := by
  cases h : spot t with
  | none => exact .inl rfl
  | some p => exact .inr ⟨p.1, p.2, rfl⟩
theorem withK_len (ks : List T) (x : T) (i many : Nat) : (withK ks x i many).length = many := by simp [withK]
theorem withK_get {ks : List T} {x : T} {i many j : Nat} (h : j < many) : (withK ks x i many).getD j zeroT = if j = i then x else ks.getD j zeroT := by
  rw [List.getD_eq_getElem?_getD, List.getElem?_eq_getElem (by rw [withK_len]; exact h)]
  simp [withK]
theorem spot_lt {t : T} {i many : Nat} (h : spot t = some (i, many)) : i < many := by
  unfold spot at h
  repeat' split at h
  all_goals first | (cases h; omega) | cases h
theorem spot_with {t x : T} {i many : Nat} (h : spot t = some (i, many)) : spot (t.withT x i many) = some (i, many) := by
  unfold spot at h ⊢
  unfold T.withT
  simp only [T.k_mk, T.a_mk, T.ks_mk, withK_len]
  by_cases h1 : t.k = 6
  · rw [if_pos h1] at h ⊢; exact h
  rw [if_neg h1] at h ⊢
  by_cases h1 : t.k = 14 ∨ t.k = 15
  · rw [if_pos h1] at h ⊢; exact h
  rw [if_neg h1] at h ⊢
  by_cases h1 : t.k = 18
  · rw [if_pos h1] at h ⊢; exact h
  rw [if_neg h1] at h ⊢
  by_cases h1 : t.k = 21
  · rw [if_pos h1] at h ⊢; exact h
  rw [if_neg h1] at h ⊢
  by_cases h1 : t.k = 24 ∧ 0 ≤ t.a ∧ (t.ks.length : Int) - 2 = t.a
  · rw [if_pos h1] at h
    obtain ⟨h1, h2, h3⟩ := h1
    cases h
    rw [if_pos ⟨h1, h2, by omega⟩]
  · rw [if_neg h1] at h; cases h
theorem with_with (t x y : T) (i many : Nat) : (t.withT x i many).withT y i many = t.withT y i many := by
  unfold T.withT
  simp only [T.k_mk, T.n_mk, T.a_mk, T.ls_mk, T.ks_mk]
  congr 1
  unfold withK
  apply List.map_congr_left
  intro j hj
  have hj' : j < many := by simpa using hj
  split
  · rfl
  · rename_i hne
    have := withK_get (ks := t.ks) (x := x) (i := i) hj'
    unfold withK at this
    rw [this, if_neg hne]
theorem with_get {t x : T} {i many : Nat} (h : i < many) (h2 : i < (t.withT x i many).ks.length) : (t.withT x i many).ks[i] = x := by
  unfold T.withT at h2 ⊢
  simp [withK]
theorem trunc_none {t : T} (h : spot t = none) : t.trunc = t := by rw [T.trunc, h]
theorem trunc_in {t : T} {i many : Nat} (h : spot t = some (i, many)) (hi : i < t.ks.length) : t.trunc = t.withT (T.trunc t.ks[i]) i many := by rw [T.trunc, h]; simp only; rw [dif_pos hi]
theorem trunc_out {t : T} {i many : Nat} (h : spot t = some (i, many)) (hi : ¬ i < t.ks.length) : t.trunc = t.withT zeroT i many := by rw [T.trunc, h]; simp only; rw [dif_neg hi]
theorem hstep_none {l : List C} {t : T} (h : spot t = none) : hstep l t = ownS l t zeroT := by rw [hstep, h]
theorem hstep_in {l : List C} {t : T} {i many : Nat} (h : spot t = some (i, many)) (hi : i < t.ks.length) {u : T} {c : Nat} (hu : hstep l t.ks[i] = some (u, c)) : hstep l t = some (t.withT u i many, c) := by rw [hstep, h]; simp only; rw [dif_pos hi, hu]
theorem hstep_at {l : List C} {t : T} {i many : Nat} (h : spot t = some (i, many)) (hi : i < t.ks.length) (hu : hstep l t.ks[i] = none) : hstep l t = ownS l (t.withT (T.trunc t.ks[i]) i many) (T.trunc t.ks[i]) := by rw [hstep, h]; simp only; rw [dif_pos hi, hu]
theorem hstep_out {l : List C} {t : T} {i many : Nat} (h : spot t = some (i, many)) (hi : ¬ i < t.ks.length) : hstep l t = ownS l (t.withT zeroT i many) zeroT := by rw [hstep, h]; simp only; rw [dif_neg hi]
theorem zero_spot : spot zeroT = none := rfl
theorem zero_step (l : List C) : hstep l zeroT = none := by rw [hstep_none zero_spot]; rfl
/-- what does not step, does not step when what is too much is gone -/
theorem trunc_stuck {l : List C} (t : T) : hstep l t = none → hstep l t.trunc = none ∧ t.trunc.trunc = t.trunc := by
  induction t using T.ind with
  | h k n a ls ks ih =>
    intro h
    rcases spot_of (.mk k n a ls ks) with hs | ⟨i, many, hs⟩
    · rw [trunc_none hs]; exact ⟨h, trunc_none hs⟩
    · have hlt := spot_lt hs
      by_cases hi : i < ks.length
      · have hi' : i < (T.mk k n a ls ks).ks.length := hi
        cases hu : hstep l ks[i] with
        | some u => rw [hstep_in hs hi' (u := u.1) (c := u.2) hu] at h; cases h
        | none =>
          obtain ⟨h1, h2⟩ := ih _ (List.getElem_mem hi) hu
          rw [hstep_at hs hi' hu] at h
          rw [trunc_in hs hi']
          have hs2 := spot_with (x := T.trunc (T.mk k n a ls ks).ks[i]) hs
          have hi2 : i < ((T.mk k n a ls ks).withT (T.trunc (T.mk k n a ls ks).ks[i]) i many).ks.length := by unfold T.withT; rw [T.ks_mk, withK_len]; exact hlt
          have hg := with_get hlt hi2
          constructor
          · rw [hstep_at hs2 hi2 (by rw [hg]; exact h1), hg, with_with, show T.trunc (T.trunc (T.mk k n a ls ks).ks[i]) = T.trunc (T.mk k n a ls ks).ks[i] from h2]
            exact h
          · rw [trunc_in hs2 hi2, hg, with_with, show T.trunc (T.trunc (T.mk k n a ls ks).ks[i]) = T.trunc (T.mk k n a ls ks).ks[i] from h2]
      · have hi' : ¬ i < (T.mk k n a ls ks).ks.length := hi
        rw [hstep_out hs hi'] at h
        rw [trunc_out hs hi']
        have hs2 := spot_with (x := zeroT) hs
        have hi2 : i < ((T.mk k n a ls ks).withT zeroT i many).ks.length := by unfold T.withT; rw [T.ks_mk, withK_len]; exact hlt
        have hg := with_get hlt hi2
        constructor
        · rw [hstep_at hs2 hi2 (by rw [hg]; exact zero_step l), hg, trunc_none zero_spot, with_with]
          exact h
        · rw [trunc_in hs2 hi2, hg, trunc_none zero_spot, with_with]
/-! sizes -/
theorem T.nsz_pos (t : T) : 1 ≤ t.nsz := by cases t; rw [T.nsz]; omega
theorem T.nszs_mem {t : T} {ks : List T} (h : t ∈ ks) : t.nsz ≤ T.nszs ks := by
  induction ks with
  | nil => cases h
  | cons x r ih =>
    rw [T.nszs]
    cases h with
    | head => omega
    | tail _ hm => have := ih hm; omega
theorem T.deep_nsz (t : T) : t.deep ≤ t.nsz := by
  induction t using T.ind with
  | h k n a ls ks ih =>
    rw [T.deep, T.nsz]
    have : ∀ l : List T, (∀ x, x ∈ l → x.deep ≤ x.nsz) → T.deeps l ≤ T.nszs l := by
      intro l
      induction l with
      | nil => intro _; simp [T.deeps, T.nszs]
      | cons x r ihl =>
        intro hl
        have h1 := hl x List.mem_cons_self
        have h2 := ihl (fun y hy => hl y (List.mem_cons_of_mem _ hy))
        rw [T.deeps, T.nszs]
        omega
    have := this ks ih
    omega
mutual
theorem T.sd_pos (many : Nat) (hm : 1 ≤ many) : ∀ (t : T) (b : Int), 1 ≤ t.sd many b
  | .mk k n a ls ks, b => by
    rw [T.sd]
    split <;> omega
end
mutual
theorem T.sd_le (many : Nat) (hm : 1 ≤ many) : ∀ (t : T) (b : Int), t.sd many b ≤ t.nsz * many
  | .mk k n a ls ks, b => by
    rw [T.sd, T.nsz]
    split
    · exact Nat.le_mul_of_pos_left _ (by omega)
    · have := T.sds_le many hm k ks 0 b
      rw [Nat.add_mul]
      omega
theorem T.sds_le (many : Nat) (hm : 1 ≤ many) (k : Int) : ∀ (ks : List T) (i : Nat) (b : Int), T.sds many k ks i b ≤ T.nszs ks * many
  | [], _, _ => by rw [T.sds]; omega
  | t :: r, i, b => by
    have h1 := T.sd_le many hm t (belowD b k i)
    have h2 := T.sds_le many hm k r (i + 1) b
    rw [T.sds, T.nszs, Nat.add_mul]
    omega
end
mutual
theorem nsz_lift (n fr : Int) : ∀ (t : T) (d : Int), (T.walk (liftTurn n fr) t d).nsz = t.nsz
  | .mk k m a ls ks, d => by rw [walk_lift, T.nsz, T.nsz, nszs_lift n fr k ks 0 d]
theorem nszs_lift (n fr k : Int) : ∀ (ks : List T) (i : Nat) (d : Int), T.nszs (T.walks (liftTurn n fr) k ks i d) = T.nszs ks
  | [], _, _ => by rw [T.walks]
  | t :: r, i, d => by rw [T.walks, T.nszs, T.nszs, nsz_lift n fr t, nszs_lift n fr k r]
end
mutual
theorem nsz_levels (bys : List LV) : ∀ (t : T) (d : Int), (T.walk (levTurn bys) t d).nsz = t.nsz
  | .mk k m a ls ks, d => by rw [walk_inr (f := levTurn bys) (x := (m, ls.map fun l => normOf (putL l bys))) rfl, T.nsz, T.nsz, nszs_levels bys k ks 0 d]
theorem nszs_levels (bys : List LV) (k : Int) : ∀ (ks : List T) (i : Nat) (d : Int), T.nszs (T.walks (levTurn bys) k ks i d) = T.nszs ks
  | [], _, _ => by rw [T.walks]
  | t :: r, i, d => by rw [T.walks, T.nszs, T.nszs, nsz_levels bys t, nszs_levels bys k r]
end
/-- what is put costs its size -/
theorem nsz_put (x : T) (t : T) : ∀ d, (T.walk (putTurn [x]) t d).nsz = t.sd x.nsz d := by
  induction t using T.ind with
  | h k m a ls ks ih =>
    intro d
    have hks : ∀ (l : List T), (∀ y, y ∈ l → y ∈ ks) → ∀ i, T.nszs (T.walks (putTurn [x]) k l i d) = T.sds x.nsz k l i d := by
      intro l
      induction l with
      | nil => intro _ i; simp [T.walks, T.nszs, T.sds]
      | cons y r ihl =>
        intro hl i
        rw [T.walks, T.nszs, T.sds, ih y (hl y List.mem_cons_self), ihl (fun z hz => hl z (List.mem_cons_of_mem _ hz))]
    have hks0 := hks ks (fun _ h => h) 0
    rw [T.sd]
    by_cases hh : k = 1 ∧ d ≤ m
    · by_cases hl : (m - d).toNat < [x].length
      · rw [walk_inl (putTurn_in (t := .mk k m a ls ks) hh hl), if_pos ⟨hh.1, by simp only [List.length_cons, List.length_nil] at hl; omega⟩]
        unfold T.lift
        rw [nsz_lift]
        simp
      · rw [walk_inr (putTurn_over (t := .mk k m a ls ks) hh hl), T.nsz, hks0, if_neg]
        rintro ⟨-, h2⟩
        apply hl
        simp only [List.length_cons, List.length_nil]; omega
    · rw [walk_inr (putTurn_low (t := .mk k m a ls ks) hh), T.nsz]
      rw [hks0, if_neg]
      rintro ⟨h1, h2⟩
      exact hh ⟨h1, by omega⟩
end Go.Proofs.YtebmlojhdnldgaaDoor

namespace Go.Proofs.YtebmlojhdnldgaaDoor
set_option linter.unusedSimpArgs false
set_option linter.unusedVariables false
open Go.RowKit Go.WideShapes Go.ChangeShapes
set_option maxRecDepth 100000
theorem sum_bulk {H α : Type} : ∀ (xs : List α) (elems : List (DataW H)) (μ : α → Nat), xs.length = elems.length → (∀ i (h : i < xs.length) (h' : i < elems.length), μ xs[i] ≤ Rows.uptoBulk elems[i]) → (xs.map μ).sum ≤ Rows.uptoBulkAll elems
  | [], [], μ, _, _ => by simp
  | [], _ :: _, μ, h, _ => by simp at h
  | _ :: _, [], μ, h, _ => by simp at h
  | x :: r, e :: s, μ, h, h2 => by
    simp only [List.map_cons, List.sum_cons, Rows.uptoBulkAll]
    have h3 := h2 0 (by simp) (by simp)
    simp only [List.getElem_cons_zero] at h3
    have h4 := sum_bulk r s μ (by simpa using h) (fun i h5 h6 => by
      have := h2 (i + 1) (by simpa using h5) (by simpa using h6)
      simpa using this)
    omega
theorem nszs_sum : ∀ l : List T, T.nszs l = (l.map T.nsz).sum
  | [] => by rw [T.nszs]; rfl
  | t :: r => by rw [T.nszs, nszs_sum r]; rfl
section
variable {H : Type} {enc : TypeId × Value → H} {w : World} {base : Nat} {sp : Nat → Bool} {held : Bool}
/-- how a slice reads whose elements can be read -/
theorem open_sl2 {α : Type} (en : α → D) {t e : TypeId} {sz : Nat} (ht : Tryd.prog.underlying t = some (.slice e)) (he : Tryd.prog.cellsOf e = sz) (hsz : 0 < sz) (hes : ∀ x, (en x).size = sz ∧ (en x).cells.all D.one = true) (M : Nat → α → Prop) {fuel : Nat} {cs : List Value} {d : DataW H} {ps : List MemPlace} (hb : Rows.uptoBulk d ≤ 1048576)
    (hE : ∀ f ecs de p, f < fuel → Rows.uptoBulk de < Rows.uptoBulk d → DataW.trod enc Tryd.prog w base sp held f e ecs = some (de, p) → ∃ x, RpL rho0 w (en x).cells ecs ∧ M (Rows.uptoBulk de) x) (hM : ∀ x m n, m ≤ n → M m x → M n x)
    (h : DataW.trod enc Tryd.prog w base sp held fuel t cs = some (d, ps)) : ∃ (v : Value) (xs : List α), cs = [v] ∧ Rp rho0 w (.slice (xs.map en) .any) v ∧ xs.length < Rows.uptoBulk d + 1 ∧ (∀ x, x ∈ xs → M (Rows.uptoBulk d - 1) x) ∧ ∀ μ : α → Nat, (∀ x m, M m x → μ x ≤ m) → (xs.map μ).sum + 1 ≤ Rows.uptoBulk d := by
  rcases trod_slice ht h with rfl | ⟨fuel', a, len, cap, elems, rest, rfl, rfl, h1, h2, rfl, h3, h4⟩
  · refine ⟨_, [], rfl, ?_, by simp, (fun x hx => nomatch hx), fun μ _ => by have := bulk_one d; simp; omega⟩
    rw [Rp]
    exact ⟨none, 0, sz, rfl, by simp, by simp, by simp, (fun e he => nomatch he), trivial, fun h => absurd rfl h⟩
  · have hlen : elems.length + 1 ≤ Rows.uptoBulk (.slice elems rest) := by
      have := bulk_len elems
      simp only [Rows.uptoBulk]; omega
    have key : ∀ i (hi : i < elems.length), ∃ x ecs, w.cells? base (a.add (i * sz)) sz = some ecs ∧ RpL rho0 w (en x).cells ecs ∧ M (Rows.uptoBulk (DataW.slice elems rest) - 1) x ∧ M (Rows.uptoBulk elems[i]) x := fun i hi => by
      obtain ⟨ecs, p, h5, h6⟩ := h4 i hi
      have hlt : Rows.uptoBulk elems[i] < Rows.uptoBulk (.slice elems rest) := by
        have := bulk_part (List.getElem_mem (l := elems) hi)
        simp only [Rows.uptoBulk]; omega
      obtain ⟨x, h7, h8⟩ := hE fuel' ecs elems[i] p (by omega) hlt h6
      exact ⟨x, ecs, by rw [← he]; exact h5, h7, hM _ _ _ (by omega) h8, h8⟩
    let xs : List α := List.ofFn (n := elems.length) fun i => (key i.1 i.2).choose
    have hxl : xs.length = elems.length := by simp [xs]
    have hget : ∀ i (hi : i < elems.length), xs[i]? = some (key i hi).choose := fun i hi => by simp [xs, List.getElem?_ofFn, hi]
    refine ⟨_, xs, rfl, ?_, by omega, ?_, ?_⟩
    · rw [Rp]
      refine ⟨some a, cap, sz, by rw [List.length_map, hxl, h3], by rw [List.length_map]; omega, h2, by rw [List.length_map]; unfold LMax; omega, fun e he => ?_, trivial, fun hne => ?_⟩
      · obtain ⟨x, -, rfl⟩ := List.mem_map.1 he
        exact (hes x).1
      · have h0 : 0 < elems.length := by
          rcases Nat.eq_zero_or_pos elems.length with h | h
          · exact absurd (List.eq_nil_of_length_eq_zero (by rw [List.length_map]; omega)) hne
          · exact h
        obtain ⟨ecs0, c0, -⟩ := (key 0 h0).choose_spec
        rw [show a.add (0 * sz) = a from by simp [Addr.add]] at c0
        obtain ⟨b, o, rfl, hlt, -, -⟩ := cells_at c0 hsz
        refine ⟨b, o, rfl, RpE_mk (sz := sz) (fun e he => ?_) fun i hi => ?_⟩
        · obtain ⟨x, -, rfl⟩ := List.mem_map.1 he
          exact hes x
        · have hi' : i < elems.length := by rw [List.length_map] at hi; omega
          have hx := hget i hi'
          have hx' : (xs.map en)[i] = en (key i hi').choose := by
            rw [List.getElem_map]
            have := List.getElem?_eq_some_iff.1 hx
            exact congrArg en this.2
          rw [hx']
          obtain ⟨ecs, c1, c2, -⟩ := (key i hi').choose_spec
          have hadd : (⟨b, o, none⟩ : Addr).add (i * sz) = ⟨b, o + i * sz, none⟩ := by unfold Addr.add; split <;> simp_all
          rw [hadd] at c1
          obtain ⟨b', o', e, -, c3, c4⟩ := cells_at c1 hsz
          simp only [Addr.mk.injEq, and_true] at e
          obtain ⟨rfl, rfl⟩ := e
          exact ⟨ecs, c2, c4⟩
    · intro x hx
      obtain ⟨i, hi, rfl⟩ := List.getElem_of_mem hx
      have hi' : i < elems.length := by rw [← hxl]; exact hi
      have := hget i hi'
      rw [List.getElem?_eq_getElem hi] at this
      simp only [Option.some.injEq] at this
      rw [this]
      obtain ⟨-, -, -, c, -⟩ := (key i hi').choose_spec
      exact c
    · intro μ hμ
      have := sum_bulk xs elems μ hxl fun i h1 h2 => by
        have := hget i h2
        rw [List.getElem?_eq_getElem h1] at this
        simp only [Option.some.injEq] at this
        rw [this]
        obtain ⟨-, -, -, -, c⟩ := (key i h2).choose_spec
        exact hμ _ _ c
      simp only [Rows.uptoBulk]
      omega
theorem ok_bounds {n : Int} (h : IntKind.i64.min ≤ n ∧ n ≤ IntKind.i64.max) : I64 n := by
  simp [IntKind.min, IntKind.max, IntKind.signed, IntKind.bits] at h
  unfold I64
  omega
theorem open_part2 {fuel : Nat} {cs : List Value} {d : DataW H} {ps : List MemPlace} (h : DataW.trod enc Tryd.prog w base sp held fuel 74 cs = some (d, ps)) : ∃ p : Int × Int, RpL rho0 w (encP p).cells cs ∧ I64 p.1 ∧ I64 p.2 := by
  obtain ⟨h1, h2⟩ := trod_fields (l := [(3, 0), (3, 1)]) part_under (by kernel_rfl) h
  rw [show Tryd.prog.cellsOf 74 = 2 from by kernel_rfl] at h1
  obtain ⟨f0, d0, p0, -, -, e0⟩ := h2 0 _ _ rfl
  obtain ⟨f1, d1, p1, -, -, e1⟩ := h2 1 _ _ rfl
  rw [show Tryd.prog.cellsOf 3 = 1 from by kernel_rfl] at e0 e1
  obtain ⟨c0, c1, rfl⟩ := len2 h1
  obtain ⟨n0, k0, b0⟩ := trod_int Tryd.underlying3 e0
  obtain ⟨n1, k1, b1⟩ := trod_int Tryd.underlying3 e1
  simp at k0 k1
  subst k0; subst k1
  refine ⟨(n0, n1), ?_, ok_bounds b0, ok_bounds b1⟩
  show RpL rho0 w [.int .i64 n0, .int .i64 n1] _
  simp only [RpL, Rp]
  exact ⟨_, _, rfl, ⟨rfl, b0⟩, _, _, rfl, ⟨rfl, b1⟩, rfl⟩
def bulkL (m : Nat) (l : LV) : Prop := okL l ∧ l.length ≤ m ∧ m ≤ 1048576
theorem open_level2 {fuel : Nat} {cs : List Value} {d : DataW H} {ps : List MemPlace} (hb : Rows.uptoBulk d ≤ 1048576) (h : DataW.trod enc Tryd.prog w base sp held fuel 30 cs = some (d, ps)) : ∃ l : LV, RpL rho0 w (encL l).cells cs ∧ okL l ∧ l.length ≤ Rows.uptoBulk d := by
  obtain ⟨h1, h2⟩ := trod_fields (l := [(28, 0)]) level_under (by kernel_rfl) h
  rw [show Tryd.prog.cellsOf 30 = 1 from by kernel_rfl] at h1
  obtain ⟨f0, d0, p0, -, hb0, e0⟩ := h2 0 _ _ rfl
  rw [show Tryd.prog.cellsOf 28 = 1 from by kernel_rfl] at e0
  obtain ⟨c0, rfl⟩ := len1 h1
  obtain ⟨v, xs, k0, hs, hl, hm⟩ := open_sl encP (sz := 2) Tryd.underlying28 (by kernel_rfl) (by omega) (fun x => ⟨rfl, rfl⟩) (fun _ p => I64 p.1 ∧ I64 p.2) (by omega) (fun f ecs de p _ _ he => (open_part2 he).imp fun _ h => h) (fun _ _ _ _ h => h) e0
  simp at k0
  subst k0
  refine ⟨xs, ?_, ⟨by unfold LMax; omega, hm⟩, by omega⟩
  show RpL rho0 w [.slice (xs.map encP) .any] _
  rw [RpL]
  exact ⟨_, [], rfl, hs, by rw [RpL]⟩
theorem open_levels2 {fuel : Nat} {cs : List Value} {d : DataW H} {ps : List MemPlace} (hb : Rows.uptoBulk d ≤ 1048576) (h : DataW.trod enc Tryd.prog w base sp held fuel 24 cs = some (d, ps)) : ∃ v ls, cs = [v] ∧ Rp rho0 w (Lvs ls) v ∧ ls.length ≤ 1048576 ∧ ∀ l, l ∈ ls → okL l ∧ l.length ≤ 1048576 := by
  obtain ⟨v, xs, k0, hs, hl, hm⟩ := open_sl encL (sz := 1) Tryd.underlying24 (by kernel_rfl) (by omega) (fun x => ⟨rfl, rfl⟩) (fun m l => okL l ∧ l.length ≤ m) hb (fun f ecs de p _ hlt he => (open_level2 (by omega) he).imp fun _ h => h) (fun _ _ _ h1 h2 => ⟨h2.1, Nat.le_trans h2.2 h1⟩) h
  exact ⟨v, xs, k0, hs, by omega, fun l hl => by have := hm l hl; exact ⟨this.1, by omega⟩⟩
theorem term_under : Tryd.prog.underlying 27 = some (.struct (Tryd.prog.fieldsOf 27)) := by kernel_rfl
theorem kind_under : Tryd.prog.underlying 23 = some (.int .i64) := by kernel_rfl
theorem encT_ones (t : T) : (encT t).cells.all D.one = true := by rw [encT_cells]; rfl
theorem open_term2 : ∀ (fuel : Nat) {cs : List Value} {d : DataW H} {ps : List MemPlace}, Rows.uptoBulk d ≤ 1048576 → DataW.trod enc Tryd.prog w base sp held fuel 27 cs = some (d, ps) → ∃ t : T, RpL rho0 w (encT t).cells cs ∧ okT t ∧ t.nsz ≤ Rows.uptoBulk d := by
  intro fuel
  induction fuel using Nat.strongRecOn with
  | ind fuel ih =>
    intro cs d ps hb h
    obtain ⟨h1, h2⟩ := trod_fields (l := [(23, 0), (3, 1), (3, 2), (24, 3), (25, 4)]) term_under (by kernel_rfl) h
    rw [show Tryd.prog.cellsOf 27 = 5 from by kernel_rfl] at h1
    obtain ⟨f0, d0, p0, -, -, e0⟩ := h2 0 _ _ rfl
    obtain ⟨f1, d1, p1, -, -, e1⟩ := h2 1 _ _ rfl
    obtain ⟨f2, d2, p2, -, -, e2⟩ := h2 2 _ _ rfl
    obtain ⟨f3, d3, p3, -, hb3, e3⟩ := h2 3 _ _ rfl
    obtain ⟨f4, d4, p4, hf4, hb4, e4⟩ := h2 4 _ _ rfl
    rw [show Tryd.prog.cellsOf 3 = 1 from by kernel_rfl] at e1 e2
    rw [show Tryd.prog.cellsOf 23 = 1 from by kernel_rfl] at e0
    rw [show Tryd.prog.cellsOf 24 = 1 from by kernel_rfl] at e3
    rw [show Tryd.prog.cellsOf 25 = 1 from by kernel_rfl] at e4
    obtain ⟨c0, c1, c2, c3, c4, rfl⟩ := len5 h1
    obtain ⟨n0, k0, b0⟩ := trod_int kind_under e0
    obtain ⟨n1, k1, b1⟩ := trod_int Tryd.underlying3 e1
    obtain ⟨n2, k2, b2⟩ := trod_int Tryd.underlying3 e2
    obtain ⟨v3, ls, k3, hl, ll, hls⟩ := open_levels2 (by omega) e3
    obtain ⟨v4, ks, k4, hk, lk, hks, hsum⟩ := open_sl2 encT (sz := 5) Tryd.underlying25 (by kernel_rfl) (by omega) (fun x => ⟨encT_size x, encT_ones x⟩) (fun m t => okT t ∧ t.nsz ≤ m) (by omega)
      (fun f ecs de p hf hlt he => (ih f (by omega) (by omega) he).imp fun _ h => h) (fun x m n hmn hx => ⟨hx.1, by omega⟩) e4
    simp at k0 k1 k2 k3 k4
    subst k0; subst k1; subst k2; subst k3; subst k4
    refine ⟨.mk n0 n1 n2 ls ks, ?_, .mk (ok_bounds b0) (ok_bounds b1) (ok_bounds b2) (by unfold LMax; omega) (fun l h => (hls l h).1) (by unfold LMax; omega) (fun t h => (hks t h).1), ?_⟩
    · rw [encT_cells]
      simp only [T.k_mk, T.n_mk, T.a_mk, T.ls_mk, T.ks_mk]
      refine RpL_cons'.2 ⟨by rw [Rp]; exact ⟨rfl, b0⟩, RpL_cons'.2 ⟨by rw [Rp]; exact ⟨rfl, b1⟩, RpL_cons'.2 ⟨by rw [Rp]; exact ⟨rfl, b2⟩, RpL_cons'.2 ⟨hl, RpL_cons'.2 ⟨hk, by rw [RpL]⟩⟩⟩⟩⟩
    · rw [T.nsz, nszs_sum]
      have := hsum T.nsz (fun x m h => h.2)
      omega
theorem open_terms2 {fuel : Nat} {cs : List Value} {d : DataW H} {ps : List MemPlace} (hb : Rows.uptoBulk d ≤ 1048576) (h : DataW.trod enc Tryd.prog w base sp held fuel 25 cs = some (d, ps)) :
    ∃ v ts, cs = [v] ∧ Rp rho0 w (Ts ts) v ∧ ts.length ≤ 1048576 ∧ ∀ t, t ∈ ts → okT t ∧ t.nsz ≤ 1048576 := by
  obtain ⟨v, ts, k, hs, hl, hd⟩ := open_sl encT (sz := 5) Tryd.underlying25 (by kernel_rfl) (by omega) (fun x => ⟨encT_size x, encT_ones x⟩) (fun m t => okT t ∧ t.nsz ≤ m) hb
    (fun f ecs de p hf hlt he => (open_term2 f (by omega) he).imp fun _ h => h) (fun x m n hmn hx => ⟨hx.1, by omega⟩) h
  exact ⟨v, ts, k, hs, by omega, fun t ht => by have := hd t ht; exact ⟨this.1, by omega⟩⟩
variable {W : World} {b0 : Nat} {v : Value} {d : DataW H} {p : List MemPlace}
set_option maxRecDepth 100000 in
theorem argT (hk : Rows.uptoBulk d ≤ 1048576) (hv : Value.okWide Tryd.prog W .any base 27 v) (h : DataW.Trod enc Tryd.prog W b0 sp held 27 v d p) : ∃ t : T, Rp rho0 W (encT t) v ∧ okT t ∧ t.nsz ≤ 1048576 := by
  obtain ⟨cs, rfl⟩ := arg_agg term_under hv
  obtain ⟨fuel, hf⟩ := h
  obtain ⟨t, ht, h1, h2⟩ := open_term2 fuel hk hf
  refine ⟨t, ?_, h1, by omega⟩
  rw [encT_cells] at ht
  rw [encT_eq, Rp]
  exact ⟨_, (by cases cs; rfl), ht⟩
theorem argTs (hk : Rows.uptoBulk d ≤ 1048576) (hv : Value.okWide Tryd.prog W .any base 25 v) (h : DataW.Trod enc Tryd.prog W b0 sp held 25 v d p) : ∃ ts : List T, Rp rho0 W (Ts ts) v ∧ ts.length ≤ 1048576 ∧ ∀ t, t ∈ ts → okT t ∧ t.nsz ≤ 1048576 := by
  obtain ⟨a, len, cap, rfl⟩ := okWide_slice Tryd.underlying25 hv
  obtain ⟨fuel, hf⟩ := h
  obtain ⟨v', ts, he, hr, hl, hm⟩ := open_terms2 hk hf
  have : v' = .slice a len cap := by
    have : ([Value.slice a len cap] : List Value) = [v'] := he
    simpa using this.symm
  subst this
  exact ⟨ts, hr, hl, hm⟩
theorem argLs (hk : Rows.uptoBulk d ≤ 1048576) (hv : Value.okWide Tryd.prog W .any base 24 v) (h : DataW.Trod enc Tryd.prog W b0 sp held 24 v d p) : ∃ ls : List LV, Rp rho0 W (Lvs ls) v ∧ ls.length ≤ 1048576 ∧ ∀ l, l ∈ ls → okL l ∧ l.length ≤ 1048576 := by
  obtain ⟨a, len, cap, rfl⟩ := okWide_slice Tryd.underlying24 hv
  obtain ⟨fuel, hf⟩ := h
  obtain ⟨v', ls, he, hr, hl, hm⟩ := open_levels2 hk hf
  have : v' = .slice a len cap := by
    have : ([Value.slice a len cap] : List Value) = [v'] := he
    simpa using this.symm
  subst this
  exact ⟨ls, hr, hl, hm⟩
theorem argIs (hk : Rows.uptoBulk d ≤ 1048576) (hv : Value.okWide Tryd.prog W .any base 66 v) (h : DataW.Trod enc Tryd.prog W b0 sp held 66 v d p) : ∃ ns : List Int, Rp rho0 W (Ints ns) v ∧ ns.length ≤ 1048576 := arg_ints hk hv h
theorem nszs_len : ∀ l : List T, l.length ≤ T.nszs l
  | [] => by simp
  | t :: r => by rw [T.nszs, List.length_cons]; have := nszs_len r; have := T.nsz_pos t; omega
theorem ks_nsz (t : T) : t.ks.length + 1 ≤ t.nsz := by
  cases t with
  | mk k n a ls ks => rw [T.nsz]; have := nszs_len ks; simp only [T.ks_mk]; omega
theorem deep_ok {t : T} (h : t.nsz ≤ 1048576) : t.deep ≤ DM := by have := T.deep_nsz t; unfold DM; omega
theorem argI (hv : Value.okWide Tryd.prog W .any base 3 v) (h : DataW.Trod enc Tryd.prog W b0 sp held 3 v d p) : ∃ n : Int, Rp rho0 W (.int .i64 n) v ∧ I64 n := by
  obtain ⟨n, rfl⟩ := Go.WideShapes.okWide_int Tryd.underlying3 hv
  obtain ⟨fuel, hf⟩ := h
  obtain ⟨n', hn, hb⟩ := trod_int Tryd.underlying3 hf
  have hn : ([Value.int .i64 n] : List Value) = [.int .i64 n'] := hn
  have : n = n' := by simpa using hn
  subst this
  exact ⟨n, by rw [Rp]; exact ⟨rfl, hb⟩, ok_bounds hb⟩
end
end Go.Proofs.YtebmlojhdnldgaaDoor

namespace Go.Proofs.YtebmlojhdnldgaaDoor
set_option linter.unusedSimpArgs false
set_option linter.unusedVariables false
open Go.RowKit
def flat0 : DataW Unit → List Value
  | .lit (.bool b) => [.bool b]
  | .lit (.int k n) => [.int k n]
  | _ => []
def flat1 : DataW Unit → List Value
  | .agg l => l.flatMap flat0
  | _ => []
def flat2 : DataW Unit → List Value
  | .agg l => l.flatMap flat1
  | _ => []
theorem chunks (m : Nat) : ∀ (n : Nat) (cs : List Value), cs.length = n * m → cs = (List.range n).flatMap fun i => (cs.drop (i * m)).take m
  | 0, cs, h => by have : cs = [] := List.eq_nil_of_length_eq_zero (by simpa using h); subst this; rfl
  | n + 1, cs, h => by
    have h' : cs.length = n * m + m := by rw [h, Nat.add_mul, Nat.one_mul]
    have ih := chunks m n (cs.take (n * m)) (by rw [List.length_take]; omega)
    rw [List.range_succ, List.flatMap_append]
    have h1 : ((List.range n).flatMap fun i => (cs.drop (i * m)).take m) = cs.take (n * m) := by
      rw [ih]
      rw [List.flatMap_def, List.flatMap_def]
      congr 1
      apply List.map_congr_left
      intro i hi
      have hi := List.mem_range.1 hi
      have hle : i * m + m ≤ n * m := by
        have := Nat.mul_le_mul_right m (show i + 1 ≤ n by omega)
        rwa [Nat.add_mul, Nat.one_mul] at this
      rw [List.drop_take, List.take_take, Nat.min_eq_left (by omega)]
    rw [h1]
    simp only [List.flatMap_cons, List.flatMap_nil, List.append_nil]
    rw [List.take_of_length_le (l := cs.drop (n * m)) (by rw [List.length_drop]; omega), List.take_append_drop]
section
variable {enc : TypeId × Value → Unit} {P : Program} {w : World} {base : Nat} {sp : Nat → Bool} {held : Bool}
theorem flat_int {fuel : Nat} {t : TypeId} {cs : List Value} {d : DataW Unit} {ps : List MemPlace} (ht : P.underlying t = some (.int .i64)) (h : DataW.trod enc P w base sp held fuel t cs = some (d, ps)) : cs = flat0 d := by
  cases fuel with
  | zero => simp [DataW.trod] at h
  | succ fuel =>
    unfold DataW.trod at h
    rw [ht] at h
    rcases cs with _ | ⟨v, _ | ⟨v2, r⟩⟩
    · simp at h
    · cases v <;> simp at h
      obtain ⟨⟨rfl, -⟩, rfl, -⟩ := h
      rfl
    · simp at h
theorem flat_bool {fuel : Nat} {t : TypeId} {cs : List Value} {d : DataW Unit} {ps : List MemPlace} (ht : P.underlying t = some .bool) (h : DataW.trod enc P w base sp held fuel t cs = some (d, ps)) : cs = flat0 d := by
  cases fuel with
  | zero => simp [DataW.trod] at h
  | succ fuel =>
    unfold DataW.trod at h
    rw [ht] at h
    rcases cs with _ | ⟨v, _ | ⟨v2, r⟩⟩
    · simp at h
    · cases v <;> simp at h
      obtain ⟨rfl, -⟩ := h
      rfl
    · simp at h
theorem trod_array {fuel n : Nat} {t e : TypeId} {cs : List Value} {d : DataW Unit} {ps : List MemPlace} (ht : P.underlying t = some (.array n e)) (h : DataW.trod enc P w base sp held fuel t cs = some (d, ps)) :
    ∃ fuel' xs, cs.length = P.cellsOf t ∧ d = .agg (xs.map (·.1)) ∧ (List.range n).mapM (fun i => DataW.trod enc P w base sp held fuel' e ((cs.drop (i * P.cellsOf e)).take (P.cellsOf e))) = some xs := by
  cases fuel with
  | zero => simp [DataW.trod] at h
  | succ fuel =>
    unfold DataW.trod at h
    rw [ht] at h
    dsimp only at h
    split at h
    · rename_i hl
      rw [Option.map_eq_some_iff] at h
      obtain ⟨xs, hm, h4⟩ := h
      simp only [Prod.mk.injEq] at h4
      exact ⟨fuel, xs, hl, h4.1.symm, hm⟩
    · cases h
end
theorem flat_has {enc : TypeId × Value → Unit} {w : World} {base : Nat} {sp : Nat → Bool} {held : Bool} {fuel : Nat} {cs : List Value} {d : DataW Unit} {ps : List MemPlace} (h : DataW.trod enc Tryd.prog w base sp held fuel 147 cs = some (d, ps)) : cs = flat1 d := by
  obtain ⟨f, ds, rfl, h1, rfl, h3, h4⟩ := trod_struct (show Tryd.prog.underlying 147 = some (.struct (Tryd.prog.fieldsOf 147)) by kernel_rfl) h
  have hf : (Tryd.prog.fieldsOf 147).toList.map (fun f => (f.type, f.offset)) = [(4, 0), (4, 1), (3, 2), (3, 3), (3, 4)] := by kernel_rfl
  rw [show Tryd.prog.cellsOf 147 = 5 from by kernel_rfl] at h1
  obtain ⟨c0, c1, c2, c3, c4, rfl⟩ := len5 h1
  generalize (Tryd.prog.fieldsOf 147).toList = fs at hf h3 h4
  have hlen : fs.length = 5 := by simpa using congrArg List.length hf
  have key : ∀ i (hi : i < 5), ∃ p, DataW.trod enc Tryd.prog w base sp held f ([(4, 0), (4, 1), (3, 2), (3, 3), (3, 4)][i]).1 ((([c0, c1, c2, c3, c4] : List Value).drop ([(4, 0), (4, 1), (3, 2), (3, 3), (3, 4)][i]).2).take (Tryd.prog.cellsOf ([(4, 0), (4, 1), (3, 2), (3, 3), (3, 4)][i]).1)) = some (ds[i]'(by omega), p) := fun i hi => by
    obtain ⟨p, hp⟩ := h4 i (by omega) (by omega)
    have := List.getElem_of_eq hf (i := i) (by simpa using (by omega : i < fs.length))
    simp only [List.getElem_map] at this
    rw [← this]
    exact ⟨p, hp⟩
  obtain ⟨p0, e0⟩ := key 0 (by omega)
  obtain ⟨p1, e1⟩ := key 1 (by omega)
  obtain ⟨p2, e2⟩ := key 2 (by omega)
  obtain ⟨p3, e3⟩ := key 3 (by omega)
  obtain ⟨p4, e4⟩ := key 4 (by omega)
  simp only [List.getElem_cons_zero, List.getElem_cons_succ] at e0 e1 e2 e3 e4
  rw [show Tryd.prog.cellsOf 3 = 1 from by kernel_rfl] at e2 e3 e4
  rw [show Tryd.prog.cellsOf 4 = 1 from by kernel_rfl] at e0 e1
  have g0 := flat_bool (show Tryd.prog.underlying 4 = some .bool by kernel_rfl) e0
  have g1 := flat_bool (show Tryd.prog.underlying 4 = some .bool by kernel_rfl) e1
  have g2 := flat_int Tryd.underlying3 e2
  have g3 := flat_int Tryd.underlying3 e3
  have g4 := flat_int Tryd.underlying3 e4
  simp only [List.drop_zero, List.drop_succ_cons, List.take_succ_cons, List.take_zero] at g0 g1 g2 g3 g4
  obtain ⟨x0, r0, rfl⟩ := List.exists_cons_of_ne_nil (l := ds) (by rintro rfl; simp at h3; omega)
  obtain ⟨x1, r1, rfl⟩ := List.exists_cons_of_ne_nil (l := r0) (by rintro rfl; simp at h3; omega)
  obtain ⟨x2, r2, rfl⟩ := List.exists_cons_of_ne_nil (l := r1) (by rintro rfl; simp at h3; omega)
  obtain ⟨x3, r3, rfl⟩ := List.exists_cons_of_ne_nil (l := r2) (by rintro rfl; simp at h3; omega)
  obtain ⟨x4, r4, rfl⟩ := List.exists_cons_of_ne_nil (l := r3) (by rintro rfl; simp at h3; omega)
  have hr : r4 = [] := List.eq_nil_of_length_eq_zero (by simp at h3; omega)
  subst hr
  simp only [List.getElem_cons_zero, List.getElem_cons_succ] at g0 g1 g2 g3 g4
  simp [flat1, ← g0, ← g1, ← g2, ← g3, ← g4]
def kindVals : List Value := kindRowsD.flatMap fun r => [.bool r.1, .bool r.2.1, .int .i64 r.2.2.1, .int .i64 r.2.2.2.1, .int .i64 r.2.2.2.2]
theorem kinds_lie {W : World} (h : laidMet Tryd.prog [("spandrel/term.kinds", Rows.laid_spandrel_term_kinds)] W) : ∀ i u, kindVals[i]? = some u → W.cell? ⟨0, 0 + i, none⟩ = some u := by
  obtain ⟨ps, ⟨g', t', cs, fuel, p, q, hg', ht', hvar, hd, _, _⟩, _⟩ := h
  obtain rfl := Option.some.inj ((show Tryd.prog.globalNamed "spandrel/term.kinds" = some 0 by kernel_rfl).symm.trans hg')
  obtain rfl := Option.some.inj ((show (Tryd.prog.globals[0]?).map (·.type) = some 148 by kernel_rfl).symm.trans ht')
  obtain ⟨f, xs, h1, h2, h3⟩ := trod_array Tryd.underlying148 hd
  rw [show Tryd.prog.cellsOf 148 = 25 * 5 from by kernel_rfl] at h1
  rw [show Tryd.prog.cellsOf 147 = 5 from by kernel_rfl] at h3
  obtain ⟨h4, h5⟩ := mapM_some h3
  simp only [List.length_range] at h4
  have hcs : cs.toList = flat2 Rows.laid_spandrel_term_kinds := by
    rw [chunks 5 25 cs.toList h1, h2]
    show _ = (xs.map (·.1)).flatMap flat1
    rw [show (List.range 25).flatMap (fun i => (cs.toList.drop (i * 5)).take 5) = ((List.range 25).map fun i => (cs.toList.drop (i * 5)).take 5).flatten from by rw [List.flatMap_def]]
    rw [List.flatMap_def, List.map_map]
    congr 1
    apply List.ext_getElem (by simp [h4])
    intro i hi hi'
    simp only [List.length_map, List.length_range] at hi
    simp only [List.getElem_map, List.getElem_range, Function.comp_apply]
    have := h5 i (by simpa using hi) (by omega)
    simp only [List.getElem_range] at this
    exact flat_has this
  have hkc : flat2 Rows.laid_spandrel_term_kinds = kindVals := by kernel_rfl
  rw [hkc] at hcs
  have hcell := World.var?_cell (show Tryd.prog.globalNamed "spandrel/term.kinds" = some 0 by kernel_rfl) hvar
  intro i u hu
  have := hcell i
  rw [Nat.zero_add, this, ← hu, ← hcs, Array.getElem?_toList]
/-- a closed datum and its cell -/
def litV : D → Option Value
  | .bool b => some (.bool b)
  | .int k n => if k.min ≤ n ∧ n ≤ k.max then some (.int k n) else none
  | _ => none
theorem RpL_lit {w : World} : ∀ {ds : List D} {vs : List Value}, ds.map litV = vs.map some → RpL rho0 w ds vs
  | [], [], _ => by rw [RpL]
  | [], _ :: _, h => by simp at h
  | _ :: _, [], h => by simp at h
  | d :: r, v :: s, h => by
    simp only [List.map_cons, List.cons.injEq] at h
    refine RpL_cons'.2 ⟨?_, RpL_lit h.2⟩
    have h1 := h.1
    cases d <;> simp [litV] at h1
    · rw [Rp]; exact ⟨h1.2.symm, h1.1⟩
    · rw [Rp]; exact h1.symm
theorem rel_kinds {W : World} (h : laidMet Tryd.prog [("spandrel/term.kinds", Rows.laid_spandrel_term_kinds)] W) : Rel glob rho0 W (hOf []) := by
  refine ⟨fun _ _ => rfl, fun _ _ => rfl, (fun _ _ _ h => nomatch h), (fun _ _ _ _ _ h => nomatch h), fun g d hd => ?_⟩
  unfold glob at hd
  split at hd
  · rename_i hg
    subst hg
    cases hd
    exact RpC_mk (RpL_lit (vs := kindVals) (by kernel_rfl)) (by kernel_rfl) (kinds_lie h)
  · cases hd
theorem calls_trueK {f : FuncId} {args : List D} {vs : List Value} {w : World} (hR : Rel glob rho0 w (hOf [])) (h : Spec Tryd.prog glob f args [] (fun o _ => o.fgt = .ret (.bool true))) (hv : RpL rho0 w args vs) :
    Calls Tryd.prog f vs.toArray w fun e w' => e = .returned (.bool true) ∧ Below w.heap.size w w' := by
  refine (h rho0 w vs hR hv).2.mono ?_
  rintro e w' ⟨ρ', out, hc', ho, hm, -, hx⟩
  refine ⟨?_, ex_below hx⟩
  cases out with
  | pan d => cases ho
  | ret d =>
    obtain ⟨u, rfl, hu⟩ := hm
    have hd : d = .bool true := by
      cases d <;> simp [Out.fgt, D.fgt] at ho
      subst ho; rfl
    subst hd
    rw [Rp] at hu
    rw [hu]
/-- a world for the witness: the table of kinds holds what its initialiser lays -/
noncomputable def laidWorld (os : Os) : World :=
  { World.holding Tryd.prog os ⟨#[], #[], []⟩ with heap := (World.holding Tryd.prog os ⟨#[], #[], []⟩).heap.modify 0 fun
      | .cells _ t frozen => .cells kindVals.toArray t frozen
      | o => o }
end Go.Proofs.YtebmlojhdnldgaaDoor

namespace Go.Proofs.YtebmlojhdnldgaaDoor.termLifts
open Go.ChangeShapes Go.WideShapes Go.ChangeAt Go.RowKit
set_option linter.unusedVariables false
theorem own : ownKnob Tryd.prog.godebug = none := by kernel_rfl
set_option maxRecDepth 100000 in
theorem contract (H : Type) (enc : TypeId × Value → H) (W : World) (base : Nat) (args : Array Value) (ds gs : List (DataW H)) (before : List MemPlace)
    (hval : ∀ (j : Nat) t v, Tryd.f5.params[j]? = some t → args[j]? = some v → Value.okWide Tryd.prog W .any base t v)
    (hW : DataW.Whole enc Tryd.prog Tryd.f5.params.toList Rows.termLiftsSpec.vars false W args.toList ds gs before) (hk : Rows.uptoSmall H (ds ++ gs) = true) (hL : laidMetH Tryd.prog Rows.termLiftsUptoRow.laid W) :
    Calls Tryd.prog 5 args W fun e W' => ∃ v, e = .returned v ∧ Rows.termLiftsSpec.post enc Tryd.prog Tryd.f5 false true false false W args v W' := by
  have hW' := hW
  obtain ⟨p, q, hA0, hV, rfl, hfz, hnd⟩ := hW
  have hA : DataW.TrodAll enc Tryd.prog W 0 (fun _ => true) true Tryd.f5.params.toList args.toList ds p := hA0
  rw [Tryd.params5] at hA hval
  obtain ⟨v0, vs0, d0, ds0, p0, q0, hargs, rfl, rfl, e0, r0⟩ := trodAll_cons hA
  obtain ⟨v1, vs1, d1, ds1, p1, q1, rfl, rfl, rfl, e1, r1⟩ := trodAll_cons r0
  obtain ⟨v2, vs2, d2, ds2, p2, q2, rfl, rfl, rfl, e2, r2⟩ := trodAll_cons r1
  obtain ⟨v3, vs3, d3, ds3, p3, q3, rfl, rfl, rfl, e3, r3⟩ := trodAll_cons r2
  obtain ⟨v4, vs4, d4, ds4, p4, q4, rfl, rfl, rfl, e4, r4⟩ := trodAll_cons r3
  obtain ⟨v5, vs5, d5, ds5, p5, q5, rfl, rfl, rfl, e5, r5⟩ := trodAll_cons r4
  obtain ⟨v6, vs6, d6, ds6, p6, q6, rfl, rfl, rfl, e6, r6⟩ := trodAll_cons r5
  obtain ⟨rfl, rfl, rfl⟩ := trodAll_nil r6
  obtain rfl : args = #[v0, v1, v2, v3, v4, v5, v6] := by cases args; simp_all
  obtain ⟨rfl, rfl⟩ := trodVars_none hV
  have hb : Rows.uptoBulkAll [d0, d1, d2, d3, d4, d5, d6] ≤ 1048576 := by have := of_decide_eq_true hk; simpa using this
  simp only [Rows.uptoBulkAll] at hb
  obtain ⟨x0, hx0, h0⟩ := argT (by omega) (hval 0 _ v0 rfl rfl) e0
  obtain ⟨x1, hx1, h1⟩ := argT (by omega) (hval 1 _ v1 rfl rfl) e1
  obtain ⟨x2, hx2, h2⟩ := argT (by omega) (hval 2 _ v2 rfl rfl) e2
  obtain ⟨x3, hx3, h3⟩ := argI (hval 3 _ v3 rfl rfl) e3
  obtain ⟨x4, hx4, h4⟩ := argI (hval 4 _ v4 rfl rfl) e4
  obtain ⟨x5, hx5, h5⟩ := argI (hval 5 _ v5 rfl rfl) e5
  obtain ⟨x6, hx6, h6⟩ := argLs (by omega) (hval 6 _ v6 rfl rfl) e6
  refine (calls_trueK (rel_kinds hL) (vs := [v0, v1, v2, v3, v4, v5, v6]) (lifts_spec x0 x1 x2 x3 x4 x5 x6 h0.1 h1.1 h2.1 (by have := T.deep_nsz x0; have := h0.2; unfold DM; omega) (by have := T.deep_nsz x1; have := h1.2; unfold DM; omega) (by have := T.deep_nsz x2; have := h2.2; unfold DM; omega) (by have := h6.1; unfold LMax; omega) (fun l hl => (h6.2 l hl).1.1)) ?_).mono ?_
  · rw [RpL_cons', RpL_cons', RpL_cons', RpL_cons', RpL_cons', RpL_cons', RpL_cons', RpL_nil]
    exact ⟨hx0, hx1, hx2, hx3, hx4, hx5, hx6, rfl⟩
  · rintro e W' ⟨rfl, hbel⟩
    refine ⟨_, rfl, post_law (tb := 4) laidOut (by kernel_rfl) rfl rfl (fun t ht => ?_) hW' (fun _ => rfl) hbel⟩
    rw [Tryd.params5] at ht
    have hall : (#[27, 27, 27, 3, 3, 3, 24] : Array Nat).toList.all (fun t => Tryd.prog.readableRec t && decide (t < Tryd.prog.types.size)) = true := by kernel_rfl
    have := List.all_eq_true.1 hall t ht
    simpa using this
theorem laid_met (os : Os) : laidMet Tryd.prog Rows.termLiftsUptoRow.laid ((laidWorld os).forCall (fun _ _ => 0) ⟨#[], #[.agg #[.int .i64 0, .int .i64 0, .int .i64 0, .slice none 0 0, .slice none 0 0], .agg #[.int .i64 0, .int .i64 0, .int .i64 0, .slice none 0 0, .slice none 0 0], .agg #[.int .i64 0, .int .i64 0, .int .i64 0, .slice none 0 0, .slice none 0 0], .int .i64 0, .int .i64 0, .int .i64 0, .slice none 0 0], []⟩).memory :=
  laidMet_of_run' 8 (by kernel_rfl) (by kernel_rfl)
def wds (H : Type) : List (DataW H) := [.agg [.lit (.int .i64 0), .lit (.int .i64 0), .lit (.int .i64 0), .nil, .nil], .agg [.lit (.int .i64 0), .lit (.int .i64 0), .lit (.int .i64 0), .nil, .nil], .agg [.lit (.int .i64 0), .lit (.int .i64 0), .lit (.int .i64 0), .nil, .nil], .lit (.int .i64 0), .lit (.int .i64 0), .lit (.int .i64 0), .nil]
theorem reads (os : Os) {H : Type} (enc : TypeId × Value → H) : ∃ places, DataW.whole enc Tryd.prog ((laidWorld os).forCall (fun _ _ => 0) ⟨#[], #[.agg #[.int .i64 0, .int .i64 0, .int .i64 0, .slice none 0 0, .slice none 0 0], .agg #[.int .i64 0, .int .i64 0, .int .i64 0, .slice none 0 0, .slice none 0 0], .agg #[.int .i64 0, .int .i64 0, .int .i64 0, .slice none 0 0, .slice none 0 0], .int .i64 0, .int .i64 0, .int .i64 0, .slice none 0 0], []⟩).memory Tryd.f5.params.toList Rows.termLiftsSpec.vars false (#[.agg #[.int .i64 0, .int .i64 0, .int .i64 0, .slice none 0 0, .slice none 0 0], .agg #[.int .i64 0, .int .i64 0, .int .i64 0, .slice none 0 0, .slice none 0 0], .agg #[.int .i64 0, .int .i64 0, .int .i64 0, .slice none 0 0, .slice none 0 0], .int .i64 0, .int .i64 0, .int .i64 0, .slice none 0 0] : Array Value).toList 8 = some (wds H, [], places) :=
  ⟨[], by kernel_rfl⟩
set_option maxRecDepth 100000 in
theorem liftedUpto (os : Os) (started : os.Started) (H : Type) (enc : TypeId × Value → H) (F : Stop.Interp) :
    ReturnsInHanded {} Tryd.checked os 5 .any ((Rows.OpenSpec.upto Rows.termLiftsSpec).preRow enc Tryd.prog Tryd.f5 Rows.termLiftsUptoRow.domain false Rows.termLiftsUptoRow.laid) (((Rows.OpenSpec.upto Rows.termLiftsSpec).at F).post enc Tryd.prog Tryd.f5 false true false false) := by
  obtain ⟨places, hx⟩ := reads os enc
  refine returnsInHanded_of_row (C := Tryd.checked) (s := Rows.OpenSpec.upto Rows.termLiftsSpec) own started (by kernel_rfl) Tryd.func5
    (witness_row_at (enc := enc) (C := Tryd.checked) false (laidWorld os) #[.agg #[.int .i64 0, .int .i64 0, .int .i64 0, .slice none 0 0, .slice none 0 0], .agg #[.int .i64 0, .int .i64 0, .int .i64 0, .slice none 0 0, .slice none 0 0], .agg #[.int .i64 0, .int .i64 0, .int .i64 0, .slice none 0 0, .slice none 0 0], .int .i64 0, .int .i64 0, .int .i64 0, .slice none 0 0] rfl (by kernel_rfl) (by kernel_rfl) (by kernel_rfl)
      (OpenSpec.preRow_of_cond 8 hx (by kernel_rfl) (fun k hk => by cases hk; kernel_rfl) (by kernel_rfl) (laid_met os))) ?_
  intro W base args ds gs before hval hW _ hcond _ hL _ _
  exact contract H enc W base args ds gs before hval hW (hcond _ rfl) hL
theorem saidUpto : Rows.TermLiftsUptoSaid :=
  OpenClaim.holds_of_cond 5 Tryd.f5 rfl rfl rfl rfl rfl rfl rfl ⟨rfl, rfl, rfl, rfl, rfl⟩ rfl rfl rfl rfl rfl (by kernel_rfl) Tryd.func5 (by kernel_rfl)
    (of_decide_eq_true (by kernel_rfl)) (by unfold Func.isWrapper; first | (rw [if_pos (by decide +kernel)]; kernel_rfl) | (rw [if_neg (by decide +kernel)]; exact ⟨rfl, rfl⟩))
    (fun os started H enc _ F => by rw [OpenClaim.pre_eq_preRow]; exact liftedUpto os started H enc F)
theorem plain (f : FuncId) (fn : Func) (hf : Tryd.pinned.checked.prog.funcNamed "spandrel/spandrellaw02.TermLifts" = some f) (hfn : Tryd.pinned.checked.prog.funcs[f]? = some fn) :
    true = Tryd.pinned.checked.prog.looks [] ∧ ∀ (j : Nat) t, fn.params[j]? = some t → Tryd.pinned.checked.prog.wantsStandIn t = false := by
  obtain rfl : f = 5 := Option.some.inj ((show Tryd.prog.funcNamed "spandrel/spandrellaw02.TermLifts" = some 5 by kernel_rfl).symm.trans hf) |>.symm
  obtain rfl : fn = Tryd.f5 := (Option.some.inj (Tryd.func5.symm.trans hfn)).symm
  refine ⟨by kernel_rfl, fun j t ht => ?_⟩
  rw [Tryd.params5] at ht
  have hall : (#[27, 27, 27, 3, 3, 3, 24] : Array Nat).toList.all (fun t => Tryd.prog.wantsStandIn t == false) = true := by kernel_rfl
  have := List.all_eq_true.1 hall t (by simpa using Array.mem_of_getElem? ht)
  exact eq_of_beq this
/-- the card -/
theorem cardUpto : Rows.TermLiftsUptoCardSaid :=
  Claim7.holds_tied_plain_at .later [] _ _ _ _ saidUpto (fun _ h => by cases h) (by kernel_rfl) (fun _ h => by cases h) termLiftsUpto_row_tie rfl ⟨rfl, rfl⟩ (by kernel_rfl) rfl plain (by kernel_rfl)
end Go.Proofs.YtebmlojhdnldgaaDoor.termLifts

