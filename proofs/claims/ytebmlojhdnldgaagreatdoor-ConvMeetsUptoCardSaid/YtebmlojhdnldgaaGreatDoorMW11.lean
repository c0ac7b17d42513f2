/-
  MW11: the texts Cmi, one behind the other.
-/
import Derived.Test.YtebmlojhdnldgaaGreatDoorMW10
namespace Go.Proofs.YtebmlojhdnldgaaGreatDoor
set_option linter.unusedSimpArgs false
set_option linter.unusedVariables false
set_option maxHeartbeats 10000000
set_option maxRecDepth 20000
open Go.RowKit
attribute [local simp] Qb Qc Xg Xw opD Qt Qn Qi Qj hOf Xd Xz Xu TK.isAgg TK.known Xf Xh Wv Qv D.ofV inB Wr Xj binX binD binE Xv bndD capB IntKind.min IntKind.max IntKind.signed IntKind.bits Xb late
theorem normD_cases {l : List C} (hl : ∀ c, c ∈ l -> okC c) {h : Nat} {t : T} {f : Int} {r : Option (List T × Int)} (ht : okT t) (H : NmR l h [t] f r) : ∃ x g e, normD r = .tuple [Qx x, .int .i64 g, .int .i64 e] /\ okT x /\ (e = 0 -> ∃ g', NmR l h [t] f (some ([x], g'))) := by
 cases r with
 | none => exact ⟨Wl, 0, 5, rfl, zero_ok, fun e => absurd e (by omega)⟩
 | some v =>
  obtain ⟨xs, g⟩ := v
  obtain ⟨x, rfl⟩ : ∃ x, xs = [x] := by
   generalize ho : some (xs, g) = o at H
   cases H with
   | fin H hn => cases ho; exact List.length_eq_one_iff.1 H.len
   | gone H => cases ho
  exact ⟨x, g, 0, rfl, nmT_ok hl ht H, fun _ => ⟨g, H⟩⟩
theorem ansD_cases (r : Option (Bool × Int)) : ∃ v g e, ansD r = .tuple [.bool v, .int .i64 g, .int .i64 e] /\ (e = 0 -> r = some (v, g)) := by
 cases r with
 | none => exact ⟨_, _, _, rfl, fun e => absurd e (by omega)⟩
 | some v => exact ⟨_, _, _, rfl, fun _ => rfl⟩
set_option maxHeartbeats 16000000 in
theorem meets8_spec {l : List C} (hcs : okCs l) (hq : (cosz l : Int) <= QB) {n sc f : Int} {a b : T} {way : List Int} (ha : okT a) (hza : a.tsz <= 1152922604119523328) (hb : okT b) (hzb : b.tsz <= 1152922604119523328) (hwl : way.length <= 1048576) :
  Qu Tryz.prog glob 7 [Cs l, .int .i64 n, .int .i64 sc, Qx a, Qx b, Ints way, .int .i64 f] [] (fun o _ => o.fgt = .ret (.bool true)) := by
 have aw := awake8_spec
 obtain ⟨gb, gr, hgr⟩ := great8_spec l [a, b] hcs.len hcs.ok (by unfold Wd; simp) (fun t ht => by
  simp only [List.mem_cons, List.not_mem_nil, or_false] at ht
  rcases ht with rfl | rfl
  ·exact ha
  ·exact hb)
 have L2 : 2 <= Wd := by unfold Wd; omega
 have hwl' : way.length <= Wd := by unfold Wd; omega
 have rat := right8_spec (n := n) (sc := sc) hcs ha
 have rbt := right8_spec (n := n) (sc := sc) hcs hb
 have hmain : gb = false -> 1 <= f -> f <= 2000 -> sc <= 1000 -> ∃ r1 : Option (Bool × Int),
   Qu Tryz.prog glob 26 [Cs l, Qx a, Qx a, .int .i64 f] [] (fun o _ => o.fgt = .ret (.tuple [.bool true, .int .i64 (f - 1), .int .i64 0])) /\
   Qu Tryz.prog glob 26 [Cs l, Qx a, Qx b, .int .i64 f] [] (fun o _ => o.fgt = .ret (ansD r1)) /\
   Qu Tryz.prog glob 26 [Cs l, Qx b, Qx a, .int .i64 f] [] (fun o _ => o.fgt = .ret (ansD r1)) /\
   ∀ one g1, r1 = some (one, g1) -> rightL l n sc a = true -> rightL l n sc b = true -> ∃ (c x y : T) (v : Bool) (g2 e2 g3 e3 g4 e4 : Int),
    Qu Tryz.prog glob 30 [Cs l, Qx a, Ints way] [] (fun o _ => o.fgt = .ret (Qx c)) /\
    Qu Tryz.prog glob 26 [Cs l, Qx c, Qx b, .int .i64 2000] [] (fun o _ => o.fgt = .ret (.tuple [.bool v, .int .i64 g2, .int .i64 e2])) /\ (e2 = 0 -> v = one) /\
    Qu Tryz.prog glob 12 [Cs l, Qx a, .int .i64 2000] [] (fun o _ => o.fgt = .ret (.tuple [Qx x, .int .i64 g3, .int .i64 e3])) /\
    Qu Tryz.prog glob 12 [Cs l, Qx b, .int .i64 2000] [] (fun o _ => o.fgt = .ret (.tuple [Qx y, .int .i64 g4, .int .i64 e4])) /\
    ∃ sm, Qu Tryz.prog glob 18 [Qx x, Qx y] [] (fun o _ => o.fgt = .ret (.bool sm)) /\ (e3 = 0 -> e4 = 0 -> sm = true -> one = true) := by
  intro hgb hf1 hf2 hsc
  obtain ⟨sa, sb, -⟩ := small8_of hq hza hzb (hgr hgb)
  have pa := pot_le a
  have pb := pot_le b
  have n2 : (2000 : Int).toNat = 2000 := rfl
  have oa : okP 2000 a := ⟨ha, by unfold PM; omega⟩
  have ob : okP 2000 b := ⟨hb, by unfold PM; omega⟩
  obtain ⟨h1, r1, R1⟩ := cr_total l f.toNat [a] [b] rfl f (by omega) (by omega)
  refine ⟨r1, conv_spec (r := some (true, f - 1)) (h := 1) hcs (by omega) (by omega) (oa.le hf2) (oa.le hf2) (.same hf1 (T.same_refl a) .nil), conv_spec hcs (by omega) (by omega) (oa.le hf2) (ob.le hf2) R1, conv_spec hcs (by omega) (by omega) (ob.le hf2) (oa.le hf2) R1.symm, ?_⟩
  rintro one g1 rfl ra rb
  obtain ⟨m1, m2⟩ := meets_law hcs.bo hsc sa sb ra rb way (by omega) hf2 R1
  have hst := step8_spec hcs way hwl' ha (by omega)
  have hcok := stepW_ok hcs way ha
  have pp := stepW_pot (A := 2800) hcs.bo way (t := a) (by omega)
  generalize stepW l a way = c at m1 hst hcok pp
  have oc : okP 2000 c := ⟨hcok, by unfold PM; omega⟩
  obtain ⟨h2, r2, R2⟩ := cr_total l 2000 [c] [b] rfl 2000 (by omega) (by omega)
  obtain ⟨h3, r3, R3⟩ := nmR_total l a 2000 (by omega)
  obtain ⟨h4, r4, R4⟩ := nmR_total l b 2000 (by omega)
  have c2 := conv_spec hcs (by omega) (by omega) oc ob R2
  have c3 := normT_spec hcs (by omega) (by omega) oa R3
  have c4 := normT_spec hcs (by omega) (by omega) ob R4
  obtain ⟨v, g2, e2, q1, q2⟩ := ansD_cases r2
  obtain ⟨x, g3, e3, q3, q4, q5⟩ := normD_cases hcs.ok ha R3
  obtain ⟨y, g4, e4, q6, q7, q8⟩ := normD_cases hcs.ok hb R4
  rw [q1] at c2
  rw [q3] at c3
  rw [q6] at c4
  refine ⟨c, x, y, v, g2, e2, g3, e3, g4, e4, hst, c2, fun e => ?_, c3, c4, x.sameB y, sameT_spec x y q4 q7, fun e e' hs => ?_⟩
  ·have := q2 e
   subst this
   exact m1 h2 v g2 R2
  ·obtain ⟨g, N1⟩ := q5 e
   obtain ⟨g', N2⟩ := q8 e'
   exact m2 _ _ _ _ _ _ N1 N2 hs
 clear hgr
 have hEa := Qd a
 have hEb := Qd b
 unfold Ts at gr
 simp only [List.map_cons, List.map_nil] at gr
 generalize rightL l n sc a = ra at rat hmain
 generalize rightL l n sc b = rb at rbt hmain
 rw [hEa, hEb] at gr hmain
 rw [hEa] at rat
 rw [hEb] at rbt
 unfold Cs at gr hmain rat rbt
 unfold Ints at hmain
 unfold Cs Ints
 rw [hEa, hEb]
 clear hEa hEb ha hb hza hzb hq hcs
 refine Qu.movd Qf (Qp Wc Tryz.func7 rfl (Qw _ _ Tryz.func7 rfl (by decide)) rfl rfl ?_)
 (refine sR fun K hK => ?_; ((repeat (rw [Qa]; simp)); (try simp only [zs])); refine hK _ _ _ ?_; clear hK K)
 refine Qg fun K1 hK1 => ?_
 (refine sR fun K hK => ?_; ((repeat (rw [Qa]; simp)); (try simp only [zs])))
 refine cXp (aw) ?_
 ((try simp only [Qb, Qc, Qn, Qi, Qj]); (repeat (rw [Qa]; simp)); (try simp only [zs]))
 (refine hK _ _ _ ?_; clear hK K)
 refine pF rfl ?_
 refine Qs (hK1 _ _ _ ?_)
 clear hK1 K1 aw
 refine Qg fun K1 hK1 => ?_
 cases gb with
 | true =>
  (refine sR fun K hK => ?_; ((repeat (rw [Qa]; simp [L2])); (try simp only [zs])))
  refine cXp (gr) ?_
  ((try simp only [Qb, Qc, Qn, Qi, Qj]); (repeat (rw [Qa]; simp)); (try simp only [zs]))
  (refine hK _ _ _ ?_; clear hK K)
  refine pT rfl ?_
  (refine sR fun K hK => ?_; ((repeat (rw [Qa]; simp)); (try simp only [zs])); refine hK _ _ _ ?_; clear hK K)
  (refine Qo ?_; (try simp only [zs]); refine Wa.ret rfl (.inl ?_); simp [Qt, Out.fgt, D.fgt, D.fgts])
 | false =>
 by_cases f1 : f < 1
 ·(refine sR fun K hK => ?_; ((repeat (rw [Qa]; simp [L2, f1])); (try simp only [zs])))
  refine cXp (gr) ?_
  ((try simp only [Qb, Qc, Qn, Qi, Qj]); (repeat (rw [Qa]; simp [f1])); (try simp only [zs]))
  (refine hK _ _ _ ?_; clear hK K)
  refine pT rfl ?_
  (refine sR fun K hK => ?_; ((repeat (rw [Qa]; simp)); (try simp only [zs])); refine hK _ _ _ ?_; clear hK K)
  (refine Qo ?_; (try simp only [zs]); refine Wa.ret rfl (.inl ?_); simp [Qt, Out.fgt, D.fgt, D.fgts])
 by_cases f2 : 2000 < f
 ·(refine sR fun K hK => ?_; ((repeat (rw [Qa]; simp [L2, f1, f2])); (try simp only [zs])))
  refine cXp (gr) ?_
  ((try simp only [Qb, Qc, Qn, Qi, Qj]); (repeat (rw [Qa]; simp [f1, f2])); (try simp only [zs]))
  (refine hK _ _ _ ?_; clear hK K)
  refine pT rfl ?_
  (refine sR fun K hK => ?_; ((repeat (rw [Qa]; simp)); (try simp only [zs])); refine hK _ _ _ ?_; clear hK K)
  (refine Qo ?_; (try simp only [zs]); refine Wa.ret rfl (.inl ?_); simp [Qt, Out.fgt, D.fgt, D.fgts])
 by_cases f3 : 60 < (way.length : Int)
 ·(refine sR fun K hK => ?_; ((repeat (rw [Qa]; simp [L2, f1, f2, f3])); (try simp only [zs])))
  refine cXp (gr) ?_
  ((try simp only [Qb, Qc, Qn, Qi, Qj]); (repeat (rw [Qa]; simp [f1, f2, f3])); (try simp only [zs]))
  (refine hK _ _ _ ?_; clear hK K)
  refine pT rfl ?_
  (refine sR fun K hK => ?_; ((repeat (rw [Qa]; simp)); (try simp only [zs])); refine hK _ _ _ ?_; clear hK K)
  (refine Qo ?_; (try simp only [zs]); refine Wa.ret rfl (.inl ?_); simp [Qt, Out.fgt, D.fgt, D.fgts])
 by_cases f4 : 1000 < sc
 ·(refine sR fun K hK => ?_; ((repeat (rw [Qa]; simp [L2, f1, f2, f3, f4])); (try simp only [zs])))
  refine cXp (gr) ?_
  ((try simp only [Qb, Qc, Qn, Qi, Qj]); (repeat (rw [Qa]; simp [f1, f2, f3, f4])); (try simp only [zs]))
  (refine hK _ _ _ ?_; clear hK K)
  refine pT rfl ?_
  (refine sR fun K hK => ?_; ((repeat (rw [Qa]; simp)); (try simp only [zs])); refine hK _ _ _ ?_; clear hK K)
  (refine Qo ?_; (try simp only [zs]); refine Wa.ret rfl (.inl ?_); simp [Qt, Out.fgt, D.fgt, D.fgts])
 obtain ⟨r1, c0, c1, c2, hrest⟩ := hmain rfl (by omega) (by omega) (by omega)
 clear hmain
 have hw : IntKind.i64.wrap (f - 1) = f - 1 := i64w (by omega) (by omega)
 (refine sR fun K hK => ?_; ((repeat (rw [Qa]; simp [L2, f1, f2, f3, f4])); (try simp only [zs])))
 refine cXp (gr) ?_
 ((try simp only [Qb, Qc, Qn, Qi, Qj]); (repeat (rw [Qa]; simp [f1, f2, f3, f4])); (try simp only [zs]))
 (refine hK _ _ _ ?_; clear hK K)
 refine pF rfl ?_
 refine Qs (hK1 _ _ _ ?_)
 clear hK1 K1 gr
 cases r1 with
 | none =>
  unfold ansD at c1 c2
  (refine sR fun K hK => ?_; ((repeat (rw [Qa]; simp)); (try simp only [zs])))
  refine cXp (c0) ?_
  ((try simp only [Qb, Qc, Qn, Qi, Qj]); (repeat (rw [Qa]; simp)); (try simp only [zs]))
  (refine hK _ _ _ ?_; clear hK K)
  (refine sR fun K hK => ?_; ((repeat (rw [Qa]; simp)); (try simp only [zs])))
  refine cXp (c1) ?_
  ((try simp only [Qb, Qc, Qn, Qi, Qj]); (repeat (rw [Qa]; simp)); (try simp only [zs]))
  (refine hK _ _ _ ?_; clear hK K)
  (refine sR fun K hK => ?_; ((repeat (rw [Qa]; simp)); (try simp only [zs])))
  refine cXp (c2) ?_
  ((try simp only [Qb, Qc, Qn, Qi, Qj]); (repeat (rw [Qa]; simp)); (try simp only [zs]))
  (refine hK _ _ _ ?_; clear hK K)
  clear c0 c1 c2
  refine Qg fun K1 hK1 => ?_
  (refine sR fun K hK => ?_; ((repeat (rw [Qa]; simp [pairX, hw])); (try simp only [zs])); refine hK _ _ _ ?_; clear hK K)
  refine pF rfl ?_
  refine Qs (hK1 _ _ _ ?_)
  clear hK1 K1
  refine Qg fun K1 hK1 => ?_
  cases ra with
  | false =>
   (refine sR fun K hK => ?_; ((repeat (rw [Qa]; simp)); (try simp only [zs])))
   refine cXp (rat) ?_
   ((try simp only [Qb, Qc, Qn, Qi, Qj]); (repeat (rw [Qa]; simp)); (try simp only [zs]))
   (refine hK _ _ _ ?_; clear hK K)
   refine pT rfl ?_
   (refine sR fun K hK => ?_; ((repeat (rw [Qa]; simp)); (try simp only [zs])); refine hK _ _ _ ?_; clear hK K)
   (refine Qo ?_; (try simp only [zs]); refine Wa.ret rfl (.inl ?_); simp [Qt, Out.fgt, D.fgt, D.fgts])
  | true =>
  cases rb with
  | false =>
   (refine sR fun K hK => ?_; ((repeat (rw [Qa]; simp)); (try simp only [zs])))
   refine cXp (rat) ?_
   ((try simp only [Qb, Qc, Qn, Qi, Qj]); (repeat (rw [Qa]; simp)); (try simp only [zs]))
   refine cXp (rbt) ?_
   ((try simp only [Qb, Qc, Qn, Qi, Qj]); (repeat (rw [Qa]; simp)); (try simp only [zs]))
   (refine hK _ _ _ ?_; clear hK K)
   refine pT rfl ?_
   (refine sR fun K hK => ?_; ((repeat (rw [Qa]; simp)); (try simp only [zs])); refine hK _ _ _ ?_; clear hK K)
   (refine Qo ?_; (try simp only [zs]); refine Wa.ret rfl (.inl ?_); simp [Qt, Out.fgt, D.fgt, D.fgts])
  | true =>
  (refine sR fun K hK => ?_; ((repeat (rw [Qa]; simp)); (try simp only [zs])))
  refine cXp (rat) ?_
  ((try simp only [Qb, Qc, Qn, Qi, Qj]); (repeat (rw [Qa]; simp)); (try simp only [zs]))
  refine cXp (rbt) ?_
  ((try simp only [Qb, Qc, Qn, Qi, Qj]); (repeat (rw [Qa]; simp)); (try simp only [zs]))
  (refine hK _ _ _ ?_; clear hK K)
  refine pT rfl ?_
  (refine sR fun K hK => ?_; ((repeat (rw [Qa]; simp)); (try simp only [zs])); refine hK _ _ _ ?_; clear hK K)
  (refine Qo ?_; (try simp only [zs]); refine Wa.ret rfl (.inl ?_); simp [Qt, Out.fgt, D.fgt, D.fgts])
 | some v1 =>
  obtain ⟨one, g1⟩ := v1
  unfold ansD at c1 c2
  cases one with
  | true =>
   (refine sR fun K hK => ?_; ((repeat (rw [Qa]; simp)); (try simp only [zs])))
   refine cXp (c0) ?_
   ((try simp only [Qb, Qc, Qn, Qi, Qj]); (repeat (rw [Qa]; simp)); (try simp only [zs]))
   (refine hK _ _ _ ?_; clear hK K)
   (refine sR fun K hK => ?_; ((repeat (rw [Qa]; simp)); (try simp only [zs])))
   refine cXp (c1) ?_
   ((try simp only [Qb, Qc, Qn, Qi, Qj]); (repeat (rw [Qa]; simp)); (try simp only [zs]))
   (refine hK _ _ _ ?_; clear hK K)
   (refine sR fun K hK => ?_; ((repeat (rw [Qa]; simp)); (try simp only [zs])))
   refine cXp (c2) ?_
   ((try simp only [Qb, Qc, Qn, Qi, Qj]); (repeat (rw [Qa]; simp)); (try simp only [zs]))
   (refine hK _ _ _ ?_; clear hK K)
   clear c0 c1 c2
   refine Qg fun K1 hK1 => ?_
   (refine sR fun K hK => ?_; ((repeat (rw [Qa]; simp [pairX, hw])); (try simp only [zs])); refine hK _ _ _ ?_; clear hK K)
   refine pF rfl ?_
   refine Qs (hK1 _ _ _ ?_)
   clear hK1 K1
   refine Qg fun K1 hK1 => ?_
   cases ra with
   | false =>
    (refine sR fun K hK => ?_; ((repeat (rw [Qa]; simp)); (try simp only [zs])))
    refine cXp (rat) ?_
    ((try simp only [Qb, Qc, Qn, Qi, Qj]); (repeat (rw [Qa]; simp)); (try simp only [zs]))
    (refine hK _ _ _ ?_; clear hK K)
    refine pT rfl ?_
    (refine sR fun K hK => ?_; ((repeat (rw [Qa]; simp)); (try simp only [zs])); refine hK _ _ _ ?_; clear hK K)
    (refine Qo ?_; (try simp only [zs]); refine Wa.ret rfl (.inl ?_); simp [Qt, Out.fgt, D.fgt, D.fgts])
   | true =>
   cases rb with
   | false =>
    (refine sR fun K hK => ?_; ((repeat (rw [Qa]; simp)); (try simp only [zs])))
    refine cXp (rat) ?_
    ((try simp only [Qb, Qc, Qn, Qi, Qj]); (repeat (rw [Qa]; simp)); (try simp only [zs]))
    refine cXp (rbt) ?_
    ((try simp only [Qb, Qc, Qn, Qi, Qj]); (repeat (rw [Qa]; simp)); (try simp only [zs]))
    (refine hK _ _ _ ?_; clear hK K)
    refine pT rfl ?_
    (refine sR fun K hK => ?_; ((repeat (rw [Qa]; simp)); (try simp only [zs])); refine hK _ _ _ ?_; clear hK K)
    (refine Qo ?_; (try simp only [zs]); refine Wa.ret rfl (.inl ?_); simp [Qt, Out.fgt, D.fgt, D.fgts])
   | true =>
   (refine sR fun K hK => ?_; ((repeat (rw [Qa]; simp)); (try simp only [zs])))
   refine cXp (rat) ?_
   ((try simp only [Qb, Qc, Qn, Qi, Qj]); (repeat (rw [Qa]; simp)); (try simp only [zs]))
   refine cXp (rbt) ?_
   ((try simp only [Qb, Qc, Qn, Qi, Qj]); (repeat (rw [Qa]; simp)); (try simp only [zs]))
   (refine hK _ _ _ ?_; clear hK K)
   refine pF rfl ?_
   refine Qs (hK1 _ _ _ ?_)
   clear hK1 K1 rat rbt
   obtain ⟨c, x, y, v, g2, e2, g3, e3, g4, e4, c3, c4, hv, c5, c6, sm, c7, hsm⟩ := hrest true g1 rfl rfl rfl
   clear hrest
   have hEc := Qd c
   have hEx := Qd x
   have hEy := Qd y
   rw [hEc] at c3 c4
   rw [hEx] at c5 c7
   rw [hEy] at c6 c7
   (refine sR fun K hK => ?_; ((repeat (rw [Qa]; simp)); (try simp only [zs])))
   refine cXp (c3) ?_
   ((try simp only [Qb, Qc, Qn, Qi, Qj]); (repeat (rw [Qa]; simp)); (try simp only [zs]))
   (refine hK _ _ _ ?_; clear hK K)
   (refine sR fun K hK => ?_; ((repeat (rw [Qa]; simp)); (try simp only [zs])))
   refine cXp (c4) ?_
   ((try simp only [Qb, Qc, Qn, Qi, Qj]); (repeat (rw [Qa]; simp)); (try simp only [zs]))
   (refine hK _ _ _ ?_; clear hK K)
   clear c3 c4
   refine wpD_seqf [157, 158, 159, 160, 161, 162, 163] ([157, 158, 159, 160, 161, 162, 163].map fun _ => .junk) [.cells 27 [.int .i64 a.k, .int .i64 a.n, .int .i64 a.a, .slice (a.ls.map Wm) .any, .slice (a.ks.map Qx) .any], .cells 27 [.int .i64 b.k, .int .i64 b.n, .int .i64 b.a, .slice (b.ls.map Wm) .any, .slice (b.ks.map Qx) .any], .cells 27 [.int .i64 c.k, .int .i64 c.n, .int .i64 c.a, .slice (c.ls.map Wm) .any, .slice (c.ks.map Qx) .any]] ?_ ?_
   rotate_left
   ·intro K hK
    by_cases h2 : e2 = 0
    ·have hv := hv h2
     subst hv
     (refine sR fun K hK => ?_; ((repeat (rw [Qa]; simp [h2, pairX])); (try simp only [zs])); refine hK _ _ _ ?_; clear hK K)
     refine pF rfl ?_
     refine Qs (hK _ ?_)
     simp [leT, Qv, h2]
    ·(refine sR fun K hK => ?_; ((repeat (rw [Qa]; simp [h2])); (try simp only [zs])); refine hK _ _ _ ?_; clear hK K)
     refine pF rfl ?_
     refine Qs (hK _ ?_)
     simp [leT, Qv]
   simp only [Qv, List.set, List.map_cons, List.map_nil, List.cons_append, List.nil_append]
   (refine sR fun K hK => ?_; ((repeat (rw [Qa]; simp)); (try simp only [zs])))
   refine cXp (c5) ?_
   ((try simp only [Qb, Qc, Qn, Qi, Qj]); (repeat (rw [Qa]; simp)); (try simp only [zs]))
   (refine hK _ _ _ ?_; clear hK K)
   (refine sR fun K hK => ?_; ((repeat (rw [Qa]; simp)); (try simp only [zs])))
   refine cXp (c6) ?_
   ((try simp only [Qb, Qc, Qn, Qi, Qj]); (repeat (rw [Qa]; simp)); (try simp only [zs]))
   (refine hK _ _ _ ?_; clear hK K)
   by_cases h3 : e3 = 0
   ·by_cases h4 : e4 = 0
    ·cases sm with
     | false =>
      (refine sR fun K hK => ?_; ((repeat (rw [Qa]; simp [h3, h4])); (try simp only [zs])))
      refine cXp (c7) ?_
      ((try simp only [Qb, Qc, Qn, Qi, Qj]); (repeat (rw [Qa]; simp)); (try simp only [zs]))
      (refine hK _ _ _ ?_; clear hK K)
      (refine Qo ?_; (try simp only [zs]); refine Wa.ret rfl (.inl ?_); simp [Qt, Out.fgt, D.fgt, D.fgts])
     | true =>
      (refine sR fun K hK => ?_; ((repeat (rw [Qa]; simp [h3, h4])); (try simp only [zs])))
      refine cXp (c7) ?_
      ((try simp only [Qb, Qc, Qn, Qi, Qj]); (repeat (rw [Qa]; simp)); (try simp only [zs]))
      (refine hK _ _ _ ?_; clear hK K)
      (refine Qo ?_; (try simp only [zs]); refine Wa.ret rfl (.inl ?_); simp [Qt, Out.fgt, D.fgt, D.fgts])
    ·(refine sR fun K hK => ?_; ((repeat (rw [Qa]; simp [h3, h4])); (try simp only [zs])); refine hK _ _ _ ?_; clear hK K)
     (refine Qo ?_; (try simp only [zs]); refine Wa.ret rfl (.inl ?_); simp [Qt, Out.fgt, D.fgt, D.fgts])
   ·(refine sR fun K hK => ?_; ((repeat (rw [Qa]; simp [h3])); (try simp only [zs])); refine hK _ _ _ ?_; clear hK K)
    (refine Qo ?_; (try simp only [zs]); refine Wa.ret rfl (.inl ?_); simp [Qt, Out.fgt, D.fgt, D.fgts])
  | false =>
   (refine sR fun K hK => ?_; ((repeat (rw [Qa]; simp)); (try simp only [zs])))
   refine cXp (c0) ?_
   ((try simp only [Qb, Qc, Qn, Qi, Qj]); (repeat (rw [Qa]; simp)); (try simp only [zs]))
   (refine hK _ _ _ ?_; clear hK K)
   (refine sR fun K hK => ?_; ((repeat (rw [Qa]; simp)); (try simp only [zs])))
   refine cXp (c1) ?_
   ((try simp only [Qb, Qc, Qn, Qi, Qj]); (repeat (rw [Qa]; simp)); (try simp only [zs]))
   (refine hK _ _ _ ?_; clear hK K)
   (refine sR fun K hK => ?_; ((repeat (rw [Qa]; simp)); (try simp only [zs])))
   refine cXp (c2) ?_
   ((try simp only [Qb, Qc, Qn, Qi, Qj]); (repeat (rw [Qa]; simp)); (try simp only [zs]))
   (refine hK _ _ _ ?_; clear hK K)
   clear c0 c1 c2
   refine Qg fun K1 hK1 => ?_
   (refine sR fun K hK => ?_; ((repeat (rw [Qa]; simp [pairX, hw])); (try simp only [zs])); refine hK _ _ _ ?_; clear hK K)
   refine pF rfl ?_
   refine Qs (hK1 _ _ _ ?_)
   clear hK1 K1
   refine Qg fun K1 hK1 => ?_
   cases ra with
   | false =>
    (refine sR fun K hK => ?_; ((repeat (rw [Qa]; simp)); (try simp only [zs])))
    refine cXp (rat) ?_
    ((try simp only [Qb, Qc, Qn, Qi, Qj]); (repeat (rw [Qa]; simp)); (try simp only [zs]))
    (refine hK _ _ _ ?_; clear hK K)
    refine pT rfl ?_
    (refine sR fun K hK => ?_; ((repeat (rw [Qa]; simp)); (try simp only [zs])); refine hK _ _ _ ?_; clear hK K)
    (refine Qo ?_; (try simp only [zs]); refine Wa.ret rfl (.inl ?_); simp [Qt, Out.fgt, D.fgt, D.fgts])
   | true =>
   cases rb with
   | false =>
    (refine sR fun K hK => ?_; ((repeat (rw [Qa]; simp)); (try simp only [zs])))
    refine cXp (rat) ?_
    ((try simp only [Qb, Qc, Qn, Qi, Qj]); (repeat (rw [Qa]; simp)); (try simp only [zs]))
    refine cXp (rbt) ?_
    ((try simp only [Qb, Qc, Qn, Qi, Qj]); (repeat (rw [Qa]; simp)); (try simp only [zs]))
    (refine hK _ _ _ ?_; clear hK K)
    refine pT rfl ?_
    (refine sR fun K hK => ?_; ((repeat (rw [Qa]; simp)); (try simp only [zs])); refine hK _ _ _ ?_; clear hK K)
    (refine Qo ?_; (try simp only [zs]); refine Wa.ret rfl (.inl ?_); simp [Qt, Out.fgt, D.fgt, D.fgts])
   | true =>
   (refine sR fun K hK => ?_; ((repeat (rw [Qa]; simp)); (try simp only [zs])))
   refine cXp (rat) ?_
   ((try simp only [Qb, Qc, Qn, Qi, Qj]); (repeat (rw [Qa]; simp)); (try simp only [zs]))
   refine cXp (rbt) ?_
   ((try simp only [Qb, Qc, Qn, Qi, Qj]); (repeat (rw [Qa]; simp)); (try simp only [zs]))
   (refine hK _ _ _ ?_; clear hK K)
   refine pF rfl ?_
   refine Qs (hK1 _ _ _ ?_)
   clear hK1 K1 rat rbt
   obtain ⟨c, x, y, v, g2, e2, g3, e3, g4, e4, c3, c4, hv, c5, c6, sm, c7, hsm⟩ := hrest false g1 rfl rfl rfl
   clear hrest
   have hEc := Qd c
   have hEx := Qd x
   have hEy := Qd y
   rw [hEc] at c3 c4
   rw [hEx] at c5 c7
   rw [hEy] at c6 c7
   (refine sR fun K hK => ?_; ((repeat (rw [Qa]; simp)); (try simp only [zs])))
   refine cXp (c3) ?_
   ((try simp only [Qb, Qc, Qn, Qi, Qj]); (repeat (rw [Qa]; simp)); (try simp only [zs]))
   (refine hK _ _ _ ?_; clear hK K)
   (refine sR fun K hK => ?_; ((repeat (rw [Qa]; simp)); (try simp only [zs])))
   refine cXp (c4) ?_
   ((try simp only [Qb, Qc, Qn, Qi, Qj]); (repeat (rw [Qa]; simp)); (try simp only [zs]))
   (refine hK _ _ _ ?_; clear hK K)
   clear c3 c4
   refine wpD_seqf [157, 158, 159, 160, 161, 162, 163] ([157, 158, 159, 160, 161, 162, 163].map fun _ => .junk) [.cells 27 [.int .i64 a.k, .int .i64 a.n, .int .i64 a.a, .slice (a.ls.map Wm) .any, .slice (a.ks.map Qx) .any], .cells 27 [.int .i64 b.k, .int .i64 b.n, .int .i64 b.a, .slice (b.ls.map Wm) .any, .slice (b.ks.map Qx) .any], .cells 27 [.int .i64 c.k, .int .i64 c.n, .int .i64 c.a, .slice (c.ls.map Wm) .any, .slice (c.ks.map Qx) .any]] ?_ ?_
   rotate_left
   ·intro K hK
    by_cases h2 : e2 = 0
    ·have hv := hv h2
     subst hv
     (refine sR fun K hK => ?_; ((repeat (rw [Qa]; simp [h2, pairX])); (try simp only [zs])); refine hK _ _ _ ?_; clear hK K)
     refine pF rfl ?_
     refine Qs (hK _ ?_)
     simp [leT, Qv, h2]
    ·(refine sR fun K hK => ?_; ((repeat (rw [Qa]; simp [h2])); (try simp only [zs])); refine hK _ _ _ ?_; clear hK K)
     refine pF rfl ?_
     refine Qs (hK _ ?_)
     simp [leT, Qv]
   simp only [Qv, List.set, List.map_cons, List.map_nil, List.cons_append, List.nil_append]
   (refine sR fun K hK => ?_; ((repeat (rw [Qa]; simp)); (try simp only [zs])))
   refine cXp (c5) ?_
   ((try simp only [Qb, Qc, Qn, Qi, Qj]); (repeat (rw [Qa]; simp)); (try simp only [zs]))
   (refine hK _ _ _ ?_; clear hK K)
   (refine sR fun K hK => ?_; ((repeat (rw [Qa]; simp)); (try simp only [zs])))
   refine cXp (c6) ?_
   ((try simp only [Qb, Qc, Qn, Qi, Qj]); (repeat (rw [Qa]; simp)); (try simp only [zs]))
   (refine hK _ _ _ ?_; clear hK K)
   by_cases h3 : e3 = 0
   ·by_cases h4 : e4 = 0
    ·cases sm with
     | false =>
      (refine sR fun K hK => ?_; ((repeat (rw [Qa]; simp [h3, h4])); (try simp only [zs])))
      refine cXp (c7) ?_
      ((try simp only [Qb, Qc, Qn, Qi, Qj]); (repeat (rw [Qa]; simp)); (try simp only [zs]))
      (refine hK _ _ _ ?_; clear hK K)
      (refine Qo ?_; (try simp only [zs]); refine Wa.ret rfl (.inl ?_); simp [Qt, Out.fgt, D.fgt, D.fgts])
     | true =>
      exact absurd (hsm h3 h4 rfl) (by decide)
    ·(refine sR fun K hK => ?_; ((repeat (rw [Qa]; simp [h3, h4])); (try simp only [zs])); refine hK _ _ _ ?_; clear hK K)
     (refine Qo ?_; (try simp only [zs]); refine Wa.ret rfl (.inl ?_); simp [Qt, Out.fgt, D.fgt, D.fgts])
   ·(refine sR fun K hK => ?_; ((repeat (rw [Qa]; simp [h3])); (try simp only [zs])); refine hK _ _ _ ?_; clear hK K)
    (refine Qo ?_; (try simp only [zs]); refine Wa.ret rfl (.inl ?_); simp [Qt, Out.fgt, D.fgt, D.fgts])
end Go.Proofs.YtebmlojhdnldgaaGreatDoor
