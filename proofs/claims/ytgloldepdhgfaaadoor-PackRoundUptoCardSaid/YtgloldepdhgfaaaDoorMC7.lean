/-
  MC7: the texts Pme, one behind the other.
-/
import Derived.Test.YtgloldepdhgfaaaDoorMC6
namespace Go.Proofs.YtgloldepdhgfaaaDoor
set_option linter.unusedSimpArgs false
set_option linter.unusedVariables false
set_option linter.unusedSimpArgs false
set_option linter.unusedVariables false
set_option maxHeartbeats 10000000
set_option maxRecDepth 20000
open Go.RowKit
attribute [local simp] wpAft_ret wpAft_pan wantD evOp opD tmOf putS updS setS hOf isFree isTok fillD TK.isAgg TK.known partD thenD blockD putAll D.ofV inB nilTest isNilS binX binD binE isCst bndD capB IntKind.min IntKind.max IntKind.signed IntKind.bits dstOf late
def putB (d : De) : List Int := if rightDe d then declB d else []
def putTB (t : T) : List Int := if t.right then termB t else []
theorem putDecl_spec (d : De) (h : okDe d) : Spec Tryd.prog glob 9 [encDe d] [] (fun o _ => o.fgt = .ret (.tuple [.slice (byD (putB d)) .any, .bool (rightDe d)])) := by
  unfold putB
  cases hr : rightDe d with
  | true => exact putDecl_ok d h hr
  | false => exact putDecl_no d h hr
theorem putTerm_spec (t : T) (h : okT t) : Spec Tryd.prog glob 10 [encT t] [] (fun o _ => o.fgt = .ret (.tuple [.slice (byD (putTB t)) .any, .bool t.right])) := by
  unfold putTB
  cases hr : t.right with
  | true => exact putTerm_ok t h hr
  | false => exact putTerm_no t h hr
theorem declN_le (s : List Int) (hs : bytesOk s) : ∀ x nd r, declN (0, s) = some (x, (nd, r)) → r.length ≤ s.length := fun x nd r h => by
  rw [(declN_got hs h).2, List.length_append]; omega
theorem termN_put {s r : List Int} {t : T} {nd : Int} (hs : bytesOk s) (h : termN s = some (t, (nd, r))) : t.right = true ∧ s = termB t ++ r := by
  have h2 := drop_some h
  rw [termN_drop] at h2
  exact termR_got s t r hs h2
theorem termN_le (s : List Int) (hs : bytesOk s) : ∀ x nd r, termN s = some (x, (nd, r)) → r.length ≤ s.length := fun x nd r h => by
  rw [(termN_put hs h).2, List.length_append]; omega
theorem gotD (b : List Int) (hb : bytesOk b) : ∃ (e : De) (N : Nat), firstD_D b (declN (0, b)) = .tuple [encDe e, .int .i64 N] ∧ okDe e ∧ ((N = 0 ∧ e = zeroDe) ∨ (0 < N ∧ rightDe e = true ∧ N = (declB e).length ∧ N ≤ b.length ∧ b.take N = declB e)) := by
  cases h : declN (0, b) with
  | none => exact ⟨zeroDe, 0, rfl, zeroDe_ok, .inl ⟨rfl, rfl⟩⟩
  | some p =>
    obtain ⟨e, nd, r⟩ := p
    obtain ⟨h1, h2⟩ := declN_got hb h
    have hl := congrArg List.length h2
    rw [List.length_append] at hl
    have hp := declB_pos e
    refine ⟨e, (declB e).length, ?_, right_okDe h1, .inr ⟨hp, h1, rfl, by omega, by rw [h2]; simp⟩⟩
    unfold firstD_D
    dsimp only
    rw [show ((b.length : Int) - r.length) = ((declB e).length : Int) by omega]
theorem gotT (b : List Int) (hb : bytesOk b) : ∃ (u : T) (N : Nat), firstT_D b (termN b) = .tuple [encT u, .int .i64 N] ∧ okT u ∧ ((N = 0 ∧ u = zeroTm) ∨ (0 < N ∧ u.right = true ∧ N = (termB u).length ∧ N ≤ b.length ∧ b.take N = termB u)) := by
  cases h : termN b with
  | none => exact ⟨zeroTm, 0, rfl, zeroTm_ok, .inl ⟨rfl, rfl⟩⟩
  | some p =>
    obtain ⟨u, nd, r⟩ := p
    obtain ⟨h1, h2⟩ := termN_put hb h
    have hl := congrArg List.length h2
    rw [List.length_append] at hl
    have hp := termR_pos (t := u)
    refine ⟨u, (termB u).length, ?_, right_ok h1, .inr ⟨hp, h1, rfl, by omega, by rw [h2]; simp⟩⟩
    unfold firstT_D
    dsimp only
    rw [show ((b.length : Int) - r.length) = ((termB u).length : Int) by omega]
theorem gotD_put {d : De} (h : rightDe d = true) (b : List Int) : firstD_D (declB d ++ b) (declN (0, declB d ++ b)) = .tuple [encDe d, .int .i64 ((declB d).length : Int)] := by
  have h2 := declN_drop (0, declB d ++ b)
  dsimp only at h2
  rw [declR_put h] at h2
  cases h3 : declN (0, declB d ++ b) with
  | none => rw [h3] at h2; cases h2
  | some p =>
    obtain ⟨e, nd, r⟩ := p
    rw [h3] at h2
    cases h2
    unfold firstD_D
    dsimp only
    rw [List.length_append, show (((declB d).length + b.length : Nat) : Int) - b.length = ((declB d).length : Int) by omega]
theorem gotT_put {t : T} (h : t.right = true) (b : List Int) : firstT_D (termB t ++ b) (termN (termB t ++ b)) = .tuple [encT t, .int .i64 ((termB t).length : Int)] := by
  have h2 := termN_drop (termB t ++ b)
  rw [termR_put h] at h2
  cases h3 : termN (termB t ++ b) with
  | none => rw [h3] at h2; cases h2
  | some p =>
    obtain ⟨e, nd, r⟩ := p
    rw [h3] at h2
    cases h2
    unfold firstT_D
    dsimp only
    rw [List.length_append, show (((termB t).length + b.length : Nat) : Int) - b.length = ((termB t).length : Int) by omega]
theorem declB_ok (d : De) : bytesOk (declB d) := by
  have hlev : ∀ l : LV, bytesOk (levB l) := fun l => (numB_ok _).app (bytesOk.flat fun p _ => (numB_ok _).app (numB_ok _))
  have hrow : ∀ l : List T, bytesOk (rowB l) := fun l => (numB_ok _).app (bytesOk.flat fun t _ => termB_ok t)
  unfold declB
  refine (numB_ok _).app ((numB_ok _).app ?_)
  split
  · exact termB_ok _
  split
  · exact (termB_ok _).app (termB_ok _)
  · exact (hrow _).app ((hlev _).app ((numB_ok _).app ((bytesOk.flat fun r _ => hrow r).app ((numB_ok _).app (bytesOk.flat fun c _ => (numB_ok _).app (termB_ok _))))))
theorem byD_app (a b : List Int) : byD (a ++ b) = byD a ++ byD b := by unfold byD; rw [List.map_append]
theorem byD_take (n : Nat) (b : List Int) : (byD b).take n = byD (b.take n) := by unfold byD; rw [List.map_take]
theorem round_spec (d : De) (t : T) (b : List Int) (hd : okDe d) (ht : okT t) (hb : bytesOk b) (hbl : b.length ≤ 1048576) : Spec Tryd.prog glob 3 [encDe d, encT t, .slice (byD b) .any] [] (fun o _ => o.fgt = .ret (.bool true)) := by
  have a0 := awake3_spec
  have a1 := great3_spec d hd
  have a2 := high_spec [t] (by simp [LMax]) (by intro x hx; rw [List.mem_singleton.1 hx]; exact ht)
  have a3 := tof_spec t 2000 ht
  have a4 := putDecl_spec d hd
  have a5 := putTerm_spec t ht
  have a6 := packRight_spec d hd
  obtain ⟨e, N, e1, e2, e3⟩ := gotD b hb
  obtain ⟨u, M, u1, u2, u3⟩ := gotT b hb
  have a7 := getD_spec b hb (by omega) (declN_le b hb)
  have a8 := getT_spec b hb (by omega) (termN_le b hb)
  rw [e1] at a7
  rw [u1] at a8
  have a9 := putDecl_spec e e2
  have a10 := putTerm_spec u u2
  have hED := encDe_eq d
  have hET := encT_eq t
  have hEE := encDe_eq e
  have hEU := encT_eq u
  simp only [List.map_cons, List.map_nil] at a2
  rw [hED] at a1 a4 a6 ⊢
  rw [hET] at a2 a3 a5 ⊢
  rw [hEE] at a7 a9
  rw [hEU] at a8 a10
  have hX : rightDe d = true → putB d = declB d := fun h => by unfold putB; rw [if_pos h]
  have hX0 : rightDe d = false → putB d = [] := fun h => by unfold putB; rw [if_neg (by rw [h]; simp)]
  have hY : t.right = true → putTB t = termB t := fun h => by unfold putTB; rw [if_pos h]
  have hY0 : t.right = false → putTB t = [] := fun h => by unfold putTB; rw [if_neg (by rw [h]; simp)]
  have hG := fun h : rightDe d = true => getD_spec (declB d ++ b) ((declB_ok d).app hb) (by rw [List.length_append]; have := declB_right h; omega) (declN_le _ ((declB_ok d).app hb))
  have hH := fun h : t.right = true => getT_spec (termB t ++ b) ((termB_ok t).app hb) (by rw [List.length_append]; have := termB_right h; omega) (termN_le _ ((termB_ok t).app hb))
  have hS := kDe_spec d hd
  have hQ := kT_spec t ht
  rw [hED] at hS
  rw [hET] at hQ
  have hXl := fun h : rightDe d = true => declB_right h
  have hYl := fun h : t.right = true => termB_right h
  have hgd := fun h : rightDe d = true => gotD_put h b
  have hgt := fun h : t.right = true => gotT_put h b
  rw [hED] at hgd
  rw [hET] at hgt
  generalize greatDe d = g1 at a1
  generalize highB [t] = g2 at a2
  generalize t.tof 2000 = g3 at a3
  obtain ⟨B1, hB1⟩ : ∃ B1, rightDe d = B1 := ⟨_, rfl⟩
  obtain ⟨B2, hB2⟩ : ∃ B2, t.right = B2 := ⟨_, rfl⟩
  rw [hB1] at a4 a6 hX hX0 hG hXl hgd
  rw [hB2] at a5 hY hY0 hH hYl hgt
  obtain ⟨X, hXe⟩ : ∃ X, putB d = X := ⟨_, rfl⟩
  obtain ⟨Y, hYe⟩ : ∃ Y, putTB t = Y := ⟨_, rfl⟩
  rw [hXe] at a4 hX hX0
  rw [hYe] at a5 hY hY0
  refine Spec.movd globPure (wpD_spec tyOK Tryd.func3 rfl (enters _ _ Tryd.func3 rfl (by decide)) rfl rfl ?_)
  (refine wpD_seqk fun K hK => ?_; refine wpD_region tyOK ?_; ((repeat (rw [wpS_cons]; simp)); (try simp only [wpS_nil, thenD, blockD])); refine hK _ _ _ ?_; clear hK K)
  refine wpD_seqk fun K1 hK1 => ?_
  (refine wpD_seqk fun K hK => ?_; refine wpD_region tyOK ?_; ((repeat (rw [wpS_cons]; simp)); (try simp only [wpS_nil, thenD, blockD])))
  refine cXp (a0) ?_
  ((try simp only [wpAft_ret, wpAft_pan, putS, updS, setS]); (repeat (rw [wpS_cons]; simp)); (try simp only [wpS_nil, thenD, blockD]))
  (refine hK _ _ _ ?_; clear hK K)
  refine wpD_part rfl (fun h => by simp at h) (fun _ => ?_)
  refine wpD_skip (hK1 _ _ _ ?_)
  clear hK1 K1
  refine wpD_seqk fun K1 hK1 => ?_
  cases g1 with
  | true =>
    (refine wpD_seqk fun K hK => ?_; refine wpD_region tyOK ?_; ((repeat (rw [wpS_cons]; simp)); (try simp only [wpS_nil, thenD, blockD])))
    refine cXp (a1) ?_
    ((try simp only [wpAft_ret, wpAft_pan, putS, updS, setS]); (repeat (rw [wpS_cons]; simp)); (try simp only [wpS_nil, thenD, blockD]))
    (refine hK _ _ _ ?_; clear hK K)
    refine wpD_part rfl (fun _ => ?_) (fun h => by simp at h)
    (refine wpD_seqk fun K hK => ?_; refine wpD_region tyOK ?_; ((repeat (rw [wpS_cons]; simp)); (try simp only [wpS_nil, thenD, blockD])); refine hK _ _ _ ?_; clear hK K)
    (refine wpD_ret ?_; (try simp only [thenD, blockD]); refine EndQ.ret rfl (.inl ?_); simp [tmOf, Out.fgt, D.fgt, D.fgts])
  | false =>
  cases g2 with
  | true =>
    (refine wpD_seqk fun K hK => ?_; refine wpD_region tyOK ?_; ((repeat (rw [wpS_cons]; simp)); (try simp only [wpS_nil, thenD, blockD])))
    refine cXp (a1) ?_
    ((try simp only [wpAft_ret, wpAft_pan, putS, updS, setS]); (repeat (rw [wpS_cons]; simp)); (try simp only [wpS_nil, thenD, blockD]))
    refine cXp (a2) ?_
    ((try simp only [wpAft_ret, wpAft_pan, putS, updS, setS]); (repeat (rw [wpS_cons]; simp)); (try simp only [wpS_nil, thenD, blockD]))
    (refine hK _ _ _ ?_; clear hK K)
    refine wpD_part rfl (fun _ => ?_) (fun h => by simp at h)
    (refine wpD_seqk fun K hK => ?_; refine wpD_region tyOK ?_; ((repeat (rw [wpS_cons]; simp)); (try simp only [wpS_nil, thenD, blockD])); refine hK _ _ _ ?_; clear hK K)
    (refine wpD_ret ?_; (try simp only [thenD, blockD]); refine EndQ.ret rfl (.inl ?_); simp [tmOf, Out.fgt, D.fgt, D.fgts])
  | false =>
  by_cases h3 : 2000 < g3
  · (refine wpD_seqk fun K hK => ?_; refine wpD_region tyOK ?_; ((repeat (rw [wpS_cons]; simp)); (try simp only [wpS_nil, thenD, blockD])))
    refine cXp (a1) ?_
    ((try simp only [wpAft_ret, wpAft_pan, putS, updS, setS]); (repeat (rw [wpS_cons]; simp)); (try simp only [wpS_nil, thenD, blockD]))
    refine cXp (a2) ?_
    ((try simp only [wpAft_ret, wpAft_pan, putS, updS, setS]); (repeat (rw [wpS_cons]; simp)); (try simp only [wpS_nil, thenD, blockD]))
    refine cXp (a3) ?_
    ((try simp only [wpAft_ret, wpAft_pan, putS, updS, setS]); (repeat (rw [wpS_cons]; simp [h3])); (try simp only [wpS_nil, thenD, blockD]))
    (refine hK _ _ _ ?_; clear hK K)
    refine wpD_part rfl (fun _ => ?_) (fun h => by simp at h)
    (refine wpD_seqk fun K hK => ?_; refine wpD_region tyOK ?_; ((repeat (rw [wpS_cons]; simp)); (try simp only [wpS_nil, thenD, blockD])); refine hK _ _ _ ?_; clear hK K)
    (refine wpD_ret ?_; (try simp only [thenD, blockD]); refine EndQ.ret rfl (.inl ?_); simp [tmOf, Out.fgt, D.fgt, D.fgts])
  by_cases h4 : 6000 < b.length
  · have h4' : (6000 : Int) < b.length := by omega
    (refine wpD_seqk fun K hK => ?_; refine wpD_region tyOK ?_; ((repeat (rw [wpS_cons]; simp)); (try simp only [wpS_nil, thenD, blockD])))
    refine cXp (a1) ?_
    ((try simp only [wpAft_ret, wpAft_pan, putS, updS, setS]); (repeat (rw [wpS_cons]; simp)); (try simp only [wpS_nil, thenD, blockD]))
    refine cXp (a2) ?_
    ((try simp only [wpAft_ret, wpAft_pan, putS, updS, setS]); (repeat (rw [wpS_cons]; simp)); (try simp only [wpS_nil, thenD, blockD]))
    refine cXp (a3) ?_
    ((try simp only [wpAft_ret, wpAft_pan, putS, updS, setS]); (repeat (rw [wpS_cons]; simp [h3, h4, h4'])); (try simp only [wpS_nil, thenD, blockD]))
    (refine hK _ _ _ ?_; clear hK K)
    refine wpD_part rfl (fun _ => ?_) (fun h => by simp at h)
    (refine wpD_seqk fun K hK => ?_; refine wpD_region tyOK ?_; ((repeat (rw [wpS_cons]; simp)); (try simp only [wpS_nil, thenD, blockD])); refine hK _ _ _ ?_; clear hK K)
    (refine wpD_ret ?_; (try simp only [thenD, blockD]); refine EndQ.ret rfl (.inl ?_); simp [tmOf, Out.fgt, D.fgt, D.fgts])
  have h4' : ¬ (6000 : Int) < b.length := by omega
  (refine wpD_seqk fun K hK => ?_; refine wpD_region tyOK ?_; ((repeat (rw [wpS_cons]; simp)); (try simp only [wpS_nil, thenD, blockD])))
  refine cXp (a1) ?_
  ((try simp only [wpAft_ret, wpAft_pan, putS, updS, setS]); (repeat (rw [wpS_cons]; simp)); (try simp only [wpS_nil, thenD, blockD]))
  refine cXp (a2) ?_
  ((try simp only [wpAft_ret, wpAft_pan, putS, updS, setS]); (repeat (rw [wpS_cons]; simp)); (try simp only [wpS_nil, thenD, blockD]))
  refine cXp (a3) ?_
  ((try simp only [wpAft_ret, wpAft_pan, putS, updS, setS]); (repeat (rw [wpS_cons]; simp [h3, h4, h4'])); (try simp only [wpS_nil, thenD, blockD]))
  (refine hK _ _ _ ?_; clear hK K)
  refine wpD_part rfl (fun h => by simp at h) (fun _ => ?_)
  refine wpD_skip (hK1 _ _ _ ?_)
  clear hK1 K1 a0 a1 a2 a3 h3 h4 h4'
  (refine wpD_seqk fun K hK => ?_; refine wpD_region tyOK ?_; ((repeat (rw [wpS_cons]; simp)); (try simp only [wpS_nil, thenD, blockD])))
  refine cXp (a4) ?_
  ((try simp only [wpAft_ret, wpAft_pan, putS, updS, setS]); (repeat (rw [wpS_cons]; simp)); (try simp only [wpS_nil, thenD, blockD]))
  (refine hK _ _ _ ?_; clear hK K)
  (refine wpD_seqk fun K hK => ?_; refine wpD_region tyOK ?_; ((repeat (rw [wpS_cons]; simp)); (try simp only [wpS_nil, thenD, blockD])))
  refine cXp (a5) ?_
  ((try simp only [wpAft_ret, wpAft_pan, putS, updS, setS]); (repeat (rw [wpS_cons]; simp)); (try simp only [wpS_nil, thenD, blockD]))
  (refine hK _ _ _ ?_; clear hK K)
  clear a4 a5
  refine wpD_seqm globPure [52, 53, 54, 55, 56, 57, 58, 59, 60, 61, 62, 63, 64, 65, 66, 67, 68, 69, 70, 71, 72, 73] (List.replicate 22 .junk) [.cells 34 [.int .i64 d.kd, .int .i64 d.lv, .int .i64 d.ty.k, .int .i64 d.ty.n, .int .i64 d.ty.a, .slice (d.ty.ls.map encL) .any, .slice (d.ty.ks.map encT) .any, .int .i64 d.bo.k, .int .i64 d.bo.n, .int .i64 d.bo.a, .slice (d.bo.ls.map encL) .any, .slice (d.bo.ks.map encT) .any, .slice (d.ps.map encT) .any, .slice (d.so.map encP) .any, .slice (d.ms.map encMb) .any, .slice (d.cs.map encCt) .any], .cells 27 [.int .i64 t.k, .int .i64 t.n, .int .i64 t.a, .slice (t.ls.map encL) .any, .slice (t.ks.map encT) .any]] ?_ ?_
  rotate_left
  · intro K hK hK2
    cases B1 with
    | true =>
      cases B2 with
      | true =>
        (refine wpD_seqk fun K hK => ?_; refine wpD_region tyOK ?_; ((repeat (rw [wpS_cons]; simp)); (try simp only [wpS_nil, thenD, blockD])))
        refine cXp (a6) ?_
        ((try simp only [wpAft_ret, wpAft_pan, putS, updS, setS]); (repeat (rw [wpS_cons]; simp [pairX])); (try simp only [wpS_nil, thenD, blockD]))
        (refine hK _ _ _ ?_; clear hK K)
        refine wpD_part rfl (fun h => by simp at h) (fun _ => ?_)
        refine wpD_skip (hK _ ?_)
        simp [leT, putAll, List.replicate]
      | false =>
        rw [hY0 rfl]
        rw [show byD [] = [] from rfl]
        (refine wpD_seqk fun K hK => ?_; refine wpD_region tyOK ?_; ((repeat (rw [wpS_cons]; simp)); (try simp only [wpS_nil, thenD, blockD])))
        refine cXp (a6) ?_
        ((try simp only [wpAft_ret, wpAft_pan, putS, updS, setS]); (repeat (rw [wpS_cons]; simp [pairX])); (try simp only [wpS_nil, thenD, blockD]))
        (refine hK _ _ _ ?_; clear hK K)
        refine wpD_part rfl (fun h => by simp at h) (fun _ => ?_)
        refine wpD_skip (hK _ ?_)
        simp [leT, putAll, List.replicate, hY0, byD]
    | false =>
      rw [hX0 rfl]
      cases B2 with
      | true =>
        rw [show byD [] = [] from rfl]
        (refine wpD_seqk fun K hK => ?_; refine wpD_region tyOK ?_; ((repeat (rw [wpS_cons]; simp)); (try simp only [wpS_nil, thenD, blockD])))
        refine cXp (a6) ?_
        ((try simp only [wpAft_ret, wpAft_pan, putS, updS, setS]); (repeat (rw [wpS_cons]; simp [pairX])); (try simp only [wpS_nil, thenD, blockD]))
        (refine hK _ _ _ ?_; clear hK K)
        refine wpD_part rfl (fun h => by simp at h) (fun _ => ?_)
        refine wpD_skip (hK _ ?_)
        simp [leT, putAll, List.replicate, hX0, byD]
      | false =>
        rw [hY0 rfl]
        rw [show byD [] = [] from rfl]
        (refine wpD_seqk fun K hK => ?_; refine wpD_region tyOK ?_; ((repeat (rw [wpS_cons]; simp)); (try simp only [wpS_nil, thenD, blockD])))
        refine cXp (a6) ?_
        ((try simp only [wpAft_ret, wpAft_pan, putS, updS, setS]); (repeat (rw [wpS_cons]; simp [pairX])); (try simp only [wpS_nil, thenD, blockD]))
        (refine hK _ _ _ ?_; clear hK K)
        refine wpD_part rfl (fun h => by simp at h) (fun _ => ?_)
        refine wpD_skip (hK _ ?_)
        simp [leT, putAll, List.replicate, hX0, hY0, byD]
  simp only [putAll, List.replicate, List.set]
  clear a6 hX0 hY0
  refine wpD_seqm globPure [11, 12, 74, 75, 76, 77, 78, 79, 80, 81, 82, 83, 84, 85, 86, 87, 88, 89, 90, 91, 92, 93] (List.replicate 22 .junk) [.cells 34 [.int .i64 d.kd, .int .i64 d.lv, .int .i64 d.ty.k, .int .i64 d.ty.n, .int .i64 d.ty.a, .slice (d.ty.ls.map encL) .any, .slice (d.ty.ks.map encT) .any, .int .i64 d.bo.k, .int .i64 d.bo.n, .int .i64 d.bo.a, .slice (d.bo.ls.map encL) .any, .slice (d.bo.ks.map encT) .any, .slice (d.ps.map encT) .any, .slice (d.so.map encP) .any, .slice (d.ms.map encMb) .any, .slice (d.cs.map encCt) .any], .cells 27 [.int .i64 t.k, .int .i64 t.n, .int .i64 t.a, .slice (t.ls.map encL) .any, .slice (t.ks.map encT) .any]] ?_ ?_
  rotate_left
  · intro K hK hK2
    cases B1 with
    | true =>
      have hx := hX rfl
      have hxl := hXl rfl
      have c := hG rfl
      rw [hgd rfl] at c
      rw [hx]
      rw [hx] at hK hK2
      have hap0 : (declB d).length ≤ LMax := by unfold LMax; omega
      have hap : (declB d).length + b.length ≤ LMax := by unfold LMax; omega
      (refine wpD_seqk fun K hK => ?_; refine wpD_region tyOK ?_; ((repeat (rw [wpS_cons]; simp)); (try simp only [wpS_nil, thenD, blockD])); refine hK _ _ _ ?_; clear hK K)
      refine wpD_part rfl (fun _ => ?_) (fun h => by simp at h)
      (refine wpD_seqk fun K hK => ?_; refine wpD_region tyOK ?_; ((repeat (rw [wpS_cons]; simp [hap0, hap, byD_one])); (try simp only [wpS_nil, thenD, blockD])))
      refine CallX.pure globPure (c) ?_ (by simp [D.fgts, D.fgt, ← byD_app]) (by simp [D.pures, D.pure, Cp.free, D.pures_map, ← byD_app]) (by simp [Out.pure, D.pure, D.pures, Cp.free, D.pures_map, ← byD_app])
      ((try simp only [wpAft_ret, wpAft_pan, putS, updS, setS]); (repeat (rw [wpS_cons]; simp)); (try simp only [wpS_nil, thenD, blockD]))
      (refine hK _ _ _ ?_; clear hK K)
      (refine wpD_seqk fun K hK => ?_; refine wpD_region tyOK ?_; ((repeat (rw [wpS_cons]; simp)); (try simp only [wpS_nil, thenD, blockD])))
      refine cXp (hS) ?_
      ((try simp only [wpAft_ret, wpAft_pan, putS, updS, setS]); (repeat (rw [wpS_cons]; simp)); (try simp only [wpS_nil, thenD, blockD]))
      (refine hK _ _ _ ?_; clear hK K)
      refine wpD_part rfl (fun h => by simp at h) (fun _ => ?_)
      refine wpD_skip (hK2 [0, 1] _ _ (by decide) (by simp) ?_ ?_)
      · simp [leT, putAll, movT, movH, movD, D.mov, HO.mov, okM, renM, getW, D.ren, D.rens, D.okN, D.okNs, Cp.ren, Cp.okN, HO.ren, HO.okN, okA, renA, renO, hOf, handed, D.fgt, D.fgts, List.range_succ, List.idxOf_cons, List.replicate]
      · simp [movT, movH, movD, D.mov, HO.mov, okM, renM, getW, D.ren, D.rens, D.okN, D.okNs, Cp.ren, Cp.okN, HO.ren, HO.okN, okA, renA, renO, hOf, handed, D.fgt, D.fgts, List.range_succ, List.idxOf_cons]
    | false =>
      (refine wpD_seqk fun K hK => ?_; refine wpD_region tyOK ?_; ((repeat (rw [wpS_cons]; simp)); (try simp only [wpS_nil, thenD, blockD])); refine hK _ _ _ ?_; clear hK K)
      refine wpD_part rfl (fun h => by simp at h) (fun _ => ?_)
      refine wpD_skip (hK _ ?_)
      simp [leT, putAll, List.replicate]
  simp only [putAll, List.replicate, List.set]
  refine wpD_seqm globPure [13, 14, 94, 95, 96, 97, 98, 99, 100, 101, 102, 103, 104, 105, 106, 107, 108, 109, 110, 111, 112, 113] (List.replicate 22 .junk) [.cells 34 [.int .i64 d.kd, .int .i64 d.lv, .int .i64 d.ty.k, .int .i64 d.ty.n, .int .i64 d.ty.a, .slice (d.ty.ls.map encL) .any, .slice (d.ty.ks.map encT) .any, .int .i64 d.bo.k, .int .i64 d.bo.n, .int .i64 d.bo.a, .slice (d.bo.ls.map encL) .any, .slice (d.bo.ks.map encT) .any, .slice (d.ps.map encT) .any, .slice (d.so.map encP) .any, .slice (d.ms.map encMb) .any, .slice (d.cs.map encCt) .any], .cells 27 [.int .i64 t.k, .int .i64 t.n, .int .i64 t.a, .slice (t.ls.map encL) .any, .slice (t.ks.map encT) .any]] ?_ ?_
  rotate_left
  · intro K hK hK2
    cases B2 with
    | true =>
      have hx := hY rfl
      have hxl := hYl rfl
      have c := hH rfl
      rw [hgt rfl] at c
      rw [hx]
      rw [hx] at hK hK2
      have hap0 : (termB t).length ≤ LMax := by unfold LMax; omega
      have hap : (termB t).length + b.length ≤ LMax := by unfold LMax; omega
      (refine wpD_seqk fun K hK => ?_; refine wpD_region tyOK ?_; ((repeat (rw [wpS_cons]; simp)); (try simp only [wpS_nil, thenD, blockD])); refine hK _ _ _ ?_; clear hK K)
      refine wpD_part rfl (fun _ => ?_) (fun h => by simp at h)
      (refine wpD_seqk fun K hK => ?_; refine wpD_region tyOK ?_; ((repeat (rw [wpS_cons]; simp [hap0, hap, byD_one])); (try simp only [wpS_nil, thenD, blockD])))
      refine CallX.pure globPure (c) ?_ (by simp [D.fgts, D.fgt, ← byD_app]) (by simp [D.pures, D.pure, Cp.free, D.pures_map, ← byD_app]) (by simp [Out.pure, D.pure, D.pures, Cp.free, D.pures_map, ← byD_app])
      ((try simp only [wpAft_ret, wpAft_pan, putS, updS, setS]); (repeat (rw [wpS_cons]; simp)); (try simp only [wpS_nil, thenD, blockD]))
      (refine hK _ _ _ ?_; clear hK K)
      (refine wpD_seqk fun K hK => ?_; refine wpD_region tyOK ?_; ((repeat (rw [wpS_cons]; simp)); (try simp only [wpS_nil, thenD, blockD])))
      refine cXp (hQ) ?_
      ((try simp only [wpAft_ret, wpAft_pan, putS, updS, setS]); (repeat (rw [wpS_cons]; simp)); (try simp only [wpS_nil, thenD, blockD]))
      (refine hK _ _ _ ?_; clear hK K)
      refine wpD_part rfl (fun h => by simp at h) (fun _ => ?_)
      refine wpD_skip (hK2 [0, 1] _ _ (by decide) (by simp) ?_ ?_)
      · simp [leT, putAll, movT, movH, movD, D.mov, HO.mov, okM, renM, getW, D.ren, D.rens, D.okN, D.okNs, Cp.ren, Cp.okN, HO.ren, HO.okN, okA, renA, renO, hOf, handed, D.fgt, D.fgts, List.range_succ, List.idxOf_cons, List.replicate]
      · simp [movT, movH, movD, D.mov, HO.mov, okM, renM, getW, D.ren, D.rens, D.okN, D.okNs, Cp.ren, Cp.okN, HO.ren, HO.okN, okA, renA, renO, hOf, handed, D.fgt, D.fgts, List.range_succ, List.idxOf_cons]
    | false =>
      (refine wpD_seqk fun K hK => ?_; refine wpD_region tyOK ?_; ((repeat (rw [wpS_cons]; simp)); (try simp only [wpS_nil, thenD, blockD])); refine hK _ _ _ ?_; clear hK K)
      refine wpD_part rfl (fun h => by simp at h) (fun _ => ?_)
      refine wpD_skip (hK _ ?_)
      simp [leT, putAll, List.replicate]
  simp only [putAll, List.replicate, List.set]
  clear hX hY hG hH hS hQ hXl hYl hgd hgt
  rcases e3 with ⟨rfl, rfl⟩ | ⟨hNp, er, hN, hNl, hNt⟩
  · rw [show D.agg [.int .i64 zeroDe.kd, .int .i64 zeroDe.lv, .int .i64 zeroDe.ty.k, .int .i64 zeroDe.ty.n, .int .i64 zeroDe.ty.a, .slice (zeroDe.ty.ls.map encL) .any, .slice (zeroDe.ty.ks.map encT) .any, .int .i64 zeroDe.bo.k, .int .i64 zeroDe.bo.n, .int .i64 zeroDe.bo.a, .slice (zeroDe.bo.ls.map encL) .any, .slice (zeroDe.bo.ks.map encT) .any, .slice (zeroDe.ps.map encT) .any, .slice (zeroDe.so.map encP) .any, .slice (zeroDe.ms.map encMb) .any, .slice (zeroDe.cs.map encCt) .any] = .agg [.int .i64 0, .int .i64 0, .int .i64 0, .int .i64 0, .int .i64 0, .slice [] .any, .slice [] .any, .int .i64 0, .int .i64 0, .int .i64 0, .slice [] .any, .slice [] .any, .slice [] .any, .slice [] .any, .slice [] .any, .slice [] .any] from rfl] at a7 a9
    have cD := kDe_spec zeroDe zeroDe_ok
    rw [show encDe zeroDe = .agg [.int .i64 0, .int .i64 0, .int .i64 0, .int .i64 0, .int .i64 0, .slice [] .any, .slice [] .any, .int .i64 0, .int .i64 0, .int .i64 0, .slice [] .any, .slice [] .any, .slice [] .any, .slice [] .any, .slice [] .any, .slice [] .any] from rfl] at cD
    rcases u3 with ⟨rfl, rfl⟩ | ⟨hMp, ur, hM, hMl, hMt⟩
    · rw [show D.agg [.int .i64 zeroTm.k, .int .i64 zeroTm.n, .int .i64 zeroTm.a, .slice (zeroTm.ls.map encL) .any, .slice (zeroTm.ks.map encT) .any] = .agg [.int .i64 0, .int .i64 0, .int .i64 0, .slice [] .any, .slice [] .any] from rfl] at a8 a10
      have cT := kT_spec zeroTm zeroTm_ok
      rw [show encT zeroTm = .agg [.int .i64 0, .int .i64 0, .int .i64 0, .slice [] .any, .slice [] .any] from rfl] at cT
      (refine wpD_seqk fun K hK => ?_; refine wpD_region tyOK ?_; ((repeat (rw [wpS_cons]; simp)); (try simp only [wpS_nil, thenD, blockD])))
      refine cXp (a7) ?_
      ((try simp only [wpAft_ret, wpAft_pan, putS, updS, setS]); (repeat (rw [wpS_cons]; simp)); (try simp only [wpS_nil, thenD, blockD]))
      (refine hK _ _ _ ?_; clear hK K)
      (refine wpD_seqk fun K hK => ?_; refine wpD_region tyOK ?_; ((repeat (rw [wpS_cons]; simp)); (try simp only [wpS_nil, thenD, blockD])))
      refine cXp (a8) ?_
      ((try simp only [wpAft_ret, wpAft_pan, putS, updS, setS]); (repeat (rw [wpS_cons]; simp)); (try simp only [wpS_nil, thenD, blockD]))
      (refine hK _ _ _ ?_; clear hK K)
      (refine wpD_seqk fun K hK => ?_; refine wpD_region tyOK ?_; ((repeat (rw [wpS_cons]; simp)); (try simp only [wpS_nil, thenD, blockD])))
      refine cXp (a9) ?_
      ((try simp only [wpAft_ret, wpAft_pan, putS, updS, setS]); (repeat (rw [wpS_cons]; simp)); (try simp only [wpS_nil, thenD, blockD]))
      (refine hK _ _ _ ?_; clear hK K)
      (refine wpD_seqk fun K hK => ?_; refine wpD_region tyOK ?_; ((repeat (rw [wpS_cons]; simp)); (try simp only [wpS_nil, thenD, blockD])))
      refine cXp (a10) ?_
      ((try simp only [wpAft_ret, wpAft_pan, putS, updS, setS]); (repeat (rw [wpS_cons]; simp)); (try simp only [wpS_nil, thenD, blockD]))
      (refine hK _ _ _ ?_; clear hK K)
      (refine wpD_seqk fun K hK => ?_; refine wpD_region tyOK ?_; ((repeat (rw [wpS_cons]; simp [byD_take, byD_one])); (try simp only [wpS_nil, thenD, blockD])))
      refine cXp (cD) ?_
      ((try simp only [wpAft_ret, wpAft_pan, putS, updS, setS]); (repeat (rw [wpS_cons]; simp [byD_take, byD_one])); (try simp only [wpS_nil, thenD, blockD]))
      refine cXp (cT) ?_
      ((try simp only [wpAft_ret, wpAft_pan, putS, updS, setS]); (repeat (rw [wpS_cons]; simp [byD_take, byD_one])); (try simp only [wpS_nil, thenD, blockD]))
      (refine hK _ _ _ ?_; clear hK K)
      (refine wpD_ret ?_; (try simp only [thenD, blockD]); refine EndQ.ret rfl (.inl ?_); simp [tmOf, Out.fgt, D.fgt, D.fgts])
    · subst hM
      unfold putTB at a10
      rw [if_pos ur, ur] at a10
      have cY := kBy_spec (termB u) (by have := termB_right ur; unfold LMax; omega) .any .any (.inl rfl) (.inl rfl)
      have hM0 : ¬ ((termB u).length : Int) = 0 := by omega
      have hM1 : (0 : Int) < ((termB u).length : Int) := by omega
      have hM3 : 0 < (termB u).length := hMp
      have hM2 : ¬ termB u = [] := fun h => by rw [h] at hM0; simp at hM0
      (refine wpD_seqk fun K hK => ?_; refine wpD_region tyOK ?_; ((repeat (rw [wpS_cons]; simp)); (try simp only [wpS_nil, thenD, blockD])))
      refine cXp (a7) ?_
      ((try simp only [wpAft_ret, wpAft_pan, putS, updS, setS]); (repeat (rw [wpS_cons]; simp)); (try simp only [wpS_nil, thenD, blockD]))
      (refine hK _ _ _ ?_; clear hK K)
      (refine wpD_seqk fun K hK => ?_; refine wpD_region tyOK ?_; ((repeat (rw [wpS_cons]; simp)); (try simp only [wpS_nil, thenD, blockD])))
      refine cXp (a8) ?_
      ((try simp only [wpAft_ret, wpAft_pan, putS, updS, setS]); (repeat (rw [wpS_cons]; simp)); (try simp only [wpS_nil, thenD, blockD]))
      (refine hK _ _ _ ?_; clear hK K)
      (refine wpD_seqk fun K hK => ?_; refine wpD_region tyOK ?_; ((repeat (rw [wpS_cons]; simp)); (try simp only [wpS_nil, thenD, blockD])))
      refine cXp (a9) ?_
      ((try simp only [wpAft_ret, wpAft_pan, putS, updS, setS]); (repeat (rw [wpS_cons]; simp)); (try simp only [wpS_nil, thenD, blockD]))
      (refine hK _ _ _ ?_; clear hK K)
      (refine wpD_seqk fun K hK => ?_; refine wpD_region tyOK ?_; ((repeat (rw [wpS_cons]; simp)); (try simp only [wpS_nil, thenD, blockD])))
      refine cXp (a10) ?_
      ((try simp only [wpAft_ret, wpAft_pan, putS, updS, setS]); (repeat (rw [wpS_cons]; simp)); (try simp only [wpS_nil, thenD, blockD]))
      (refine hK _ _ _ ?_; clear hK K)
      (refine wpD_seqk fun K hK => ?_; refine wpD_region tyOK ?_; ((repeat (rw [wpS_cons]; simp [hM0, hM1, hM2, hM3, hMl, hMt, byD_take, byD_one])); (try simp only [wpS_nil, thenD, blockD])))
      refine cXp (cY) ?_
      ((try simp only [wpAft_ret, wpAft_pan, putS, updS, setS]); (repeat (rw [wpS_cons]; simp [hM0, hM1, hM2, hM3, hMl, hMt, byD_take, byD_one])); (try simp only [wpS_nil, thenD, blockD]))
      refine cXp (cD) ?_
      ((try simp only [wpAft_ret, wpAft_pan, putS, updS, setS]); (repeat (rw [wpS_cons]; simp [hM0, hM1, hM2, hM3, hMl, hMt, byD_take, byD_one])); (try simp only [wpS_nil, thenD, blockD]))
      (refine hK _ _ _ ?_; clear hK K)
      (refine wpD_ret ?_; (try simp only [thenD, blockD]); refine EndQ.ret rfl (.inl ?_); simp [tmOf, Out.fgt, D.fgt, D.fgts])
  · subst hN
    unfold putB at a9
    rw [if_pos er, er] at a9
    have cB := kBy_spec (declB e) (by have := declB_right er; unfold LMax; omega) .any .any (.inl rfl) (.inl rfl)
    have hN0 : ¬ ((declB e).length : Int) = 0 := by omega
    have hN1 : (0 : Int) < ((declB e).length : Int) := by omega
    have hN3 : 0 < (declB e).length := hNp
    have hN2 : ¬ declB e = [] := fun h => by rw [h] at hN0; simp at hN0
    rcases u3 with ⟨rfl, rfl⟩ | ⟨hMp, ur, hM, hMl, hMt⟩
    · rw [show D.agg [.int .i64 zeroTm.k, .int .i64 zeroTm.n, .int .i64 zeroTm.a, .slice (zeroTm.ls.map encL) .any, .slice (zeroTm.ks.map encT) .any] = .agg [.int .i64 0, .int .i64 0, .int .i64 0, .slice [] .any, .slice [] .any] from rfl] at a8 a10
      have cT := kT_spec zeroTm zeroTm_ok
      rw [show encT zeroTm = .agg [.int .i64 0, .int .i64 0, .int .i64 0, .slice [] .any, .slice [] .any] from rfl] at cT
      (refine wpD_seqk fun K hK => ?_; refine wpD_region tyOK ?_; ((repeat (rw [wpS_cons]; simp)); (try simp only [wpS_nil, thenD, blockD])))
      refine cXp (a7) ?_
      ((try simp only [wpAft_ret, wpAft_pan, putS, updS, setS]); (repeat (rw [wpS_cons]; simp)); (try simp only [wpS_nil, thenD, blockD]))
      (refine hK _ _ _ ?_; clear hK K)
      (refine wpD_seqk fun K hK => ?_; refine wpD_region tyOK ?_; ((repeat (rw [wpS_cons]; simp)); (try simp only [wpS_nil, thenD, blockD])))
      refine cXp (a8) ?_
      ((try simp only [wpAft_ret, wpAft_pan, putS, updS, setS]); (repeat (rw [wpS_cons]; simp)); (try simp only [wpS_nil, thenD, blockD]))
      (refine hK _ _ _ ?_; clear hK K)
      (refine wpD_seqk fun K hK => ?_; refine wpD_region tyOK ?_; ((repeat (rw [wpS_cons]; simp)); (try simp only [wpS_nil, thenD, blockD])))
      refine cXp (a9) ?_
      ((try simp only [wpAft_ret, wpAft_pan, putS, updS, setS]); (repeat (rw [wpS_cons]; simp)); (try simp only [wpS_nil, thenD, blockD]))
      (refine hK _ _ _ ?_; clear hK K)
      (refine wpD_seqk fun K hK => ?_; refine wpD_region tyOK ?_; ((repeat (rw [wpS_cons]; simp)); (try simp only [wpS_nil, thenD, blockD])))
      refine cXp (a10) ?_
      ((try simp only [wpAft_ret, wpAft_pan, putS, updS, setS]); (repeat (rw [wpS_cons]; simp)); (try simp only [wpS_nil, thenD, blockD]))
      (refine hK _ _ _ ?_; clear hK K)
      (refine wpD_seqk fun K hK => ?_; refine wpD_region tyOK ?_; ((repeat (rw [wpS_cons]; simp [hN0, hN1, hN2, hN3, hNl, hNt, byD_take, byD_one])); (try simp only [wpS_nil, thenD, blockD])))
      refine cXp (cB) ?_
      ((try simp only [wpAft_ret, wpAft_pan, putS, updS, setS]); (repeat (rw [wpS_cons]; simp [hN0, hN1, hN2, hN3, hNl, hNt, byD_take, byD_one])); (try simp only [wpS_nil, thenD, blockD]))
      refine cXp (cT) ?_
      ((try simp only [wpAft_ret, wpAft_pan, putS, updS, setS]); (repeat (rw [wpS_cons]; simp [hN0, hN1, hN2, hN3, hNl, hNt, byD_take, byD_one])); (try simp only [wpS_nil, thenD, blockD]))
      (refine hK _ _ _ ?_; clear hK K)
      (refine wpD_ret ?_; (try simp only [thenD, blockD]); refine EndQ.ret rfl (.inl ?_); simp [tmOf, Out.fgt, D.fgt, D.fgts])
    · subst hM
      unfold putTB at a10
      rw [if_pos ur, ur] at a10
      have cY := kBy_spec (termB u) (by have := termB_right ur; unfold LMax; omega) .any .any (.inl rfl) (.inl rfl)
      have hM0 : ¬ ((termB u).length : Int) = 0 := by omega
      have hM1 : (0 : Int) < ((termB u).length : Int) := by omega
      have hM3 : 0 < (termB u).length := hMp
      have hM2 : ¬ termB u = [] := fun h => by rw [h] at hM0; simp at hM0
      (refine wpD_seqk fun K hK => ?_; refine wpD_region tyOK ?_; ((repeat (rw [wpS_cons]; simp)); (try simp only [wpS_nil, thenD, blockD])))
      refine cXp (a7) ?_
      ((try simp only [wpAft_ret, wpAft_pan, putS, updS, setS]); (repeat (rw [wpS_cons]; simp)); (try simp only [wpS_nil, thenD, blockD]))
      (refine hK _ _ _ ?_; clear hK K)
      (refine wpD_seqk fun K hK => ?_; refine wpD_region tyOK ?_; ((repeat (rw [wpS_cons]; simp)); (try simp only [wpS_nil, thenD, blockD])))
      refine cXp (a8) ?_
      ((try simp only [wpAft_ret, wpAft_pan, putS, updS, setS]); (repeat (rw [wpS_cons]; simp)); (try simp only [wpS_nil, thenD, blockD]))
      (refine hK _ _ _ ?_; clear hK K)
      (refine wpD_seqk fun K hK => ?_; refine wpD_region tyOK ?_; ((repeat (rw [wpS_cons]; simp)); (try simp only [wpS_nil, thenD, blockD])))
      refine cXp (a9) ?_
      ((try simp only [wpAft_ret, wpAft_pan, putS, updS, setS]); (repeat (rw [wpS_cons]; simp)); (try simp only [wpS_nil, thenD, blockD]))
      (refine hK _ _ _ ?_; clear hK K)
      (refine wpD_seqk fun K hK => ?_; refine wpD_region tyOK ?_; ((repeat (rw [wpS_cons]; simp)); (try simp only [wpS_nil, thenD, blockD])))
      refine cXp (a10) ?_
      ((try simp only [wpAft_ret, wpAft_pan, putS, updS, setS]); (repeat (rw [wpS_cons]; simp)); (try simp only [wpS_nil, thenD, blockD]))
      (refine hK _ _ _ ?_; clear hK K)
      (refine wpD_seqk fun K hK => ?_; refine wpD_region tyOK ?_; ((repeat (rw [wpS_cons]; simp [hN0, hN1, hN2, hN3, hNl, hNt, hM0, hM1, hM2, hM3, hMl, hMt, byD_take, byD_one])); (try simp only [wpS_nil, thenD, blockD])))
      refine cXp (cB) ?_
      ((try simp only [wpAft_ret, wpAft_pan, putS, updS, setS]); (repeat (rw [wpS_cons]; simp [hN0, hN1, hN2, hN3, hNl, hNt, hM0, hM1, hM2, hM3, hMl, hMt, byD_take, byD_one])); (try simp only [wpS_nil, thenD, blockD]))
      refine cXp (cY) ?_
      ((try simp only [wpAft_ret, wpAft_pan, putS, updS, setS]); (repeat (rw [wpS_cons]; simp [hN0, hN1, hN2, hN3, hNl, hNt, hM0, hM1, hM2, hM3, hMl, hMt, byD_take, byD_one])); (try simp only [wpS_nil, thenD, blockD]))
      (refine hK _ _ _ ?_; clear hK K)
      (refine wpD_ret ?_; (try simp only [thenD, blockD]); refine EndQ.ret rfl (.inl ?_); simp [tmOf, Out.fgt, D.fgt, D.fgts])
end Go.Proofs.YtgloldepdhgfaaaDoor
