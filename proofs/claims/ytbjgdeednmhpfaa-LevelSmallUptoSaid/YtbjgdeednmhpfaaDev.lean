/-
  evOp is right.
-/
import Derived.Test.YtbjgdeednmhpfaaDown
import Derived.Lib.MinMax
set_option linter.unusedSimpArgs false
set_option linter.unusedVariables false
namespace Go.Proofs.Ytbjgdeednmhpfaa
open Go.RowKit

section
variable {P : Program} {G : Nat → Option D} {ρ : Rho} {w : World} {H h : Nat → HO} {T : TypeId → Ty} {v : Operand → Value} {e : Operand → D} {o : Oper} {nx : Nat} {d : D} {rd : List Nat} {up : List (Nat × HO)}

theorem isFree_eq {x : HO} (h : isFree x = true) : x = .free := by cases x <;> first | rfl | cases h
theorem isTok_eq {x : HO} (h : isTok x = true) : x = .tok := by cases x <;> first | rfl | cases h

theorem array_one {α : Type} {a : Array α} {x : α} (h : a.toList = [x]) : a = #[x] := by apply Array.ext'; simpa using h
theorem array_two {α : Type} {a : Array α} {x y : α} (h : a.toList = [x, y]) : a = #[x, y] := by apply Array.ext'; simpa using h

theorem run_equal_nil {t : TypeId} {ms : Array (String × TypeId)} (h : P.underlying t = some (.interface ms)) : (Op.equal t .nilIface .nilIface).run P w = .ok true w := by
  have : ∀ n, (Op.equalIn (n + 1) t .nilIface .nilIface).run P w = .ok true w := fun n => by
    simp only [Op.equalIn, Sem.run_bind, run_underlying h, Result.andThen_ok]; rfl
  exact this 9999
theorem run_equal_some {t t1 : TypeId} {u : Value} {ms : Array (String × TypeId)} (h : P.underlying t = some (.interface ms)) : (Op.equal t (.iface t1 u) .nilIface).run P w = .ok false w := by
  have : ∀ n, (Op.equalIn (n + 1) t (.iface t1 u) .nilIface).run P w = .ok false w := fun n => by
    simp only [Op.equalIn, Sem.run_bind, run_underlying h, Result.andThen_ok]; rfl
  exact this 9999
theorem run_equal_bool {t : TypeId} {a b : Bool} (h : P.underlying t = some .bool) : (Op.equal t (.bool a) (.bool b)).run P w = .ok (a == b) w := by
  have : ∀ n, (Op.equalIn (n + 1) t (.bool a) (.bool b)).run P w = .ok (a == b) w := fun n => by
    simp only [Op.equalIn, Sem.run_bind, run_underlying h, Result.andThen_ok]; rfl
  exact this 9999

theorem snd_pairX (hT : ∀ t, TyOK P t (T t)) (hR : Rel G ρ w H) {op : BinOp} {t t' : TypeId} {x y : Operand} (ho : o.op = .binOp op t x y t') (hx : Rp ρ w (e x) (v x)) (hy : Rp ρ w (e y) (v y)) (h : pairX ((T t).eq2 && (T t).k.known) op (e x) (e y) = some d) :
    StepV P G v o ρ w H d [] := by
  have hrb : ∀ b : Bool, Rp ρ w (.bool b) (.bool b) := fun b => by rw [Rp]
  unfold pairX at h
  split at h
  · rename_i hq hex hey
    cases h
    simp only [Bool.and_eq_true] at hq
    obtain ⟨h1, h2⟩ := (hT t).eqp hq.2 hq.1
    rw [hex] at hx
    rw [hey] at hy
    simp only [Rp, RpL] at hx hy
    obtain ⟨us, hx0, _, _, rfl, ⟨rfl, -⟩, _, _, rfl, ⟨rfl, -⟩, rfl⟩ := hx
    obtain ⟨vs, hy0, _, _, rfl, ⟨rfl, -⟩, _, _, rfl, ⟨rfl, -⟩, rfl⟩ := hy
    refine StepV.same hR ?_ (hrb _)
    have h1' := h1 w
    have h2' := h2 w
    simp only [List.toArray] at hx0 hy0
    simp [execOp, ho, hx0, hy0, h2', h1']
  · cases h

theorem snd_binX (hT : ∀ t, TyOK P t (T t)) (hR : Rel G ρ w H) {op : BinOp} {t t' : TypeId} {x y : Operand} (ho : o.op = .binOp op t x y t') (hx : Rp ρ w (e x) (v x)) (hy : Rp ρ w (e y) (v y)) (h : binX (isCst y) (T t).k op (e x) (e y) = some d) :
    StepV P G v o ρ w H d [] := by
  have hrb : ∀ b : Bool, Rp ρ w (.bool b) (.bool b) := fun b => by rw [Rp]
  unfold binX at h
  split at h
  · rename_i t1 d1 hk hex hey
    cases h
    rw [hex, Rp] at hx
    rw [hey, Rp] at hy
    obtain ⟨u, hv, -⟩ := hx
    obtain ⟨i, dd, -, -, -, -, -, -, -, h1, h2⟩ := (hT t).info (by rw [hk]; rfl)
    rw [hk] at h2
    obtain ⟨ms, rfl⟩ := h2
    refine StepV.same hR (u := .bool true) ?_ (hrb _)
    simp [execOp, ho, hv, hy, eqGuard_at_iface, binOp, run_equal_some h1]
  · rename_i hk hex hey
    split at h
    · rename_i hc
      cases h
      rw [hex, Rp] at hx
      rw [hey, Rp] at hy
      obtain ⟨i, dd, -, -, -, -, -, -, -, h1, h2⟩ := (hT t).info (by rw [hk]; rfl)
      rw [hk] at h2
      obtain ⟨ms, rfl⟩ := h2
      refine StepV.same hR (u := .bool false) ?_ (hrb _)
      cases y <;> first | (cases hc; done) | skip
      simp [execOp, ho, hx, hy, eqGuard_nil_constR, binOp, run_equal_nil h1]
    · cases h
  · rename_i a b hk hex hey
    cases h
    rw [hex, Rp] at hx
    rw [hey, Rp] at hy
    obtain ⟨i, dd, -, -, -, -, -, -, -, h1, h2⟩ := (hT t).info (by rw [hk]; rfl)
    rw [hk] at h2
    simp only [KOK] at h2
    subst h2
    refine StepV.same hR (u := .bool (decide (a = b))) ?_ (hrb _)
    simp [execOp, ho, hx, hy, eqGuard_at_bool, binOp, run_equal_bool h1]
    rfl
  · rename_i a b hk hex hey
    cases h
    rw [hex, Rp] at hx
    rw [hey, Rp] at hy
    obtain ⟨i, dd, -, -, -, -, -, -, -, h1, h2⟩ := (hT t).info (by rw [hk]; rfl)
    rw [hk] at h2
    simp only [KOK] at h2
    subst h2
    refine StepV.same hR (u := .bool (!decide (a = b))) ?_ (hrb _)
    simp [execOp, ho, hx, hy, eqGuard_at_bool, binOp, run_equal_bool h1]
    rfl
  · split at h
    · rename_i d' hd
      cases h
      exact snd_bin hR ho hx hy hd
    · exact snd_binE hR ho hx hy h

set_option maxHeartbeats 1000000 in
/-- what an operation leaves -/
theorem evOp_val (hT : ∀ t, TyOK P t (T t)) (hev : evOp T e h nx o = some (.val d rd up)) (hR : Rel G ρ w H) (hH : ∀ r, r ∈ rd → H r = h r) (hop : ∀ x, x ∈ o.op.operands.toList → Rp ρ w (e x) (v x)) : StepV P G v o ρ w H d up := by
  unfold evOp at hev
  cases ho : o.op <;> rw [ho] at hev hop <;> try dsimp only at hev
  case move x =>
    cases hev
    exact snd_move hR (.inl ho) (hop x (by simp [Op.operands]))
  case assign x =>
    cases hev
    exact snd_move hR (.inr ho) (hop x (by simp [Op.operands]))
  case pick c a b =>
    split at hev
    · rename_i cb hc
      cases hev
      exact snd_pick hR ho hc (hop c (by simp [Op.operands])) (hop a (by simp [Op.operands])) (hop b (by simp [Op.operands]))
    · cases hev
  case alloc t =>
    split at hev
    · rename_i hc
      simp only [Bool.and_eq_true] at hc
      cases hev
      exact snd_alloc hT hR ho ((hH nx (by simp)).trans (isFree_eq hc.1.1)) hc.1.2 hc.2
    · cases hev
  case box t x =>
    split at hev
    · rename_i hc
      simp only [Bool.and_eq_true] at hc
      cases hev
      exact snd_box hR ho (hop x (by simp [Op.operands])) ((hH nx (by simp)).trans (isFree_eq hc.1)) hc.2
    · cases hev
  case build t ps =>
    split at hev
    · rename_i fs hk
      cases hf : fillD (fs.map fun f => (f.1, (T f.2).size)) (T t).zero.cells (ps.toList.map fun p => (p.1, e p.2)) with
      | none => rw [hf] at hev; cases hev
      | some cs =>
        rw [hf] at hev
        simp only [Option.bind_some] at hev
        split at hev
        · rename_i hc
          simp only [Bool.and_eq_true] at hc
          cases hev
          exact snd_build hT hR ho (fun p hp => hop p.2 (by simp only [Op.operands]; rw [List.toList_toArray]; exact List.mem_map.2 ⟨p, hp, rfl⟩)) hk hf (fun f hf => List.all_eq_true.1 hc.1 f hf) hc.2
        · cases hev
    · cases hev
  case buildSlice t n ps =>
    split at hev
    · rename_i el hk
      split at hev
      · rename_i hc
        simp only [Bool.and_eq_true, List.all_eq_true, decide_eq_true_eq] at hc
        obtain ⟨⟨⟨⟨h1, h2⟩, h3⟩, h4⟩, h5⟩ := hc
        cases hev
        exact snd_slice_lit hT hR ho (fun p hp => hop p.2 (by simp only [Op.operands]; rw [List.toList_toArray]; exact List.mem_map.2 ⟨p, hp, rfl⟩)) hk h1 h2 (fun p hp => ⟨List.all_eq_true.2 (h3 p hp).1.1, (h3 p hp).1.2, (h3 p hp).2⟩) h4 h5
      · cases hev
    · cases hev
  case load t x =>
    have hx := hop x (by simp [Op.operands])
    split at hev
    · rename_i dd hex
      split at hev
      · rename_i cs
        split at hev
        · rename_i hc
          simp only [Bool.and_eq_true, decide_eq_true_eq] at hc
          cases hev
          have hk : (T t).k.known = true := by cases hh : (T t).k <;> rw [hh] at hc <;> first | rfl | cases hc.1
          exact snd_load_ref hT hR ho hx hex hk (.inl ⟨hc.1, cs, rfl, hc.2⟩)
        · cases hev
      · split at hev
        · rename_i hc
          simp only [Bool.and_eq_true, Bool.not_eq_true'] at hc
          cases hev
          exact snd_load_ref hT hR ho hx hex hc.1.1 (.inr ⟨hc.1.2, hc.2⟩)
        · cases hev
    · rename_i i off hex
      split at hev
      · rename_i ty ds hi
        split at hev
        · rename_i hk
          cases hp : partD (T t) ds off with
          | none => rw [hp] at hev; cases hev
          | some d1 =>
            rw [hp] at hev
            simp only [Option.bind_some] at hev
            cases hev
            exact snd_load_box hT hR ho hx hex ((hH i (by simp)).trans hi) hk hp
        · cases hev
      · cases hev
    · rename_i i sz k off hex
      split at hev
      · rename_i sz' els hi
        split at hev
        · rename_i dd hd
          split at hev
          · rename_i hc
            simp only [Bool.and_eq_true, decide_eq_true_eq] at hc
            obtain ⟨hk, rfl⟩ := hc
            cases hp : partD (T t) dd.cells off with
            | none => rw [hp] at hev; cases hev
            | some d1 =>
              rw [hp] at hev
              simp only [Option.bind_some] at hev
              cases hev
              exact snd_load_ebox hT hR ho hx hex ((hH i (by simp)).trans hi) hd hk hp
          · cases hev
        · cases hev
      · cases hev
    · cases hev
  case store t x y =>
    split at hev
    · rename_i i off hex
      split at hev
      · rename_i ty ds hi
        split at hev
        · rename_i hc
          simp only [Bool.and_eq_true, decide_eq_true_eq] at hc
          cases hev
          exact snd_store hT hR ho (hop x (by simp [Op.operands])) (hop y (by simp [Op.operands])) hex ((hH i (by simp)).trans hi) hc.1.1.1 hc.1.1.2 hc.1.2 hc.2
        · cases hev
      · cases hev
    · rename_i i sz k off hex
      split at hev
      · rename_i sz' els hi
        split at hev
        · rename_i dd hd
          split at hev
          · rename_i hc
            simp only [Bool.and_eq_true, decide_eq_true_eq] at hc
            obtain ⟨⟨⟨⟨hk, rfl⟩, h1⟩, h2⟩, h3⟩ := hc
            cases hev
            exact snd_store_ebox hT hR ho (hop x (by simp [Op.operands])) (hop y (by simp [Op.operands])) hex ((hH i (by simp)).trans hi) hd hk h1 h2 h3
          · cases hev
        · cases hev
      · cases hev
    · cases hev
  case nilCheck x =>
    have hx := hop x (by simp [Op.operands])
    split at hev
    · rename_i dd hex
      cases hev
      rw [hex] at hx
      obtain ⟨b, off, hv, -⟩ := Rp_ref.1 hx
      exact StepV.same hR (u := v x) (by simp [execOp, ho, hv]) hx
    · rename_i i off hex
      cases hev
      rw [hex] at hx
      have hx' := hx
      rw [Rp] at hx'
      obtain ⟨b, f, -, hv⟩ := hx'
      exact StepV.same hR (u := v x) (by simp [execOp, ho, hv]) hx
    · rename_i i sz k off hex
      cases hev
      rw [hex] at hx
      have hx' := hx
      rw [Rp] at hx'
      obtain ⟨b, f, -, hv⟩ := hx'
      exact StepV.same hR (u := v x) (by simp [execOp, ho, hv]) hx
    · rename_i f a b hex
      cases hev
      rw [hex] at hx
      have hx' := hx
      rw [Rp] at hx'
      obtain ⟨us, vs, hv, -⟩ := hx'
      exact StepV.same hR (u := v x) (by simp [execOp, ho, hv]) hx
    · cases hev
  case binOp op t x y t' =>
    split at hev
    · rename_i dp hp
      cases hev
      exact snd_pairX hT hR ho (hop x (by simp [Op.operands])) (hop y (by simp [Op.operands])) hp
    · cases hb : binX (isCst y) (T t).k op (e x) (e y) with
      | none => rw [hb] at hev; cases hev
      | some d1 =>
        rw [hb] at hev
        simp only [Option.bind_some] at hev
        cases hev
        exact snd_binX hT hR ho (hop x (by simp [Op.operands])) (hop y (by simp [Op.operands])) hb
  case unOp op t x =>
    split at hev
    · rename_i b hex
      cases hev
      exact snd_not hR ho (hop x (by simp [Op.operands])) hex
    · cases hev
  case convert s t x =>
    split at hev
    · rename_i k k' n hs ht hex
      cases hev
      exact snd_convert hT hR ho (hop x (by simp [Op.operands])) hex hs ht
    · cases hev
  case makeInterface t x =>
    split at hev
    · cases hev
    · cases hev
    · rename_i h1 h2
      cases hev
      refine snd_iface hT hR ho (hop x (by simp [Op.operands])) ?_ h2
      cases hh : (T t).k <;> first | rfl | exact absurd hh h1
  case makeFunc fn a b =>
    cases hev
    exact snd_func hR ho (fun x hx => hop x (by simp only [Op.operands]; simp at hx ⊢; exact .inl hx)) (fun x hx => hop x (by simp only [Op.operands]; simp at hx ⊢; exact .inr hx))
  case fieldAddr s x f =>
    have hx := hop x (by simp [Op.operands])
    split at hev
    · rename_i fs hs
      split at hev
      · rename_i k ft hn
        split at hev
        · rename_i hc
          simp only [Bool.and_eq_true, decide_eq_true_eq] at hc
          split at hev
          · rename_i i off hex
            cases hev
            exact snd_faddr_box hT hR ho hx hs hn hc.1 hc.2 hex
          · rename_i i sz j off hex
            cases hev
            exact snd_faddr_ebox hT hR ho hx hs hn hc.1 hc.2 hex
          · rename_i cs hex
            cases hp : partD (T ft) cs k with
            | none => rw [hp] at hev; cases hev
            | some d1 =>
              rw [hp] at hev
              simp only [Option.bind_some] at hev
              cases hev
              exact snd_faddr_ref hT hR ho hx hs hn hc.1 hc.2 hex hp
          · cases hev
        · cases hev
      · cases hev
    · cases hev
  case field s x f =>
    have hx := hop x (by simp [Op.operands])
    split at hev
    · rename_i fs hs
      split at hev
      · rename_i k ft hn
        split at hev
        · rename_i hc
          split at hev
          · rename_i cs hex
            cases hp : partD (T ft) cs k with
            | none => rw [hp] at hev; cases hev
            | some d1 =>
              rw [hp] at hev
              simp only [Option.bind_some] at hev
              cases hev
              exact snd_field hT hR ho hx hs hn hc hex hp
          · cases hev
        · cases hev
      · cases hev
    · cases hev
  case indexAddr t x ix =>
    have hx := hop x (by simp [Op.operands])
    have hix := hop ix (by simp [Op.operands])
    split at hev
    · rename_i el hk
      split at hev
      · rename_i els cp k i hex hei
        split at hev
        · rename_i hc
          simp only [Bool.and_eq_true, decide_eq_true_eq] at hc
          split at hev
          · rename_i d1 hd
            split at hev
            · rename_i hs
              cases hev
              exact snd_index_slice hT hR ho hx hix hk hc.2 hex hei hc.1 hd hs
            · cases hev
          · cases hev
        · cases hev
      · rename_i j n k i hex hei
        split at hev
        · rename_i hc
          simp only [Bool.and_eq_true, decide_eq_true_eq] at hc
          cases hev
          exact snd_index_own hT hR ho hx hix hk hc.2 hex hei hc.1.1 hc.1.2
        · cases hev
      · cases hev
    · rename_i n el hk
      split at hev
      · rename_i cs k i hex hei
        split at hev
        · rename_i hc
          simp only [Bool.and_eq_true, decide_eq_true_eq] at hc
          cases hp : partD (T el) cs (i.toNat * (T el).size) with
          | none => rw [hp] at hev; cases hev
          | some d1 =>
            rw [hp] at hev
            simp only [Option.bind_some] at hev
            cases hev
            exact snd_index_arr hT hR ho hx hix hk hc.2 hex hei hc.1.1 hc.1.2 hp
        · cases hev
      · cases hev
    · cases hev
  case slice t x lo hi mx =>
    split at hev
    · rename_i el els cx l h' m hk hex hl hh hm
      split at hev
      · rename_i hc
        simp only [Bool.and_eq_true, decide_eq_true_eq, List.all_eq_true] at hc
        obtain ⟨⟨⟨⟨h1, h2⟩, h3⟩, h4⟩, h5⟩ := hc
        cases hev
        refine snd_slice hT hR ho (hop x (by simp [Op.operands])) (fun y hy => hop y (by subst hy; simp [Op.operands])) (fun y hy => hop y (by subst hy; simp [Op.operands])) (fun y hy => hop y (by subst hy; simp [Op.operands])) hk h1 hex hl hh hm h2 h3 (fun n hn => ?_) h5
        subst hn
        have : h' = some n := by simpa [capB] using h4
        subst this
        exact ⟨rfl, rfl⟩
      · cases hev
    · cases hev
  case lookup t m ix ok =>
    split at hev
    · rename_i kt el i k a hk hem hei
      split at hev
      · rename_i kk es hkt hi
        split at hev
        · rename_i hc
          simp only [Bool.and_eq_true] at hc
          cases hev
          exact snd_lookup hT hR ho (hop m (by simp [Op.operands])) (hop ix (by simp [Op.operands])) hk hkt hc.2 hem hei ((hH i (by simp)).trans hi) hc.1
        · cases hev
      · cases hev
    · rename_i kt el ks vs k a hk hem hei
      split at hev
      · rename_i kk hkt
        split at hev
        · rename_i hc
          simp only [Bool.and_eq_true, decide_eq_true_eq] at hc
          cases hev
          exact snd_lookupc hT hR ho (hop m (by simp [Op.operands])) (hop ix (by simp [Op.operands])) hk hkt hc.2 hem hei hc.1.1 hc.1.2
        · cases hev
      · cases hev
    · cases hev
  case makeMap t r =>
    cases r with
    | some x => cases hev
    | none =>
      dsimp only at hev
      split at hev
      · rename_i hc
        cases hev
        exact snd_makeMap hR ho ((hH nx (by simp)).trans (isFree_eq hc))
      · cases hev
  case mapUpdate t m ix x =>
    split at hev
    · rename_i kt el i k a hk hem hei
      split at hev
      · rename_i kk es hkt hi
        split at hev
        · rename_i hc
          split at hev
          · rename_i dd hf
            cases hev
            exact snd_update hT hR ho (hop m (by simp [Op.operands])) (hop ix (by simp [Op.operands])) (hop x (by simp [Op.operands])) hk hkt hem hei ((hH i (by simp)).trans hi) hc hf
          · rename_i hf
            split at hev
            · rename_i hl
              cases hev
              exact snd_insert hT hR (.inl ho) (hop m (by simp [Op.operands])) (hop ix (by simp [Op.operands])) (hop x (by simp [Op.operands])) hk hkt hem hei ((hH i (by simp)).trans hi) hc hf hl
            · cases hev
        · cases hev
      · cases hev
    · cases hev
  case makeSlice t x y =>
    split at hev
    · rename_i el k1 a k2 b hk hex hey
      split at hev
      · rename_i hc
        simp only [Bool.and_eq_true, decide_eq_true_eq] at hc
        obtain ⟨⟨⟨⟨⟨⟨⟨h1, rfl⟩, h2⟩, h3⟩, h4⟩, h5⟩, h6⟩, h7⟩ := hc
        cases hev
        exact snd_makeSlice hT hR ho (hop x (by simp [Op.operands])) (hop y (by simp [Op.operands])) hex hey h2 h3 hk h4 h5 h6 h7 ((hH nx (by simp)).trans (isFree_eq h1))
      · cases hev
    · cases hev
  case insert t m ix x =>
    split at hev
    · rename_i kt el i k a hk hem hei
      split at hev
      · rename_i kk es hkt hi
        split at hev
        · rename_i hc
          simp only [Bool.and_eq_true, Option.isNone_iff_eq_none, decide_eq_true_eq] at hc
          cases hev
          exact snd_insert hT hR (.inr ho) (hop m (by simp [Op.operands])) (hop ix (by simp [Op.operands])) (hop x (by simp [Op.operands])) hk hkt hem hei ((hH i (by simp)).trans hi) hc.1.1 hc.1.2 hc.2
        · cases hev
      · cases hev
    · cases hev
  case extract x i =>
    split at hev
    · rename_i ds hex
      cases hd : ds[i]? with
      | none => rw [hd] at hev; cases hev
      | some d1 =>
        rw [hd] at hev
        simp only [Option.bind_some] at hev
        cases hev
        exact snd_extract hR ho (hop x (by simp [Op.operands])) hex hd
    · cases hev
  case typeAssert x xt at_ ok =>
    split at hev
    · cases hev
    · cases hev
    · rename_i t1 d1 hex h1 h2
      split at hev
      · rename_i hok
        subst hok
        cases hev
        refine snd_assert hT hR ho (hop x (by simp [Op.operands])) hex ?_ h2
        cases hh : (T at_).k <;> first | rfl | exact absurd hh h1
      · cases hev
    · cases hev
  case panic x => split at hev <;> cases hev
  case defer c =>
    split at hev
    · split at hev
      · split at hev <;> cases hev
      · cases hev
    · cases hev
  case call c =>
    split at hev
    · rename_i hcal
      split at hev
      · rename_i x t ha ht
        split at hev
        · rename_i el els cp hk hex
          cases hev
          exact snd_len hT hR ho hcal (array_one ha) (array_one ht) (hop x (by simp only [Op.operands, Call.operands]; rw [array_one ha]; simp)) hex hk
        · rename_i el i n hk hex
          cases hev
          exact snd_len_own hT hR ho hcal (array_one ha) (array_one ht) (hop x (by simp only [Op.operands, Call.operands]; rw [array_one ha]; simp)) hex hk
        · cases hev
      · cases hev
    · rename_i hcal
      split at hev
      · rename_i x y t t2 ha ht
        split at hev
        · rename_i el el2 els cx els2 cy hk hk2 hex hey
          split at hev
          · rename_i hc
            simp only [Bool.and_eq_true, decide_eq_true_eq, List.all_eq_true] at hc
            obtain ⟨⟨⟨⟨⟨h1, h2⟩, h3⟩, h4⟩, h5⟩, h6⟩ := hc
            have hx := hop x (by simp only [Op.operands, Call.operands]; rw [array_two ha]; simp)
            have hy := hop y (by simp only [Op.operands, Call.operands]; rw [array_two ha]; simp)
            split at hev
            · cases hev
              exact snd_append hT hR ho hcal (array_two ha) (array_two ht) hx hy hex hey hk hk2 h2 h3 h4 h5 h6 ((hH nx (by simp)).trans (isFree_eq h1)) (.inl rfl)
            · rename_i i
              split at hev
              · rename_i htk
                cases hev
                exact snd_append hT hR ho hcal (array_two ha) (array_two ht) hx hy hex hey hk hk2 h2 h3 h4 h5 h6 ((hH nx (by simp)).trans (isFree_eq h1)) (.inr ⟨i, rfl, (hH i (by simp)).trans (isTok_eq htk)⟩)
              · cases hev
            · cases hev
          · cases hev
        · rename_i el el2 i n els2 cy hk hk2 hex hey
          split at hev
          · rename_i sz els hi
            split at hev
            · rename_i hc
              simp only [Bool.and_eq_true, decide_eq_true_eq, List.all_eq_true] at hc
              obtain ⟨⟨⟨⟨⟨⟨⟨⟨h1, h2⟩, h3⟩, h4⟩, h5⟩, rfl⟩, h6⟩, h7⟩, h8⟩ := hc
              have hx := hop x (by simp only [Op.operands, Call.operands]; rw [array_two ha]; simp)
              have hy := hop y (by simp only [Op.operands, Call.operands]; rw [array_two ha]; simp)
              cases hev
              exact snd_append_own hT hR ho hcal (array_two ha) (array_two ht) hx hy hex ((hH i (by simp)).trans hi) hey hk hk2 h2 h3 h4 h5 h6 h7 h8 ((hH nx (by simp)).trans (isFree_eq h1))
            · cases hev
          · cases hev
        · cases hev
      · cases hev
    · rename_i hcal
      split at hev
      · rename_i x y ha
        split at hev
        · rename_i k a k' b hex hey
          split at hev
          · rename_i hkk
            subst hkk
            cases hev
            have hx := hop x (by simp only [Op.operands, Call.operands]; rw [array_two ha]; simp)
            have hy := hop y (by simp only [Op.operands, Call.operands]; rw [array_two ha]; simp)
            rw [hex, Rp] at hx
            rw [hey, Rp] at hy
            refine StepV.same hR (u := .int k (max a b)) ?_ (by rw [Rp]; refine ⟨rfl, ?_⟩; omega)
            simp [execOp, ho, hcal, array_two ha, resolve, invoke, builtin, hx.1, hy.1, Lib.run_max_ints]
          · cases hev
        · cases hev
      · cases hev
    · rename_i hcal
      split at hev
      · rename_i x y ha
        split at hev
        · rename_i k a k' b hex hey
          split at hev
          · rename_i hkk
            subst hkk
            cases hev
            have hx := hop x (by simp only [Op.operands, Call.operands]; rw [array_two ha]; simp)
            have hy := hop y (by simp only [Op.operands, Call.operands]; rw [array_two ha]; simp)
            rw [hex, Rp] at hx
            rw [hey, Rp] at hy
            refine StepV.same hR (u := .int k (min a b)) ?_ (by rw [Rp]; refine ⟨rfl, ?_⟩; omega)
            simp [execOp, ho, hcal, array_two ha, resolve, invoke, builtin, hx.1, hy.1, Lib.run_min_ints]
          · cases hev
        · cases hev
      · cases hev
    · split at hev <;> cases hev
    · cases hev
  all_goals cases hev
end
end Go.Proofs.Ytbjgdeednmhpfaa
