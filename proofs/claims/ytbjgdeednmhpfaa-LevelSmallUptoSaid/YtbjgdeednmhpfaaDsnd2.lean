/-
  evOp is right, more operations.
-/
import Derived.Test.YtbjgdeednmhpfaaDsnd
set_option linter.unusedSimpArgs false
set_option linter.unusedVariables false
namespace Go.Proofs.Ytbjgdeednmhpfaa
open Go.RowKit

section
variable {P : Program} {G : Nat → Option D} {T : TypeId → Ty} {v : Operand → Value} {e : Operand → D} {o : Oper} {ρ : Rho} {w : World} {H : Nat → HO}

theorem wrap_in (k : IntKind) (n : Int) : k.min ≤ k.wrap n ∧ k.wrap n ≤ k.max := by
  cases k <;> simp [IntKind.min, IntKind.max, IntKind.wrap, IntKind.signed, IntKind.bits] <;> (try split) <;> omega

theorem snd_bin (hR : Rel G ρ w H) {op : BinOp} {t t' : TypeId} {x y : Operand} (ho : o.op = .binOp op t x y t') (hx : Rp ρ w (e x) (v x)) (hy : Rp ρ w (e y) (v y)) {d : D} (h : binD op (e x) (e y) = some d) :
    StepV P G v o ρ w H d [] := by
  unfold binD at h
  split at h
  all_goals first | (cases h; done) | skip
  all_goals
    rename_i k a k' b hex hey
    rw [hex, Rp] at hx
    rw [hey, Rp] at hy
    split at h
    · rename_i hkk
      subst hkk
      cases h
      refine StepV.same hR ?_ (by first | (rw [Rp]; exact ⟨rfl, wrap_in _ _⟩) | rw [Rp])
      simp [execOp, ho, hx.1, hy.1, go_sem]
      try rfl
    · cases h

theorem tmod_in {k : IntKind} {a b : Int} (h1 : k.min ≤ a) (h2 : a ≤ k.max) : k.min ≤ a.tmod b ∧ a.tmod b ≤ k.max := by
  have hk : k.min ≤ 0 ∧ 0 ≤ k.max := by cases k <;> decide
  rcases Int.le_total 0 a with h | h
  · have := Int.tmod_nonneg b h
    have : a.tmod b ≤ a := by
      obtain ⟨n, rfl⟩ := Int.eq_ofNat_of_zero_le h
      rcases Int.le_total 0 b with hb | hb
      · obtain ⟨m, rfl⟩ := Int.eq_ofNat_of_zero_le hb
        rw [← Int.ofNat_tmod]; exact Int.ofNat_le.2 (Nat.mod_le _ _)
      · obtain ⟨m, hm⟩ := Int.eq_ofNat_of_zero_le (show 0 ≤ -b by omega)
        have : b = -(m : Int) := by omega
        rw [this, Int.tmod_neg, ← Int.ofNat_tmod]; exact Int.ofNat_le.2 (Nat.mod_le _ _)
    omega
  · obtain ⟨n, hn⟩ := Int.eq_ofNat_of_zero_le (show 0 ≤ -a by omega)
    have ha : a = -(n : Int) := by omega
    have : 0 ≤ (n : Int).tmod b ∧ (n : Int).tmod b ≤ n := by
      refine ⟨Int.tmod_nonneg b (by omega), ?_⟩
      rcases Int.le_total 0 b with hb | hb
      · obtain ⟨m, rfl⟩ := Int.eq_ofNat_of_zero_le hb
        rw [← Int.ofNat_tmod]; exact Int.ofNat_le.2 (Nat.mod_le _ _)
      · obtain ⟨m, hm⟩ := Int.eq_ofNat_of_zero_le (show 0 ≤ -b by omega)
        have : b = -(m : Int) := by omega
        rw [this, Int.tmod_neg, ← Int.ofNat_tmod]; exact Int.ofNat_le.2 (Nat.mod_le _ _)
    rw [ha, Int.neg_tmod]
    omega
theorem fdiv_in {k : IntKind} {a : Int} (n : Nat) (h1 : k.min ≤ a) (h2 : a ≤ k.max) : k.min ≤ a.fdiv (2 ^ n) ∧ a.fdiv (2 ^ n) ≤ k.max := by
  have hk : k.min ≤ 0 ∧ 0 ≤ k.max := by cases k <;> decide
  have hp : (0 : Int) < 2 ^ n := Int.pow_pos (by decide)
  rw [Int.fdiv_eq_ediv_of_nonneg _ (Int.le_of_lt hp)]
  rcases Int.le_total 0 a with h | h
  · have := Int.ediv_nonneg h (Int.le_of_lt hp)
    have := Int.ediv_le_self (2 ^ n) h
    omega
  · have h3 : a ≤ a / 2 ^ n := by
      rw [Int.le_ediv_iff_mul_le hp]
      have h5 := Int.mul_le_mul_of_nonneg_left (show (1 : Int) ≤ 2 ^ n by omega) (show 0 ≤ -a by omega)
      rw [Int.neg_mul, Int.neg_mul] at h5
      omega
    have h4 : a / 2 ^ n ≤ 0 := by
      have := Int.ediv_le_ediv hp h
      simpa using this
    omega
theorem snd_binE (hR : Rel G ρ w H) {op : BinOp} {t t' : TypeId} {x y : Operand} (ho : o.op = .binOp op t x y t') (hx : Rp ρ w (e x) (v x)) (hy : Rp ρ w (e y) (v y)) {d : D} (h : binE op (e x) (e y) = some d) :
    StepV P G v o ρ w H d [] := by
  unfold binE at h
  split at h
  all_goals first | (cases h; done) | skip
  all_goals
    rename_i k a k' b hex hey
    rw [hex, Rp] at hx
    rw [hey, Rp] at hy
    split at h
    · rename_i hkk
      cases h
      first
        | (obtain ⟨rfl, hb⟩ := hkk
           refine StepV.same hR ?_ (by first | (rw [Rp]; exact ⟨rfl, wrap_in _ _⟩) | (rw [Rp]; exact ⟨rfl, tmod_in hx.2.1 hx.2.2⟩))
           simp [execOp, ho, hx.1, hy.1, hb, go_sem]
           done)
        | (subst hkk
           refine StepV.same hR ?_ (by rw [Rp]; exact ⟨rfl, wrap_in _ _⟩)
           simp [execOp, ho, hx.1, hy.1, binOp, eqGuard, Op.intBits]
           done)
        | (have hb : ¬ b < 0 := Int.not_lt.2 hkk
           refine StepV.same hR ?_ (by first | (rw [Rp]; exact ⟨rfl, wrap_in _ _⟩) | (rw [Rp]; exact ⟨rfl, fdiv_in _ hx.2.1 hx.2.2⟩))
           simp [execOp, ho, hx.1, hy.1, hb, binOp, eqGuard, Op.shift])
    · cases h

theorem snd_not (hR : Rel G ρ w H) {t : TypeId} {x : Operand} (ho : o.op = .unOp .not t x) (hx : Rp ρ w (e x) (v x)) {b : Bool} (h : e x = .bool b) : StepV P G v o ρ w H (.bool (!b)) [] := by
  rw [h, Rp] at hx
  refine StepV.same hR (u := .bool (!b)) ?_ (by rw [Rp])
  simp [execOp, ho, hx, Op.unary]

theorem snd_convert (hT : ∀ t, TyOK P t (T t)) (hR : Rel G ρ w H) {s t : TypeId} {x : Operand} (ho : o.op = .convert s t x) (hx : Rp ρ w (e x) (v x)) {k k' : IntKind} {n : Int} (h : e x = .int k' n)
    (hs : (T s).k.known = true) (ht : (T t).k = .int k) : StepV P G v o ρ w H (.int k (k.wrap n)) [] := by
  rw [h, Rp] at hx
  obtain ⟨i, d, -, -, -, -, -, -, -, h1, -⟩ := (hT s).info hs
  obtain ⟨i2, d2, -, -, -, -, -, -, -, h2, h3⟩ := (hT t).info (by rw [ht]; rfl)
  rw [ht] at h3
  simp only [KOK] at h3
  subst h3
  refine StepV.same hR (u := .int k (k.wrap n)) ?_ (by rw [Rp]; exact ⟨rfl, wrap_in _ _⟩)
  simp [execOp, ho, hx.1, convert, run_underlying h1, run_underlying h2, Conv.intToInt]

theorem snd_iface (hT : ∀ t, TyOK P t (T t)) (hR : Rel G ρ w H) {t : TypeId} {x : Operand} (ho : o.op = .makeInterface t x) (hx : Rp ρ w (e x) (v x)) (hk : (T t).k.known = true) (hi : (T t).k ≠ .iface) :
    StepV P G v o ρ w H (.iface t (e x)) [] := by
  obtain ⟨i, d, -, -, -, -, -, -, -, h1, h2⟩ := (hT t).info hk
  refine StepV.same hR (u := .iface t (v x)) ?_ (by rw [Rp]; exact ⟨_, rfl, hx⟩)
  have : ∀ ms, d ≠ .interface ms := fun ms e => by
    subst e
    cases hkk : (T t).k <;> rw [hkk] at h2 hi hk <;> simp only [KOK] at h2
    case none => cases hk
    case iface => exact hi rfl
    all_goals first
      | (cases h2; done)
      | (obtain ⟨_, h2⟩ := h2; cases h2; done)
      | (obtain ⟨_, _, _, h2⟩ := h2; cases h2; done)
      | (obtain ⟨_, h2, -⟩ := h2; cases h2; done)
  have hrun : (Instr.makeInterface t (v x)).run P w = .ok (.iface t (v x)) w := by
    simp only [Instr.makeInterface, Sem.run_bind, run_underlying h1, Result.andThen_ok]
    cases d <;> first | rfl | exact absurd rfl (this _)
  simp [execOp, ho, hrun]

theorem RpL_map {l : List Operand} (h : ∀ x, x ∈ l → Rp ρ w (e x) (v x)) : RpL ρ w (l.map e) (l.map v) := by
  induction l with
  | nil => rw [List.map_nil, List.map_nil, RpL_nil]
  | cons x r ih => exact RpL_cons'.2 ⟨h x (List.mem_cons_self ..), ih fun y hy => h y (List.mem_cons_of_mem _ hy)⟩

theorem snd_func (hR : Rel G ρ w H) {fn : Fn} {a b : Array Operand} (ho : o.op = .makeFunc fn a b) (ha : ∀ x, x ∈ a.toList → Rp ρ w (e x) (v x)) (hb : ∀ x, x ∈ b.toList → Rp ρ w (e x) (v x)) :
    StepV P G v o ρ w H (.fn fn (a.toList.map e) (b.toList.map e)) [] := by
  refine StepV.same hR (u := .func fn (a.map v) (b.map v)) ?_ ?_
  · simp [execOp, ho, Instr.makeFunc]
  · rw [Rp]; exact ⟨a.toList.map v, b.toList.map v, by cases a; cases b; simp, RpL_map ha, RpL_map hb⟩

theorem snd_extract (hR : Rel G ρ w H) {x : Operand} {n : Nat} (ho : o.op = .extract x n) (hx : Rp ρ w (e x) (v x)) {ds : List D} {d : D} (h : e x = .tuple ds) (hd : ds[n]? = some d) : StepV P G v o ρ w H d [] := by
  rw [h, Rp] at hx
  obtain ⟨us, hu, hr⟩ := hx
  obtain ⟨u, h1, h2⟩ := hr.get hd
  refine StepV.same hR (u := u) ?_ h2
  simp [execOp, ho, hu, Instr.extract, h1]

theorem snd_len (hT : ∀ t, TyOK P t (T t)) (hR : Rel G ρ w H) {c : Call} {x : Operand} {t el : TypeId} (ho : o.op = .call c) (hc : c.callee = .builtin .len) (ha : c.args = #[x]) (ht : c.argTypes = #[t]) (hx : Rp ρ w (e x) (v x))
    {els : List D} {cp : Cp} (h : e x = .slice els cp) (hk : (T t).k = .slice el) : StepV P G v o ρ w H (.int .i64 els.length) [] := by
  rw [h, Rp] at hx
  obtain ⟨A, cap, sz, hv, -, -, hl, -⟩ := hx
  obtain ⟨i, d, -, -, -, -, -, -, -, h1, h2⟩ := (hT t).info (by rw [hk]; rfl)
  rw [hk] at h2
  simp only [KOK] at h2
  subst h2
  refine StepV.same hR (u := .int .i64 els.length) ?_ (by rw [Rp]; unfold LMax at hl; exact ⟨rfl, by have : IntKind.i64.min = -9223372036854775808 := by decide
                                                                                                     omega, by have : IntKind.i64.max = 9223372036854775807 := by decide
                                                                                                               omega⟩)
  simp [execOp, ho, hc, ha, ht, hv, resolve, invoke, builtin, Builtin.len_, run_underlying h1, goInt]

theorem partD_at {y : Ty} {cs : List D} {k b off : Nat} {d : D} (h : partD y cs k = some d) (hc : RpC ρ w cs b off) : RpAt ρ w d b (off + k) := by
  unfold partD at h
  split at h
  · split at h
    · cases h
      exact hc.part k _
    · cases h
  · obtain ⟨h, h1⟩ := partD_one h
    obtain ⟨u, h2, h3⟩ := hc.get h
    cases d
    case agg ds => cases h1
    all_goals exact ⟨u, h2, h3⟩

theorem addr_add (b o n : Nat) : (⟨b, o, none⟩ : Addr).add n = ⟨b, o + n, none⟩ := by unfold Addr.add; split <;> simp_all

theorem fields_get {fields : Array Field} {fs : List (Nat × TypeId)} (h : fields.toList.map (fun f => (f.offset, f.type)) = fs) {n o : Nat} {t : TypeId} (hn : fs[n]? = some (o, t)) : ∃ f, fields[n]? = some f ∧ f.offset = o ∧ f.type = t := by
  subst h
  rw [List.getElem?_map] at hn
  cases hf : fields.toList[n]? with
  | none => rw [hf] at hn; cases hn
  | some f => rw [hf] at hn; cases hn; exact ⟨f, by simpa using hf, rfl, rfl⟩

theorem run_fieldAt (hT : ∀ t, TyOK P t (T t)) {s ft : TypeId} {fs : List (Nat × TypeId)} {n k b off : Nat} (hs : (T s).k = .struct fs) (hn : fs[n]? = some (k, ft)) (hf : (T ft).k.known = true) (h0 : (T ft).size ≠ 0) :
    (Instr.fieldAt s (.pointer (some ⟨b, off, none⟩)) n).run P w = .ok (.pointer (some ⟨b, off + k, none⟩)) w := by
  obtain ⟨i, d, -, -, -, -, -, -, -, h1, h2⟩ := (hT s).info (by rw [hs]; rfl)
  rw [hs] at h2
  obtain ⟨fields, rfl, h3⟩ := h2
  obtain ⟨f, h4, h5, h6⟩ := fields_get h3 hn
  subst h6
  simp [Instr.fieldAt, run_underlying h1, h4, Instr.sureAddr, fieldPlace, run_sizeOf (hT _) hf, h0, addr_add, h5]

theorem snd_faddr_box (hT : ∀ t, TyOK P t (T t)) (hR : Rel G ρ w H) {s ft : TypeId} {x : Operand} {n : Nat} (ho : o.op = .fieldAddr s x n) (hx : Rp ρ w (e x) (v x)) {fs : List (Nat × TypeId)} {k i off : Nat} (hs : (T s).k = .struct fs) (hn : fs[n]? = some (k, ft))
    (hf : (T ft).k.known = true) (h0 : (T ft).size ≠ 0) (h : e x = .box i off) : StepV P G v o ρ w H (.box i (off + k)) [] := by
  rw [h, Rp] at hx
  obtain ⟨b, f, h1, h2⟩ := hx
  refine StepV.same hR (u := .pointer (some ⟨b, off + k, none⟩)) ?_ (by rw [Rp]; exact ⟨b, f, h1, rfl⟩)
  simp [execOp, ho, h2, run_fieldAt hT hs hn hf h0]

theorem snd_faddr_ref (hT : ∀ t, TyOK P t (T t)) (hR : Rel G ρ w H) {s ft : TypeId} {x : Operand} {n : Nat} (ho : o.op = .fieldAddr s x n) (hx : Rp ρ w (e x) (v x)) {fs : List (Nat × TypeId)} {k : Nat} (hs : (T s).k = .struct fs) (hn : fs[n]? = some (k, ft))
    (hf : (T ft).k.known = true) (h0 : (T ft).size ≠ 0) {cs : List D} {d : D} (h : e x = .ref (.agg cs)) (hp : partD (T ft) cs k = some d) : StepV P G v o ρ w H (.ref d) [] := by
  rw [h] at hx
  obtain ⟨b, off, h1, h2⟩ := Rp_ref.1 hx
  refine StepV.same hR (u := .pointer (some ⟨b, off + k, none⟩)) ?_ (Rp_ref.2 ⟨b, off + k, rfl, partD_at hp h2⟩)
  simp [execOp, ho, h1, run_fieldAt hT hs hn hf h0]

theorem part_spec (hT : ∀ t, TyOK P t (T t)) {t : TypeId} (hk : (T t).k.known = true) {cs : List D} {us : List Value} (hr : RpL ρ w cs us) {k : Nat} {d : D} (hp : partD (T t) cs k = some d) : ∃ u, (part t us.toArray k).run P w = .ok u w ∧ Rp ρ w d u := by
  unfold partD at hp
  cases ha : (T t).k.isAgg with
  | true =>
    rw [ha] at hp
    simp only [if_true] at hp
    split at hp
    · rename_i hle
      cases hp
      refine ⟨.agg ((us.drop k).take (T t).size).toArray, ?_, by rw [Rp]; exact ⟨_, rfl, (hr.drop k).take _⟩⟩
      simp [part, run_isAgg (hT t) hk, ha, run_sizeOf (hT t) hk, List.extract_eq_take_drop]
    · cases hp
  | false =>
    rw [ha] at hp
    simp only [Bool.false_eq_true, if_false] at hp
    obtain ⟨h1, -⟩ := partD_one hp
    obtain ⟨u, h2, h3⟩ := hr.get h1
    refine ⟨u, ?_, h3⟩
    simp [part, run_isAgg (hT t) hk, ha, h2]

theorem snd_field (hT : ∀ t, TyOK P t (T t)) (hR : Rel G ρ w H) {s ft : TypeId} {x : Operand} {n : Nat} (ho : o.op = .field s x n) (hx : Rp ρ w (e x) (v x)) {fs : List (Nat × TypeId)} {k : Nat} (hs : (T s).k = .struct fs) (hn : fs[n]? = some (k, ft))
    (hf : (T ft).k.known = true) {cs : List D} {d : D} (h : e x = .agg cs) (hp : partD (T ft) cs k = some d) : StepV P G v o ρ w H d [] := by
  rw [h, Rp] at hx
  obtain ⟨us, h1, h2⟩ := hx
  obtain ⟨i, dd, -, -, -, -, -, -, -, h3, h4⟩ := (hT s).info (by rw [hs]; rfl)
  rw [hs] at h4
  obtain ⟨fields, rfl, h5⟩ := h4
  obtain ⟨f, h6, h7, h8⟩ := fields_get h5 hn
  subst h8 h7
  obtain ⟨u, h9, h10⟩ := part_spec (P := P) hT hf h2 hp
  refine StepV.same hR (u := u) ?_ h10
  simp [execOp, ho, h1, Instr.field, run_underlying h3, h6, asAgg, h9]

theorem snd_index_slice (hT : ∀ t, TyOK P t (T t)) (hR : Rel G ρ w H) {t el : TypeId} {x ix : Operand} (ho : o.op = .indexAddr t x ix) (hx : Rp ρ w (e x) (v x)) (hix : Rp ρ w (e ix) (v ix)) (hk : (T t).k = .slice el) (hel : (T el).k.known = true)
    {els : List D} {cp : Cp} {k : IntKind} {i : Int} {d : D} (h : e x = .slice els cp) (h2 : e ix = .int k i) (hi : 0 ≤ i) (hd : els[i.toNat]? = some d) (hs : d.size = (T el).size) : StepV P G v o ρ w H (.ref d) [] := by
  rw [h, Rp] at hx
  rw [h2, Rp] at hix
  obtain ⟨A, cap, sz, hv, -, -, -, h3, -, h4⟩ := hx
  obtain ⟨b, off, rfl, h5⟩ := h4 (by rintro rfl; simp at hd)
  have hsz : sz = (T el).size := by rw [← h3 d (List.mem_of_getElem? hd), hs]
  subst hsz
  have hlt : i.toNat < els.length := (List.getElem?_eq_some_iff.1 hd).1
  obtain ⟨ii, dd, -, -, -, -, -, -, -, h6, h7⟩ := (hT t).info (by rw [hk]; rfl)
  rw [hk] at h7
  simp only [KOK] at h7
  subst h7
  refine StepV.same hR (u := .pointer (some ⟨b, off + i.toNat * (T el).size, none⟩)) ?_ (Rp_ref.2 ⟨b, _, rfl, h5.get h3 hd⟩)
  have : 0 ≤ i ∧ i < (els.length : Int) := ⟨hi, by omega⟩
  simp [execOp, ho, hv, hix.1, Instr.indexAt, asIntOf, run_underlying h6, this, run_sizeOf (hT el) hel, addr_add]

theorem snd_index_arr (hT : ∀ t, TyOK P t (T t)) (hR : Rel G ρ w H) {t el : TypeId} {x ix : Operand} {n : Nat} (ho : o.op = .indexAddr t x ix) (hx : Rp ρ w (e x) (v x)) (hix : Rp ρ w (e ix) (v ix)) (hk : (T t).k = .arr n el) (hel : (T el).k.known = true)
    {cs : List D} {k : IntKind} {i : Int} {d : D} (h : e x = .ref (.agg cs)) (h2 : e ix = .int k i) (hi : 0 ≤ i) (hn : i.toNat < n) (hd : partD (T el) cs (i.toNat * (T el).size) = some d) : StepV P G v o ρ w H (.ref d) [] := by
  rw [h] at hx
  rw [h2, Rp] at hix
  obtain ⟨b, off, hv, hc⟩ := Rp_ref.1 hx
  obtain ⟨ii, dd, -, -, -, -, -, -, -, h6, h7⟩ := (hT t).info (by rw [hk]; rfl)
  rw [hk] at h7
  simp only [KOK] at h7
  subst h7
  refine StepV.same hR (u := .pointer (some ⟨b, off + i.toNat * (T el).size, none⟩)) ?_ (Rp_ref.2 ⟨b, _, rfl, partD_at hd hc⟩)
  have : 0 ≤ i ∧ i < (n : Int) := ⟨hi, by omega⟩
  simp [execOp, ho, hv, hix.1, Instr.indexAt, asIntOf, run_underlying h6, Instr.sureAddr, this, run_sizeOf (hT el) hel, addr_add]

theorem snd_assert (hT : ∀ t, TyOK P t (T t)) (hR : Rel G ρ w H) {xt at_ : TypeId} {x : Operand} (ho : o.op = .typeAssert x xt at_ true) (hx : Rp ρ w (e x) (v x)) {t : TypeId} {d : D} (h : e x = .iface t d) (hk : (T at_).k.known = true) (hi : (T at_).k ≠ .iface) :
    StepV P G v o ρ w H (if t = at_ then .tuple [d, .bool true] else .tuple [(T at_).zero, .bool false]) [] := by
  rw [h, Rp] at hx
  obtain ⟨u, hv, hu⟩ := hx
  obtain ⟨i, dd, -, -, -, -, -, -, -, h1, h2⟩ := (hT at_).info hk
  have : ∀ ms, dd ≠ .interface ms := fun ms e => by
    subst e
    cases hkk : (T at_).k <;> rw [hkk] at h2 hi hk <;> simp only [KOK] at h2
    case none => cases hk
    case iface => exact hi rfl
    all_goals first
      | (cases h2; done)
      | (obtain ⟨_, h2⟩ := h2; cases h2; done)
      | (obtain ⟨_, _, _, h2⟩ := h2; cases h2; done)
      | (obtain ⟨_, h2, -⟩ := h2; cases h2; done)
  have hb : ∀ b : Bool, Rp ρ w (.bool b) (.bool b) := fun b => by rw [Rp]
  by_cases ht : t = at_
  · subst ht
    refine StepV.same hR (u := .tuple #[u, .bool true]) ?_ (by rw [if_pos rfl, Rp]; exact ⟨[u, .bool true], rfl, RpL_cons'.2 ⟨hu, RpL_cons'.2 ⟨hb _, RpL_nil.2 rfl⟩⟩⟩)
    have hrun : (Instr.typeAssert (.iface t u) xt t true).run P w = .ok (.tuple #[u, .bool true]) w := by
      simp only [Instr.typeAssert, Sem.run_bind, run_underlying h1, Result.andThen_ok]
      cases dd <;> first | simp | exact absurd rfl (this _)
    simp [execOp, ho, hv, hrun]
  · refine StepV.same hR (u := .tuple #[(T at_).zero.cv, .bool false]) ?_ (by rw [if_neg ht, Rp]; exact ⟨[(T at_).zero.cv, .bool false], rfl, RpL_cons'.2 ⟨zero_rp (hT _) hk ρ w, RpL_cons'.2 ⟨hb _, RpL_nil.2 rfl⟩⟩⟩)
    have hrun : (Instr.typeAssert (.iface t u) xt at_ true).run P w = .ok (.tuple #[(T at_).zero.cv, .bool false]) w := by
      simp only [Instr.typeAssert, Sem.run_bind, run_underlying h1, Result.andThen_ok]
      cases dd <;> first | simp [ht, run_zero (hT at_) hk] | exact absurd rfl (this _)
    simp [execOp, ho, hv, hrun]

end
end Go.Proofs.Ytbjgdeednmhpfaa
