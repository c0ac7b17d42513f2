/-
  Maps by ints; parts of slices; on data.
-/
import Derived.Test.YtbjgdeednmhpfaaDbld
set_option linter.unusedSimpArgs false
set_option linter.unusedVariables false
namespace Go.Proofs.Ytbjgdeednmhpfaa
open Go.RowKit Go.MapKept

section
variable {P : Program} {G : Nat → Option D} {ρ : Rho} {w : World} {H : Nat → HO} {T : TypeId → Ty} {v : Operand → Value} {e : Operand → D} {o : Oper}

theorem isIntK_rp {k : IntKind} {d : D} {u : Value} (h : isIntK k d = true) (hr : Rp ρ w d u) : ∃ n, d = .int k n ∧ u = .int k n := by
  cases d <;> first | (cases h; done) | skip
  case int j n =>
    have : j = k := by simpa [isIntK] using h
    subst this
    rw [Rp] at hr
    exact ⟨n, rfl, hr.1⟩

theorem findNow_rel {k kk : IntKind} {a : Int} : ∀ {es : List (D × D)} {l : List MapEntry} (i : Nat), (es.all fun p => isIntK k p.1) = true → RpL ρ w (es.map (·.1)) (l.map (·.key)) → RpL ρ w (es.map (·.2)) (l.map (·.val)) →
    match findD (.int k a) es with
    | some d => ∃ j u, Instr.findNow (.int kk) (.int k a) l i = some (some (j, u)) ∧ Rp ρ w d u
    | none => Instr.findNow (.int kk) (.int k a) l i = some none
  | [], l, i, _, h1, _ => by
    rw [List.map_nil, RpL_nil] at h1
    have : l = [] := List.map_eq_nil_iff.1 h1
    subst this
    rfl
  | p :: es, l, i, h, h1, h2 => by
    cases l with
    | nil => rw [List.map_cons, RpL_cons] at h1; obtain ⟨_, _, h1, -⟩ := h1; cases h1
    | cons m l =>
      rw [List.all_cons, Bool.and_eq_true] at h
      simp only [List.map_cons] at h1 h2
      obtain ⟨g1, g2⟩ := RpL_cons'.1 h1
      obtain ⟨g3, g4⟩ := RpL_cons'.1 h2
      obtain ⟨n, e1, e2⟩ := isIntK_rp h.1 g1
      have ih := findNow_rel (k := k) (kk := kk) (a := a) (i + 1) h.2 g2 g4
      rw [findD, e1]
      by_cases han : a = n
      · subst han
        simp only [keyEq, decide_true, Bool.and_self, if_true]
        exact ⟨i, m.val, by rw [Instr.findNow, e2]; simp [Instr.sameNow], g3⟩
      · have hk : keyEq (.int k a) (.int k n) = false := by simp [keyEq, han]
        rw [hk]
        simp only [Bool.false_eq_true, if_false]
        have hs : Instr.findNow (.int kk) (.int k a) (m :: l) i = Instr.findNow (.int kk) (.int k a) l (i + 1) := by
          rw [Instr.findNow, e2]
          have : (a == n) = false := by simpa using han
          simp [Instr.sameNow, this]
        rw [hs]
        exact ih

theorem run_getMap {b : Nat} {ents : Array MapEntry} {clock : Nat} (h : w.heap[b]? = some (.map ents clock)) : (getObj b).run P w = .ok (.map ents clock) w := by simp [getObj, Sem.run, h]
theorem run_setMap {b : Nat} {ents : Array MapEntry} {clock : Nat} (h : w.heap[b]? = some (.map ents clock)) (o : Obj) : (setObj b o).run P w = .ok () { w with heap := w.heap.setIfInBounds b o } := by simp [setObj, Sem.run, h]

theorem run_checkKey_int {kt : TypeId} {kk k : IntKind} {a : Int} (h : P.underlying kt = some (.int kk)) (b : Bool) (n : Nat) : (Instr.checkKey b (n + 1) kt (.int k a)).run P w = .ok () w := by
  simp only [Instr.checkKey, Sem.run_bind, run_underlying h, Result.andThen_ok]
  rfl

theorem lookup_core (hT : ∀ t, TyOK P t (T t)) (hR : Rel G ρ w H) {t kt el : TypeId} {m ix : Operand} {ok : Bool} (ho : o.op = .lookup t m ix ok) (hix : Rp ρ w (e ix) (v ix)) {kk k : IntKind} {a : Int} (hk : (T t).k = .map kt el) (hkt : (T kt).k = .int kk)
    (hel : (T el).k.known = true) {es : List (D × D)} {b : Nat} {ents : Array MapEntry} {clock : Nat} (hv : v m = .map (some b)) (hh : w.heap[b]? = some (.map ents clock)) (h1 : RpL ρ w (es.map (·.1)) (ents.toList.map (·.key))) (h2 : RpL ρ w (es.map (·.2)) (ents.toList.map (·.val))) (hei : e ix = .int k a) (hall : (es.all fun p => isIntK k p.1) = true) :
    StepV P G v o ρ w H (match findD (.int k a) es with | some d => if ok then .tuple [d, .bool true] else d | none => if ok then .tuple [(T el).zero, .bool false] else (T el).zero) [] := by
  rw [hei, Rp] at hix
  obtain ⟨it, d, -, -, -, -, -, -, -, g1, g2⟩ := (hT t).info (by rw [hk]; rfl)
  rw [hk] at g2; simp only [KOK] at g2; subst g2
  obtain ⟨it2, d2, -, -, -, -, -, -, -, g3, g4⟩ := (hT kt).info (by rw [hkt]; rfl)
  rw [hkt] at g4; simp only [KOK] at g4; subst g4
  have hf := findNow_rel (ρ := ρ) (w := w) (kk := kk) (a := a) 0 hall h1 h2
  have hb : ∀ b : Bool, Rp ρ w (.bool b) (.bool b) := fun b => by rw [Rp]
  have hgo : ∀ (r : Option (Nat × Value)), Instr.findNow (.int kk) (.int k a) ents.toList 0 = some r → (Instr.lookup t (v m) (v ix) ok).run P w = (match r with | some (_, u) => .ok (if ok then .tuple #[u, .bool true] else u) w | none => .ok (if ok then .tuple #[(T el).zero.cv, .bool false] else (T el).zero.cv) w) := fun r hr => by
    have hck := run_checkKey_int (P := P) (w := w) (k := k) (a := a) g3 ents.isEmpty 9999
    simp only [Nat.reduceAdd] at hck
    simp only [Instr.lookup, Sem.run_bind, run_underlying g1, hv, hix.1, Result.andThen_ok, run_getMap hh, Sem.run_pure, hck, Instr.findKey, run_underlying g3, hr]
    cases r with
    | none => simp [run_zero (hT el) hel]
    | some p => rfl
  cases hfd : findD (.int k a) es with
  | some d =>
    rw [hfd] at hf
    obtain ⟨j, u, e1, e2⟩ := hf
    have hrun := hgo _ e1
    dsimp only at hrun ⊢
    refine StepV.same hR (by simp only [execOp, ho, Sem.run_bind, hrun, Result.andThen_ok, Sem.run_pure]; rfl) ?_
    cases ok
    · simpa using e2
    · simp only [if_true]; rw [Rp]; exact ⟨[u, .bool true], rfl, RpL_cons'.2 ⟨e2, RpL_cons'.2 ⟨hb _, RpL_nil.2 rfl⟩⟩⟩
  | none =>
    rw [hfd] at hf
    have hrun := hgo _ hf
    dsimp only at hrun ⊢
    refine StepV.same hR (by simp only [execOp, ho, Sem.run_bind, hrun, Result.andThen_ok, Sem.run_pure]; rfl) ?_
    have hz := zero_rp (hT el) hel ρ w
    cases ok
    · simpa using hz
    · simp only [if_true]; rw [Rp]; exact ⟨[(T el).zero.cv, .bool false], rfl, RpL_cons'.2 ⟨hz, RpL_cons'.2 ⟨hb _, RpL_nil.2 rfl⟩⟩⟩

theorem snd_lookup (hT : ∀ t, TyOK P t (T t)) (hR : Rel G ρ w H) {t kt el : TypeId} {m ix : Operand} {ok : Bool} (ho : o.op = .lookup t m ix ok) (hm : Rp ρ w (e m) (v m)) (hix : Rp ρ w (e ix) (v ix)) {kk k : IntKind} {a : Int} (hk : (T t).k = .map kt el) (hkt : (T kt).k = .int kk)
    (hel : (T el).k.known = true) {i : Nat} {es : List (D × D)} (hem : e m = .map i) (hei : e ix = .int k a) (hi : H i = .mp es) (hall : (es.all fun p => isIntK k p.1) = true) :
    StepV P G v o ρ w H (match findD (.int k a) es with | some d => if ok then .tuple [d, .bool true] else d | none => if ok then .tuple [(T el).zero, .bool false] else (T el).zero) [] := by
  rw [hem, Rp] at hm
  obtain ⟨b, f, hnm, hv⟩ := hm
  have hobj := hR.obj i b f hnm
  rw [hi] at hobj
  obtain ⟨-, ents, clock, hh, h1, h2, -⟩ := hobj
  exact lookup_core hT hR ho hix hk hkt hel hv hh h1 h2 hei hall

theorem snd_lookupc (hT : ∀ t, TyOK P t (T t)) (hR : Rel G ρ w H) {t kt el : TypeId} {m ix : Operand} {ok : Bool} (ho : o.op = .lookup t m ix ok) (hm : Rp ρ w (e m) (v m)) (hix : Rp ρ w (e ix) (v ix)) {kk k : IntKind} {a : Int} (hk : (T t).k = .map kt el) (hkt : (T kt).k = .int kk)
    (hel : (T el).k.known = true) {ks vs : List D} (hem : e m = .mapc ks vs) (hei : e ix = .int k a) (hl : ks.length = vs.length) (hall : ((ks.zip vs).all fun p => isIntK k p.1) = true) :
    StepV P G v o ρ w H (match findD (.int k a) (ks.zip vs) with | some d => if ok then .tuple [d, .bool true] else d | none => if ok then .tuple [(T el).zero, .bool false] else (T el).zero) [] := by
  rw [hem, Rp] at hm
  obtain ⟨b, ents, clock, hv, -, hh, h1, h2⟩ := hm
  exact lookup_core hT hR ho hix hk hkt hel hv hh (by rw [List.map_fst_zip (by omega)]; exact h1) (by rw [List.map_snd_zip (by omega)]; exact h2) hei hall

theorem snd_makeMap (hR : Rel G ρ w H) {t : TypeId} (ho : o.op = .makeMap t none) {n : Nat} (hn : H n = .free) : StepV P G v o ρ w H (.map n) [(n, .mp [])] := by
  obtain ⟨h1, h2⟩ := Ex.lay hR hn (o := .map #[] 0) (x := .mp []) rfl (fun ρ' g hc => ⟨hc, #[], 0, heap_new w _, RpL_nil.2 rfl, RpL_nil.2 rfl, ⟨by simp, by simp, by simp⟩, Nat.zero_le _⟩)
  refine ⟨.value (.map (some w.heap.size)), .map (some w.heap.size), _, _, ?_, .inl rfl, ?_, h1, h2⟩
  · simp [execOp, ho, Instr.makeMap]
  · rw [Rp]; exact ⟨w.heap.size, 0, by simp [Rho.lay], rfl⟩

theorem keys_ne {k : IntKind} {a : Int} : ∀ {es : List (D × D)} {l : List Value}, (es.all fun p => isIntK k p.1) = true → findD (.int k a) es = none → RpL ρ w (es.map (·.1)) l → ¬ Value.int k a ∈ l
  | [], l, _, _, h => by rw [List.map_nil, RpL_nil] at h; subst h; simp
  | p :: es, l, ha, hf, h => by
    rw [List.map_cons, RpL_cons] at h
    obtain ⟨v, us, rfl, h1, h2⟩ := h
    rw [List.all_cons, Bool.and_eq_true] at ha
    obtain ⟨n, e1, e2⟩ := isIntK_rp ha.1 h1
    rw [findD, e1] at hf
    have hne : a ≠ n := fun e => by subst e; simp [keyEq] at hf
    have hk : keyEq (.int k a) (.int k n) = false := by simp [keyEq, hne]
    rw [hk] at hf
    simp only [Bool.false_eq_true, if_false] at hf
    intro hm
    rcases List.mem_cons.1 hm with h | h
    · rw [e2] at h
      simp only [Value.int.injEq, true_and] at h
      exact hne h
    · exact keys_ne ha.2 hf h2 h

theorem stamped_push {ents : Array MapEntry} {clock : Nat} {key : Value} (u : Value) (h : Stamped ents clock) (hk : ¬ key ∈ ents.toList.map (·.key)) : Stamped (ents.push { key := key, val := u, born := clock }) (clock + 1) := by
  obtain ⟨h1, h2, h3⟩ := h
  refine ⟨fun x hx => ?_, ?_, ?_⟩
  · rw [Array.toList_push] at hx
    rcases List.mem_append.1 hx with h | h
    · have := h1 x h; omega
    · rw [List.mem_singleton.1 h]; exact Nat.lt_succ_self _
  · rw [Array.toList_push, List.map_append]
    refine List.nodup_append.2 ⟨h2, by simp, fun a ha b hb => ?_⟩
    simp only [List.map_cons, List.map_nil, List.mem_singleton] at hb
    subst hb
    obtain ⟨x, hx, rfl⟩ := List.mem_map.1 ha
    have := h1 x hx
    omega
  · rw [Array.toList_push, List.map_append]
    refine List.nodup_append.2 ⟨h3, by simp, fun a ha b hb => ?_⟩
    simp only [List.map_cons, List.map_nil, List.mem_singleton] at hb
    subst hb
    exact fun e => hk (e ▸ ha)

theorem snd_insert (hT : ∀ t, TyOK P t (T t)) (hR : Rel G ρ w H) {t kt el : TypeId} {m ix x : Operand} (ho : o.op = .mapUpdate t m ix x ∨ o.op = .insert t m ix x) (hm : Rp ρ w (e m) (v m)) (hix : Rp ρ w (e ix) (v ix)) (hx : Rp ρ w (e x) (v x)) {kk k : IntKind} {a : Int} (hk : (T t).k = .map kt el) (hkt : (T kt).k = .int kk)
    {i : Nat} {es : List (D × D)} (hem : e m = .map i) (hei : e ix = .int k a) (hi : H i = .mp es) (hall : (es.all fun p => isIntK k p.1) = true) (hno : findD (.int k a) es = none) (hlt' : es.length < LMax) :
    StepV P G v o ρ w H .junk [(i, .mp (es ++ [(.int k a, e x)]))] := by
  rw [hem, Rp] at hm
  obtain ⟨b, f, hnm, hv⟩ := hm
  have hix' := hix
  rw [hei, Rp] at hix
  have hobj := hR.obj i b f hnm
  rw [hi] at hobj
  obtain ⟨hc0, ents, clock, hh, h1, h2, ⟨hst1, hst2, hst3⟩, hlm⟩ := hobj
  obtain ⟨it, d, -, -, -, -, -, -, -, g1, g2⟩ := (hT t).info (by rw [hk]; rfl)
  rw [hk] at g2; simp only [KOK] at g2; subst g2
  obtain ⟨it2, d2, -, -, -, -, -, -, -, g3, g4⟩ := (hT kt).info (by rw [hkt]; rfl)
  rw [hkt] at g4; simp only [KOK] at g4; subst g4
  have hf := findNow_rel (ρ := ρ) (w := w) (kk := kk) (a := a) 0 hall h1 h2
  rw [hno] at hf
  dsimp only at hf
  have hlt : b < w.heap.size := (Array.getElem?_eq_some_iff.1 hh).1
  obtain ⟨r1, r2⟩ := Ex.write hR hnm (by rw [hi]; rfl) (w' := { w with heap := w.heap.setIfInBounds b (.map (ents.push { key := .int k a, val := v x, born := clock }) (clock + 1)) }) rfl rfl rfl (by simp)
    (fun k hk => by simp [Array.getElem?_setIfInBounds_ne (Ne.symm hk)]) hc0 (fun vs ty fz hq => by rw [hh] at hq; cases hq)
    (x := .mp (es ++ [(.int k a, e x)])) rfl (fun g => ⟨hc0, ents.push { key := .int k a, val := v x, born := clock }, clock + 1, by simp [hlt], by
      simp only [List.map_append, Array.toList_push, List.map_cons, List.map_nil]
      refine (RpL.grow g _ _ h1).append (RpL_cons'.2 ⟨Rp.grow g _ _ ?_, RpL_nil.2 rfl⟩)
      rw [Rp]; exact ⟨rfl, hix.2⟩, by
      simp only [List.map_append, Array.toList_push, List.map_cons, List.map_nil]
      exact (RpL.grow g _ _ h2).append (RpL_cons'.2 ⟨Rp.grow g _ _ hx, RpL_nil.2 rfl⟩), stamped_push (v x) ⟨hst1, hst2, hst3⟩ (keys_ne hall hno h1), by simp; omega⟩)
  refine ⟨.skip, undef, ρ, _, ?_, .inr ⟨rfl, rfl⟩, by rw [Rp]; trivial, r1, r2⟩
  have hrun : (Instr.mapUpdate t (v m) (v ix) (v x)).run P w = .ok () { w with heap := w.heap.setIfInBounds b (.map (ents.push { key := .int k a, val := v x, born := clock }) (clock + 1)) } := by
    have hck := run_checkKey_int (P := P) (w := w) (k := k) (a := a) g3 false 9999
    simp only [Nat.reduceAdd] at hck
    simp [Instr.mapUpdate, run_underlying g1, hv, hix.1, run_getMap hh, run_setMap hh, hck, run_underlying g3, Instr.findKey, hf]
  rcases ho with ho | ho <;> simp [execOp, ho, hrun]

theorem RpE.part {sz : Nat} {els : List D} {b off : Nat} (h : RpE ρ w els b off) (hs : ∀ x, x ∈ els → x.size = sz) (l n : Nat) : RpE ρ w ((els.take n).drop l) b (off + l * sz) := by
  refine RpE.of (sz := sz) (fun x hx => hs x (List.mem_of_mem_take (List.mem_of_mem_drop hx))) fun i d hi => ?_
  rw [List.getElem?_drop] at hi
  have hlt : l + i < n := by have := (List.getElem?_eq_some_iff.1 hi).1; simp at this; omega
  rw [List.getElem?_take_of_lt hlt] at hi
  have := h.get hs hi
  rwa [show off + (l + i) * sz = off + l * sz + i * sz by rw [Nat.add_mul]; omega] at this

theorem bnd_run {x : Option Operand} (hx : ∀ y, x = some y → Rp ρ w (e y) (v y)) {r : Option Nat} (h : bndD e x = some r) : (x.map v = none ∧ r = none) ∨ ∃ k n, x.map v = some (.int k n) ∧ 0 ≤ n ∧ r = some n.toNat := by
  cases x with
  | none => simp [bndD] at h; exact .inl ⟨rfl, h.symm⟩
  | some y =>
    have hy := hx y rfl
    simp only [bndD] at h
    split at h
    · rename_i k n hey
      split at h
      · rename_i h0
        cases h
        rw [hey, Rp] at hy
        exact .inr ⟨k, n, by simp [hy.1], h0, rfl⟩
      · cases h
    · cases h

theorem snd_slice (hT : ∀ t, TyOK P t (T t)) (hR : Rel G ρ w H) {t el : TypeId} {x : Operand} {lo hi mx : Option Operand} (ho : o.op = .slice t x lo hi mx) (hx : Rp ρ w (e x) (v x)) (hlo : ∀ y, lo = some y → Rp ρ w (e y) (v y)) (hhi : ∀ y, hi = some y → Rp ρ w (e y) (v y)) (hmx : ∀ y, mx = some y → Rp ρ w (e y) (v y))
    (hk : (T t).k = .slice el) (hel : (T el).k.known = true) {els : List D} {cx : Cp} (hex : e x = .slice els cx) {l h m : Option Nat} (hl : bndD e lo = some l) (hh : bndD e hi = some h) (hm : bndD e mx = some m)
    (h1 : l.getD 0 ≤ h.getD els.length) (h2 : h.getD els.length ≤ els.length) (h3 : ∀ n, m = some n → h.isSome = true ∧ h = some n) (hsz : ∀ d, d ∈ els → d.size = (T el).size) :
    StepV P G v o ρ w H (.slice ((els.take (h.getD els.length)).drop (l.getD 0)) (if m.isSome then .full else .any)) [] := by
  rw [hex, Rp] at hx
  obtain ⟨A, cap, sz, hv, hle, hcm, hll, hs, -, hE⟩ := hx
  obtain ⟨it, d, -, -, -, -, -, -, -, g1, g2⟩ := (hT t).info (by rw [hk]; rfl)
  rw [hk] at g2; simp only [KOK] at g2; subst g2
  have hbm := bnd_run hmx hm
  have hbh := bnd_run hhi hh
  have hbl := bnd_run hlo hl
  -- the bounds, as numbers
  have hM : ∃ M, h.getD els.length ≤ M ∧ M ≤ cap ∧ (m.isSome = true → M = h.getD els.length) ∧ (Instr.sliceBounds true els.length cap (lo.map v) (hi.map v) (mx.map v)).run P w = .ok (l.getD 0, h.getD els.length, M) w := by
    rcases hbm with ⟨e1, rfl⟩ | ⟨k1, n1, e1, p1, rfl⟩
    · rcases hbh with ⟨e2, rfl⟩ | ⟨k2, n2, e2, p2, rfl⟩
      · rcases hbl with ⟨e3, rfl⟩ | ⟨k3, n3, e3, p3, rfl⟩
        · exact ⟨cap, by simpa using hle, Nat.le_refl _, by simp, by simp [Instr.sliceBounds, e1, e2, e3]⟩
        · have : 0 ≤ n3 ∧ n3 ≤ (els.length : Int) := ⟨p3, by simp at h1; omega⟩
          exact ⟨cap, by simpa using hle, Nat.le_refl _, by simp, by simp [Instr.sliceBounds, e1, e2, e3, Instr.sliceBound, asIntOf, this]⟩
      · simp only [Option.getD_some] at h1 h2 ⊢
        have q2 : 0 ≤ n2 ∧ n2 ≤ (cap : Int) := ⟨p2, by omega⟩
        rcases hbl with ⟨e3, rfl⟩ | ⟨k3, n3, e3, p3, rfl⟩
        · exact ⟨cap, by omega, Nat.le_refl _, by simp, by simp [Instr.sliceBounds, e1, e2, e3, Instr.sliceBound, asIntOf, q2]⟩
        · simp only [Option.getD_some] at h1
          have : 0 ≤ n3 ∧ n3 ≤ max n2 0 := ⟨p3, by omega⟩
          exact ⟨cap, by omega, Nat.le_refl _, by simp, by simp [Instr.sliceBounds, e1, e2, e3, Instr.sliceBound, asIntOf, this, q2]⟩
    · obtain ⟨hs1, hs2⟩ := h3 _ rfl
      rcases hbh with ⟨e2, rfl⟩ | ⟨k2, n2, e2, p2, rfl⟩
      · cases hs1
      · simp only [Option.some.injEq] at hs2
        simp only [Option.getD_some] at h1 h2 ⊢
        have q1 : 0 ≤ n1 ∧ n1 ≤ (cap : Int) := ⟨p1, by omega⟩
        have q2 : 0 ≤ n2 ∧ n2 ≤ max n1 0 := ⟨p2, by omega⟩
        rcases hbl with ⟨e3, rfl⟩ | ⟨k3, n3, e3, p3, rfl⟩
        · exact ⟨n1.toNat, by omega, by omega, fun _ => by omega, by simp [Instr.sliceBounds, e1, e2, e3, Instr.sliceBound, asIntOf, q1, q2]⟩
        · simp only [Option.getD_some] at h1
          have : 0 ≤ n3 ∧ n3 ≤ max n2 0 := ⟨p3, by omega⟩
          exact ⟨n1.toNat, by omega, by omega, fun _ => by omega, by simp [Instr.sliceBounds, e1, e2, e3, Instr.sliceBound, asIntOf, q1, q2, this]⟩
  obtain ⟨M, m1, m2, m3, hrunB⟩ := hM
  generalize l.getD 0 = L at *
  generalize h.getD els.length = Hh at *
  have hlen : ((els.take Hh).drop L).length = Hh - L := by simp; omega
  have hrun : (Instr.sliceAt t (v x) (lo.map v) (hi.map v) (mx.map v)).run P w = .ok (.slice (if M = L then A else A.map (·.add (L * (T el).size))) (Hh - L) (M - L)) w := by
    simp [Instr.sliceAt, run_underlying g1, hv, Instr.slice, hrunB, run_sizeOf (hT el) hel]
  refine StepV.same hR (u := .slice (if M = L then A else A.map (·.add (L * (T el).size))) (Hh - L) (M - L)) (by simp [execOp, ho, hrun]) ?_
  rw [Rp]
  refine ⟨_, M - L, sz, by rw [hlen], by rw [hlen]; omega, by omega, by rw [hlen]; omega, fun d hd => hs d (List.mem_of_mem_take (List.mem_of_mem_drop hd)), ?_, fun hne => ?_⟩
  · cases hmi : m.isSome with
    | true => simp only [if_true]; show M - L = _; rw [hlen, m3 hmi]
    | false => simp only [Bool.false_eq_true, if_false]; trivial
  · have hpos : 0 < Hh - L := by rw [← hlen]; exact List.length_pos_iff.2 hne
    have hels : els ≠ [] := fun e => by subst e; simp at hne
    obtain ⟨b, off, rfl, hEl⟩ := hE hels
    have hML : M ≠ L := by omega
    refine ⟨b, off + L * (T el).size, by simp [hML, addr_add], ?_⟩
    exact RpE.part hEl hsz L Hh
end
end Go.Proofs.Ytbjgdeednmhpfaa
