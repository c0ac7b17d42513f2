/-
  Rows that a call makes and appends to, over elements of whatever representation; append and Clone by their laws.
-/
import Derived.Test.YtmghkfiepcomgaaDoorOrders
import Derived.Test.YtmghkfiepcomgaaDoorBase
import Derived.Maps.AppendAt
import Derived.WalkSpells
import Derived.Deep.QuietTactic
set_option linter.unusedSimpArgs false
set_option linter.unusedVariables false
namespace Go.Proofs.YtmghkfiepcomgaaDoor
open Go.RowKit

theorem below_drewN {B : Nat} {w w' : World} (h : Below B w w') (n : Nat) : Below B w (w'.drewN n) := ⟨h.os, h.tape, h.output, h.size, h.block⟩

/-- how an element lies in cells -/
structure Rep (α : Type) where
  sz : Nat
  R : (Nat → Prop) → World → List Value → α → Prop
  pos : 0 < sz
  len : ∀ {F w cs x}, R F w cs x → cs.length = sz
  one : ∀ {F w cs x}, R F w cs x → ∀ u ∈ cs, u.oneCell' = true
  mono : ∀ {F G : Nat → Prop} {w w' : World} {cs x}, Keep F w w' → (∀ b, F b → G b) → R F w cs x → R G w' cs x

def Rep.Sl {α : Type} (r : Rep α) (F : Nat → Prop) (w : World) (v : Value) (xs : List α) : Prop := YtmghkfiepcomgaaDoor.Sl F w r.sz (r.R F w) v xs

theorem Rep.Sl.mono {α : Type} {r : Rep α} {F G : Nat → Prop} {w w' : World} {v : Value} {xs : List α} (h : r.Sl F w v xs) (hk : Keep F w w') (hs : ∀ b, F b → G b) : r.Sl G w' v xs :=
  YtmghkfiepcomgaaDoor.Sl.mono h hk hs (fun _ _ _ hr => r.mono hk hs hr)

def partRep : Rep (Int × Int) where
  sz := 2
  R := fun _ _ cs p => RP cs p
  pos := by omega
  len := fun h => by rw [h.1]; rfl
  one := fun h u hu => by rw [h.1] at hu; simp at hu; rcases hu with rfl | rfl <;> rfl
  mono := fun _ _ h => h

def levelRep : Rep LV where
  sz := 1
  R := RL
  pos := by omega
  len := fun ⟨_, h, _⟩ => by rw [h]; rfl
  one := fun ⟨_, h, _, _, h2, _⟩ u hu => by rw [h, h2] at hu; simp at hu; subst hu; rfl
  mono := fun hk hs h => h.mono hk hs

def termRep : Rep T where
  sz := 5
  R := fun F w cs t => RT F w t cs
  pos := by omega
  len := fun h => h.len
  one := fun h u hu => by
    obtain ⟨Al, cl, Ak, ck, rfl, -⟩ := h.form
    simp at hu
    rcases hu with rfl | rfl | rfl | rfl | rfl <;> rfl
  mono := fun hk hs h => RT.mono hk hs h

def intRep : Rep Int where
  sz := 1
  R := fun _ _ cs n => cs = [.int .i64 n] ∧ I64 n
  pos := by omega
  len := fun h => by rw [h.1]; rfl
  one := fun h u hu => by rw [h.1] at hu; simp at hu; subst hu; rfl
  mono := fun _ _ h => h

section
variable {α : Type} {r : Rep α} {F G : Nat → Prop} {w w' : World} {xs : List α}

/-- the i-th element's cells -/
def chunk (sz : Nat) (cells : List Value) (i : Nat) : List Value := (cells.drop (i * sz)).take sz

theorem chunk_append {sz : Nat} {a b : List Value} {i : Nat} (h : (i + 1) * sz ≤ a.length) : chunk sz (a ++ b) i = chunk sz a i := by
  unfold chunk
  have h' : i * sz + sz ≤ a.length := by rw [Nat.add_mul, Nat.one_mul] at h; exact h
  rw [List.drop_append_of_le_length (by omega), List.take_append_of_le_length (by rw [List.length_drop]; omega)]

theorem chunk_last {sz n : Nat} {a b : List Value} (ha : a.length = n * sz) (hb : b.length = sz) : chunk sz (a ++ b) n = b := by
  unfold chunk
  rw [← ha, List.drop_left, ← hb, List.take_length]

/-- a slice as its cells -/
theorem Rep.Sl.cells {A : Option Addr} {n c : Nat} (h : r.Sl F w (.slice A n c) xs) :
    ∃ cells : List Value, cells.length = n * r.sz ∧ (∀ u ∈ cells, u.oneCell' = true) ∧ (0 < n → ∃ b o, A = some ⟨b, o, none⟩ ∧ F b ∧ At w b o cells) ∧ ∀ i x, xs[i]? = some x → r.R F w (chunk r.sz cells i) x := by
  obtain ⟨rfl, -, -, -⟩ := h.len
  by_cases hn : 0 < xs.length
  · obtain ⟨b, o, rfl, hF, hrow⟩ := h.at hn
    have hp := r.pos
    have key : ∀ k, k < xs.length * r.sz → ∃ u cs x, xs[k / r.sz]? = some x ∧ cs.length = r.sz ∧ At w b (o + k / r.sz * r.sz) cs ∧ r.R F w cs x ∧ cs[k % r.sz]? = some u ∧ w.cell? ⟨b, o + k, none⟩ = some u := by
      intro k hk
      have hi : k / r.sz < xs.length := (Nat.div_lt_iff_lt_mul hp).2 hk
      obtain ⟨cs, h1, h2, h3⟩ := hrow (k / r.sz) _ (List.getElem?_eq_getElem hi)
      have hm : k % r.sz < cs.length := by rw [h1]; exact Nat.mod_lt _ hp
      refine ⟨cs[k % r.sz], cs, _, List.getElem?_eq_getElem hi, h1, h2, h3, List.getElem?_eq_getElem hm, ?_⟩
      have := h2 (k % r.sz) _ (List.getElem?_eq_getElem hm)
      rwa [show o + k / r.sz * r.sz + k % r.sz = o + k by have := Nat.div_add_mod' k r.sz; omega] at this
    let cells := (List.range (xs.length * r.sz)).map fun k => (w.cell? ⟨b, o + k, none⟩).getD undef
    have hget : ∀ k, k < xs.length * r.sz → cells[k]? = some ((w.cell? ⟨b, o + k, none⟩).getD undef) := fun k hk => by simp [cells, hk]
    have hlen : cells.length = xs.length * r.sz := by simp [cells]
    refine ⟨cells, hlen, ?_, fun _ => ⟨b, o, rfl, hF, ?_⟩, ?_⟩
    · intro u hu
      obtain ⟨k, hk, rfl⟩ := List.mem_map.1 hu
      obtain ⟨u, cs, x, -, -, -, h3, h4, h5⟩ := key k (List.mem_range.1 hk)
      rw [h5]
      exact r.one h3 _ (List.mem_of_getElem? h4)
    · intro k u hu
      have hk : k < xs.length * r.sz := by rw [← hlen]; exact (List.getElem?_eq_some_iff.1 hu).1
      obtain ⟨u', cs, x, -, -, -, -, -, h5⟩ := key k hk
      rw [hget k hk, h5] at hu
      rw [h5]
      simpa using hu
    · intro i x hx
      have hi : i < xs.length := (List.getElem?_eq_some_iff.1 hx).1
      obtain ⟨cs, h1, h2, h3⟩ := hrow i x hx
      have hc : chunk r.sz cells i = cs := by
        have hle : i * r.sz + r.sz ≤ xs.length * r.sz := by
          have := Nat.mul_le_mul_right r.sz (show i + 1 ≤ xs.length by omega)
          rwa [Nat.add_mul, Nat.one_mul] at this
        apply List.ext_getElem?
        intro j
        by_cases hj : j < r.sz
        · unfold chunk
          rw [List.getElem?_take_of_lt hj, List.getElem?_drop, hget _ (by omega)]
          have hj' : j < cs.length := by omega
          have := h2 j _ (List.getElem?_eq_getElem hj')
          rw [show o + (i * r.sz + j) = o + i * r.sz + j by omega, this, List.getElem?_eq_getElem hj']
          rfl
        · rw [List.getElem?_eq_none (by unfold chunk; simp; omega), List.getElem?_eq_none (by omega)]
      rw [hc]
      exact h3
  · have hnil : xs = [] := by cases xs with | nil => rfl | cons a b => simp at hn
    subst hnil
    exact ⟨[], by simp, by simp, fun h => absurd h (by simp), fun i x hx => by simp at hx⟩

/-- the blocks in which elements of a row may lie: those of G, or from B on; not the row's own -/
def Fo (G : Nat → Prop) (B : Nat) (w : World) (v : Value) (b : Nat) : Prop := (G b ∨ B ≤ b) ∧ b < w.heap.size ∧ some b ≠ v.ownBlock

/-- a row of the call's own, from block B on, with these elements -/
def Acc (r : Rep α) (e : TypeId) (G : Nat → Prop) (B : Nat) (w : World) (v : Value) (xs : List α) : Prop :=
  ∃ cells, w.ownsRow B e r.sz v xs.length cells ∧ ∀ i x, xs[i]? = some x → r.R (Fo G B w v) w (chunk r.sz cells i) x

theorem Acc.nil (r : Rep α) (e : TypeId) (G : Nat → Prop) (B : Nat) (w : World) : Acc r e G B w (.slice none 0 0) [] :=
  ⟨[], World.ownsRow_nil w B e r.sz, fun i x hx => by simp at hx⟩

theorem ownsRow_below {B e sz n : Nat} {v : Value} {cs : List Value} (h : w.ownsRow B e sz v n cs) {C : Nat} (hb : Below C w w') (hC : ∀ g, v.ownBlock = some g → g < C) : w'.ownsRow B e sz v n cs := by
  refine ⟨h.1, ?_⟩
  rcases h.2 with h2 | ⟨g, cap, cur, rfl, hg, hh, rest⟩
  · exact .inl h2
  · exact .inr ⟨g, cap, cur, rfl, hg, by rw [hb.block g (hC g rfl)]; exact hh, rest⟩

theorem Acc.below {e : TypeId} {B : Nat} {v : Value} (h : Acc r e G B w v xs) (hb : Below w.heap.size w w') : Acc r e G B w' v xs := by
  obtain ⟨cells, h1, h2⟩ := h
  refine ⟨cells, ownsRow_below h1 hb (fun g hg => (h1.lt g hg).2), fun i x hx => r.mono ?_ ?_ (h2 i x hx)⟩
  · exact fun b hf => hb.block b hf.2.1
  · exact fun b hf => ⟨hf.1, Nat.lt_of_lt_of_le hf.2.1 hb.size, hf.2.2⟩

/-- a store into a block that is neither the row's nor an element's -/
theorem Acc.set {e : TypeId} {B : Nat} {v : Value} (h : Acc r e G B w v xs) {p : Addr} (hp : p.block < B) (hG : ¬ G p.block) (u : Value) : Acc r e G B (w.setCell p u) v xs := by
  obtain ⟨cells, h1, h2⟩ := h
  have hne : ∀ b, (G b ∨ B ≤ b) → (w.setCell p u).heap[b]? = w.heap[b]? := fun b hb => Below.heap_setCell w p u b (by
    rintro rfl
    rcases hb with hb | hb
    · exact hG hb
    · omega)
  refine ⟨cells, ⟨h1.1, ?_⟩, fun i x hx => r.mono (fun b hf => hne b hf.1) (fun b hf => ⟨hf.1, by simpa [World.setCell] using hf.2.1, hf.2.2⟩) (h2 i x hx)⟩
  rcases h1.2 with h3 | ⟨g, cap, cur, rfl, hg, hh, rest⟩
  · exact .inl h3
  · exact .inr ⟨g, cap, cur, rfl, hg, by rw [hne g (.inr hg)]; exact hh, rest⟩

/-- the row as a slice -/
theorem Acc.sl {e : TypeId} {B : Nat} {v : Value} (h : Acc r e G B w v xs) (hl : xs.length ≤ LM) {H : Nat → Prop} (hH : ∀ b, (G b ∨ B ≤ b) → b < w.heap.size → H b) : r.Sl H w v xs := by
  obtain ⟨cells, h1, h2⟩ := h
  have hmono : ∀ i x, xs[i]? = some x → r.R H w (chunk r.sz cells i) x := fun i x hx => r.mono (Keep.refl _ _) (fun b hf => hH b hf.1 hf.2.1) (h2 i x hx)
  rcases h1.2 with ⟨rfl, hn⟩ | ⟨g, cap, cur, rfl, hg, hh, hnc, hcm, hcs, htake⟩
  · have hx : xs = [] := List.eq_nil_of_length_eq_zero hn
    subst hx
    exact Sl.nil _ _ _ _
  · refine ⟨_, cap, rfl, hnc, hcm, hl, fun _ => ⟨g, 0, rfl, hH g (.inr hg) (Array.getElem?_eq_some_iff.1 hh).1, fun i x hx => ⟨chunk r.sz cells i, r.len (hmono i x hx), ?_, hmono i x hx⟩⟩⟩
    intro j u hu
    have hj : j < r.sz := by have := (List.getElem?_eq_some_iff.1 hu).1; rw [r.len (hmono i x hx)] at this; exact this
    rw [cell_of_row w g _ cur e (0, 0) hh]
    unfold chunk at hu
    rw [List.getElem?_take_of_lt hj, List.getElem?_drop] at hu
    have hc := h1.cells (g := g) rfl (i * r.sz + j) u hu
    have hadd : (⟨g, 0, none⟩ : Addr).add (i * r.sz + j) = ⟨g, i * r.sz + j, none⟩ := by unfold Addr.add; split <;> simp_all
    rw [hadd, cell_of_row w g _ cur e (0, 0) hh] at hc
    rwa [Nat.zero_add]

/-- one element more, behind 'append' -/
theorem Acc.push {e : TypeId} {B : Nat} {v v' : Value} {x : α} {cs cells : List Value} (h : ∀ i x, xs[i]? = some x → r.R (Fo G B w v) w (chunk r.sz cells i) x) (h1 : w.ownsRow B e r.sz v xs.length cells)
    (hx : r.R (Fo G B w v) w cs x) (h2 : w'.ownsRow B e r.sz v' (xs.length + 1) (cells ++ cs)) (hg : w.grownBy w' v.ownBlock) (hat : v'.ownBlock = v.ownBlock ∨ v'.ownBlock = some w.heap.size) : Acc r e G B w' v' (xs ++ [x]) := by
  have hk : Keep (Fo G B w v) w w' := fun b hf => hg.block b hf.2.1 hf.2.2
  have hs : ∀ b, Fo G B w v b → Fo G B w' v' b := fun b hf => ⟨hf.1, Nat.lt_of_lt_of_le hf.2.1 hg.size, by
    rcases hat with e | e
    · rw [e]; exact hf.2.2
    · rw [e]; intro h; injection h with h; have := hf.2.1; omega⟩
  refine ⟨cells ++ cs, by simpa using h2, fun i y hy => ?_⟩
  by_cases hi : i < xs.length
  · rw [List.getElem?_append_left hi] at hy
    rw [chunk_append (by rw [h1.1]; exact Nat.mul_le_mul_right _ hi)]
    exact r.mono hk hs (h i y hy)
  · have hi' : i = xs.length := by
      have := (List.getElem?_eq_some_iff.1 hy).1
      simp at this; omega
    subst hi'
    simp at hy
    subst hy
    rw [chunk_last h1.1 (r.len hx)]
    exact r.mono hk hs hx
end

section
variable {P : Program}
/-- 'append(out, x)', x in a new block -/
theorem run_push {α : Type} (r : Rep α) {G : Nat → Prop} {B : Nat} {w : World} {v : Value} {xs : List α} {x : α} {cs : List Value} (t ty e : TypeId) (i : TypeInfo) (z : Value) (bytes : Nat) (ht : P.underlying t = some (.slice e)) (hi : P.info? e = some i) (hz : i.zero = some z)
    (hsize : i.size = r.sz) (hby : i.bytes = bytes) (hzs : z.cells.size = r.sz) (h : Acc r e G B w v xs) (hx : r.R (Fo G B w v) w cs x) (g m c : Nat) (hm : m = 1) (hcs : At w g 0 cs)
    (hl : xs.length < LM) (hb : bytes ≤ 256) (hB : B ≤ w.heap.size) :
    ∃ v' w', (Builtin.append_ #[t, t] ty #[v, .slice (some ⟨g, 0, none⟩) m c]).run P w = .ok v' w' ∧ Acc r e G B w' v' (xs ++ [x]) ∧ w.grownBy w' v.ownBlock ∧ (v'.ownBlock = v.ownBlock ∨ v'.ownBlock = some w.heap.size) := by
  obtain ⟨cells, h1, h2⟩ := h
  subst hm
  have hadd : ∀ j, (⟨g, 0, none⟩ : Addr).add j = ⟨g, j, none⟩ := fun j => by unfold Addr.add; split <;> simp_all
  have hlm : (xs.length + 1) * bytes ≤ 140737488355328 := by
    unfold LM at hl
    have := Nat.mul_le_mul (show xs.length + 1 ≤ 274877906944 by omega) hb
    omega
  obtain ⟨v', w', hr, a1, a2, -, a4⟩ := run_append_own_at (P := P) w B t ty e i z r.sz bytes ht hi hz hsize hby hzs r.pos v xs.length cells h1 ⟨g, 0, none⟩ 1 c cs (by rw [r.len hx]; omega)
    (fun j u hu => by rw [hadd]; have := hcs j u hu; rwa [Nat.zero_add] at this) (r.one hx) (by unfold LM at hl; simp only [maxLen]; omega) hlm hB
  exact ⟨v', w', hr, Acc.push h2 h1 hx a1 a2 a4, a2, a4⟩

theorem wp_push {α : Type} (r : Rep α) {G : Nat → Prop} {B : Nat} {w : World} {v : Value} {xs : List α} {x : α} {cs : List Value} {o : Oper} {a : Act} {K : Act → World → Prop} {Q : Exit → Act → World → Prop} (so xo : Operand) (t : TypeId)
    (ho : o.op = .call { callee := .builtin .append, args := #[so, xo], argTypes := #[t, t] }) (e : TypeId) (i : TypeInfo) (z : Value) (bytes : Nat) (ht : P.underlying t = some (.slice e)) (hi : P.info? e = some i) (hz : i.zero = some z)
    (hsize : i.size = r.sz) (hby : i.bytes = bytes) (hzs : z.cells.size = r.sz) (hs : a.eval so = v) (h : Acc r e G B w v xs) (hx : r.R (Fo G B w v) w cs x) (g c : Nat) (hxv : a.eval xo = .slice (some ⟨g, 0, none⟩) 1 c) (hcs : At w g 0 cs)
    (hl : xs.length < LM) (hb : bytes ≤ 256) (hB : B ≤ w.heap.size)
    (hK : ∀ v' w', Acc r e G B w' v' (xs ++ [x]) → w.grownBy w' v.ownBlock → (v'.ownBlock = v.ownBlock ∨ v'.ownBlock = some w.heap.size) → K (a.put o.dst v') w') : o.wp P a w K Q := by
  obtain ⟨v', w', hrun, h2, h3, h4⟩ := run_push (P := P) r t o.type e i z bytes ht hi hz hsize hby hzs h hx g 1 c rfl hcs hl hb hB
  unfold Oper.wp execOp
  simp only [ho, resolve, invoke, builtin, Sem.run_bind, Sem.run_pure, Result.andThen_ok, List.map_toArray, List.map_cons, List.map_nil, hs, hxv, hrun]
  exact hK v' w' h2 h3 h4

theorem wpList_push {α : Type} (r : Rep α) {G : Nat → Prop} {B : Nat} {w : World} {v : Value} {xs : List α} {x : α} {cs : List Value} {ops : Array Oper} {rest : List Oper} {o : Oper} {a : Act} {Q : Exit → Act → World → Prop} (hgd : o.guard = none) (so xo : Operand) (t : TypeId)
    (ho : o.op = .call { callee := .builtin .append, args := #[so, xo], argTypes := #[t, t] }) (e : TypeId) (i : TypeInfo) (z : Value) (bytes : Nat) (ht : P.underlying t = some (.slice e)) (hi : P.info? e = some i) (hz : i.zero = some z)
    (hsize : i.size = r.sz) (hby : i.bytes = bytes) (hzs : z.cells.size = r.sz) (hs : a.eval so = v) (h : Acc r e G B w v xs) (hx : r.R (Fo G B w v) w cs x) (g c : Nat) (hxv : a.eval xo = .slice (some ⟨g, 0, none⟩) 1 c) (hcs : At w g 0 cs)
    (hl : xs.length < LM) (hb : bytes ≤ 256) (hB : B ≤ w.heap.size)
    (hK : ∀ v' w', Acc r e G B w' v' (xs ++ [x]) → w.grownBy w' v.ownBlock → (v'.ownBlock = v.ownBlock ∨ v'.ownBlock = some w.heap.size) → wpList P ops Q rest (a.put o.dst v') w') : wpList P ops Q (o :: rest) a w :=
  wpList_plain hgd fun _ h' => wp_push r so xo t ho e i z bytes ht hi hz hsize hby hzs hs h hx g c hxv hcs hl hb hB fun v' w' h2 h3 h4 => h' _ _ (hK v' w' h2 h3 h4)
end
theorem Acc.length {α : Type} {r : Rep α} {e : TypeId} {G : Nat → Prop} {B : Nat} {w : World} {A : Option Addr} {n c : Nat} {xs : List α} (h : Acc r e G B w (.slice A n c) xs) : n = xs.length := by
  obtain ⟨cells, h1, -⟩ := h
  rcases h1.2 with ⟨h2, h3⟩ | ⟨g, cap, cur, h2, -⟩
  · simp only [Value.slice.injEq] at h2; rw [h3]; exact h2.2.1
  · simp only [Value.slice.injEq] at h2; exact h2.2.1

/-- a block that is known whole -/
def Blk (w : World) (g : Nat) (t : TypeId) (cs : List Value) : Prop := w.heap[g]? = some (.cells cs.toArray t (0, 0))

section
variable {w w' : World} {g : Nat} {t : TypeId} {cs : List Value}
theorem Blk.lt (h : Blk w g t cs) : g < w.heap.size := by
  rcases Nat.lt_or_ge g w.heap.size with hlt | hge
  · exact hlt
  · unfold Blk at h; rw [Array.getElem?_eq_none hge] at h; cases h
theorem Blk.cell (h : Blk w g t cs) (i : Nat) : w.cell? ⟨g, i, none⟩ = cs[i]? := by
  rw [cell_of_row w g i _ t (0, 0) h]; simp
theorem Blk.frozen (h : Blk w g t cs) (i : Nat) : w.frozen? ⟨g, i, none⟩ = false := by
  unfold Blk at h; simp [World.frozen?, h]
theorem Blk.below {B : Nat} (h : Blk w g t cs) (hb : Below B w w') (hg : g < B) : Blk w' g t cs := (hb.block g hg).trans h
theorem Blk.grow (h : Blk w g t cs) (hb : Below w.heap.size w w') : Blk w' g t cs := (hb.block g h.lt).trans h
theorem Blk.far (h : Blk w g t cs) {p : Addr} (hp : g ≠ p.block) (u : Value) : Blk (w.setCell p u) g t cs := (Below.heap_setCell w p u g hp).trans h
theorem Blk.set_ (h : Blk w g t cs) (i : Nat) (u : Value) : Blk (w.setCell ⟨g, i, none⟩ u) g t (cs.set i u) := by
  unfold Blk at h ⊢
  simp [World.setCell, Array.getElem?_modify, h]
theorem Blk.grown {row : Option Nat} (h : Blk w g t cs) (hb : w.grownBy w' row) (hg : some g ≠ row) : Blk w' g t cs := (hb.block g h.lt hg).trans h
theorem Blk.at_ (h : Blk w g t cs) : At w g 0 cs := fun i u hu => by rw [Nat.zero_add, h.cell]; exact hu
theorem Blk.new (w : World) (t : TypeId) (cs : List Value) : Blk (w.alloc (.cells cs.toArray t)) w.heap.size t cs := heap_alloc_new w _
theorem Blk.drew (h : Blk w g t cs) : Blk w.drew g t cs := h
theorem Blk.drewN (h : Blk w g t cs) (n : Nat) : Blk (w.drewN n) g t cs := h
theorem Blk.alloc (h : Blk w g t cs) (o : Obj) : Blk (w.alloc o) g t cs := (Below.heap_alloc w o g h.lt).trans h

/-- the cells and the marks of a block of five -/
theorem Blk.five {c0 c1 c2 c3 c4 : Value} (h : Blk w g t [c0, c1, c2, c3, c4]) : (w.cell? ⟨g, 0, none⟩ = some c0 ∧ w.cell? ⟨g, 1, none⟩ = some c1 ∧ w.cell? ⟨g, 2, none⟩ = some c2 ∧ w.cell? ⟨g, 3, none⟩ = some c3 ∧ w.cell? ⟨g, 4, none⟩ = some c4) ∧
    (w.frozen? ⟨g, 0, none⟩ = false ∧ w.frozen? ⟨g, 1, none⟩ = false ∧ w.frozen? ⟨g, 2, none⟩ = false ∧ w.frozen? ⟨g, 3, none⟩ = false ∧ w.frozen? ⟨g, 4, none⟩ = false) :=
  ⟨⟨h.cell 0, h.cell 1, h.cell 2, h.cell 3, h.cell 4⟩, ⟨h.frozen 0, h.frozen 1, h.frozen 2, h.frozen 3, h.frozen 4⟩⟩
theorem Blk.two {c0 c1 : Value} (h : Blk w g t [c0, c1]) : (w.cell? ⟨g, 0, none⟩ = some c0 ∧ w.cell? ⟨g, 1, none⟩ = some c1) ∧ (w.frozen? ⟨g, 0, none⟩ = false ∧ w.frozen? ⟨g, 1, none⟩ = false) :=
  ⟨⟨h.cell 0, h.cell 1⟩, ⟨h.frozen 0, h.frozen 1⟩⟩
theorem Blk.one {c0 : Value} (h : Blk w g t [c0]) : w.cell? ⟨g, 0, none⟩ = some c0 ∧ w.frozen? ⟨g, 0, none⟩ = false := ⟨h.cell 0, h.frozen 0⟩
end

/-- five stores into one block -/
def set5 (w : World) (q : Nat) (c0 c1 c2 c3 c4 : Value) : World := ((((w.setCell ⟨q, 0, none⟩ c0).setCell ⟨q, 1, none⟩ c1).setCell ⟨q, 2, none⟩ c2).setCell ⟨q, 3, none⟩ c3).setCell ⟨q, 4, none⟩ c4

theorem set5_keep (w : World) (q : Nat) (c0 c1 c2 c3 c4 : Value) : Keep (fun b => b ≠ q) w (set5 w q c0 c1 c2 c3 c4) := fun b hb => by
  unfold set5
  rw [Below.heap_setCell _ ⟨q, 4, none⟩ _ b hb, Below.heap_setCell _ ⟨q, 3, none⟩ _ b hb, Below.heap_setCell _ ⟨q, 2, none⟩ _ b hb, Below.heap_setCell _ ⟨q, 1, none⟩ _ b hb, Below.heap_setCell _ ⟨q, 0, none⟩ _ b hb]

theorem set5_size (w : World) (q : Nat) (c0 c1 c2 c3 c4 : Value) : (set5 w q c0 c1 c2 c3 c4).heap.size = w.heap.size := by simp [set5, World.setCell]

theorem set5_below {B : Nat} {w w1 : World} (h : Below B w w1) (q : Nat) (hq : B ≤ q) (c0 c1 c2 c3 c4 : Value) : Below B w (set5 w1 q c0 c1 c2 c3 c4) :=
  ((((h.setCell hq _).setCell hq _).setCell hq _).setCell hq _).setCell hq _

theorem ownsRow_form {w : World} {B e sz n : Nat} {v : Value} {cs : List Value} (h : w.ownsRow B e sz v n cs) : ∃ A c, v = .slice A n c := by
  rcases h.2 with ⟨rfl, rfl⟩ | ⟨g, cap, cur, rfl, _⟩
  · exact ⟨_, _, rfl⟩
  · exact ⟨_, _, rfl⟩

/-- a row of one-cell elements of the call's own, each in blocks of its own set -/
def AccS {α : Type} (r : Rep α) (e : TypeId) (B : Nat) (w : World) (v : Value) (F : Nat → Nat → Prop) (xs : List α) : Prop :=
  ∃ cells, w.ownsRow B e 1 v xs.length cells ∧ ∀ i x, xs[i]? = some x → r.R (F i) w (chunk 1 cells i) x ∧ ∀ b, F i b → some b ≠ v.ownBlock ∧ b < w.heap.size

section
variable {α : Type} {r : Rep α} {e : TypeId} {B : Nat} {w w' : World} {v : Value} {F : Nat → Nat → Prop} {xs : List α}
theorem AccS.below (h : AccS r e B w v F xs) (hb : Below w.heap.size w w') : AccS r e B w' v F xs := by
  obtain ⟨cells, h1, h2⟩ := h
  refine ⟨cells, ownsRow_below h1 hb (fun g hg => (h1.lt g hg).2), fun i x hx => ?_⟩
  obtain ⟨h3, h4⟩ := h2 i x hx
  exact ⟨r.mono (fun b hf => hb.block b (h4 b hf).2) (fun _ h => h) h3, fun b hf => ⟨(h4 b hf).1, Nat.lt_of_lt_of_le (h4 b hf).2 hb.size⟩⟩

/-- where the j-th element lies -/
theorem AccS.get (h : AccS r e B w v F xs) {j : Nat} (hj : j < xs.length) : ∃ g cap u, v = .slice (some ⟨g, 0, none⟩) xs.length cap ∧ B ≤ g ∧ g < w.heap.size ∧ xs.length ≤ cap ∧ cap ≤ maxLen ∧ w.cell? ⟨g, j, none⟩ = some u ∧ w.frozen? ⟨g, j, none⟩ = false ∧ r.R (F j) w [u] xs[j] := by
  obtain ⟨cells, h1, h2⟩ := h
  rcases h1.2 with ⟨-, hn⟩ | ⟨g, cap, cur, rfl, hg, hh, hnc, hcm, hcs, htake⟩
  · omega
  · have hl : j < cells.length := by have := h1.1; omega
    have hc : cells[j]? = some cells[j] := List.getElem?_eq_getElem hl
    have hcell := h1.cells (g := g) rfl j _ hc
    have hadd : (⟨g, 0, none⟩ : Addr).add j = ⟨g, j, none⟩ := by unfold Addr.add; split <;> simp_all
    rw [hadd] at hcell
    have hchunk : chunk 1 cells j = [cells[j]] := by
      unfold chunk; rw [Nat.mul_one, List.drop_eq_getElem_cons hl]; rfl
    have := (h2 j _ (List.getElem?_eq_getElem hj)).1
    rw [hchunk] at this
    exact ⟨g, cap, _, rfl, hg, (Array.getElem?_eq_some_iff.1 hh).1, hnc, hcm, hcell, by simp [World.frozen?, hh], this⟩

/-- another j-th element -/
theorem AccS.set (h : AccS r e B w v F xs) {g cap j : Nat} (hv : v = .slice (some ⟨g, 0, none⟩) xs.length cap) (hj : j < xs.length) {u : Value} {H : Nat → Prop} (hu : r.R H w [u] xs[j]) (hH : ∀ b, H b → b ≠ g ∧ b < w.heap.size) :
    AccS r e B (w.setCell ⟨g, j, none⟩ u) v (fun i => if i = j then H else F i) xs := by
  obtain ⟨cells, h1, h2⟩ := h
  subst hv
  rcases h1.2 with ⟨h3, -⟩ | ⟨g', cap', cur, h3, hg, hh, hnc, hcm, hcs, htake⟩
  · cases h3
  · simp only [Value.slice.injEq, Option.some.injEq, Addr.mk.injEq] at h3
    obtain ⟨⟨rfl, -⟩, -, rfl⟩ := h3
    have hkeep : ∀ b, b ≠ g → (w.setCell ⟨g, j, none⟩ u).heap[b]? = w.heap[b]? := fun b hb => Below.heap_setCell w _ u b hb
    have hsize : (w.setCell ⟨g, j, none⟩ u).heap.size = w.heap.size := by simp [World.setCell]
    refine ⟨cells.set j u, ⟨by simpa using h1.1, .inr ⟨g, cap, cur.setIfInBounds j u, rfl, hg, ?_, hnc, hcm, by simpa using hcs, ?_⟩⟩, fun i x hx => ?_⟩
    · simp [World.setCell, Array.getElem?_modify, hh]
    · rw [Array.toList_setIfInBounds, ← htake, List.take_set]
    · obtain ⟨h5, h6⟩ := h2 i x hx
      have hi : i < cells.length := by have := h1.1; have := (List.getElem?_eq_some_iff.1 hx).1; omega
      by_cases hij : i = j
      · subst hij
        have hxe : xs[i] = x := by have := List.getElem?_eq_getElem hj; rw [hx] at this; injection this with this; exact this.symm
        have hc : chunk 1 (cells.set i u) i = [u] := by
          unfold chunk; rw [Nat.mul_one, List.drop_eq_getElem_cons (by simpa using hi)]; simp
        simp only [if_true]
        rw [hc, ← hxe]
        exact ⟨r.mono (fun b hb => hkeep b (hH b hb).1) (fun _ h => h) hu, fun b hb => ⟨by intro he; injection he with he; exact (hH b hb).1 he, by rw [hsize]; exact (hH b hb).2⟩⟩
      · simp only [if_neg hij]
        have hc : chunk 1 (cells.set j u) i = chunk 1 cells i := by
          unfold chunk
          rw [Nat.mul_one, List.drop_eq_getElem_cons (by simpa using hi), List.drop_eq_getElem_cons hi, List.getElem_set_ne (by omega)]
          rfl
        rw [hc]
        exact ⟨r.mono (fun b hb => hkeep b (fun e => (h6 b hb).1 (by rw [e]; rfl))) (fun _ h => h) h5, fun b hb => ⟨(h6 b hb).1, by rw [hsize]; exact (h6 b hb).2⟩⟩

theorem AccS.sl {r : Rep α} (hr : r.sz = 1) (h : AccS r e B w v F xs) (hl : xs.length ≤ LM) {H : Nat → Prop} (hH : ∀ i b, i < xs.length → F i b → H b) (hown : ∀ b, B ≤ b → b < w.heap.size → H b) : r.Sl H w v xs := by
  obtain ⟨cells, h1, h2⟩ := h
  refine Acc.sl (e := e) (G := H) (B := B) ⟨cells, by rw [hr]; exact h1, fun i x hx => ?_⟩ hl (fun b hb hlt => hb.elim id (fun h => hown b h hlt))
  obtain ⟨h3, h4⟩ := h2 i x hx
  rw [hr]
  exact r.mono (Keep.refl _ _) (fun b hb => ⟨.inl (hH i b (List.getElem?_eq_some_iff.1 hx).1 hb), (h4 b hb).2, (h4 b hb).1⟩) h3
end
end Go.Proofs.YtmghkfiepcomgaaDoor
