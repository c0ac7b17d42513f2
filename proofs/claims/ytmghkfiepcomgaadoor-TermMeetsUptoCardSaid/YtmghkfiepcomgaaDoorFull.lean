/-
  'append(dst, src...)', dst full: the elements of both, in a new block or as they lie.
-/
import Derived.Test.YtmghkfiepcomgaaDoorRet
import Derived.Deep.Upon
namespace Go.Proofs.YtmghkfiepcomgaaDoor
open Go.RowKit

/-- elements, laid at a block's head -/
theorem Rep.laid {α : Type} (r : Rep α) {F : Nat → Prop} {W : World} {g : Nat} {ty : TypeId} (cells rest : List Value) (hb : Blk W g ty (cells ++ rest)) (hF : F g) (xs : List α) (c : Nat) (hl : xs.length ≤ LM) (hc : xs.length ≤ c) (hm : c ≤ maxLen)
    (hlen : cells.length = xs.length * r.sz) (h : ∀ i x, xs[i]? = some x → r.R F W (chunk r.sz cells i) x) : r.Sl F W (.slice (some ⟨g, 0, none⟩) xs.length c) xs := by
  refine ⟨_, c, rfl, hc, hm, hl, fun _ => ⟨g, 0, rfl, hF, fun i x hx => ⟨chunk r.sz cells i, r.len (h i x hx), fun j u hu => ?_, h i x hx⟩⟩⟩
  have hi : i < xs.length := (List.getElem?_eq_some_iff.1 hx).1
  have hj : j < r.sz := by have := (List.getElem?_eq_some_iff.1 hu).1; rw [r.len (h i x hx)] at this; exact this
  have hle : i * r.sz + r.sz ≤ cells.length := by
    have := Nat.mul_le_mul_right r.sz (show i + 1 ≤ xs.length by omega)
    rw [Nat.add_mul, Nat.one_mul] at this
    omega
  rw [Nat.zero_add, hb.cell, List.getElem?_append_left (by omega)]
  unfold chunk at hu
  rwa [List.getElem?_take_of_lt hj, List.getElem?_drop] at hu

theorem chunk_right {sz n i : Nat} {a b : List Value} (ha : a.length = n * sz) : chunk sz (a ++ b) (n + i) = chunk sz b i := by
  unfold chunk
  rw [Nat.add_mul, ← ha, ← List.drop_drop, List.drop_left]

theorem add_none (b o j : Nat) : (⟨b, o, none⟩ : Addr).add j = ⟨b, o + j, none⟩ := by unfold Addr.add; split <;> simp_all

section
variable {P : Program}

theorem Rep.src {α : Type} (r : Rep α) {F : Nat → Prop} {w : World} {tx e' : TypeId} (hk : P.underlying tx = some (.slice e')) {B : Option Addr} {m c : Nat} {ys : List α} (h : r.Sl F w (.slice B m c) ys) :
    ∃ cells, Src P r.sz tx (.slice B m c) m cells w ∧ ∀ i x, ys[i]? = some x → r.R F w (chunk r.sz cells i) x := by
  obtain ⟨cells, h1, h2, h3, h4⟩ := h.cells
  refine ⟨cells, ?_, h4⟩
  cases B with
  | none =>
    have hm : m = 0 := by
      rcases Nat.eq_zero_or_pos m with e | e
      · exact e
      · obtain ⟨b, o, e, -⟩ := h3 e; cases e
    subst hm
    have : cells = [] := List.eq_nil_of_length_eq_zero (by simpa using h1)
    subst this
    exact Src.ofNil w hk c
  | some a =>
    refine Src.ofSlice w hk a m c cells h1 (fun j u hu => ?_) h2
    have hp := r.pos
    have hj := (List.getElem?_eq_some_iff.1 hu).1
    obtain ⟨b, o, e, -, hat⟩ := h3 (by rcases Nat.eq_zero_or_pos m with e | e; · subst e; simp at h1; subst h1; simp at hj
                                       · exact e)
    simp only [Option.some.injEq] at e
    subst e
    rw [add_none]; exact hat j u hu

theorem run_full {α : Type} (r : Rep α) {X : Nat → Prop} {w : World} (hX : ∀ b, X b → b < w.heap.size) (t ty e : TypeId) (i : TypeInfo) (z : Value) (bytes : Nat) (ht : P.underlying t = some (.slice e)) (hi : P.info? e = some i) (hz : i.zero = some z) (hsize : i.size = r.sz) (hby : i.bytes = bytes) (hb : bytes ≤ 256)
    {A B : Option Addr} {n m c : Nat} {xs ys : List α} (hx : r.Sl (Pub X w) w (.slice A n n) xs) (hy : r.Sl (Pub X w) w (.slice B m c) ys) (hl : xs.length + ys.length ≤ LM) :
    ∃ v' w', (Builtin.append_ #[t, t] ty #[.slice A n n, .slice B m c]).run P w = .ok v' w' ∧ Ext X w X w' ∧ r.Sl (Pub X w') w' v' (xs ++ ys) := by
  obtain ⟨hn, -, -, -⟩ := hx.len
  obtain ⟨hm, -, -, -⟩ := hy.len
  obtain ⟨cy, sy, ry⟩ := r.src (P := P) ht hy
  rcases Nat.eq_zero_or_pos m with h0 | h0
  · subst h0
    have hys : ys = [] := List.eq_nil_of_length_eq_zero hm.symm
    subst hys
    have hcy : cy = [] := List.eq_nil_of_length_eq_zero (by simpa using sy.newsLen)
    subst hcy
    exact ⟨_, w, run_append_nothing w t t ty e i ht hi A n n (Nat.le_refl _) _ (by rw [hsize]; exact sy), Ext.refl _ _, by simpa using hx⟩
  · obtain ⟨cx, sx, rx⟩ := r.src (P := P) ht hx
    have hlm : (n + m) * bytes ≤ 70368744177664 := by
      unfold LM at hl
      have := Nat.mul_le_mul (show n + m ≤ 274877906944 by omega) hb
      omega
    have hnext : Builtin.nextslicecap (n + m) n * i.bytes ≤ 281474976710656 := by
      have := Nat.mul_le_mul_right i.bytes (nextslicecap_le (show n < n + m by omega))
      rw [hby] at this ⊢
      rw [Nat.mul_assoc] at this
      omega
    have hrun := run_append_grow_src w t t ty e i z ht hi hz A n n cx (by rw [hsize]; exact sx.cellsD) _ m cy (by rw [hsize]; exact sy) (by omega) (by unfold LM at hl; omega) hnext
    have hcap : n + m ≤ grownCap w (n + m) n e := grownCap_ge w (n + m) n e
    have hcm : grownCap w (n + m) n e ≤ maxLen := grownCap_le_maxLen w (n + m) n e (by unfold LM at hl; simp only [maxLen]; omega)
    generalize grownCap w (n + m) n e = cap at *
    have hext : Ext X w X (w.drew.alloc (.cells ((cx ++ cy).toArray ++ Builtin.zeroCells z.cells (cap - (n + m))) e)) := .of (Below.drew (Below.refl _ _) |>.alloc (by simp) _)
    refine ⟨_, _, hrun, hext, ?_⟩
    have hlen : (cx ++ cy).length = (xs ++ ys).length * r.sz := by rw [List.length_append, sx.newsLen, sy.newsLen, List.length_append, ← hn, ← hm, Nat.add_mul]
    have hlx : xs.length + ys.length = n + m := by omega
    have hblk : Blk (w.drew.alloc (.cells ((cx ++ cy).toArray ++ Builtin.zeroCells z.cells (cap - (n + m))) e)) w.heap.size e ((cx ++ cy) ++ (Builtin.zeroCells z.cells (cap - (n + m))).toList) := by
      have := Blk.new' w.drew e ((cx ++ cy) ++ (Builtin.zeroCells z.cells (cap - (n + m))).toList) w.heap.size rfl
      rw [show ((cx ++ cy) ++ (Builtin.zeroCells z.cells (cap - (n + m))).toList).toArray = (cx ++ cy).toArray ++ Builtin.zeroCells z.cells (cap - (n + m)) from by apply Array.ext'; simp] at this
      exact this
    have := Rep.laid r (F := Pub X _) (cx ++ cy) _ hblk ⟨hblk.lt, fun h => by have := hX _ h; omega⟩ (xs ++ ys) cap (by rw [List.length_append]; exact hl) (by rw [List.length_append]; omega) hcm hlen (fun k x hk => ?_)
    · rw [List.length_append, hlx] at this
      exact this
    · by_cases hkx : k < xs.length
      · rw [List.getElem?_append_left hkx] at hk
        rw [chunk_append (by rw [sx.newsLen, hn]; exact Nat.mul_le_mul_right _ hkx)]
        exact r.mono hext.keep hext.pub (rx k x hk)
      · obtain ⟨j, rfl⟩ : ∃ j, k = n + j := ⟨k - n, by omega⟩
        rw [List.getElem?_append_right (by omega)] at hk
        rw [chunk_right sx.newsLen]
        exact r.mono hext.keep hext.pub (ry j x (by rw [← hk]; congr 1; omega))
end
end Go.Proofs.YtmghkfiepcomgaaDoor
