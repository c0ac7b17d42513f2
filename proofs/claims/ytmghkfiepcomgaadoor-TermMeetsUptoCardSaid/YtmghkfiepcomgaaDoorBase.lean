/-
  Base words of this seat's proofs: how levels, terms and lists of them lie in memory, and what is kept when memory grows.
-/
import Derived.WalkKit
namespace Go.Proofs.YtmghkfiepcomgaaDoor
open Go.RowKit

theorem hid {p : Prop} (h : p) : Hid p := h

/-- in the bounds of an int -/
def I64 (n : Int) : Prop := -9223372036854775808 ≤ n ∧ n ≤ 9223372036854775807

theorem I64.wrap (n : Int) : I64 (wrap64 n) := by unfold I64 wrap64; omega
theorem I64.small {n : Int} (h1 : -1000000000000 ≤ n) (h2 : n ≤ 1000000000000) : I64 n := by unfold I64; omega
theorem I64.keep {n : Int} (h : I64 n) : wrap64 n = n := IntWalk.wrap64_in n h

/-- as long as any list here may be -/
def LM : Nat := 274877906944

abbrev LV := List (Int × Int)

inductive T where
  | mk (k n a : Int) (ls : List LV) (ks : List T)

namespace T
def k : T → Int | .mk k _ _ _ _ => k
def n : T → Int | .mk _ n _ _ _ => n
def a : T → Int | .mk _ _ a _ _ => a
def ls : T → List LV | .mk _ _ _ ls _ => ls
def ks : T → List T | .mk _ _ _ _ ks => ks

theorem eta (t : T) : t = .mk t.k t.n t.a t.ls t.ks := by cases t; rfl

/-- induction over terms, the kids by membership -/
theorem ind {P : T → Prop} (h : ∀ k n a ls ks, (∀ t, t ∈ ks → P t) → P (.mk k n a ls ks)) (t : T) : P t :=
  T.rec (motive_1 := P) (motive_2 := fun ks => ∀ t, t ∈ ks → P t) (fun k n a ls ks ih => h k n a ls ks ih)
    (fun t ht => by cases ht) (fun x r hx hr t ht => by
      cases ht with
      | head => exact hx
      | tail _ hm => exact hr t hm) t
end T

mutual
/-- how deep a term is -/
def T.deep : T → Nat
  | .mk _ _ _ _ ks => 1 + T.deeps ks
def T.deeps : List T → Nat
  | [] => 0
  | t :: r => max (T.deep t) (T.deeps r)
end

theorem T.deep_mem {t : T} {ks : List T} (h : t ∈ ks) : t.deep ≤ T.deeps ks := by
  induction ks with
  | nil => cases h
  | cons x r ih =>
    rw [T.deeps]
    cases h with
    | head => omega
    | tail _ hm => have := ih hm; omega

theorem T.deep_kid {t : T} {k n a : Int} {ls : List LV} {ks : List T} (h : t ∈ ks) : t.deep + 1 ≤ (T.mk k n a ls ks).deep := by
  have := T.deep_mem h
  rw [T.deep]; omega

/-- as deep as any term here may be -/
def DM : Nat := 1099511627776

/-- cells from an offset of a block on -/
def At (w : World) (b o : Nat) (cs : List Value) : Prop := ∀ i u, cs[i]? = some u → w.cell? ⟨b, o + i, none⟩ = some u

/-- the blocks of F are as they were -/
def Keep (F : Nat → Prop) (w w' : World) : Prop := ∀ b, F b → w'.heap[b]? = w.heap[b]?

theorem Keep.refl (F : Nat → Prop) (w : World) : Keep F w w := fun _ _ => rfl
theorem Keep.trans {F : Nat → Prop} {a b c : World} (h : Keep F a b) (k : Keep F b c) : Keep F a c := fun x hx => (k x hx).trans (h x hx)
theorem Keep.sub {F G : Nat → Prop} {a b : World} (h : Keep G a b) (hs : ∀ x, F x → G x) : Keep F a b := fun x hx => h x (hs x hx)
theorem Keep.below {B : Nat} {w w' : World} (h : Below B w w') : Keep (· < B) w w' := fun b hb => h.block b hb

theorem At.keep {F : Nat → Prop} {w w' : World} {b o : Nat} {cs : List Value} (h : At w b o cs) (k : Keep F w w') (hb : F b) : At w' b o cs :=
  fun i u hu => (World.cell?_of_block (w := w) (a := ⟨b, o + i, none⟩) (k b hb)).trans (h i u hu)

theorem At.sub {w : World} {b o : Nat} {cs ds : List Value} (h : At w b o (cs ++ ds)) : At w b o cs := fun i u hu =>
  h i u (by rw [List.getElem?_append_left (List.getElem?_eq_some_iff.1 hu).1]; exact hu)

/-- a slice whose elements take sz cells, each read by R -/
def Sl {α : Type} (F : Nat → Prop) (w : World) (sz : Nat) (R : List Value → α → Prop) (v : Value) (xs : List α) : Prop :=
  ∃ A c, v = .slice A xs.length c ∧ xs.length ≤ c ∧ c ≤ maxLen ∧ xs.length ≤ LM ∧
    (xs ≠ [] → ∃ b o, A = some ⟨b, o, none⟩ ∧ F b ∧ ∀ i x, xs[i]? = some x → ∃ cs, cs.length = sz ∧ At w b (o + i * sz) cs ∧ R cs x)

theorem Sl.mono {α : Type} {F G : Nat → Prop} {w w' : World} {sz : Nat} {R S : List Value → α → Prop} {v : Value} {xs : List α} (h : Sl F w sz R v xs)
    (hk : Keep F w w') (hs : ∀ b, F b → G b) (hR : ∀ cs x, x ∈ xs → R cs x → S cs x) : Sl G w' sz S v xs := by
  obtain ⟨A, c, h1, h2, h3, hm, h4⟩ := h
  refine ⟨A, c, h1, h2, h3, hm, fun hne => ?_⟩
  obtain ⟨b, o, h5, h6, h7⟩ := h4 hne
  refine ⟨b, o, h5, hs b h6, fun i x hx => ?_⟩
  obtain ⟨cs, c1, c2, c3⟩ := h7 i x hx
  exact ⟨cs, c1, c2.keep hk h6, hR cs x (List.mem_of_getElem? hx) c3⟩

theorem Sl.len {α : Type} {F : Nat → Prop} {w : World} {sz : Nat} {R : List Value → α → Prop} {A : Option Addr} {n c : Nat} {xs : List α} (h : Sl F w sz R (.slice A n c) xs) : n = xs.length ∧ n ≤ c ∧ c ≤ maxLen ∧ n ≤ LM := by
  obtain ⟨A', c', h1, h2, h3, h4, _⟩ := h
  injection h1 with _ h5 h6
  subst h6; subst h5
  exact ⟨rfl, h2, h3, h4⟩

theorem Sl.at {α : Type} {F : Nat → Prop} {w : World} {sz : Nat} {R : List Value → α → Prop} {A : Option Addr} {n c : Nat} {xs : List α} (h : Sl F w sz R (.slice A n c) xs) (hne : 0 < n) :
    ∃ b o, A = some ⟨b, o, none⟩ ∧ F b ∧ ∀ i x, xs[i]? = some x → ∃ cs, cs.length = sz ∧ At w b (o + i * sz) cs ∧ R cs x := by
  obtain ⟨A', c', h1, h2, h3, _, h4⟩ := h
  injection h1 with h0 h5 h6
  subst h0
  exact h4 (by intro e; subst e; simp at h5; omega)

theorem Sl.nil {α : Type} (F : Nat → Prop) (w : World) (sz : Nat) (R : List Value → α → Prop) : Sl F w sz R (.slice none 0 0) [] :=
  ⟨none, 0, rfl, Nat.le_refl _, Nat.zero_le _, Nat.zero_le _, fun h => absurd rfl h⟩

theorem Sl.empty {α : Type} (F : Nat → Prop) (w : World) (sz : Nat) (R : List Value → α → Prop) (A : Option Addr) (c : Nat) (h : c ≤ maxLen) : Sl F w sz R (.slice A 0 c) [] :=
  ⟨A, c, rfl, Nat.zero_le _, h, Nat.zero_le _, fun h => absurd rfl h⟩

/-- a part -/
def RP (cs : List Value) (p : Int × Int) : Prop := cs = [.int .i64 p.1, .int .i64 p.2] ∧ I64 p.1 ∧ I64 p.2

/-- a level: one cell, the slice of its parts -/
def RL (F : Nat → Prop) (w : World) (cs : List Value) (l : LV) : Prop := ∃ v, cs = [v] ∧ Sl F w 2 RP v l

/-- a slice of levels -/
def RLs (F : Nat → Prop) (w : World) (v : Value) (ls : List LV) : Prop := Sl F w 1 (RL F w) v ls

theorem RL.mono {F G : Nat → Prop} {w w' : World} {cs : List Value} {l : LV} (h : RL F w cs l) (hk : Keep F w w') (hs : ∀ b, F b → G b) : RL G w' cs l := by
  obtain ⟨v, h1, h2⟩ := h
  exact ⟨v, h1, h2.mono hk hs (fun _ _ _ h => h)⟩

theorem RLs.mono {F G : Nat → Prop} {w w' : World} {v : Value} {ls : List LV} (h : RLs F w v ls) (hk : Keep F w w') (hs : ∀ b, F b → G b) : RLs G w' v ls :=
  Sl.mono h hk hs (fun _ _ _ h => h.mono hk hs)

mutual
/-- a term's five cells -/
def RT (F : Nat → Prop) (w : World) : T → List Value → Prop
  | .mk k n a ls ks, cs => ∃ vl A c, cs = [.int .i64 k, .int .i64 n, .int .i64 a, vl, .slice A ks.length c] ∧ I64 k ∧ I64 n ∧ I64 a ∧ RLs F w vl ls ∧ ks.length ≤ c ∧ c ≤ maxLen ∧ ks.length ≤ LM ∧
      (ks ≠ [] → ∃ b o, A = some ⟨b, o, none⟩ ∧ F b ∧ RTc F w b ks o)
/-- terms, one behind the other, in a block -/
def RTc (F : Nat → Prop) (w : World) (b : Nat) : List T → Nat → Prop
  | [], _ => True
  | t :: r, o => (∃ cs, cs.length = 5 ∧ At w b o cs ∧ RT F w t cs) ∧ RTc F w b r (o + 5)
end

/-- a slice of terms -/
def RTs (F : Nat → Prop) (w : World) (v : Value) (ks : List T) : Prop := Sl F w 5 (fun cs t => RT F w t cs) v ks

theorem RTc_iff {F : Nat → Prop} {w : World} {b : Nat} (ks : List T) : ∀ o, RTc F w b ks o ↔ ∀ i t, ks[i]? = some t → ∃ cs, cs.length = 5 ∧ At w b (o + i * 5) cs ∧ RT F w t cs := by
  induction ks with
  | nil => intro o; simp [RTc]
  | cons t r ih =>
    intro o
    rw [RTc, ih]
    constructor
    · rintro ⟨h1, h2⟩ i u hu
      cases i with
      | zero => simp at hu; subst hu; simpa using h1
      | succ i =>
        obtain ⟨cs, c1, c2, c3⟩ := h2 i u (by simpa using hu)
        exact ⟨cs, c1, by rw [show o + (i + 1) * 5 = o + 5 + i * 5 by omega]; exact c2, c3⟩
    · intro h
      refine ⟨by simpa using h 0 t rfl, fun i u hu => ?_⟩
      obtain ⟨cs, c1, c2, c3⟩ := h (i + 1) u (by simpa using hu)
      exact ⟨cs, c1, by rw [show o + 5 + i * 5 = o + (i + 1) * 5 by omega]; exact c2, c3⟩

theorem RT_iff {F : Nat → Prop} {w : World} {k n a : Int} {ls : List LV} {ks : List T} {cs : List Value} :
    RT F w (.mk k n a ls ks) cs ↔ ∃ vl vk, cs = [.int .i64 k, .int .i64 n, .int .i64 a, vl, vk] ∧ I64 k ∧ I64 n ∧ I64 a ∧ RLs F w vl ls ∧ RTs F w vk ks := by
  rw [RT]
  constructor
  · rintro ⟨vl, A, c, h1, h2, h3, h4, h5, h6, h7, hm, h8⟩
    refine ⟨vl, _, h1, h2, h3, h4, h5, A, c, rfl, h6, h7, hm, fun hne => ?_⟩
    obtain ⟨b, o, g1, g2, g3⟩ := h8 hne
    exact ⟨b, o, g1, g2, fun i x hx => (RTc_iff ks o).1 g3 i x hx⟩
  · rintro ⟨vl, vk, h1, h2, h3, h4, h5, A, c, rfl, h6, h7, hm, h8⟩
    refine ⟨vl, A, c, h1, h2, h3, h4, h5, h6, h7, hm, fun hne => ?_⟩
    obtain ⟨b, o, g1, g2, g3⟩ := h8 hne
    exact ⟨b, o, g1, g2, (RTc_iff ks o).2 g3⟩

theorem RT.len {F : Nat → Prop} {w : World} {t : T} {cs : List Value} (h : RT F w t cs) : cs.length = 5 := by
  cases t
  obtain ⟨vl, vk, rfl, _⟩ := RT_iff.1 h
  rfl

theorem RT.mono {F G : Nat → Prop} {w w' : World} (hk : Keep F w w') (hs : ∀ b, F b → G b) {t : T} : ∀ {cs : List Value}, RT F w t cs → RT G w' t cs := by
  induction t using T.ind with
  | h k n a ls ks ih =>
    intro cs h
    obtain ⟨vl, vk, h1, h2, h3, h4, h5, h6⟩ := RT_iff.1 h
    exact RT_iff.2 ⟨vl, vk, h1, h2, h3, h4, h5.mono hk hs, Sl.mono h6 hk hs (fun cs x hx hr => ih x hx hr)⟩

theorem RTs.mono {F G : Nat → Prop} {w w' : World} {v : Value} {ks : List T} (h : RTs F w v ks) (hk : Keep F w w') (hs : ∀ b, F b → G b) : RTs G w' v ks :=
  Sl.mono h hk hs (fun _ _ _ hr => RT.mono hk hs hr)

/-- a term as a value -/
def RTv (F : Nat → Prop) (w : World) (t : T) (v : Value) : Prop := ∃ Al cl Ak ck, v = .agg #[.int .i64 t.k, .int .i64 t.n, .int .i64 t.a, .slice Al t.ls.length cl, .slice Ak t.ks.length ck] ∧
  I64 t.k ∧ I64 t.n ∧ I64 t.a ∧ RLs F w (.slice Al t.ls.length cl) t.ls ∧ RTs F w (.slice Ak t.ks.length ck) t.ks

theorem RT.form {F : Nat → Prop} {w : World} {t : T} {cs : List Value} (h : RT F w t cs) : ∃ Al cl Ak ck, cs = [.int .i64 t.k, .int .i64 t.n, .int .i64 t.a, .slice Al t.ls.length cl, .slice Ak t.ks.length ck] ∧
    I64 t.k ∧ I64 t.n ∧ I64 t.a ∧ RLs F w (.slice Al t.ls.length cl) t.ls ∧ RTs F w (.slice Ak t.ks.length ck) t.ks := by
  cases t
  obtain ⟨vl, vk, rfl, h2, h3, h4, h5, h6⟩ := RT_iff.1 h
  obtain ⟨Al, cl, rfl, -⟩ := id h5
  obtain ⟨Ak, ck, rfl, -⟩ := id h6
  exact ⟨Al, cl, Ak, ck, rfl, h2, h3, h4, h5, h6⟩

theorem RTv.of {F : Nat → Prop} {w : World} {t : T} {cs : List Value} (h : RT F w t cs) : RTv F w t (.agg cs.toArray) := by
  obtain ⟨Al, cl, Ak, ck, rfl, h2⟩ := h.form
  exact ⟨Al, cl, Ak, ck, rfl, h2⟩

theorem RTv.to {F : Nat → Prop} {w : World} {t : T} {c0 c1 c2 c3 c4 : Value} (h : RTv F w t (.agg #[c0, c1, c2, c3, c4])) : RT F w t [c0, c1, c2, c3, c4] := by
  cases t
  obtain ⟨Al, cl, Ak, ck, h1, h2⟩ := h
  simp at h1
  obtain ⟨rfl, rfl, rfl, rfl, rfl⟩ := h1
  exact RT_iff.2 ⟨_, _, rfl, h2⟩

theorem RTv.mono {F G : Nat → Prop} {w w' : World} {t : T} {v : Value} (h : RTv F w t v) (hk : Keep F w w') (hs : ∀ b, F b → G b) : RTv G w' t v := by
  obtain ⟨Al, cl, Ak, ck, h1, h2, h3, h4, h5, h6⟩ := h
  exact ⟨Al, cl, Ak, ck, h1, h2, h3, h4, h5.mono hk hs, h6.mono hk hs⟩

/-- the five cells of the i-th of a row of terms -/
theorem RTs.get {F : Nat → Prop} {w : World} {b o : Nat} {ks : List T} (h : ∀ i x, ks[i]? = some x → ∃ cs, cs.length = 5 ∧ At w b (o + i * 5) cs ∧ RT F w x cs) {i : Nat} (hi : i < ks.length) :
    ∃ Al cl Ak ck, w.cell? ⟨b, o + i * 5, none⟩ = some (.int .i64 (ks[i]).k) ∧ w.cell? ⟨b, o + i * 5 + 1, none⟩ = some (.int .i64 (ks[i]).n) ∧ w.cell? ⟨b, o + i * 5 + 2, none⟩ = some (.int .i64 (ks[i]).a) ∧
      w.cell? ⟨b, o + i * 5 + 3, none⟩ = some (.slice Al (ks[i]).ls.length cl) ∧ w.cell? ⟨b, o + i * 5 + 4, none⟩ = some (.slice Ak (ks[i]).ks.length ck) ∧
      RTv F w ks[i] (.agg #[.int .i64 (ks[i]).k, .int .i64 (ks[i]).n, .int .i64 (ks[i]).a, .slice Al (ks[i]).ls.length cl, .slice Ak (ks[i]).ks.length ck]) := by
  obtain ⟨cs, h1, h2, h3⟩ := h i ks[i] (List.getElem?_eq_getElem hi)
  obtain ⟨Al, cl, Ak, ck, rfl, h4⟩ := h3.form
  exact ⟨Al, cl, Ak, ck, h2 0 _ rfl, h2 1 _ rfl, h2 2 _ rfl, h2 3 _ rfl, h2 4 _ rfl, Al, cl, Ak, ck, rfl, h4⟩

theorem keepF {B : Nat} {F : Nat → Prop} {w w' : World} (h : Below B w w') (hF : ∀ b, F b → b < B) : Keep F w w' := fun b hb => h.block b (hF b hb)

end Go.Proofs.YtmghkfiepcomgaaDoor
