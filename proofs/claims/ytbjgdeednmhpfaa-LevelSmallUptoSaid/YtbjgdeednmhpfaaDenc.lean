/-
  Terms, levels, as data.
-/
import Derived.Test.YtbjgdeednmhpfaaDrng
set_option linter.unusedSimpArgs false
set_option linter.unusedVariables false
namespace Go.Proofs.Ytbjgdeednmhpfaa
open Go.RowKit

@[simp] theorem pures_nil : D.pures [] = true := rfl
@[simp] theorem fgts_nil : D.fgts [] = [] := rfl
@[simp] theorem cells_agg (cs : List D) : (D.agg cs).cells = cs := rfl
@[simp] theorem size_agg (cs : List D) : (D.agg cs).size = cs.length := rfl
@[simp] theorem one_agg (cs : List D) : (D.agg cs).one = false := rfl
@[simp] theorem cells_junk  : (D.junk : D).cells = [(D.junk : D)] := rfl
@[simp] theorem size_junk  : (D.junk : D).size = 1 := rfl
@[simp] theorem one_junk  : (D.junk : D).one = false := rfl
@[simp] theorem cells_int (x0 : IntKind) (x1 : Int) : (D.int x0 x1 : D).cells = [(D.int x0 x1 : D)] := rfl
@[simp] theorem size_int (x0 : IntKind) (x1 : Int) : (D.int x0 x1 : D).size = 1 := rfl
@[simp] theorem one_int (x0 : IntKind) (x1 : Int) : (D.int x0 x1 : D).one = true := rfl
@[simp] theorem cells_bool (x0 : Bool) : (D.bool x0 : D).cells = [(D.bool x0 : D)] := rfl
@[simp] theorem size_bool (x0 : Bool) : (D.bool x0 : D).size = 1 := rfl
@[simp] theorem one_bool (x0 : Bool) : (D.bool x0 : D).one = true := rfl
@[simp] theorem cells_str {x0} : (D.str x0 : D).cells = [(D.str x0 : D)] := rfl
@[simp] theorem size_str {x0} : (D.str x0 : D).size = 1 := rfl
@[simp] theorem one_str {x0} : (D.str x0 : D).one = true := rfl
@[simp] theorem cells_nilp  : (D.nilp : D).cells = [(D.nilp : D)] := rfl
@[simp] theorem size_nilp  : (D.nilp : D).size = 1 := rfl
@[simp] theorem one_nilp  : (D.nilp : D).one = true := rfl
@[simp] theorem cells_nilf  : (D.nilf : D).cells = [(D.nilf : D)] := rfl
@[simp] theorem size_nilf  : (D.nilf : D).size = 1 := rfl
@[simp] theorem one_nilf  : (D.nilf : D).one = true := rfl
@[simp] theorem cells_nili  : (D.nili : D).cells = [(D.nili : D)] := rfl
@[simp] theorem size_nili  : (D.nili : D).size = 1 := rfl
@[simp] theorem one_nili  : (D.nili : D).one = true := rfl
@[simp] theorem cells_nilm  : (D.nilm : D).cells = [(D.nilm : D)] := rfl
@[simp] theorem size_nilm  : (D.nilm : D).size = 1 := rfl
@[simp] theorem one_nilm  : (D.nilm : D).one = true := rfl
@[simp] theorem cells_fn (x0) (x1 x2 : List D) : (D.fn x0 x1 x2 : D).cells = [(D.fn x0 x1 x2 : D)] := rfl
@[simp] theorem size_fn (x0) (x1 x2 : List D) : (D.fn x0 x1 x2 : D).size = 1 := rfl
@[simp] theorem one_fn (x0) (x1 x2 : List D) : (D.fn x0 x1 x2 : D).one = true := rfl
@[simp] theorem cells_iface (x0) (x1 : D) : (D.iface x0 x1 : D).cells = [(D.iface x0 x1 : D)] := rfl
@[simp] theorem size_iface (x0) (x1 : D) : (D.iface x0 x1 : D).size = 1 := rfl
@[simp] theorem one_iface (x0) (x1 : D) : (D.iface x0 x1 : D).one = true := rfl
@[simp] theorem cells_tuple (x0 : List D) : (D.tuple x0 : D).cells = [(D.tuple x0 : D)] := rfl
@[simp] theorem size_tuple (x0 : List D) : (D.tuple x0 : D).size = 1 := rfl
@[simp] theorem one_tuple (x0 : List D) : (D.tuple x0 : D).one = false := rfl
@[simp] theorem cells_slice (x0 : List D) (x1 : Cp) : (D.slice x0 x1 : D).cells = [(D.slice x0 x1 : D)] := rfl
@[simp] theorem size_slice (x0 : List D) (x1 : Cp) : (D.slice x0 x1 : D).size = 1 := rfl
@[simp] theorem one_slice (x0 : List D) (x1 : Cp) : (D.slice x0 x1 : D).one = true := rfl
@[simp] theorem cells_box (x0 x1 : Nat) : (D.box x0 x1 : D).cells = [(D.box x0 x1 : D)] := rfl
@[simp] theorem size_box (x0 x1 : Nat) : (D.box x0 x1 : D).size = 1 := rfl
@[simp] theorem one_box (x0 x1 : Nat) : (D.box x0 x1 : D).one = true := rfl
@[simp] theorem cells_ref (x0 : D) : (D.ref x0 : D).cells = [(D.ref x0 : D)] := rfl
@[simp] theorem size_ref (x0 : D) : (D.ref x0 : D).size = 1 := rfl
@[simp] theorem one_ref (x0 : D) : (D.ref x0 : D).one = true := rfl
@[simp] theorem cells_map (x0 : Nat) : (D.map x0 : D).cells = [(D.map x0 : D)] := rfl
@[simp] theorem size_map (x0 : Nat) : (D.map x0 : D).size = 1 := rfl
@[simp] theorem one_map (x0 : Nat) : (D.map x0 : D).one = true := rfl
@[simp] theorem cells_own (x0 x1 : Nat) : (D.own x0 x1 : D).cells = [(D.own x0 x1 : D)] := rfl
@[simp] theorem size_own (x0 x1 : Nat) : (D.own x0 x1 : D).size = 1 := rfl
@[simp] theorem one_own (x0 x1 : Nat) : (D.own x0 x1 : D).one = true := rfl
@[simp] theorem cells_ebox (x0 x1 x2 x3 : Nat) : (D.ebox x0 x1 x2 x3 : D).cells = [(D.ebox x0 x1 x2 x3 : D)] := rfl
@[simp] theorem size_ebox (x0 x1 x2 x3 : Nat) : (D.ebox x0 x1 x2 x3 : D).size = 1 := rfl
@[simp] theorem one_ebox (x0 x1 x2 x3 : Nat) : (D.ebox x0 x1 x2 x3 : D).one = true := rfl
@[simp] theorem cells_mapc (x0 x1 : List D) : (D.mapc x0 x1 : D).cells = [(D.mapc x0 x1 : D)] := rfl
@[simp] theorem size_mapc (x0 x1 : List D) : (D.mapc x0 x1 : D).size = 1 := rfl
@[simp] theorem one_mapc (x0 x1 : List D) : (D.mapc x0 x1 : D).one = true := rfl

@[simp] theorem range_1 : List.range 1 = [0] := rfl
@[simp] theorem range_2 : List.range 2 = [0, 1] := rfl
@[simp] theorem range_3 : List.range 3 = [0, 1, 2] := rfl
@[simp] theorem range_4 : List.range 4 = [0, 1, 2, 3] := rfl
@[simp] theorem range_5 : List.range 5 = [0, 1, 2, 3, 4] := rfl
@[simp] theorem range_6 : List.range 6 = [0, 1, 2, 3, 4, 5] := rfl
@[simp] theorem range_7 : List.range 7 = [0, 1, 2, 3, 4, 5, 6] := rfl
@[simp] theorem range_8 : List.range 8 = [0, 1, 2, 3, 4, 5, 6, 7] := rfl

abbrev LV := List (Int × Int)

inductive T where
  | mk (k n a : Int) (ls : List LV) (ks : List T)

namespace T
def k : T → Int | .mk k _ _ _ _ => k
def n : T → Int | .mk _ n _ _ _ => n
def a : T → Int | .mk _ _ a _ _ => a
def ls : T → List LV | .mk _ _ _ ls _ => ls
def ks : T → List T | .mk _ _ _ _ ks => ks

@[simp] theorem k_mk (k n a : Int) (ls : List LV) (ks : List T) : (T.mk k n a ls ks).k = k := rfl
@[simp] theorem n_mk (k n a : Int) (ls : List LV) (ks : List T) : (T.mk k n a ls ks).n = n := rfl
@[simp] theorem a_mk (k n a : Int) (ls : List LV) (ks : List T) : (T.mk k n a ls ks).a = a := rfl
@[simp] theorem ls_mk (k n a : Int) (ls : List LV) (ks : List T) : (T.mk k n a ls ks).ls = ls := rfl
@[simp] theorem ks_mk (k n a : Int) (ls : List LV) (ks : List T) : (T.mk k n a ls ks).ks = ks := rfl

theorem eta (t : T) : t = .mk t.k t.n t.a t.ls t.ks := by cases t; rfl

/-- induction over terms, the kids by membership -/
theorem ind {P : T → Prop} (h : ∀ k n a ls ks, (∀ t, t ∈ ks → P t) → P (.mk k n a ls ks)) (t : T) : P t :=
  T.rec (motive_1 := P) (motive_2 := fun ks => ∀ t, t ∈ ks → P t) (fun k n a ls ks ih => h k n a ls ks ih)
    (fun t ht => by cases ht) (fun x r hx hr t ht => by
      cases ht with
      | head => exact hx
      | tail _ hm => exact hr t hm) t
end T

def encP (p : Int × Int) : D := .agg [.int .i64 p.1, .int .i64 p.2]
def encL (l : LV) : D := .agg [.slice (l.map encP) .any]
mutual
def encT : T → D
  | .mk k n a ls ks => .agg [.int .i64 k, .int .i64 n, .int .i64 a, .slice (ls.map encL) .any, .slice (encTs ks) .any]
def encTs : List T → List D
  | [] => []
  | t :: r => encT t :: encTs r
end
theorem encTs_map : ∀ ks : List T, encTs ks = ks.map encT
  | [] => rfl
  | t :: r => by rw [encTs, encTs_map r]; rfl
theorem encT_eq (t : T) : encT t = .agg [.int .i64 t.k, .int .i64 t.n, .int .i64 t.a, .slice (t.ls.map encL) .any, .slice (t.ks.map encT) .any] := by
  cases t; rw [encT, encTs_map]; rfl

theorem encP_pure (p : Int × Int) : (encP p).pure = true := rfl
theorem encL_pure (l : LV) : (encL l).pure = true := by
  simp [encL, D.pure, D.pures, D.pures_map, encP_pure, Cp.free]
theorem encT_pure (t : T) : (encT t).pure = true := by
  induction t using T.ind with
  | h k n a ls ks ih =>
    rw [encT, encTs_map]
    simp [D.pure, D.pures, D.pures_map, encL_pure, Cp.free]
    exact ih

@[simp high] theorem encP_fgt (p : Int × Int) : (encP p).fgt = encP p := rfl
@[simp high] theorem encL_fgt (l : LV) : (encL l).fgt = encL l := by simp [encL, D.fgt, D.fgts]
@[simp high] theorem encT_fgt (t : T) : (encT t).fgt = encT t := by simp [encT_eq, D.fgt, D.fgts]
@[simp high] theorem encP_size (p : Int × Int) : (encP p).size = 2 := rfl
@[simp high] theorem encL_size (l : LV) : (encL l).size = 1 := rfl
@[simp high] theorem encT_size (t : T) : (encT t).size = 5 := by rw [encT_eq]; rfl
@[simp high] theorem encP_cells (p : Int × Int) : (encP p).cells = [.int .i64 p.1, .int .i64 p.2] := rfl
@[simp high] theorem encL_cells (l : LV) : (encL l).cells = [.slice (l.map encP) .any] := rfl
@[simp high] theorem encT_cells (t : T) : (encT t).cells = [.int .i64 t.k, .int .i64 t.n, .int .i64 t.a, .slice (t.ls.map encL) .any, .slice (t.ks.map encT) .any] := by rw [encT_eq]; rfl
attribute [simp high] encP_pure encL_pure encT_pure

def Ps (l : List (Int × Int)) : D := .slice (l.map encP) .any
def Bools (l : List Bool) : D := .slice (l.map .bool) .any
def Ints (l : List Int) : D := .slice (l.map (.int .i64)) .any
def Lvs (l : List LV) : D := .slice (l.map encL) .any
def Ts (l : List T) : D := .slice (l.map encT) .any

theorem Bools_pure (l : List Bool) : (Bools l).pure = true := by simp [Bools, D.pure, D.pures_map, Cp.free]
theorem Ints_pure (l : List Int) : (Ints l).pure = true := by simp [Ints, D.pure, D.pures_map, Cp.free]
theorem Lvs_pure (l : List LV) : (Lvs l).pure = true := by simp [Lvs, D.pure, D.pures_map, encL_pure, Cp.free]
theorem Ts_pure (l : List T) : (Ts l).pure = true := by simp [Ts, D.pure, D.pures_map, encT_pure, Cp.free]

mutual
theorem D.frz_pure (bx : FK) (i : Nat) (x : D) : ∀ d : D, d.pure = true → D.frz bx i x d = d
  | .junk, _ => rfl
  | .int _ _, _ => rfl
  | .bool _, _ => rfl
  | .str _, _ => rfl
  | .nilp, _ => rfl
  | .nilf, _ => rfl
  | .nili, _ => rfl
  | .nilm, _ => rfl
  | .box _ _, h => by simp [D.pure] at h
  | .map _, h => by simp [D.pure] at h
  | .own _ _, h => by simp [D.pure] at h
  | .ebox _ _ _ _, h => by simp [D.pure] at h
  | .fn f a b, h => by
    rw [D.pure, Bool.and_eq_true] at h
    rw [D.frz, D.frzs_pure bx i x a h.1, D.frzs_pure bx i x b h.2]
  | .iface t d, h => by rw [D.pure] at h; rw [D.frz, D.frz_pure bx i x d h]
  | .tuple ds, h => by rw [D.pure] at h; rw [D.frz, D.frzs_pure bx i x ds h]
  | .agg ds, h => by rw [D.pure] at h; rw [D.frz, D.frzs_pure bx i x ds h]
  | .slice els c, h => by
    rw [D.pure, Bool.and_eq_true] at h
    rw [D.frz, D.frzs_pure bx i x els h.1]
  | .ref d, h => by rw [D.pure] at h; rw [D.frz, D.frz_pure bx i x d h]
  | .mapc ks vs, h => by
    rw [D.pure, Bool.and_eq_true] at h
    rw [D.frz, D.frzs_pure bx i x ks h.1, D.frzs_pure bx i x vs h.2]
theorem D.frzs_pure (bx : FK) (i : Nat) (x : D) : ∀ ds : List D, D.pures ds = true → D.frzs bx i x ds = ds
  | [], _ => rfl
  | d :: r, h => by
    rw [D.pures, Bool.and_eq_true] at h
    rw [D.frzs, D.frz_pure bx i x d h.1, D.frzs_pure bx i x r h.2]
end
@[simp high] theorem encP_frz (bx : FK) (i : Nat) (x : D) (p : Int × Int) : D.frz bx i x (encP p) = encP p := D.frz_pure bx i x _ (encP_pure p)
@[simp high] theorem encL_frz (bx : FK) (i : Nat) (x : D) (l : LV) : D.frz bx i x (encL l) = encL l := D.frz_pure bx i x _ (encL_pure l)
@[simp high] theorem encT_frz (bx : FK) (i : Nat) (x : D) (t : T) : D.frz bx i x (encT t) = encT t := D.frz_pure bx i x _ (encT_pure t)
@[simp high] theorem mapP_frz (bx : FK) (i : Nat) (x : D) (l : LV) : D.frzs bx i x (l.map encP) = l.map encP := D.frzs_pure bx i x _ (by simp [D.pures_map, D.pure])
@[simp high] theorem mapL_frz (bx : FK) (i : Nat) (x : D) (l : List LV) : D.frzs bx i x (l.map encL) = l.map encL := D.frzs_pure bx i x _ (by simp [D.pures_map, D.pure])
@[simp high] theorem mapT_frz (bx : FK) (i : Nat) (x : D) (l : List T) : D.frzs bx i x (l.map encT) = l.map encT := D.frzs_pure bx i x _ (by simp [D.pures_map, D.pure])
@[simp high] theorem mapI_frz (bx : FK) (i : Nat) (x : D) (l : List Int) : D.frzs bx i x (l.map (.int .i64)) = l.map (.int .i64) := D.frzs_pure bx i x _ (by simp [D.pures_map, D.pure])
@[simp high] theorem mapB_frz (bx : FK) (i : Nat) (x : D) (l : List Bool) : D.frzs bx i x (l.map .bool) = l.map .bool := D.frzs_pure bx i x _ (by simp [D.pures_map, D.pure])

@[simp high] theorem encP_low (m : Nat) (p : Int × Int) : (encP p).low m = true := D.low_pure m _ (encP_pure p)
@[simp high] theorem encL_low (m : Nat) (l : LV) : (encL l).low m = true := D.low_pure m _ (encL_pure l)
@[simp high] theorem encT_low (m : Nat) (t : T) : (encT t).low m = true := D.low_pure m _ (encT_pure t)
@[simp high] theorem mapP_low (m : Nat) (l : LV) : D.lows m (l.map encP) = true := D.lows_pure m _ (by simp [D.pures_map, D.pure])
@[simp high] theorem mapL_low (m : Nat) (l : List LV) : D.lows m (l.map encL) = true := D.lows_pure m _ (by simp [D.pures_map, D.pure])
@[simp high] theorem mapT_low (m : Nat) (l : List T) : D.lows m (l.map encT) = true := D.lows_pure m _ (by simp [D.pures_map, D.pure])
@[simp high] theorem mapI_low (m : Nat) (l : List Int) : D.lows m (l.map (.int .i64)) = true := D.lows_pure m _ (by simp [D.pures_map, D.pure])
@[simp high] theorem mapB_low (m : Nat) (l : List Bool) : D.lows m (l.map .bool) = true := D.lows_pure m _ (by simp [D.pures_map, D.pure])

@[simp high] theorem encP_okN (p : Nat → Bool) (x : Int × Int) : (encP x).okN p = true := D.okN_pure p _ (encP_pure x)
@[simp high] theorem encP_ren (σ : Nat → Nat) (x : Int × Int) : D.ren σ (encP x) = encP x := D.ren_pure σ _ (encP_pure x)
@[simp high] theorem encL_okN (p : Nat → Bool) (x : LV) : (encL x).okN p = true := D.okN_pure p _ (encL_pure x)
@[simp high] theorem encL_ren (σ : Nat → Nat) (x : LV) : D.ren σ (encL x) = encL x := D.ren_pure σ _ (encL_pure x)
@[simp high] theorem encT_okN (p : Nat → Bool) (x : T) : (encT x).okN p = true := D.okN_pure p _ (encT_pure x)
@[simp high] theorem encT_ren (σ : Nat → Nat) (x : T) : D.ren σ (encT x) = encT x := D.ren_pure σ _ (encT_pure x)
@[simp high] theorem mapP_okN (p : Nat → Bool) (l : LV) : D.okNs p (l.map encP) = true := D.okNs_pure p _ (by simp [D.pures_map, D.pure])
@[simp high] theorem mapP_ren (σ : Nat → Nat) (l : LV) : D.rens σ (l.map encP) = l.map encP := D.rens_pure σ _ (by simp [D.pures_map, D.pure])
@[simp high] theorem mapP_pures (l : LV) : D.pures (l.map encP) = true := by simp [D.pures_map, D.pure]
@[simp high] theorem mapL_okN (p : Nat → Bool) (l : List LV) : D.okNs p (l.map encL) = true := D.okNs_pure p _ (by simp [D.pures_map, D.pure])
@[simp high] theorem mapL_ren (σ : Nat → Nat) (l : List LV) : D.rens σ (l.map encL) = l.map encL := D.rens_pure σ _ (by simp [D.pures_map, D.pure])
@[simp high] theorem mapL_pures (l : List LV) : D.pures (l.map encL) = true := by simp [D.pures_map, D.pure]
@[simp high] theorem mapT_okN (p : Nat → Bool) (l : List T) : D.okNs p (l.map encT) = true := D.okNs_pure p _ (by simp [D.pures_map, D.pure])
@[simp high] theorem mapT_ren (σ : Nat → Nat) (l : List T) : D.rens σ (l.map encT) = l.map encT := D.rens_pure σ _ (by simp [D.pures_map, D.pure])
@[simp high] theorem mapT_pures (l : List T) : D.pures (l.map encT) = true := by simp [D.pures_map, D.pure]
@[simp high] theorem mapI_okN (p : Nat → Bool) (l : List Int) : D.okNs p (l.map (.int .i64)) = true := D.okNs_pure p _ (by simp [D.pures_map, D.pure])
@[simp high] theorem mapI_ren (σ : Nat → Nat) (l : List Int) : D.rens σ (l.map (.int .i64)) = l.map (.int .i64) := D.rens_pure σ _ (by simp [D.pures_map, D.pure])
@[simp high] theorem mapI_pures (l : List Int) : D.pures (l.map (.int .i64)) = true := by simp [D.pures_map, D.pure]
@[simp high] theorem mapB_okN (p : Nat → Bool) (l : List Bool) : D.okNs p (l.map .bool) = true := D.okNs_pure p _ (by simp [D.pures_map, D.pure])
@[simp high] theorem mapB_ren (σ : Nat → Nat) (l : List Bool) : D.rens σ (l.map .bool) = l.map .bool := D.rens_pure σ _ (by simp [D.pures_map, D.pure])
@[simp high] theorem mapB_pures (l : List Bool) : D.pures (l.map .bool) = true := by simp [D.pures_map, D.pure]

@[simp] theorem okNs_append (p : Nat → Bool) : ∀ a b : List D, D.okNs p (a ++ b) = (D.okNs p a && D.okNs p b)
  | [], b => by rw [List.nil_append, D.okNs, Bool.true_and]
  | d :: a, b => by rw [List.cons_append, D.okNs, D.okNs, okNs_append p a b, Bool.and_assoc]
theorem flat_okN (p : Nat → Bool) : ∀ els : List D, D.pures els = true → D.okNs p (els.flatMap D.cells) = true
  | [], _ => rfl
  | e :: r, h => by
    rw [D.pures, Bool.and_eq_true] at h
    rw [List.flatMap_cons]
    have h1 : D.okNs p e.cells = true := by
      have := D.okN_pure p e h.1
      cases e
      case agg cs => rw [D.okN] at this; exact this
      all_goals (show D.okNs p [_] = true; rw [D.okNs, this]; rfl)
    have h2 := flat_okN p r h.2
    rw [okNs_append, h1, h2]; rfl
@[simp high] theorem rowP_okN (p : Nat → Bool) (l : LV) : D.okNs p ((l.map encP).flatMap D.cells) = true := flat_okN p _ (by simp [D.pures_map, D.pure])
@[simp high] theorem rowP_ren (σ : Nat → Nat) (l : LV) : (l.map encP).map (D.ren σ) = l.map encP := by rw [← D.rens_map]; exact D.rens_pure σ _ (by simp [D.pures_map, D.pure])
@[simp high] theorem rowP_renc (σ : Nat → Nat) (l : LV) : l.map (D.ren σ ∘ encP) = l.map encP := by rw [← List.map_map]; exact rowP_ren σ l
@[simp high] theorem rowL_okN (p : Nat → Bool) (l : List LV) : D.okNs p ((l.map encL).flatMap D.cells) = true := flat_okN p _ (by simp [D.pures_map, D.pure])
@[simp high] theorem rowL_ren (σ : Nat → Nat) (l : List LV) : (l.map encL).map (D.ren σ) = l.map encL := by rw [← D.rens_map]; exact D.rens_pure σ _ (by simp [D.pures_map, D.pure])
@[simp high] theorem rowL_renc (σ : Nat → Nat) (l : List LV) : l.map (D.ren σ ∘ encL) = l.map encL := by rw [← List.map_map]; exact rowL_ren σ l
@[simp high] theorem rowT_okN (p : Nat → Bool) (l : List T) : D.okNs p ((l.map encT).flatMap D.cells) = true := flat_okN p _ (by simp [D.pures_map, D.pure])
@[simp high] theorem rowT_ren (σ : Nat → Nat) (l : List T) : (l.map encT).map (D.ren σ) = l.map encT := by rw [← D.rens_map]; exact D.rens_pure σ _ (by simp [D.pures_map, D.pure])
@[simp high] theorem rowT_renc (σ : Nat → Nat) (l : List T) : l.map (D.ren σ ∘ encT) = l.map encT := by rw [← List.map_map]; exact rowT_ren σ l
@[simp high] theorem rowI_okN (p : Nat → Bool) (l : List Int) : D.okNs p ((l.map (.int .i64)).flatMap D.cells) = true := flat_okN p _ (by simp [D.pures_map, D.pure])
@[simp high] theorem rowI_ren (σ : Nat → Nat) (l : List Int) : (l.map (.int .i64)).map (D.ren σ) = l.map (.int .i64) := by rw [← D.rens_map]; exact D.rens_pure σ _ (by simp [D.pures_map, D.pure])
@[simp high] theorem rowI_renc (σ : Nat → Nat) (l : List Int) : l.map (D.ren σ ∘ (.int .i64)) = l.map (.int .i64) := by rw [← List.map_map]; exact rowI_ren σ l

/-- in the bounds of an int -/
def I64 (n : Int) : Prop := -9223372036854775808 ≤ n ∧ n ≤ 9223372036854775807

/-- what of a term lies in memory: numbers in bounds, lists not too long -/
def okL (l : LV) : Prop := l.length ≤ LMax ∧ ∀ p, p ∈ l → I64 p.1 ∧ I64 p.2
inductive okT : T → Prop where
  | mk {k n a : Int} {ls : List LV} {ks : List T} (hk : I64 k) (hn : I64 n) (ha : I64 a) (hl : ls.length ≤ LMax) (hls : ∀ l, l ∈ ls → okL l) (hks : ks.length ≤ LMax) (h : ∀ t, t ∈ ks → okT t) : okT (.mk k n a ls ks)

theorem okT.k {t : T} (h : okT t) : I64 t.k := by cases h; assumption
theorem okT.n {t : T} (h : okT t) : I64 t.n := by cases h; assumption
theorem okT.a {t : T} (h : okT t) : I64 t.a := by cases h; assumption
theorem okT.ll {t : T} (h : okT t) : t.ls.length ≤ LMax := by cases h; assumption
theorem okT.ls {t : T} (h : okT t) : ∀ l, l ∈ t.ls → okL l := by cases h; assumption
theorem okT.kl {t : T} (h : okT t) : t.ks.length ≤ LMax := by cases h; assumption
theorem okT.ks {t : T} (h : okT t) : ∀ x, x ∈ t.ks → okT x := by cases h; assumption
end Go.Proofs.Ytbjgdeednmhpfaa
