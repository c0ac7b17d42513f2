/-
  MC3: the texts Denc Dglob Dfor Tcl Tbi Tow Twk Tlf Tpt Tsz Tfr Lmap Lhid Lay Lsort Llev Lmad Lleq Llaw Lpd Lkit Lput Lpt2 Tlv Tsm Lrt Trt Tct Tpla Tok, one behind the other.
-/
import Derived.WalkKit
import Derived.Maps.RangeWalk
import Derived.Shelf.SlIterI.Nil
import Derived.Shelf.SortM.Plain
import Derived.Shelf.SortM.SortNone
import Derived.Ground.GgzProg
import Derived.Ground.SlgmProg
import Derived.Test.YtgloldepdhgfaaaDoorChecked
import Derived.Test.YtgloldepdhgfaaaDoorMC2
namespace Go.Proofs.YtgloldepdhgfaaaDoor
set_option linter.unusedSimpArgs false
set_option linter.unusedVariables false
open Go.RowKit
@[simp] theorem pures_nil : D.pures [] = true := rfl
@[simp] theorem fgts_nil : D.fgts [] = [] := rfl
@[simp] theorem cells_agg (cs : List D) : (D.agg cs).cells = cs := rfl
@[simp] theorem size_agg (cs : List D) : (D.agg cs).size = cs.length := rfl
@[simp] theorem one_agg (cs : List D) : (D.agg cs).one = false := rfl
@[simp] theorem cells_junk  : (D.junk : D).cells = [(D.junk : D)] := rfl
@[simp] theorem size_junk  : (D.junk : D).size = 1 := rfl
@[simp] theorem one_junk  : (D.junk : D).one = false := rfl
@[simp] theorem cells_int (x0 : IntKind) (x1 : Int) : (D.int x0 x1 : D).cells = [(D.int x0 x1 : D)] := rfl
@[simp] theorem size_int (x0 : IntKind) (x1 : Int) : (D.int x0 x1 : D).size = 1 := rfl
@[simp] theorem one_int (x0 : IntKind) (x1 : Int) : (D.int x0 x1 : D).one = true := rfl
@[simp] theorem cells_bool (x0 : Bool) : (D.bool x0 : D).cells = [(D.bool x0 : D)] := rfl
@[simp] theorem size_bool (x0 : Bool) : (D.bool x0 : D).size = 1 := rfl
@[simp] theorem one_bool (x0 : Bool) : (D.bool x0 : D).one = true := rfl
@[simp] theorem cells_str {x0} : (D.str x0 : D).cells = [(D.str x0 : D)] := rfl
@[simp] theorem size_str {x0} : (D.str x0 : D).size = 1 := rfl
@[simp] theorem one_str {x0} : (D.str x0 : D).one = true := rfl
@[simp] theorem cells_nilp  : (D.nilp : D).cells = [(D.nilp : D)] := rfl
@[simp] theorem size_nilp  : (D.nilp : D).size = 1 := rfl
@[simp] theorem one_nilp  : (D.nilp : D).one = true := rfl
@[simp] theorem cells_nilf  : (D.nilf : D).cells = [(D.nilf : D)] := rfl
@[simp] theorem size_nilf  : (D.nilf : D).size = 1 := rfl
@[simp] theorem one_nilf  : (D.nilf : D).one = true := rfl
@[simp] theorem cells_nili  : (D.nili : D).cells = [(D.nili : D)] := rfl
@[simp] theorem size_nili  : (D.nili : D).size = 1 := rfl
@[simp] theorem one_nili  : (D.nili : D).one = true := rfl
@[simp] theorem cells_nilm  : (D.nilm : D).cells = [(D.nilm : D)] := rfl
@[simp] theorem size_nilm  : (D.nilm : D).size = 1 := rfl
@[simp] theorem one_nilm  : (D.nilm : D).one = true := rfl
@[simp] theorem cells_fn (x0) (x1 x2 : List D) : (D.fn x0 x1 x2 : D).cells = [(D.fn x0 x1 x2 : D)] := rfl
@[simp] theorem size_fn (x0) (x1 x2 : List D) : (D.fn x0 x1 x2 : D).size = 1 := rfl
@[simp] theorem one_fn (x0) (x1 x2 : List D) : (D.fn x0 x1 x2 : D).one = true := rfl
@[simp] theorem cells_iface (x0) (x1 : D) : (D.iface x0 x1 : D).cells = [(D.iface x0 x1 : D)] := rfl
@[simp] theorem size_iface (x0) (x1 : D) : (D.iface x0 x1 : D).size = 1 := rfl
@[simp] theorem one_iface (x0) (x1 : D) : (D.iface x0 x1 : D).one = true := rfl
@[simp] theorem cells_tuple (x0 : List D) : (D.tuple x0 : D).cells = [(D.tuple x0 : D)] := rfl
@[simp] theorem size_tuple (x0 : List D) : (D.tuple x0 : D).size = 1 := rfl
@[simp] theorem one_tuple (x0 : List D) : (D.tuple x0 : D).one = false := rfl
@[simp] theorem cells_slice (x0 : List D) (x1 : Cp) : (D.slice x0 x1 : D).cells = [(D.slice x0 x1 : D)] := rfl
@[simp] theorem size_slice (x0 : List D) (x1 : Cp) : (D.slice x0 x1 : D).size = 1 := rfl
@[simp] theorem one_slice (x0 : List D) (x1 : Cp) : (D.slice x0 x1 : D).one = true := rfl
@[simp] theorem cells_box (x0 x1 : Nat) : (D.box x0 x1 : D).cells = [(D.box x0 x1 : D)] := rfl
@[simp] theorem size_box (x0 x1 : Nat) : (D.box x0 x1 : D).size = 1 := rfl
@[simp] theorem one_box (x0 x1 : Nat) : (D.box x0 x1 : D).one = true := rfl
@[simp] theorem cells_ref (x0 : D) : (D.ref x0 : D).cells = [(D.ref x0 : D)] := rfl
@[simp] theorem size_ref (x0 : D) : (D.ref x0 : D).size = 1 := rfl
@[simp] theorem one_ref (x0 : D) : (D.ref x0 : D).one = true := rfl
@[simp] theorem cells_map (x0 : Nat) : (D.map x0 : D).cells = [(D.map x0 : D)] := rfl
@[simp] theorem size_map (x0 : Nat) : (D.map x0 : D).size = 1 := rfl
@[simp] theorem one_map (x0 : Nat) : (D.map x0 : D).one = true := rfl
@[simp] theorem cells_own (x0 x1 : Nat) : (D.own x0 x1 : D).cells = [(D.own x0 x1 : D)] := rfl
@[simp] theorem size_own (x0 x1 : Nat) : (D.own x0 x1 : D).size = 1 := rfl
@[simp] theorem one_own (x0 x1 : Nat) : (D.own x0 x1 : D).one = true := rfl
@[simp] theorem cells_ebox (x0 x1 x2 x3 : Nat) : (D.ebox x0 x1 x2 x3 : D).cells = [(D.ebox x0 x1 x2 x3 : D)] := rfl
@[simp] theorem size_ebox (x0 x1 x2 x3 : Nat) : (D.ebox x0 x1 x2 x3 : D).size = 1 := rfl
@[simp] theorem one_ebox (x0 x1 x2 x3 : Nat) : (D.ebox x0 x1 x2 x3 : D).one = true := rfl
@[simp] theorem cells_mapc (x0 x1 : List D) : (D.mapc x0 x1 : D).cells = [(D.mapc x0 x1 : D)] := rfl
@[simp] theorem size_mapc (x0 x1 : List D) : (D.mapc x0 x1 : D).size = 1 := rfl
@[simp] theorem one_mapc (x0 x1 : List D) : (D.mapc x0 x1 : D).one = true := rfl
@[simp] theorem cells_lent (x0 x1 : List D) : (D.lent x0 x1 : D).cells = [(D.lent x0 x1 : D)] := rfl
@[simp] theorem size_lent (x0 x1 : List D) : (D.lent x0 x1 : D).size = 1 := rfl
@[simp] theorem one_lent (x0 x1 : List D) : (D.lent x0 x1 : D).one = true := rfl
@[simp] theorem range_1 : List.range 1 = [0] := rfl
@[simp] theorem range_2 : List.range 2 = [0, 1] := rfl
@[simp] theorem range_3 : List.range 3 = [0, 1, 2] := rfl
@[simp] theorem range_4 : List.range 4 = [0, 1, 2, 3] := rfl
@[simp] theorem range_5 : List.range 5 = [0, 1, 2, 3, 4] := rfl
@[simp] theorem range_6 : List.range 6 = [0, 1, 2, 3, 4, 5] := rfl
@[simp] theorem range_7 : List.range 7 = [0, 1, 2, 3, 4, 5, 6] := rfl
@[simp] theorem range_8 : List.range 8 = [0, 1, 2, 3, 4, 5, 6, 7] := rfl
abbrev LV := List (Int × Int)
inductive T where
  | mk (k n a : Int) (ls : List LV) (ks : List T)
namespace T
def k : T → Int | .mk k _ _ _ _ => k
def n : T → Int | .mk _ n _ _ _ => n
def a : T → Int | .mk _ _ a _ _ => a
def ls : T → List LV | .mk _ _ _ ls _ => ls
def ks : T → List T | .mk _ _ _ _ ks => ks
@[simp] theorem k_mk (k n a : Int) (ls : List LV) (ks : List T) : (T.mk k n a ls ks).k = k := rfl
@[simp] theorem n_mk (k n a : Int) (ls : List LV) (ks : List T) : (T.mk k n a ls ks).n = n := rfl
@[simp] theorem a_mk (k n a : Int) (ls : List LV) (ks : List T) : (T.mk k n a ls ks).a = a := rfl
@[simp] theorem ls_mk (k n a : Int) (ls : List LV) (ks : List T) : (T.mk k n a ls ks).ls = ls := rfl
@[simp] theorem ks_mk (k n a : Int) (ls : List LV) (ks : List T) : (T.mk k n a ls ks).ks = ks := rfl
/-- induction over terms, the kids by membership -/
theorem ind {P : T → Prop} (h : ∀ k n a ls ks, (∀ t, t ∈ ks → P t) → P (.mk k n a ls ks)) (t : T) : P t :=
  T.rec (motive_1 := P) (motive_2 := fun ks => ∀ t, t ∈ ks → P t) (fun k n a ls ks ih => h k n a ls ks ih)
    (fun t ht => by cases ht) (fun x r hx hr t ht => by
      cases ht with
      | head => exact hx
      | tail _ hm => exact hr t hm) t
end T
def encP (p : Int × Int) : D := .agg [.int .i64 p.1, .int .i64 p.2]
def encL (l : LV) : D := .agg [.slice (l.map encP) .any]
mutual
def encT : T → D
  | .mk k n a ls ks => .agg [.int .i64 k, .int .i64 n, .int .i64 a, .slice (ls.map encL) .any, .slice (encTs ks) .any]
def encTs : List T → List D
  | [] => []
  | t :: r => encT t :: encTs r
end
theorem encTs_map : ∀ ks : List T, encTs ks = ks.map encT
  | [] => rfl
  | t :: r => by rw [encTs, encTs_map r]; rfl
theorem encT_eq (t : T) : encT t = .agg [.int .i64 t.k, .int .i64 t.n, .int .i64 t.a, .slice (t.ls.map encL) .any, .slice (t.ks.map encT) .any] := by
  cases t; rw [encT, encTs_map]; rfl
theorem encP_pure (p : Int × Int) : (encP p).pure = true := rfl
theorem encL_pure (l : LV) : (encL l).pure = true := by
  simp [encL, D.pure, D.pures, D.pures_map, encP_pure, Cp.free]
theorem encT_pure (t : T) : (encT t).pure = true := by
  induction t using T.ind with
  | h k n a ls ks ih =>
    rw [encT, encTs_map]
    simp [D.pure, D.pures, D.pures_map, encL_pure, Cp.free]
    exact ih
@[simp high] theorem encP_fgt (p : Int × Int) : (encP p).fgt = encP p := rfl
@[simp high] theorem encL_fgt (l : LV) : (encL l).fgt = encL l := by simp [encL, D.fgt, D.fgts]
@[simp high] theorem encT_fgt (t : T) : (encT t).fgt = encT t := by simp [encT_eq, D.fgt, D.fgts]
@[simp high] theorem encP_size (p : Int × Int) : (encP p).size = 2 := rfl
@[simp high] theorem encL_size (l : LV) : (encL l).size = 1 := rfl
@[simp high] theorem encT_size (t : T) : (encT t).size = 5 := by rw [encT_eq]; rfl
@[simp high] theorem encP_cells (p : Int × Int) : (encP p).cells = [.int .i64 p.1, .int .i64 p.2] := rfl
@[simp high] theorem encL_cells (l : LV) : (encL l).cells = [.slice (l.map encP) .any] := rfl
@[simp high] theorem encT_cells (t : T) : (encT t).cells = [.int .i64 t.k, .int .i64 t.n, .int .i64 t.a, .slice (t.ls.map encL) .any, .slice (t.ks.map encT) .any] := by rw [encT_eq]; rfl
attribute [simp high] encP_pure encL_pure encT_pure
def Ps (l : List (Int × Int)) : D := .slice (l.map encP) .any
def Bools (l : List Bool) : D := .slice (l.map .bool) .any
def Ints (l : List Int) : D := .slice (l.map (.int .i64)) .any
def Lvs (l : List LV) : D := .slice (l.map encL) .any
def Ts (l : List T) : D := .slice (l.map encT) .any
mutual
theorem D.frz_pure (bx : FK) (i : Nat) (x : D) : ∀ d : D, d.pure = true → D.frz bx i x d = d
  | .junk, _ => rfl
  | .int _ _, _ => rfl
  | .bool _, _ => rfl
  | .str _, _ => rfl
  | .nilp, _ => rfl
  | .nilf, _ => rfl
  | .nili, _ => rfl
  | .nilm, _ => rfl
  | .box _ _, h => by simp [D.pure] at h
  | .map _, h => by simp [D.pure] at h
  | .own _ _, h => by simp [D.pure] at h
  | .ebox _ _ _ _, h => by simp [D.pure] at h
  | .fn f a b, h => by
    rw [D.pure, Bool.and_eq_true] at h
    rw [D.frz, D.frzs_pure bx i x a h.1, D.frzs_pure bx i x b h.2]
  | .iface t d, h => by rw [D.pure] at h; rw [D.frz, D.frz_pure bx i x d h]
  | .tuple ds, h => by rw [D.pure] at h; rw [D.frz, D.frzs_pure bx i x ds h]
  | .agg ds, h => by rw [D.pure] at h; rw [D.frz, D.frzs_pure bx i x ds h]
  | .slice els c, h => by
    rw [D.pure, Bool.and_eq_true] at h
    rw [D.frz, D.frzs_pure bx i x els h.1]
  | .ref d, h => by rw [D.pure] at h; rw [D.frz, D.frz_pure bx i x d h]
  | .mapc ks vs, h => by
    rw [D.pure, Bool.and_eq_true] at h
    rw [D.frz, D.frzs_pure bx i x ks h.1, D.frzs_pure bx i x vs h.2]
  | .lent els sp, h => by
    rw [D.pure, Bool.and_eq_true] at h
    rw [D.frz, D.frzs_pure bx i x els h.1, D.frzs_pure bx i x sp h.2]
theorem D.frzs_pure (bx : FK) (i : Nat) (x : D) : ∀ ds : List D, D.pures ds = true → D.frzs bx i x ds = ds
  | [], _ => rfl
  | d :: r, h => by
    rw [D.pures, Bool.and_eq_true] at h
    rw [D.frzs, D.frz_pure bx i x d h.1, D.frzs_pure bx i x r h.2]
end
@[simp high] theorem encP_frz (bx : FK) (i : Nat) (x : D) (p : Int × Int) : D.frz bx i x (encP p) = encP p := D.frz_pure bx i x _ (encP_pure p)
@[simp high] theorem encL_frz (bx : FK) (i : Nat) (x : D) (l : LV) : D.frz bx i x (encL l) = encL l := D.frz_pure bx i x _ (encL_pure l)
@[simp high] theorem encT_frz (bx : FK) (i : Nat) (x : D) (t : T) : D.frz bx i x (encT t) = encT t := D.frz_pure bx i x _ (encT_pure t)
@[simp high] theorem mapP_frz (bx : FK) (i : Nat) (x : D) (l : LV) : D.frzs bx i x (l.map encP) = l.map encP := D.frzs_pure bx i x _ (by simp [D.pures_map, D.pure])
@[simp high] theorem mapL_frz (bx : FK) (i : Nat) (x : D) (l : List LV) : D.frzs bx i x (l.map encL) = l.map encL := D.frzs_pure bx i x _ (by simp [D.pures_map, D.pure])
@[simp high] theorem mapT_frz (bx : FK) (i : Nat) (x : D) (l : List T) : D.frzs bx i x (l.map encT) = l.map encT := D.frzs_pure bx i x _ (by simp [D.pures_map, D.pure])
@[simp high] theorem mapI_frz (bx : FK) (i : Nat) (x : D) (l : List Int) : D.frzs bx i x (l.map (.int .i64)) = l.map (.int .i64) := D.frzs_pure bx i x _ (by simp [D.pures_map, D.pure])
@[simp high] theorem mapB_frz (bx : FK) (i : Nat) (x : D) (l : List Bool) : D.frzs bx i x (l.map .bool) = l.map .bool := D.frzs_pure bx i x _ (by simp [D.pures_map, D.pure])
@[simp high] theorem encP_low (m : Nat) (p : Int × Int) : (encP p).low m = true := D.low_pure m _ (encP_pure p)
@[simp high] theorem encL_low (m : Nat) (l : LV) : (encL l).low m = true := D.low_pure m _ (encL_pure l)
@[simp high] theorem encT_low (m : Nat) (t : T) : (encT t).low m = true := D.low_pure m _ (encT_pure t)
@[simp high] theorem mapP_low (m : Nat) (l : LV) : D.lows m (l.map encP) = true := D.lows_pure m _ (by simp [D.pures_map, D.pure])
@[simp high] theorem mapL_low (m : Nat) (l : List LV) : D.lows m (l.map encL) = true := D.lows_pure m _ (by simp [D.pures_map, D.pure])
@[simp high] theorem mapT_low (m : Nat) (l : List T) : D.lows m (l.map encT) = true := D.lows_pure m _ (by simp [D.pures_map, D.pure])
@[simp high] theorem mapI_low (m : Nat) (l : List Int) : D.lows m (l.map (.int .i64)) = true := D.lows_pure m _ (by simp [D.pures_map, D.pure])
@[simp high] theorem mapB_low (m : Nat) (l : List Bool) : D.lows m (l.map .bool) = true := D.lows_pure m _ (by simp [D.pures_map, D.pure])
@[simp high] theorem encP_okN (p : Nat → Bool) (x : Int × Int) : (encP x).okN p = true := D.okN_pure p _ (encP_pure x)
@[simp high] theorem encP_ren (σ : Nat → Nat) (x : Int × Int) : D.ren σ (encP x) = encP x := D.ren_pure σ _ (encP_pure x)
@[simp high] theorem encL_okN (p : Nat → Bool) (x : LV) : (encL x).okN p = true := D.okN_pure p _ (encL_pure x)
@[simp high] theorem encL_ren (σ : Nat → Nat) (x : LV) : D.ren σ (encL x) = encL x := D.ren_pure σ _ (encL_pure x)
@[simp high] theorem encT_okN (p : Nat → Bool) (x : T) : (encT x).okN p = true := D.okN_pure p _ (encT_pure x)
@[simp high] theorem encT_ren (σ : Nat → Nat) (x : T) : D.ren σ (encT x) = encT x := D.ren_pure σ _ (encT_pure x)
@[simp high] theorem mapP_okN (p : Nat → Bool) (l : LV) : D.okNs p (l.map encP) = true := D.okNs_pure p _ (by simp [D.pures_map, D.pure])
@[simp high] theorem mapP_ren (σ : Nat → Nat) (l : LV) : D.rens σ (l.map encP) = l.map encP := D.rens_pure σ _ (by simp [D.pures_map, D.pure])
@[simp high] theorem mapP_pures (l : LV) : D.pures (l.map encP) = true := by simp [D.pures_map, D.pure]
@[simp high] theorem mapL_okN (p : Nat → Bool) (l : List LV) : D.okNs p (l.map encL) = true := D.okNs_pure p _ (by simp [D.pures_map, D.pure])
@[simp high] theorem mapL_ren (σ : Nat → Nat) (l : List LV) : D.rens σ (l.map encL) = l.map encL := D.rens_pure σ _ (by simp [D.pures_map, D.pure])
@[simp high] theorem mapL_pures (l : List LV) : D.pures (l.map encL) = true := by simp [D.pures_map, D.pure]
@[simp high] theorem mapT_okN (p : Nat → Bool) (l : List T) : D.okNs p (l.map encT) = true := D.okNs_pure p _ (by simp [D.pures_map, D.pure])
@[simp high] theorem mapT_ren (σ : Nat → Nat) (l : List T) : D.rens σ (l.map encT) = l.map encT := D.rens_pure σ _ (by simp [D.pures_map, D.pure])
@[simp high] theorem mapT_pures (l : List T) : D.pures (l.map encT) = true := by simp [D.pures_map, D.pure]
@[simp high] theorem mapI_okN (p : Nat → Bool) (l : List Int) : D.okNs p (l.map (.int .i64)) = true := D.okNs_pure p _ (by simp [D.pures_map, D.pure])
@[simp high] theorem mapI_ren (σ : Nat → Nat) (l : List Int) : D.rens σ (l.map (.int .i64)) = l.map (.int .i64) := D.rens_pure σ _ (by simp [D.pures_map, D.pure])
@[simp high] theorem mapI_pures (l : List Int) : D.pures (l.map (.int .i64)) = true := by simp [D.pures_map, D.pure]
@[simp high] theorem mapB_okN (p : Nat → Bool) (l : List Bool) : D.okNs p (l.map .bool) = true := D.okNs_pure p _ (by simp [D.pures_map, D.pure])
@[simp high] theorem mapB_ren (σ : Nat → Nat) (l : List Bool) : D.rens σ (l.map .bool) = l.map .bool := D.rens_pure σ _ (by simp [D.pures_map, D.pure])
@[simp high] theorem mapB_pures (l : List Bool) : D.pures (l.map .bool) = true := by simp [D.pures_map, D.pure]
@[simp] theorem okNs_append (p : Nat → Bool) : ∀ a b : List D, D.okNs p (a ++ b) = (D.okNs p a && D.okNs p b)
  | [], b => by rw [List.nil_append, D.okNs, Bool.true_and]
  | d :: a, b => by rw [List.cons_append, D.okNs, D.okNs, okNs_append p a b, Bool.and_assoc]
theorem flat_okN (p : Nat → Bool) : ∀ els : List D, D.pures els = true → D.okNs p (els.flatMap D.cells) = true
  | [], _ => rfl
  | e :: r, h => by
    rw [D.pures, Bool.and_eq_true] at h
    rw [List.flatMap_cons]
    have h1 : D.okNs p e.cells = true := by
      have := D.okN_pure p e h.1
      cases e
      case agg cs => rw [D.okN] at this; exact this
      all_goals (show D.okNs p [_] = true; rw [D.okNs, this]; rfl)
    have h2 := flat_okN p r h.2
    rw [okNs_append, h1, h2]; rfl
@[simp high] theorem rowP_okN (p : Nat → Bool) (l : LV) : D.okNs p ((l.map encP).flatMap D.cells) = true := flat_okN p _ (by simp [D.pures_map, D.pure])
@[simp high] theorem rowP_ren (σ : Nat → Nat) (l : LV) : (l.map encP).map (D.ren σ) = l.map encP := by rw [← D.rens_map]; exact D.rens_pure σ _ (by simp [D.pures_map, D.pure])
@[simp high] theorem rowP_renc (σ : Nat → Nat) (l : LV) : l.map (D.ren σ ∘ encP) = l.map encP := by rw [← List.map_map]; exact rowP_ren σ l
@[simp high] theorem rowL_okN (p : Nat → Bool) (l : List LV) : D.okNs p ((l.map encL).flatMap D.cells) = true := flat_okN p _ (by simp [D.pures_map, D.pure])
@[simp high] theorem rowL_ren (σ : Nat → Nat) (l : List LV) : (l.map encL).map (D.ren σ) = l.map encL := by rw [← D.rens_map]; exact D.rens_pure σ _ (by simp [D.pures_map, D.pure])
@[simp high] theorem rowL_renc (σ : Nat → Nat) (l : List LV) : l.map (D.ren σ ∘ encL) = l.map encL := by rw [← List.map_map]; exact rowL_ren σ l
@[simp high] theorem rowT_okN (p : Nat → Bool) (l : List T) : D.okNs p ((l.map encT).flatMap D.cells) = true := flat_okN p _ (by simp [D.pures_map, D.pure])
@[simp high] theorem rowT_ren (σ : Nat → Nat) (l : List T) : (l.map encT).map (D.ren σ) = l.map encT := by rw [← D.rens_map]; exact D.rens_pure σ _ (by simp [D.pures_map, D.pure])
@[simp high] theorem rowT_renc (σ : Nat → Nat) (l : List T) : l.map (D.ren σ ∘ encT) = l.map encT := by rw [← List.map_map]; exact rowT_ren σ l
@[simp high] theorem rowI_okN (p : Nat → Bool) (l : List Int) : D.okNs p ((l.map (.int .i64)).flatMap D.cells) = true := flat_okN p _ (by simp [D.pures_map, D.pure])
@[simp high] theorem rowI_ren (σ : Nat → Nat) (l : List Int) : (l.map (.int .i64)).map (D.ren σ) = l.map (.int .i64) := by rw [← D.rens_map]; exact D.rens_pure σ _ (by simp [D.pures_map, D.pure])
@[simp high] theorem rowI_renc (σ : Nat → Nat) (l : List Int) : l.map (D.ren σ ∘ (.int .i64)) = l.map (.int .i64) := by rw [← List.map_map]; exact rowI_ren σ l
/-- in the bounds of an int -/
def I64 (n : Int) : Prop := -9223372036854775808 ≤ n ∧ n ≤ 9223372036854775807
/-- what of a term lies in memory: numbers in bounds, lists not too long -/
def okL (l : LV) : Prop := l.length ≤ LMax ∧ ∀ p, p ∈ l → I64 p.1 ∧ I64 p.2
inductive okT : T → Prop where
  | mk {k n a : Int} {ls : List LV} {ks : List T} (hk : I64 k) (hn : I64 n) (ha : I64 a) (hl : ls.length ≤ LMax) (hls : ∀ l, l ∈ ls → okL l) (hks : ks.length ≤ LMax) (h : ∀ t, t ∈ ks → okT t) : okT (.mk k n a ls ks)
theorem okT.k {t : T} (h : okT t) : I64 t.k := by cases h; assumption
theorem okT.n {t : T} (h : okT t) : I64 t.n := by cases h; assumption
theorem okT.a {t : T} (h : okT t) : I64 t.a := by cases h; assumption
theorem okT.ll {t : T} (h : okT t) : t.ls.length ≤ LMax := by cases h; assumption
theorem okT.ls {t : T} (h : okT t) : ∀ l, l ∈ t.ls → okL l := by cases h; assumption
theorem okT.kl {t : T} (h : okT t) : t.ks.length ≤ LMax := by cases h; assumption
theorem okT.ks {t : T} (h : okT t) : ∀ x, x ∈ t.ks → okT x := by cases h; assumption
end Go.Proofs.YtgloldepdhgfaaaDoor
namespace Go.Proofs.YtgloldepdhgfaaaDoor
set_option linter.unusedSimpArgs false
set_option linter.unusedVariables false
open Go.RowKit
/-- what a kind has: Num, At, levels, kids, the kid below its binder -/
def kindRowsD : List (Bool × Bool × Int × Int × Int) := [(false, false, 0, 0, 0), (true, false, 0, 0, -1), (false, false, 1, 0, -1), (true, false, -1, 0, -1), (false, false, 0, 2, 1), (false, false, 0, 2, 1), (false, false, 0, 2, -1),
  (false, false, 0, 3, 2), (true, true, -1, 0, -1), (true, true, -1, 0, -1), (true, true, -1, 0, -1), (false, true, 0, 0, -1), (false, false, 0, 2, 1), (false, false, 0, 2, -1), (false, false, 0, 1, -1), (false, false, 0, 1, -1),
  (false, false, 0, 2, 1), (false, false, 0, 2, -1), (false, false, 0, 5, 1), (false, false, 0, 3, -1), (false, false, 0, 0, -1), (false, false, 0, 6, -1), (true, false, 0, 0, -1), (true, true, 0, 0, -1), (false, true, 0, 2, -1)]
def kindCellsD : List D := kindRowsD.flatMap fun r => [.bool r.1, .bool r.2.1, .int .i64 r.2.2.1, .int .i64 r.2.2.2.1, .int .i64 r.2.2.2.2]
def kindAt (k : Int) : Bool × Bool × Int × Int × Int := kindRowsD.getD k.toNat (false, false, 0, 0, 0)
def glob : Nat → Option D := fun g => if g = 0 then some (.agg kindCellsD) else none
theorem globPure : ∀ g d, glob g = some d → d.pure = true := fun g d h => by
  unfold glob at h
  split at h
  · cases h; rfl
  · cases h
@[simp] theorem glob_kinds : glob 0 = some (.agg kindCellsD) := rfl
theorem kind_part : ∀ k : Nat, k < 25 → partD (tyOf 149) kindCellsD (k * 5) = some (.agg [.bool (kindAt k).1, .bool (kindAt k).2.1, .int .i64 (kindAt k).2.2.1, .int .i64 (kindAt k).2.2.2.1, .int .i64 (kindAt k).2.2.2.2])
  | 0, _ => by kernel_rfl
  | 1, _ => by kernel_rfl
  | 2, _ => by kernel_rfl
  | 3, _ => by kernel_rfl
  | 4, _ => by kernel_rfl
  | 5, _ => by kernel_rfl
  | 6, _ => by kernel_rfl
  | 7, _ => by kernel_rfl
  | 8, _ => by kernel_rfl
  | 9, _ => by kernel_rfl
  | 10, _ => by kernel_rfl
  | 11, _ => by kernel_rfl
  | 12, _ => by kernel_rfl
  | 13, _ => by kernel_rfl
  | 14, _ => by kernel_rfl
  | 15, _ => by kernel_rfl
  | 16, _ => by kernel_rfl
  | 17, _ => by kernel_rfl
  | 18, _ => by kernel_rfl
  | 19, _ => by kernel_rfl
  | 20, _ => by kernel_rfl
  | 21, _ => by kernel_rfl
  | 22, _ => by kernel_rfl
  | 23, _ => by kernel_rfl
  | 24, _ => by kernel_rfl
  | n + 25, h => absurd h (by omega)
theorem enters (f : FuncId) (fn : Func) (hf : Tryd.prog.funcs[f]? = some fn) (hb : fn.body.isSome = true) (hn : fn.name ≠ "runtime.NumGoroutine") (vs : Array Value) (w : World) : (callFunc f vs).run Tryd.prog w = .ok (.enter f vs) w := by
  simp [callFunc, hf, hn]
  cases hq : fn.body with
  | none => rw [hq] at hb; cases hb
  | some c => simp
/-- calls, their closed facts by the same words each time -/
theorem cXp {f : FuncId} {args args' : List D} {out : Out} (h : Spec Tryd.prog glob f args [] (fun o _ => o.fgt = out)) {hl : List HO} {K : Out → List HO → Prop} (hK : K out hl) (ha : D.fgts args' = args := by simp [D.fgts, D.fgt]) (hp : D.pures args = true := by simp [D.pures, D.pure, Cp.free, D.pures_map]) (ho : out.pure = true := by simp [Out.pure, D.pure, D.pures, Cp.free, D.pures_map]) : CallX Tryd.prog glob f args' hl K := CallX.pure globPure h hK ha hp ho
theorem cYp {f : FuncId} {args args' : List D} {out : Out} (h : Spec Tryd.prog glob f args [] (fun o _ => o.fgt = out)) {hl : List HO} {K : Out → List Nat → List (Nat × HO) → Prop} (hK : K out [] []) (ha : D.fgts args' = args := by simp [D.fgts, D.fgt]) (hp : D.pures args = true := by simp [D.pures, D.pure, Cp.free, D.pures_map]) (ho : out.pure = true := by simp [Out.pure, D.pure, D.pures, Cp.free, D.pures_map]) : CallY Tryd.prog glob f args' hl K := CallY.pure globPure h hK ha hp ho
theorem cXo {f : FuncId} {args args' : List D} {objs : List HO} {Post : Out → List HO → Prop} {hl : List HO} {K : Out → List HO → Prop} (σl : List Nat) (fa : Bool) (h : Spec Tryd.prog glob f args objs Post)
    (hK : ∀ out hc, Post out hc → ∃ fr : Bool, K ((told fr out).ren (renO σl hl.length)) (updS hl (upO σl hl.length hc)))
    (hk : ∀ out hc, Post out hc → σl.length ≤ hc.length := by rintro o hc ⟨_, rfl⟩; simp) (hnd : σl.Nodup := by decide) (hlt : (σl.all fun i => decide (i < hl.length)) = true := by simp) (hobj : σl.map (fun i => (hOf hl i).ren (renA σl)) = objs := by simp [D.ren, D.rens, D.okN, D.okNs, Cp.ren, Cp.okN, HO.ren, HO.okN, okA, renA, renO, hOf, handed, D.fgt, D.fgts, List.range_succ, List.idxOf_cons]) (hok : (σl.all fun i => (hOf hl i).okN (okA σl)) = true := by simp [D.ren, D.rens, D.okN, D.okNs, Cp.ren, Cp.okN, HO.ren, HO.okN, okA, renA, renO, hOf, handed, D.fgt, D.fgts, List.range_succ, List.idxOf_cons])
    (ha : D.rens (renA σl) (handed fa args') = args := by simp [D.ren, D.rens, D.okN, D.okNs, Cp.ren, Cp.okN, HO.ren, HO.okN, okA, renA, renO, hOf, handed, D.fgt, D.fgts, List.range_succ, List.idxOf_cons]) (hoka : D.okNs (okA σl) (handed fa args') = true := by simp [D.ren, D.rens, D.okN, D.okNs, Cp.ren, Cp.okN, HO.ren, HO.okN, okA, renA, renO, hOf, handed, D.fgt, D.fgts, List.range_succ, List.idxOf_cons]) : CallX Tryd.prog glob f args' hl K := CallX.objs globPure σl fa h hK hk hnd hlt hobj hok ha hoka
theorem cYo {f : FuncId} {args args' : List D} {objs : List HO} {Post : Out → List HO → Prop} {hl : List HO} {K : Out → List Nat → List (Nat × HO) → Prop} (σl : List Nat) (fa fr : Bool) {out : Out} {hc : List HO} (h : Spec Tryd.prog glob f args objs Post)
    (hP : ∀ o h', Post o h' → told fr o = out ∧ h' = hc) (hK : K (out.ren (renO σl hl.length)) (rdO σl hl.length hc) (upO σl hl.length hc))
    (hk : σl.length ≤ hc.length := by simp) (hnd : σl.Nodup := by decide) (hlt : (σl.all fun i => decide (i < hl.length)) = true := by simp) (hobj : σl.map (fun i => (hOf hl i).ren (renA σl)) = objs := by simp [D.ren, D.rens, D.okN, D.okNs, Cp.ren, Cp.okN, HO.ren, HO.okN, okA, renA, renO, hOf, handed, D.fgt, D.fgts, List.range_succ, List.idxOf_cons]) (hok : (σl.all fun i => (hOf hl i).okN (okA σl)) = true := by simp [D.ren, D.rens, D.okN, D.okNs, Cp.ren, Cp.okN, HO.ren, HO.okN, okA, renA, renO, hOf, handed, D.fgt, D.fgts, List.range_succ, List.idxOf_cons])
    (ha : D.rens (renA σl) (handed fa args') = args := by simp [D.ren, D.rens, D.okN, D.okNs, Cp.ren, Cp.okN, HO.ren, HO.okN, okA, renA, renO, hOf, handed, D.fgt, D.fgts, List.range_succ, List.idxOf_cons]) (hoka : D.okNs (okA σl) (handed fa args') = true := by simp [D.ren, D.rens, D.okN, D.okNs, Cp.ren, Cp.okN, HO.ren, HO.okN, okA, renA, renO, hOf, handed, D.fgt, D.fgts, List.range_succ, List.idxOf_cons]) : CallY Tryd.prog glob f args' hl K := CallY.objs globPure σl fa fr h hP hK hk hnd hlt hobj hok ha hoka
end Go.Proofs.YtgloldepdhgfaaaDoor
namespace Go.Proofs.YtgloldepdhgfaaaDoor
set_option linter.unusedSimpArgs false
set_option linter.unusedVariables false
open Go.RowKit
section
variable {P : Program} {G : Nat → Option D} {M : Nat} {Q : DQ} {tl tl' : List D} {hl : List HO} {df : Df}
/-- leT, not looked into -/
structure LeT (l m : List D) : Prop where
  h : leT l m
theorem LeT.refl (l : List D) : LeT l l := ⟨leT_refl l⟩
theorem wpD_weakL {c : Code} (h : LeT tl tl') (hw : wpD P G M c Q tl hl df) : wpD P G M c Q tl' hl df := wpD_weak h.h hw
/-- a temporary's right to grow is forgotten -/
theorem wpD_fgtT {c : Code} (t : Nat) (h : wpD P G M c Q (tl.modify t D.fgt) hl df) : wpD P G M c Q tl hl df := fun ρ0 w0 H0 ρ w a hbs hst => by
  have hlen : (tl.modify t D.fgt).length = tl.length := List.length_modify ..
  have := h ρ0 w0 H0 ρ w a hbs ⟨hst.rel, hst.ex, fun k => by
    have hk := hst.tmp k
    have e : tmOf (tl.modify t D.fgt) k = if t = k then (tmOf tl k).fgt else tmOf tl k := by
      unfold tmOf
      rw [List.getD_eq_getElem?_getD, List.getD_eq_getElem?_getD, List.getElem?_modify]
      split
      · cases tl[k]? <;> rfl
      · simp
    rw [e]
    split
    · exact Rp_fgt _ _ hk
    · exact hk, hst.size.trans hlen.symm, hst.df⟩
  rw [hlen] at this
  exact this
/-- behind a statement whose ends are many: ds: what is still known of the temporaries W -/
theorem wpD_seqf {x y : Code} (W : List Nat) (ds : List D) (hl1 : List HO) (h1 : wpD P G M y Q (putAll tl W ds) hl1 df)
    (h2 : ∀ K : List D → List HO → Df → Prop, (∀ tl', leT (putAll tl W ds) tl' → K tl' hl1 df) → wpD P G M x (thenD K Q) tl hl df) : wpD P G M (.seq x y) Q tl hl df :=
  wpD_seqk fun K hK => h2 K fun tl' h => hK _ _ _ (wpD_weak h h1)
/-- the same; its ends may have their objects under other names -/
theorem wpD_seqm (hG : ∀ g d, G g = some d → d.pure = true) {x y : Code} (W : List Nat) (ds : List D) (hl1 : List HO) (h1 : wpD P G M y Q (putAll tl W ds) hl1 [])
    (h2 : ∀ K : List D → List HO → Df → Prop, (∀ tl', leT (putAll tl W ds) tl' → K tl' hl1 []) →
      (∀ (κ : List Nat) tl' hl', κ.Nodup → (κ.all fun i => decide (M ≤ i)) = true → leT (putAll tl W ds) (movT M κ tl') → movH M κ hl' = hl1 → K tl' hl' []) → wpD P G M x (thenD K Q) tl hl []) : wpD P G M (.seq x y) Q tl hl [] :=
  wpD_seqk fun K hK => h2 K (fun tl' h => hK _ _ _ (wpD_weak h h1)) fun κ tl' hl' hnd hge h hh => hK _ _ _ (wpD_mov κ hG hnd hge rfl (by
    rw [hh]; exact wpD_weak h h1))
theorem mov_junk (m : Nat) (κ : List Nat) : D.mov m κ .junk = .junk := by unfold D.mov; split <;> rfl
theorem wpD_loopWJ {c : Code} (J S : List Nat) (I : Nat → List D → List HO → Prop) (n0 : Nat) (h0 : tl = putAll tl (J ++ S) (getW (J ++ S) tl)) (hI : I n0 (getW S tl) hl)
    (hr : ∀ n ds hl' (A : List D → List HO → Df → Prop), (∀ m tl3 tl2 hl2, LeT tl3 tl2 → m < n → tl3 = putAll tl (J ++ S) (getW (J ++ S) tl3) → I m (getW S tl3) hl2 → A tl2 hl2 df) → I n ds hl' →
      wpD P G M c (thenD A Q) (putAll tl (J ++ S) (J.map (fun _ => .junk) ++ ds)) hl' df) : wpD P G M (.loop c) Q tl hl df := by
  refine wpD_loop (fun n tl2 hl2 df2 => df2 = df ∧ ∃ ds, leT (putAll tl (J ++ S) (J.map (fun _ => .junk) ++ ds)) tl2 ∧ I n ds hl2) n0 ⟨rfl, _, leT_shape h0, hI⟩ ?_
  rintro n tl' hl' df' - ⟨rfl, ds, hle, hIn⟩
  exact wpD_weak hle (hr n ds hl' _ (fun m tl3 tl2 hl2 k h1 h2 h3 => ⟨m, h1, rfl, _, leT_trans (leT_shape h2) k.h, h3⟩) hIn)
theorem wpD_loopMJ {c : Code} (hG : ∀ g d, G g = some d → d.pure = true) (J S : List Nat) (I : Nat → List D → List HO → Prop) (n0 : Nat) (h0 : tl = putAll tl (J ++ S) (getW (J ++ S) tl)) (hI : I n0 (getW S tl) hl)
    (hr : ∀ n ds hl' (A : List D → List HO → Df → Prop), (∀ k tl3 tl2 hl2, LeT tl3 tl2 → k < n → tl3 = putAll tl (J ++ S) (getW (J ++ S) tl3) → I k (getW S tl3) hl2 → A tl2 hl2 []) →
      (∀ (κ : List Nat) k tl3 tl2 hl2, LeT tl3 tl2 → κ.Nodup → (κ.all fun i => decide (M ≤ i)) = true → k < n → movT M κ tl3 = putAll tl (J ++ S) (getW (J ++ S) (movT M κ tl3)) → I k (getW S (movT M κ tl3)) (movH M κ hl2) → A tl2 hl2 []) → I n ds hl' →
      wpD P G M c (thenD A Q) (putAll tl (J ++ S) (J.map (fun _ => .junk) ++ ds)) hl' []) : wpD P G M (.loop c) Q tl hl [] := by
  refine wpD_loopG hG (fun n tl2 hl2 => ∃ ds, leT (putAll tl (J ++ S) (J.map (fun _ => .junk) ++ ds)) tl2 ∧ I n ds hl2) n0 ⟨_, leT_shape h0, hI⟩ ?_
  rintro n tl' hl' A - hA hA2 ⟨ds, hle, hIn⟩
  exact wpD_weak hle (hr n ds hl' _ (fun m tl3 tl2 hl2 k h1 h2 h3 => hA m tl2 hl2 h1 ⟨_, leT_trans (leT_shape h2) k.h, h3⟩)
    (fun κ m tl3 tl2 hl2 k k1 k2 h1 h2 h3 => hA2 κ m tl2 hl2 k1 k2 h1 ⟨_, leT_trans (leT_shape h2) (leT_map (mov_junk M κ) k.h), h3⟩) hIn)
theorem wpD_rangeJ {T : TypeId → Ty} (hT : ∀ t, TyOK P t (T t)) (hG : ∀ g d, G g = some d → d.pure = true) {b0 b1 r1 r2 : Nat} {ops1 ops2 : Array Oper} {o1 o2 o3 : Oper} {body : Code} {ti tk tn td ts : Nat} (J S : List Nat) (n : Nat) (I : Nat → List D → List HO → Prop)
    (h1 : ops1.toList = [o1]) (e1 : o1.op = .binOp .lss ti (.tmp tk) (.tmp tn) ti) (g1 : o1.guard = none) (d1 : o1.dst = some td) (h2 : ops2.toList = [o2, o3]) (e2 : o2.op = .binOp .add ti (.tmp tk) (.const (.int .i64 1)) ti) (g2 : o2.guard = none) (d2 : o2.dst = some ts)
    (e3 : o3.op = .move (.tmp ts)) (g3 : o3.guard = none) (d3 : o3.dst = some tk) (hti : (T ti).k = .int .i64) (hlen : tk < tl.length ∧ td < tl.length ∧ ts < tl.length) (hne : td ≠ tk ∧ td ≠ tn ∧ ts ≠ tk ∧ ts ≠ tn ∧ tk ≠ tn) (hn : tl.getD tn .junk = .int .i64 n) (hnl : n ≤ LMax) (hk0 : tl.getD tk .junk = .int .i64 0)
    (hw : tl = (putAll tl (J ++ S) (getW (J ++ S) tl)).set tk (.int .i64 0)) (htn : ¬ tn ∈ J ++ S)
    (hI : I 0 (getW S tl) hl)
    (hr : ∀ k ds hl' (A : List D → List HO → Df → Prop), k < n → I k ds hl' →
      (∀ tl3 tl2 hl2, LeT tl3 tl2 → (tl3.set ts (.int .i64 (k + 1))).set tk (.int .i64 (k + 1)) = (putAll tl (J ++ S) (getW (J ++ S) ((tl3.set ts (.int .i64 (k + 1))).set tk (.int .i64 (k + 1))))).set tk (.int .i64 (k + 1)) → I (k + 1) (getW S ((tl3.set ts (.int .i64 (k + 1))).set tk (.int .i64 (k + 1)))) hl2 → tl3.getD tk .junk = .int .i64 k → A tl2 hl2 []) →
      (∀ (κ : List Nat) tl3 tl2 hl2, LeT tl3 tl2 → κ.Nodup → (κ.all fun i => decide (M ≤ i)) = true → movT M κ ((tl3.set ts (.int .i64 (k + 1))).set tk (.int .i64 (k + 1))) = (putAll tl (J ++ S) (getW (J ++ S) (movT M κ ((tl3.set ts (.int .i64 (k + 1))).set tk (.int .i64 (k + 1)))))).set tk (.int .i64 (k + 1)) →
        I (k + 1) (getW S (movT M κ ((tl3.set ts (.int .i64 (k + 1))).set tk (.int .i64 (k + 1))))) (movH M κ hl2) → tl3.getD tk .junk = .int .i64 k → A tl2 hl2 []) →
      wpD P G M body (blockD b1 (thenD A (blockD b0 Q))) (((putAll tl (J ++ S) (J.map (fun _ => .junk) ++ ds)).set tk (.int .i64 k)).set td (.bool true)) hl' [])
    (he : ∀ ds hl' tl', I n ds hl' → LeT (((putAll tl (J ++ S) (J.map (fun _ => .junk) ++ ds)).set tk (.int .i64 n)).set td (.bool false)) tl' → Q .nrm tl' hl' []) :
    wpD P G M (.block b0 (.loop (.seq (.region r1 ops1 false) (.seq (.cond (.tmp td) .skip (.exit b0)) (.seq (.block b1 body) (.region r2 ops2 false)))))) Q tl hl [] := by
  refine wpD_rangeA hT hG (J ++ S) n (fun k ys hl => ∃ js ds, ys = js ++ ds ∧ js.length = J.length ∧ I k ds hl) h1 e1 g1 d1 h2 e2 g2 d2 e3 g3 d3 hti hlen hne hn hnl hk0 hw htn ⟨_, _, getW_app .., getW_len .., hI⟩ ?_ ?_
  · rintro k ys hl' A hk ⟨js, ds, rfl, hj, hIn⟩ hA hA2 hAm
    refine wpD_weak (leT_set2 _ _ (leT_set2 _ _ (leT_pp J S js ds hj (leT_refl _)))) (hr k ds hl' A hk hIn (fun tl3 tl2 hl2 h0 h1 h2 h3 => hAm _ _ _ h0.h (hA tl3 hl2 h1 ⟨_, _, getW_app .., getW_len .., h2⟩ h3))
      (fun κ tl3 tl2 hl2 h0 k1 k2 h1 h2 h3 => hAm _ _ _ h0.h (hA2 κ tl3 hl2 k1 k2 h1 ⟨_, _, getW_app .., getW_len .., h2⟩ h3)))
  · rintro ys hl' ⟨js, ds, rfl, hj, hIn⟩
    exact he ds hl' _ hIn ⟨leT_set2 _ _ (leT_set2 _ _ (leT_pp J S js ds hj (leT_refl _)))⟩
/-! in the midst of a statement an empty slice becomes the call's own row -/
variable {T : TypeId → Ty}
end
end Go.Proofs.YtgloldepdhgfaaaDoor
namespace Go.Proofs.YtgloldepdhgfaaaDoor
set_option linter.unusedSimpArgs false
set_option linter.unusedVariables false
set_option maxHeartbeats 10000000
set_option maxRecDepth 20000
open Go.RowKit
attribute [local simp] wpAft_ret wpAft_pan wantD evOp opD tmOf putS updS setS hOf isFree isTok fillD TK.isAgg TK.known partD thenD blockD putAll D.ofV inB nilTest isNilS binX binD binE isCst bndD capB IntKind.min IntKind.max IntKind.signed IntKind.bits dstOf late
end Go.Proofs.YtgloldepdhgfaaaDoor
namespace Go.Proofs.YtgloldepdhgfaaaDoor
set_option linter.unusedSimpArgs false
set_option linter.unusedVariables false
set_option maxHeartbeats 10000000
set_option maxRecDepth 20000
open Go.RowKit
attribute [local simp] wpAft_ret wpAft_pan wantD evOp opD tmOf putS updS setS hOf isFree isTok fillD TK.isAgg TK.known partD thenD blockD putAll D.ofV inB nilTest isNilS binX binD binE isCst bndD capB IntKind.min IntKind.max IntKind.signed IntKind.bits dstOf late
def bindsB (k : Int) (kid : Int) : Bool := decide (0 < k) && decide (k < 25) && decide (0 ≤ kid) && decide ((kindAt k).2.2.2.2 = kid)
end Go.Proofs.YtgloldepdhgfaaaDoor
namespace Go.Proofs.YtgloldepdhgfaaaDoor
set_option linter.unusedSimpArgs false
set_option linter.unusedVariables false
set_option maxHeartbeats 10000000
set_option maxRecDepth 20000
open Go.RowKit
attribute [local simp] wpAft_ret wpAft_pan wantD evOp opD tmOf putS updS setS hOf isFree isTok fillD TK.isAgg TK.known partD thenD blockD putAll D.ofV inB nilTest isNilS binX binD binE isCst bndD capB IntKind.min IntKind.max IntKind.signed IntKind.bits dstOf late
def belowD (d k : Int) (i : Int) : Int := if bindsB k i then IntKind.i64.wrap (d + 1) else d
end Go.Proofs.YtgloldepdhgfaaaDoor
namespace Go.Proofs.YtgloldepdhgfaaaDoor
set_option linter.unusedSimpArgs false
set_option linter.unusedVariables false
set_option maxHeartbeats 10000000
set_option maxRecDepth 20000
open Go.RowKit
attribute [local simp] wpAft_ret wpAft_pan wantD evOp opD tmOf putS updS setS hOf isFree isTok fillD TK.isAgg TK.known partD thenD blockD putAll D.ofV inB nilTest isNilS binX binD binE isCst bndD capB IntKind.min IntKind.max IntKind.signed IntKind.bits dstOf late
/-- of a node: what it is at once; or its new number and levels -/
abbrev Turn := Int → T → Sum T (Int × List LV)
mutual
def T.walk (turn : Turn) : T → Int → T
  | .mk k n a ls ks, d => match turn d (.mk k n a ls ks) with
    | .inl u => u
    | .inr x => .mk k x.1 a x.2 (T.walks turn k ks 0 d)
def T.walks (turn : Turn) (k : Int) : List T → Nat → Int → List T
  | [], _, _ => []
  | t :: r, i, d => T.walk turn t (belowD d k i) :: T.walks turn k r (i + 1) d
end
mutual
/-- how deep a term is -/
def T.deep : T → Nat
  | .mk _ _ _ _ ks => 1 + T.deeps ks
def T.deeps : List T → Nat
  | [] => 0
  | t :: r => max (T.deep t) (T.deeps r)
end
theorem T.deep_mem {t : T} {ks : List T} (h : t ∈ ks) : t.deep ≤ T.deeps ks := by
  induction ks with
  | nil => cases h
  | cons x r ih =>
    rw [T.deeps]
    cases h with
    | head => omega
    | tail _ hm => have := ih hm; omega
theorem T.deep_kid {t : T} {k n a : Int} {ls : List LV} {ks : List T} (h : t ∈ ks) : t.deep + 1 ≤ (T.mk k n a ls ks).deep := by
  have := T.deep_mem h
  rw [T.deep]; omega
def DM : Nat := 1099511627776
/-- so many binders, and those within, are not too many -/
def Fits (d : Int) (t : T) : Prop := 0 ≤ d ∧ d + t.deep ≤ DM
theorem Fits.kid {d k n a : Int} {ls : List LV} {ks : List T} (h : Fits d (.mk k n a ls ks)) {t : T} (ht : t ∈ ks) (i : Int) : Fits (belowD d k i) t := by
  have h1 := T.deep_kid (k := k) (n := n) (a := a) (ls := ls) ht
  obtain ⟨h2, h3⟩ := h
  unfold DM at h3
  unfold Fits belowD DM
  split
  · rw [i64w (by omega) (by omega)]; omega
  · omega
end Go.Proofs.YtgloldepdhgfaaaDoor
namespace Go.Proofs.YtgloldepdhgfaaaDoor
set_option linter.unusedSimpArgs false
set_option linter.unusedVariables false
set_option maxHeartbeats 10000000
set_option maxRecDepth 20000
open Go.RowKit
attribute [local simp] wpAft_ret wpAft_pan wantD evOp opD tmOf putS updS setS hOf isFree isTok fillD TK.isAgg TK.known partD thenD blockD putAll D.ofV inB nilTest isNilS binX binD binE isCst bndD capB IntKind.min IntKind.max IntKind.signed IntKind.bits dstOf late
def liftNum (n fr d k m : Int) : Int := if k = 1 ∧ d ≤ m ∧ fr ≤ IntKind.i64.wrap (m - d) then IntKind.i64.wrap (m + n) else m
def liftTurn (n fr : Int) : Turn := fun d t => .inr (liftNum n fr d t.k t.n, t.ls)
def T.lift (t : T) (n fr d : Int) : T := T.walk (liftTurn n fr) t d
end Go.Proofs.YtgloldepdhgfaaaDoor
namespace Go.Proofs.YtgloldepdhgfaaaDoor
set_option linter.unusedSimpArgs false
set_option linter.unusedVariables false
set_option maxHeartbeats 10000000
set_option maxRecDepth 20000
open Go.RowKit
attribute [local simp] wpAft_ret wpAft_pan wantD evOp opD tmOf putS updS setS hOf isFree isTok fillD TK.isAgg TK.known partD thenD blockD putAll D.ofV inB nilTest isNilS binX binD binE isCst bndD capB IntKind.min IntKind.max IntKind.signed IntKind.bits dstOf late
def putTurn (bys : List T) : Turn := fun d t =>
  if t.k = 1 ∧ d ≤ t.n then
    if h : (t.n - d).toNat < bys.length then .inl ((bys[bys.length - 1 - (t.n - d).toNat]'(by omega)).lift d 0 0) else .inr (IntKind.i64.wrap (t.n - bys.length), t.ls)
  else .inr (t.n, t.ls)
def T.put (t : T) (bys : List T) (d : Int) : T := T.walk (putTurn bys) t d
end Go.Proofs.YtgloldepdhgfaaaDoor
namespace Go.Proofs.YtgloldepdhgfaaaDoor
set_option linter.unusedSimpArgs false
set_option linter.unusedVariables false
set_option maxHeartbeats 10000000
set_option maxRecDepth 20000
open Go.RowKit
attribute [local simp] wpAft_ret wpAft_pan wantD evOp opD tmOf putS updS setS hOf isFree isTok fillD TK.isAgg TK.known partD thenD blockD putAll D.ofV inB nilTest isNilS binX binD binE isCst bndD capB IntKind.min IntKind.max IntKind.signed IntKind.bits dstOf late
mutual
/-- how many nodes, counted as the machine counts -/
def T.sz : T → Int
  | .mk _ _ _ _ ks => T.szs ks 1
def T.szs : List T → Int → Int
  | [], n => n
  | t :: r, n => T.szs r (IntKind.i64.wrap (n + T.sz t))
end
end Go.Proofs.YtgloldepdhgfaaaDoor
namespace Go.Proofs.YtgloldepdhgfaaaDoor
set_option linter.unusedSimpArgs false
set_option linter.unusedVariables false
set_option maxHeartbeats 10000000
set_option maxRecDepth 20000
open Go.RowKit
attribute [local simp] wpAft_ret wpAft_pan wantD evOp opD tmOf putS updS setS hOf isFree isTok fillD TK.isAgg TK.known partD thenD blockD putAll D.ofV inB nilTest isNilS binX binD binE isCst bndD capB IntKind.min IntKind.max IntKind.signed IntKind.bits dstOf late
def hitB (fr to k n d : Int) : Bool := decide (k = 1) && decide (d ≤ n) && decide (fr ≤ IntKind.i64.wrap (n - d)) && decide (IntKind.i64.wrap (n - d) < to)
mutual
def T.freeB (fr to : Int) : T → Int → Bool
  | .mk k n _ _ ks, d => hitB fr to k n d || T.freesB fr to k ks 0 d
def T.freesB (fr to k : Int) : List T → Nat → Int → Bool
  | [], _, _ => false
  | t :: r, i, d => T.freeB fr to t (belowD d k i) || T.freesB fr to k r (i + 1) d
end
end Go.Proofs.YtgloldepdhgfaaaDoor
namespace Go.Proofs.YtgloldepdhgfaaaDoor
set_option linter.unusedSimpArgs false
set_option linter.unusedVariables false
set_option maxHeartbeats 10000000
set_option maxRecDepth 20000
open Go.RowKit
attribute [local simp] wpAft_ret wpAft_pan wantD evOp opD tmOf putS updS setS hOf isFree isTok fillD TK.isAgg TK.known partD thenD blockD putAll D.ofV inB nilTest isNilS binX binD binE isCst bndD capB IntKind.min IntKind.max IntKind.signed IntKind.bits dstOf late
abbrev MP := List (Int × Int)
def encE (p : Int × Int) : D × D := (.int .i64 p.1, .int .i64 p.2)
def encM (m : MP) : List (D × D) := m.map encE
def findM (m : MP) (v : Int) : Option Int := (m.find? fun p => decide (v = p.1)).map (·.2)
def updM (v x : Int) : MP → MP
  | [] => []
  | p :: r => if v = p.1 then (p.1, x) :: r else p :: updM v x r
/-- a part put into a row -/
def putM (m : MP) (p : Int × Int) : MP := match findM m p.1 with
  | some k => updM p.1 (max k p.2) m
  | none => m ++ [(p.1, max 0 p.2)]
def badP (p : Int × Int) : Bool := decide (p.1 < 0) || decide (p.2 < 0) || decide (1048576 < p.1) || decide (1048576 < p.2)
/-- what a row at work is: each variable once, all within bounds -/
structure MOK (m : MP) : Prop where
  nd : (m.map (·.1)).Nodup
  v : ∀ p, p ∈ m → 0 ≤ p.1 ∧ p.1 ≤ 1048576
  n : ∀ p, p ∈ m → 0 ≤ p.2 ∧ p.2 ≤ 1048576
theorem nodup_bound : ∀ (k : Nat) (l : List Int), l.Nodup → (∀ x, x ∈ l → 0 ≤ x ∧ x < k) → l.length ≤ k
  | 0, l, _, h => by
    cases l with
    | nil => simp
    | cons x r => have := h x (List.mem_cons_self ..); omega
  | k + 1, l, hn, h => by
    by_cases hk : (k : Int) ∈ l
    · have h1 := nodup_bound k (l.erase (k : Int)) (hn.erase _) (fun x hx => by
        rw [hn.mem_erase_iff] at hx
        have := h x hx.2
        have := hx.1
        omega)
      rw [List.length_erase_of_mem hk] at h1
      have := List.length_pos_of_mem hk
      omega
    · have h1 := nodup_bound k l hn (fun x hx => by
        have := h x hx
        have : x ≠ (k : Int) := fun e => hk (e ▸ hx)
        omega)
      omega
theorem MOK.len {m : MP} (h : MOK m) : m.length ≤ 1048577 := by
  have := nodup_bound 1048577 (m.map (·.1)) h.nd (fun x hx => by
    obtain ⟨p, hp, rfl⟩ := List.mem_map.1 hx
    have := h.v p hp
    omega)
  simpa using this
theorem MOK.nil : MOK [] := ⟨by simp, (fun p h => by cases h), (fun p h => by cases h)⟩
def anyBad (l : List (Int × Int)) : Bool := l.any badP
@[simp high] theorem encM_okN1 (p : Nat → Bool) (m : MP) : D.okNs p ((encM m).map (·.1)) = true := by
  induction m with
  | nil => rfl
  | cons x r ih => simp only [encM, List.map_cons, D.okNs, encE, D.okN] at ih ⊢; simpa using ih
@[simp high] theorem encM_okN2 (p : Nat → Bool) (m : MP) : D.okNs p ((encM m).map (·.2)) = true := by
  induction m with
  | nil => rfl
  | cons x r ih => simp only [encM, List.map_cons, D.okNs, encE, D.okN] at ih ⊢; simpa using ih
@[simp high] theorem encM_ren (σ : Nat → Nat) (m : MP) : (encM m).map (fun e => (D.ren σ e.1, D.ren σ e.2)) = encM m := by
  induction m with
  | nil => rfl
  | cons x r ih => simp only [encM, List.map_cons, encE, D.ren] at ih ⊢; rw [ih]
end Go.Proofs.YtgloldepdhgfaaaDoor
namespace Go.Proofs.YtgloldepdhgfaaaDoor
set_option linter.unusedSimpArgs false
set_option linter.unusedVariables false
open Go.RowKit Go.Maps Go.MapKept
open Go.ChangeMaps (setBlock)
section
variable {P : Program} (w : World) {ops : Array Oper} {rest : List Oper} {o : Oper} {a : Act} {Q : Exit → Act → World → Prop}
end
def hiddenM (m : MP) (n : Int) : Bool := m.any fun p => decide (0 < p.1) && decide (n ≤ p.2)
end Go.Proofs.YtgloldepdhgfaaaDoor
namespace Go.Proofs.YtgloldepdhgfaaaDoor
set_option linter.unusedSimpArgs false
set_option linter.unusedVariables false
end Go.Proofs.YtgloldepdhgfaaaDoor
namespace Go.Proofs.YtgloldepdhgfaaaDoor
set_option linter.unusedSimpArgs false
set_option linter.unusedVariables false
open Go.RowKit Go.Maps Go.MapKept Go.Sort Go.Shelf Go.WideAt Go.WideElems Go.WideShapes
def sortK (m : MP) : List Int := (m.map (·.1)).mergeSort fun x y => decide (x ≤ y)
end Go.Proofs.YtgloldepdhgfaaaDoor
namespace Go.Proofs.YtgloldepdhgfaaaDoor
set_option linter.unusedSimpArgs false
set_option linter.unusedVariables false
set_option maxHeartbeats 10000000
set_option maxRecDepth 20000
open Go.RowKit
attribute [local simp] wpAft_ret wpAft_pan wantD evOp opD tmOf putS updS setS hOf isFree isTok fillD TK.isAgg TK.known partD thenD blockD putAll D.ofV inB nilTest isNilS binX binD binE isCst bndD capB IntKind.min IntKind.max IntKind.signed IntKind.bits dstOf late
/-- is a variable's part in the normal form? -/
def keepM (m : MP) (v : Int) : Option (Int × Int) :=
  if 0 < v ∨ (0 < (findM m v).getD 0 ∧ hiddenM m ((findM m v).getD 0) = false) then some (v, (findM m v).getD 0) else none
def levM (m : MP) : LV := (sortK m).filterMap (keepM m)
end Go.Proofs.YtgloldepdhgfaaaDoor
namespace Go.Proofs.YtgloldepdhgfaaaDoor
set_option linter.unusedSimpArgs false
set_option linter.unusedVariables false
set_option maxHeartbeats 10000000
set_option maxRecDepth 20000
open Go.RowKit
attribute [local simp] wpAft_ret wpAft_pan wantD evOp opD tmOf putS updS setS hOf isFree isTok fillD TK.isAgg TK.known partD thenD blockD putAll D.ofV inB nilTest isNilS binX binD binE isCst bndD capB IntKind.min IntKind.max IntKind.signed IntKind.bits dstOf late
def normOf (l : LV) : LV := if anyBad l then [] else levM (l.foldl putM [])
end Go.Proofs.YtgloldepdhgfaaaDoor
namespace Go.Proofs.YtgloldepdhgfaaaDoor
set_option linter.unusedSimpArgs false
set_option linter.unusedVariables false
set_option maxHeartbeats 10000000
set_option maxRecDepth 20000
open Go.RowKit
attribute [local simp] wpAft_ret wpAft_pan wantD evOp opD tmOf putS updS setS hOf isFree isTok fillD TK.isAgg TK.known partD thenD blockD putAll D.ofV inB nilTest isNilS binX binD binE isCst bndD capB IntKind.min IntKind.max IntKind.signed IntKind.bits dstOf late
def idxB {α : Type} (p : α → Bool) : List α → Int → Int
  | [], _ => -1
  | x :: r, i => if p x = true then i else idxB p r (i + 1)
theorem idxB_any {α : Type} (p : α → Bool) : ∀ (l : List α) (i : Int), 0 ≤ i → decide (0 ≤ idxB p l i) = l.any p
  | [], i, h => by simp [idxB]
  | x :: r, i, h => by
    rw [idxB, List.any_cons]
    by_cases hx : p x = true
    · simp [hx, h]
    · rw [if_neg hx, idxB_any p r (i + 1) (by omega)]; simp [hx]
theorem indexFuncP_spec (l : List (Int × Int)) (p : Int × Int → Bool) (g : FuncId) (cap : List D) (hc : D.fgts cap = cap) (hcp : D.pures cap = true) (hl : l.length ≤ LMax)
    (hg : ∀ x, x ∈ l → Spec Tryd.prog glob g (encP x :: cap) [] (fun o _ => o.fgt = .ret (.bool (p x)))) :
    Spec Tryd.prog glob 101 [.slice (l.map encP) .any, .fn (.func g) [] cap] [] (fun o _ => o.fgt = .ret (.int .i64 (idxB p l 0))) := by
  unfold LMax at hl
  refine Spec.movd globPure (wpD_spec tyOK Tryd.func101 rfl (enters _ _ Tryd.func101 rfl (by decide)) rfl rfl ?_)
  (refine wpD_seqk fun K hK => ?_; refine wpD_region tyOK ?_; ((repeat (rw [wpS_cons]; simp)); (try simp only [wpS_nil, thenD, blockD])); refine hK _ _ _ ?_; clear hK K)
  refine wpD_seqk fun K1 hK1 => ?_
  (refine wpD_seqk fun K hK => ?_; refine wpD_region tyOK ?_; ((repeat (rw [wpS_cons]; simp)); (try simp only [wpS_nil, thenD, blockD])); refine hK _ _ _ ?_; clear hK K)
  refine wpD_block ?_
  refine wpD_loopW [4, 5, 8, 9, 10, 11, 12, 13, 14, 15, 16, 17, 18] (fun n ys hl => ∃ (k : Nat) (x4 x5 x9 x10 x11 x12 x13 x14 x15 x16 x17 x18 : D), ys = [x4, x5, .int .i64 k, x9, x10, x11, x12, x13, x14, x15, x16, x17, x18] ∧ n + k = l.length ∧ idxB p l 0 = idxB p (l.drop k) k ∧ hl = []) (l.length) (by kernel_rfl) ?_ ?_
  · exact ⟨0, _, _, _, _, _, _, _, _, _, _, _, _, rfl, rfl, rfl, rfl⟩
  · rintro n ys hl A hA ⟨k, x4, x5, x9, x10, x11, x12, x13, x14, x15, x16, x17, x18, rfl, hn, hi, rfl⟩
    simp only [putAll, List.set]
    (refine wpD_seqk fun K hK => ?_; refine wpD_region tyOK ?_; ((repeat (rw [wpS_cons]; simp)); (try simp only [wpS_nil, thenD, blockD])); refine hK _ _ _ ?_; clear hK K)
    refine wpD_seqk fun K2 hK2 => ?_
    refine wpD_part rfl (fun hk => ?_) (fun hk => ?_)
    · replace hk : k < l.length := by simpa using hk
      refine wpD_skip (hK2 _ _ _ ?_)
      clear hK2 K2
      refine wpD_seqk fun K3 hK3 => ?_
      refine wpD_block ?_
      (refine wpD_seqk fun K hK => ?_; refine wpD_region tyOK ?_; ((repeat (rw [wpS_cons]; simp)); (try simp only [wpS_nil, thenD, blockD])); refine hK _ _ _ ?_; clear hK K)
      (refine wpD_seqk fun K hK => ?_; refine wpD_region tyOK ?_; ((repeat (rw [wpS_cons]; simp [hk, encP])); (try simp only [wpS_nil, thenD, blockD])))
      refine CallX.pure globPure (hg _ (List.getElem_mem hk)) ?_ (by simp [D.fgts, D.fgt, hc, hcp, encP]) (by simp [D.pures, D.pure, Cp.free, D.pures_map, hc, hcp, encP]) (by simp [Out.pure, D.pure, D.pures, Cp.free, D.pures_map, hc, hcp, encP])
      ((try simp only [wpAft_ret, wpAft_pan, putS, updS, setS]); (repeat (rw [wpS_cons]; simp)); (try simp only [wpS_nil, thenD, blockD]))
      (refine hK _ _ _ ?_; clear hK K)
      refine wpD_part rfl (fun hb => ?_) (fun hb => ?_)
      · (refine wpD_seqk fun K hK => ?_; refine wpD_region tyOK ?_; ((repeat (rw [wpS_cons]; simp)); (try simp only [wpS_nil, thenD, blockD])); refine hK _ _ _ ?_; clear hK K)
        (refine wpD_ret ?_; (try simp only [thenD, blockD]); refine EndQ.ret rfl (.inl ?_); simp [tmOf, Out.fgt, D.fgt, D.fgts])
        rw [hi, List.drop_eq_getElem_cons hk, idxB, if_pos hb]
      · refine wpD_skip (hK3 _ _ _ ?_)
        clear hK3 K3
        have hw : IntKind.i64.wrap ((k : Int) + 1) = (k : Int) + 1 := i64w (by omega) (by omega)
        (refine wpD_region tyOK ?_; ((repeat (rw [wpS_cons]; simp [hw])); (try simp only [wpS_nil, thenD, blockD])))
        refine hA (n - 1) _ _ (by omega) (by kernel_rfl) ?_
        exact ⟨k + 1, _, _, _, _, _, _, _, _, _, _, _, _, rfl, by omega, by rw [hi, List.drop_eq_getElem_cons hk, idxB, if_neg (by simpa using hb)]; simp, rfl⟩
    · refine wpD_exit (hK1 _ _ _ ?_)
      (refine wpD_seqk fun K hK => ?_; refine wpD_region tyOK ?_; ((repeat (rw [wpS_cons]; simp)); (try simp only [wpS_nil, thenD, blockD])); refine hK _ _ _ ?_; clear hK K)
      (refine wpD_ret ?_; (try simp only [thenD, blockD]); refine EndQ.ret rfl (.inl ?_); simp [tmOf, Out.fgt, D.fgt, D.fgts])
      rw [hi, List.drop_eq_nil_of_le (by simpa using hk), idxB]
theorem containsFuncP_spec (l : List (Int × Int)) (p : Int × Int → Bool) (g : FuncId) (cap : List D) (hc : D.fgts cap = cap) (hcp : D.pures cap = true) (hl : l.length ≤ LMax)
    (hg : ∀ x, x ∈ l → Spec Tryd.prog glob g (encP x :: cap) [] (fun o _ => o.fgt = .ret (.bool (p x)))) :
    Spec Tryd.prog glob 94 [.slice (l.map encP) .any, .fn (.func g) [] cap] [] (fun o _ => o.fgt = .ret (.bool (l.any p))) := by
  refine Spec.movd globPure (wpD_spec tyOK Tryd.func94 rfl (enters _ _ Tryd.func94 rfl (by decide)) rfl rfl ?_)
  (refine wpD_seqk fun K hK => ?_; refine wpD_region tyOK ?_; ((repeat (rw [wpS_cons]; simp)); (try simp only [wpS_nil, thenD, blockD])); refine hK _ _ _ ?_; clear hK K)
  (refine wpD_seqk fun K hK => ?_; refine wpD_region tyOK ?_; ((repeat (rw [wpS_cons]; simp)); (try simp only [wpS_nil, thenD, blockD])))
  refine CallX.pure globPure (indexFuncP_spec l p g cap hc hcp hl hg) ?_ (by simp [D.fgts, D.fgt, hc, hcp]) (by simp [D.pures, D.pure, Cp.free, D.pures_map, hc, hcp]) (by simp [Out.pure, D.pure, D.pures, Cp.free, D.pures_map, hc, hcp])
  ((try simp only [wpAft_ret, wpAft_pan, putS, updS, setS]); (repeat (rw [wpS_cons]; simp)); (try simp only [wpS_nil, thenD, blockD]))
  (refine hK _ _ _ ?_; clear hK K)
  (refine wpD_ret ?_; (try simp only [thenD, blockD]); refine EndQ.ret rfl (.inl ?_); simp [tmOf, Out.fgt, D.fgt, D.fgts])
  exact idxB_any p l 0 (by omega)
/-- a part that is no less than another one -/
def underP (p q : Int × Int) : Bool := (decide (p.1 = 0) || decide (p.1 = q.1)) && decide (p.2 ≤ q.2)
def leqN (a b : LV) : Bool := !(a.any fun p => !(b.any (underP p)))
end Go.Proofs.YtgloldepdhgfaaaDoor
namespace Go.Proofs.YtgloldepdhgfaaaDoor
set_option linter.unusedSimpArgs false
set_option linter.unusedVariables false
open Go.RowKit
theorem MOK.uniq {m : MP} (h : MOK m) {v a b : Int} (ha : (v, a) ∈ m) (hb : (v, b) ∈ m) : a = b := by
  have hn := h.nd
  clear h
  induction m with
  | nil => cases ha
  | cons p r ih =>
    rw [List.map_cons, List.nodup_cons] at hn
    rcases List.mem_cons.1 ha with ha' | ha' <;> rcases List.mem_cons.1 hb with hb' | hb'
    · rw [← ha'] at hb'; exact (Prod.mk.inj hb').2.symm
    · subst ha'; exact absurd (List.mem_map.2 ⟨_, hb', rfl⟩) hn.1
    · subst hb'; exact absurd (List.mem_map.2 ⟨_, ha', rfl⟩) hn.1
    · exact ih ha' hb' hn.2
theorem badP_nn {p : Int × Int} (h : badP p = false) : 0 ≤ p.1 ∧ 0 ≤ p.2 ∧ p.1 ≤ 1048576 ∧ p.2 ≤ 1048576 := by
  simp only [badP, Bool.or_eq_false_iff, decide_eq_false_iff_not] at h
  omega
/-- what a normal form is -/
structure NF (l : LV) : Prop where
  up : l.Pairwise (fun p q => p.1 < q.1)
  ok : ∀ p, p ∈ l → badP p = false
  z : ∀ p, p ∈ l → p.1 = 0 → 0 < p.2 ∧ ∀ q, q ∈ l → 0 < q.1 → q.2 < p.2
theorem NF.nil : NF [] := ⟨List.Pairwise.nil, (fun _ h => nomatch h), (fun _ h => nomatch h)⟩
theorem NF.uniq {l : LV} (h : NF l) {p q : Int × Int} (hp : p ∈ l) (hq : q ∈ l) (e : p.1 = q.1) : p = q := by
  have hu := h.up
  clear h
  induction l with
  | nil => cases hp
  | cons x r ih =>
    rw [List.pairwise_cons] at hu
    rcases List.mem_cons.1 hp with hp' | hp' <;> rcases List.mem_cons.1 hq with hq' | hq'
    · rw [hp', hq']
    · subst hp'; have := hu.1 q hq'; omega
    · subst hq'; have := hu.1 p hp'; omega
    · exact ih hp' hq' hu.2
theorem up_ext : ∀ {a b : LV}, a.Pairwise (fun p q => p.1 < q.1) → b.Pairwise (fun p q => p.1 < q.1) → (∀ p, p ∈ a ↔ p ∈ b) → a = b
  | [], [], _, _, _ => rfl
  | [], y :: s, _, _, h => by have := (h y).2 (List.mem_cons_self ..); cases this
  | x :: r, [], _, _, h => by have := (h x).1 (List.mem_cons_self ..); cases this
  | x :: r, y :: s, ha, hb, h => by
    rw [List.pairwise_cons] at ha hb
    have hxy : x = y := by
      rcases List.mem_cons.1 ((h x).1 (List.mem_cons_self ..)) with e | hx
      · exact e
      · rcases List.mem_cons.1 ((h y).2 (List.mem_cons_self ..)) with e | hy
        · exact e.symm
        · have h1 := hb.1 x hx
          have h2 := ha.1 y hy
          omega
    subst hxy
    rw [up_ext ha.2 hb.2 fun p => ?_]
    constructor
    · intro hp
      rcases List.mem_cons.1 ((h p).1 (List.mem_cons_of_mem _ hp)) with rfl | hp'
      · have := ha.1 p hp; omega
      · exact hp'
    · intro hp
      rcases List.mem_cons.1 ((h p).2 (List.mem_cons_of_mem _ hp)) with rfl | hp'
      · have := hb.1 p hp; omega
      · exact hp'
/-- a part is below a level -/
def domP (l : LV) (p : Int × Int) : Prop := (p.1 = 0 ∧ p.2 = 0) ∨ ∃ q, q ∈ l ∧ (p.1 = 0 ∨ p.1 = q.1) ∧ p.2 ≤ q.2
/-- all parts are -/
def leR (a b : LV) : Prop := ∀ p, p ∈ a → domP b p
def okV (l : LV) : Prop := ∀ p, p ∈ l → badP p = false
theorem domP.self {l : LV} {p : Int × Int} (h : p ∈ l) : domP l p := .inr ⟨p, h, .inr rfl, Int.le_refl _⟩
theorem domP.step {l : LV} {p q : Int × Int} (hp : 0 ≤ p.2) (h1 : p.1 = 0 ∨ p.1 = q.1) (h2 : p.2 ≤ q.2) (h : domP l q) : domP l p := by
  rcases h with ⟨e1, e2⟩ | ⟨r, hr, e1, e2⟩
  · left; omega
  · right; exact ⟨r, hr, by omega, by omega⟩
theorem domP.trans {a b : LV} {p : Int × Int} (hp : 0 ≤ p.2) (h : domP a p) (hab : leR a b) : domP b p := by
  rcases h with h | ⟨q, hq, h1, h2⟩
  · exact .inl h
  · exact (hab q hq).step hp h1 h2
theorem leR.refl (a : LV) : leR a a := fun _ h => .self h
theorem leR.trans {a b c : LV} (ha : okV a) (h1 : leR a b) (h2 : leR b c) : leR a c := fun p hp => (h1 p hp).trans (badP_nn (ha p hp)).2.1 h2
theorem leqN_iff {a b : LV} : leqN a b = true ↔ ∀ p, p ∈ a → ∃ q, q ∈ b ∧ (p.1 = 0 ∨ p.1 = q.1) ∧ p.2 ≤ q.2 := by
  unfold leqN
  simp [underP]
theorem leqN_leR {a b : LV} (ha : NF a) : leqN a b = true ↔ leR a b := by
  rw [leqN_iff]
  constructor
  · exact fun h p hp => .inr (h p hp)
  · intro h p hp
    rcases h p hp with ⟨h1, h2⟩ | h
    · have := (ha.z p hp h1).1; omega
    · exact h
theorem NF.sub {a b : LV} (ha : NF a) (hb : NF b) (h1 : leR a b) (h2 : leR b a) : ∀ p, p ∈ a → p ∈ b := by
  have ha' := leqN_iff.1 ((leqN_leR ha).2 h1)
  have hb' := leqN_iff.1 ((leqN_leR hb).2 h2)
  have hpos : ∀ {a b : LV}, NF a → NF b → (∀ p, p ∈ a → ∃ q, q ∈ b ∧ (p.1 = 0 ∨ p.1 = q.1) ∧ p.2 ≤ q.2) → (∀ p, p ∈ b → ∃ q, q ∈ a ∧ (p.1 = 0 ∨ p.1 = q.1) ∧ p.2 ≤ q.2) → ∀ p, p ∈ a → 0 < p.1 → p ∈ b := by
    intro a b ha hb ha' hb' p hp hp0
    obtain ⟨q, hq, h1, h2⟩ := ha' p hp
    obtain ⟨r, hr, h3, h4⟩ := hb' q hq
    have : r = p := ha.uniq hr hp (by omega)
    subst this
    have : q = r := Prod.ext (by omega) (by omega)
    rw [← this]; exact hq
  intro p hp
  by_cases hp0 : 0 < p.1
  · exact hpos ha hb ha' hb' p hp hp0
  · have hpz : p.1 = 0 := by have := (badP_nn (ha.ok p hp)).1; omega
    obtain ⟨q, hq, h1, h2⟩ := ha' p hp
    have hz := ha.z p hp hpz
    by_cases hq0 : 0 < q.1
    · have := hz.2 q (hpos hb ha hb' ha' q hq hq0) hq0
      omega
    · have hqz : q.1 = 0 := by have := (badP_nn (hb.ok q hq)).1; omega
      obtain ⟨r, hr, h3, h4⟩ := hb' q hq
      by_cases hr0 : 0 < r.1
      · have := hz.2 r hr hr0; omega
      · have hrz : r.1 = 0 := by have := (badP_nn (ha.ok r hr)).1; omega
        have : r = p := ha.uniq hr hp (by omega)
        subst this
        have : q = r := Prod.ext (by omega) (by omega)
        rw [← this]; exact hq
theorem NF.ext {a b : LV} (ha : NF a) (hb : NF b) (h1 : leR a b) (h2 : leR b a) : a = b :=
  up_ext ha.up hb.up fun p => ⟨ha.sub hb h1 h2 p, hb.sub ha h2 h1 p⟩
end Go.Proofs.YtgloldepdhgfaaaDoor
namespace Go.Proofs.YtgloldepdhgfaaaDoor
set_option linter.unusedSimpArgs false
set_option linter.unusedVariables false
open Go.RowKit
/-! levels for variables -/
def orZero (x : LV) : LV := if x = [] then [(0, 0)] else x
def levOf (bys : List LV) (v : Int) : LV := if 0 < v ∧ v ≤ bys.length then normOf (bys.getD (v - 1).toNat []) else []
def xsP (bys : List LV) (p : Int × Int) : LV := orZero (levOf bys p.1)
def addP (n : Int) (q : Int × Int) : Int × Int := (q.1, q.2 + n)
def rowP (bys : List LV) (p : Int × Int) : LV := (xsP bys p).map (addP p.2)
def putL (l : LV) (bys : List LV) : LV := ((normOf l).map (rowP bys)).flatten
end Go.Proofs.YtgloldepdhgfaaaDoor
namespace Go.Proofs.YtgloldepdhgfaaaDoor
set_option linter.unusedSimpArgs false
set_option linter.unusedVariables false
set_option maxHeartbeats 10000000
set_option maxRecDepth 20000
open Go.RowKit
attribute [local simp] wpAft_ret wpAft_pan wantD evOp opD tmOf putS updS setS hOf isFree isTok fillD TK.isAgg TK.known partD thenD blockD putAll D.ofV inB nilTest isNilS binX binD binE isCst bndD capB IntKind.min IntKind.max IntKind.signed IntKind.bits dstOf late
theorem sameParts_spec (a b : LV) (ha : a.length ≤ LMax) (hb : b.length ≤ LMax) : Spec Tryd.prog glob 67 [.slice (a.map encP) .any, .slice (b.map encP) .any] [] (fun o _ => o.fgt = .ret (.bool (decide (a = b)))) := by
  unfold LMax at ha hb
  refine Spec.movd globPure (wpD_spec tyOK Tryd.func67 rfl (enters _ _ Tryd.func67 rfl (by decide)) rfl rfl ?_)
  (refine wpD_seqk fun K hK => ?_; refine wpD_region tyOK ?_; ((repeat (rw [wpS_cons]; simp)); (try simp only [wpS_nil, thenD, blockD])); refine hK _ _ _ ?_; clear hK K)
  refine wpD_seqk fun K1 hK1 => ?_
  (refine wpD_seqk fun K hK => ?_; refine wpD_region tyOK ?_; ((repeat (rw [wpS_cons]; simp)); (try simp only [wpS_nil, thenD, blockD])); refine hK _ _ _ ?_; clear hK K)
  refine wpD_part rfl (fun h => ?_) (fun h => ?_)
  · (refine wpD_seqk fun K hK => ?_; refine wpD_region tyOK ?_; ((repeat (rw [wpS_cons]; simp)); (try simp only [wpS_nil, thenD, blockD])); refine hK _ _ _ ?_; clear hK K)
    (refine wpD_ret ?_; (try simp only [thenD, blockD]); refine EndQ.ret rfl (.inl ?_); simp [tmOf, Out.fgt, D.fgt, D.fgts])
    have h : ¬ (a.length : Int) = b.length := by simpa using h
    intro e
    exact h (by rw [e])
  · replace h : a.length = b.length := by
      have h : (a.length : Int) = b.length := by simpa using h
      omega
    refine wpD_skip (hK1 _ _ _ ?_)
    clear hK1 K1
    refine wpD_seqk fun K1 hK1 => ?_
    (refine wpD_seqk fun K hK => ?_; refine wpD_region tyOK ?_; ((repeat (rw [wpS_cons]; simp)); (try simp only [wpS_nil, thenD, blockD])); refine hK _ _ _ ?_; clear hK K)
    refine wpD_block ?_
    refine wpD_loopW [4, 5, 11, 12, 13, 14, 15, 16, 17, 18, 19, 20, 21, 22, 23, 24, 25] (fun n ys hl => ∃ (k : Nat) (x4 x11 x12 x13 x14 x15 x16 x17 x18 x19 x20 x21 x22 x23 x24 x25 : D), ys = [x4, .int .i64 k, x11, x12, x13, x14, x15, x16, x17, x18, x19, x20, x21, x22, x23, x24, x25] ∧ n + k = a.length ∧ a.take k = b.take k ∧ hl = []) (a.length) (by kernel_rfl) ?_ ?_
    · exact ⟨0, _, _, _, _, _, _, _, _, _, _, _, _, _, _, _, _, rfl, rfl, by simp, rfl⟩
    · rintro n ys hl A hA ⟨k, x4, x11, x12, x13, x14, x15, x16, x17, x18, x19, x20, x21, x22, x23, x24, x25, rfl, hk, he, rfl⟩
      simp only [putAll, List.set]
      refine wpD_seqk fun K2 hK2 => ?_
      (refine wpD_seqk fun K hK => ?_; refine wpD_region tyOK ?_; ((repeat (rw [wpS_cons]; simp)); (try simp only [wpS_nil, thenD, blockD])); refine hK _ _ _ ?_; clear hK K)
      refine wpD_part rfl (fun hka => ?_) (fun hka => ?_)
      · replace hka : k < a.length := by simpa using hka
        have hkb : k < b.length := by omega
        refine wpD_skip (hK2 _ _ _ ?_)
        clear hK2 K2
        refine wpD_seqk fun K3 hK3 => ?_
        refine wpD_block ?_
        (refine wpD_seqk fun K hK => ?_; refine wpD_drawk tyOK (by kernel_rfl) (by kernel_rfl) fun KT hKT => ?_; ((repeat (rw [wpT_cons]; simp [hka, hkb, encP])); (try simp only [wpT_nil])))
        (refine hKT _ _ _ _ (by kernel_rfl) ?_; clear hKT KT; (try simp only [thenD, blockD]))
        (refine hK _ _ _ ?_; clear hK K)
        refine wpD_part rfl (fun hb => ?_) (fun hb => ?_)
        · (refine wpD_seqk fun K hK => ?_; refine wpD_region tyOK ?_; ((repeat (rw [wpS_cons]; simp)); (try simp only [wpS_nil, thenD, blockD])); refine hK _ _ _ ?_; clear hK K)
          (refine wpD_ret ?_; (try simp only [thenD, blockD]); refine EndQ.ret rfl (.inl ?_); simp [tmOf, Out.fgt, D.fgt, D.fgts])
          intro e
          subst e
          simp at hb
        · refine wpD_skip (hK3 _ _ _ ?_)
          clear hK3 K3
          have hw1 : IntKind.i64.wrap ((k : Int) + 1) = (k : Int) + 1 := i64w (by omega) (by omega)
          (refine wpD_region tyOK ?_; ((repeat (rw [wpS_cons]; simp [hw1])); (try simp only [wpS_nil, thenD, blockD])))
          refine hA (n - 1) _ _ (by omega) (by kernel_rfl) ?_
          refine ⟨k + 1, _, _, _, _, _, _, _, _, _, _, _, _, _, _, _, _, rfl, by omega, ?_, rfl⟩
          rw [List.take_succ_eq_append_getElem hka, List.take_succ_eq_append_getElem hkb, he]
          have hb : a[k] = b[k] := by
            have hb' : a[k].1 = b[k].1 ∧ a[k].2 = b[k].2 := by simpa using hb
            exact Prod.ext hb'.1 hb'.2
          rw [hb]
      · replace hka : ¬ k < a.length := by simpa using hka
        refine wpD_exit ?_
        refine hK1 _ _ _ ?_
        (refine wpD_seqk fun K hK => ?_; refine wpD_region tyOK ?_; ((repeat (rw [wpS_cons]; simp)); (try simp only [wpS_nil, thenD, blockD])); refine hK _ _ _ ?_; clear hK K)
        (refine wpD_ret ?_; (try simp only [thenD, blockD]); refine EndQ.ret rfl (.inl ?_); simp [tmOf, Out.fgt, D.fgt, D.fgts])
        rw [List.take_of_length_le (by omega), List.take_of_length_le (by omega)] at he
        exact he
theorem sameLevel_spec (a b : LV) (ha : a.length ≤ LMax) (hb : b.length ≤ LMax) : Spec Tryd.prog glob 38 [encL a, encL b] [] (fun o _ => o.fgt = .ret (.bool (decide (a = b)))) := by
  refine Spec.movd globPure (wpD_spec tyOK Tryd.func38 rfl (enters _ _ Tryd.func38 rfl (by decide)) rfl rfl ?_)
  unfold encL
  (refine wpD_seqk fun K hK => ?_; refine wpD_region tyOK ?_; ((repeat (rw [wpS_cons]; simp)); (try simp only [wpS_nil, thenD, blockD])); refine hK _ _ _ ?_; clear hK K)
  (refine wpD_seqk fun K hK => ?_; refine wpD_region tyOK ?_; ((repeat (rw [wpS_cons]; simp)); (try simp only [wpS_nil, thenD, blockD])))
  refine cXp (sameParts_spec a b ha hb) ?_
  ((try simp only [wpAft_ret, wpAft_pan, putS, updS, setS]); (repeat (rw [wpS_cons]; simp)); (try simp only [wpS_nil, thenD, blockD]))
  (refine hK _ _ _ ?_; clear hK K)
  (refine wpD_ret ?_; (try simp only [thenD, blockD]); refine EndQ.ret rfl (.inl ?_); simp [tmOf, Out.fgt, D.fgt, D.fgts])
end Go.Proofs.YtgloldepdhgfaaaDoor
namespace Go.Proofs.YtgloldepdhgfaaaDoor
set_option linter.unusedSimpArgs false
set_option linter.unusedVariables false
set_option maxHeartbeats 10000000
set_option maxRecDepth 20000
open Go.RowKit
attribute [local simp] wpAft_ret wpAft_pan wantD evOp opD tmOf putS updS setS hOf isFree isTok fillD TK.isAgg TK.known partD thenD blockD putAll D.ofV inB nilTest isNilS binX binD binE isCst bndD capB IntKind.min IntKind.max IntKind.signed IntKind.bits dstOf late
end Go.Proofs.YtgloldepdhgfaaaDoor
namespace Go.Proofs.YtgloldepdhgfaaaDoor
set_option linter.unusedSimpArgs false
set_option linter.unusedVariables false
set_option maxHeartbeats 10000000
set_option maxRecDepth 20000
open Go.RowKit
attribute [local simp] wpAft_ret wpAft_pan wantD evOp opD tmOf putS updS setS hOf isFree isTok fillD TK.isAgg TK.known partD thenD blockD putAll D.ofV inB nilTest isNilS binX binD binE isCst bndD capB IntKind.min IntKind.max IntKind.signed IntKind.bits dstOf late
end Go.Proofs.YtgloldepdhgfaaaDoor
namespace Go.Proofs.YtgloldepdhgfaaaDoor
set_option linter.unusedSimpArgs false
set_option linter.unusedVariables false
set_option maxHeartbeats 10000000
set_option maxRecDepth 20000
open Go.RowKit
attribute [local simp] wpAft_ret wpAft_pan wantD evOp opD tmOf putS updS setS hOf isFree isTok fillD TK.isAgg TK.known partD thenD blockD putAll D.ofV inB nilTest isNilS binX binD binE isCst bndD capB IntKind.min IntKind.max IntKind.signed IntKind.bits dstOf late
def levTurn (bys : List LV) : Turn := fun _ t => .inr (t.n, t.ls.map fun l => normOf (putL l bys))
def T.levels (t : T) (bys : List LV) (d : Int) : T := T.walk (levTurn bys) t d
end Go.Proofs.YtgloldepdhgfaaaDoor
namespace Go.Proofs.YtgloldepdhgfaaaDoor
set_option linter.unusedSimpArgs false
set_option linter.unusedVariables false
set_option maxHeartbeats 10000000
set_option maxRecDepth 20000
open Go.RowKit
attribute [local simp] wpAft_ret wpAft_pan wantD evOp opD tmOf putS updS setS hOf isFree isTok fillD TK.isAgg TK.known partD thenD blockD putAll D.ofV inB nilTest isNilS binX binD binE isCst bndD capB IntKind.min IntKind.max IntKind.signed IntKind.bits dstOf late
def eqAll {α : Type} (p : α → α → Bool) : List α → List α → Bool
  | [], [] => true
  | a :: r, b :: s => p a b && eqAll p r s
  | _, _ => false
theorem eqAll_len {α : Type} {p : α → α → Bool} : ∀ {l m : List α}, l.length ≠ m.length → eqAll p l m = false
  | [], [], h => absurd rfl h
  | [], _ :: _, _ => rfl
  | _ :: _, [], _ => rfl
  | a :: r, b :: s, h => by
    rw [eqAll, eqAll_len (l := r) (m := s) (by simpa using h), Bool.and_false]
theorem eqAll_drop {α : Type} {p : α → α → Bool} {l m : List α} {k : Nat} (h : k < l.length) (h' : k < m.length) : eqAll p (l.drop k) (m.drop k) = (p l[k] m[k] && eqAll p (l.drop (k + 1)) (m.drop (k + 1))) := by
  rw [List.drop_eq_getElem_cons h, List.drop_eq_getElem_cons h', eqAll]
def sameLs : List LV → List LV → Bool
  | [], [] => true
  | a :: r, b :: s => decide (normOf a = normOf b) && sameLs r s
  | _, _ => false
mutual
def T.sameB : T → T → Bool
  | .mk k n a ls ks, .mk k' n' a' ls' ks' => decide (k = k') && decide (n = n') && decide (a = a') && sameLs ls ls' && T.samesB ks ks'
def T.samesB : List T → List T → Bool
  | [], [] => true
  | a :: r, b :: s => T.sameB a b && T.samesB r s
  | [], _ :: _ => false
  | _ :: _, [] => false
end
end Go.Proofs.YtgloldepdhgfaaaDoor
namespace Go.Proofs.YtgloldepdhgfaaaDoor
set_option linter.unusedSimpArgs false
set_option linter.unusedVariables false
set_option maxHeartbeats 10000000
set_option maxRecDepth 20000
open Go.RowKit
attribute [local simp] wpAft_ret wpAft_pan wantD evOp opD tmOf putS updS setS hOf isFree isTok fillD TK.isAgg TK.known partD thenD blockD putAll D.ofV inB nilTest isNilS binX binD binE isCst bndD capB IntKind.min IntKind.max IntKind.signed IntKind.bits dstOf late
theorem isNaN_spec (x : Int) : Spec Tryd.prog glob 100 [.int .i64 x] [] (fun o _ => o.fgt = .ret (.bool false)) := by
  refine Spec.movd globPure (wpD_spec tyOK Tryd.func100 rfl (enters _ _ Tryd.func100 rfl (by decide)) rfl rfl ?_)
  (refine wpD_seqk fun K hK => ?_; refine wpD_region tyOK ?_; ((repeat (rw [wpS_cons]; simp)); (try simp only [wpS_nil, thenD, blockD])); refine hK _ _ _ ?_; clear hK K)
  (refine wpD_seqk fun K hK => ?_; refine wpD_region tyOK ?_; ((repeat (rw [wpS_cons]; simp)); (try simp only [wpS_nil, thenD, blockD])); refine hK _ _ _ ?_; clear hK K)
  (refine wpD_ret ?_; (try simp only [thenD, blockD]); refine EndQ.ret rfl (.inl ?_); simp [tmOf, Out.fgt, D.fgt, D.fgts])
def cmpI (x y : Int) : Int := if x < y then -1 else if y < x then 1 else 0
theorem compare_spec (x y : Int) : Spec Tryd.prog glob 93 [.int .i64 x, .int .i64 y] [] (fun o _ => o.fgt = .ret (.int .i64 (cmpI x y))) := by
  refine Spec.movd globPure (wpD_spec tyOK Tryd.func93 rfl (enters _ _ Tryd.func93 rfl (by decide)) rfl rfl ?_)
  (refine wpD_seqk fun K hK => ?_; refine wpD_region tyOK ?_; ((repeat (rw [wpS_cons]; simp)); (try simp only [wpS_nil, thenD, blockD])); refine hK _ _ _ ?_; clear hK K)
  (refine wpD_seqk fun K hK => ?_; refine wpD_region tyOK ?_; ((repeat (rw [wpS_cons]; simp)); (try simp only [wpS_nil, thenD, blockD])))
  refine cXp (isNaN_spec x) ?_
  ((try simp only [wpAft_ret, wpAft_pan, putS, updS, setS]); (repeat (rw [wpS_cons]; simp)); (try simp only [wpS_nil, thenD, blockD]))
  (refine hK _ _ _ ?_; clear hK K)
  (refine wpD_seqk fun K hK => ?_; refine wpD_region tyOK ?_; ((repeat (rw [wpS_cons]; simp)); (try simp only [wpS_nil, thenD, blockD])))
  refine cXp (isNaN_spec y) ?_
  ((try simp only [wpAft_ret, wpAft_pan, putS, updS, setS]); (repeat (rw [wpS_cons]; simp)); (try simp only [wpS_nil, thenD, blockD]))
  (refine hK _ _ _ ?_; clear hK K)
  refine wpD_seqk fun K1 hK1 => ?_
  (refine wpD_seqk fun K hK => ?_; refine wpD_region tyOK ?_; ((repeat (rw [wpS_cons]; simp)); (try simp only [wpS_nil, thenD, blockD])); refine hK _ _ _ ?_; clear hK K)
  refine wpD_part rfl (fun h => by simp at h) (fun _ => wpD_skip (hK1 _ _ _ ?_))
  clear hK1 K1
  refine wpD_seqk fun K1 hK1 => ?_
  (refine wpD_seqk fun K hK => ?_; refine wpD_region tyOK ?_; ((repeat (rw [wpS_cons]; simp)); (try simp only [wpS_nil, thenD, blockD])); refine hK _ _ _ ?_; clear hK K)
  refine wpD_part rfl (fun h => by simp at h) (fun _ => wpD_skip (hK1 _ _ _ ?_))
  clear hK1 K1
  refine wpD_seqk fun K1 hK1 => ?_
  (refine wpD_seqk fun K hK => ?_; refine wpD_region tyOK ?_; ((repeat (rw [wpS_cons]; simp)); (try simp only [wpS_nil, thenD, blockD])); refine hK _ _ _ ?_; clear hK K)
  refine wpD_part rfl (fun h => ?_) (fun h => wpD_skip (hK1 _ _ _ ?_))
  · (refine wpD_seqk fun K hK => ?_; refine wpD_region tyOK ?_; ((repeat (rw [wpS_cons]; simp)); (try simp only [wpS_nil, thenD, blockD])); refine hK _ _ _ ?_; clear hK K)
    (refine wpD_ret ?_; (try simp only [thenD, blockD]); refine EndQ.ret rfl (.inl ?_); simp [tmOf, Out.fgt, D.fgt, D.fgts])
    simp [cmpI, show x < y by simpa using h]
  · clear hK1 K1
    replace h : ¬ x < y := by simpa using h
    refine wpD_seqk fun K1 hK1 => ?_
    (refine wpD_seqk fun K hK => ?_; refine wpD_region tyOK ?_; ((repeat (rw [wpS_cons]; simp)); (try simp only [wpS_nil, thenD, blockD])); refine hK _ _ _ ?_; clear hK K)
    refine wpD_part rfl (fun h2 => ?_) (fun h2 => wpD_skip (hK1 _ _ _ ?_))
    · (refine wpD_seqk fun K hK => ?_; refine wpD_region tyOK ?_; ((repeat (rw [wpS_cons]; simp)); (try simp only [wpS_nil, thenD, blockD])); refine hK _ _ _ ?_; clear hK K)
      (refine wpD_ret ?_; (try simp only [thenD, blockD]); refine EndQ.ret rfl (.inl ?_); simp [tmOf, Out.fgt, D.fgt, D.fgts])
      simp [cmpI, h, show y < x by simpa using h2]
    · clear hK1 K1
      (refine wpD_seqk fun K hK => ?_; refine wpD_region tyOK ?_; ((repeat (rw [wpS_cons]; simp)); (try simp only [wpS_nil, thenD, blockD])); refine hK _ _ _ ?_; clear hK K)
      (refine wpD_ret ?_; (try simp only [thenD, blockD]); refine EndQ.ret rfl (.inl ?_); simp [tmOf, Out.fgt, D.fgt, D.fgts])
      simp [cmpI, h, show ¬ y < x by simpa using h2]
def orI : List Int → Int
  | [] => 0
  | x :: r => if x = 0 then orI r else x
theorem or_spec (l : List Int) (hl : l.length ≤ LMax) : Spec Tryd.prog glob 92 [Ints l] [] (fun o _ => o.fgt = .ret (.int .i64 (orI l))) := by
  unfold LMax at hl
  refine Spec.movd globPure (wpD_spec tyOK Tryd.func92 rfl (enters _ _ Tryd.func92 rfl (by decide)) rfl rfl ?_)
  unfold Ints
  (refine wpD_seqk fun K hK => ?_; refine wpD_region tyOK ?_; ((repeat (rw [wpS_cons]; simp)); (try simp only [wpS_nil, thenD, blockD])); refine hK _ _ _ ?_; clear hK K)
  (refine wpD_seqk fun K hK => ?_; refine wpD_region tyOK ?_; ((repeat (rw [wpS_cons]; simp)); (try simp only [wpS_nil, thenD, blockD])); refine hK _ _ _ ?_; clear hK K)
  refine wpD_seqk fun K1 hK1 => ?_
  (refine wpD_seqk fun K hK => ?_; refine wpD_region tyOK ?_; ((repeat (rw [wpS_cons]; simp)); (try simp only [wpS_nil, thenD, blockD])); refine hK _ _ _ ?_; clear hK K)
  refine wpD_block ?_
  refine wpD_loopW [2, 5, 8, 9, 10, 11, 12, 13, 14, 15, 16] (fun n ys hl => ∃ (k : Nat) (x2 x5 x9 x10 x11 x12 x13 x14 x15 x16 : D), ys = [x2, x5, .int .i64 k, x9, x10, x11, x12, x13, x14, x15, x16] ∧ n + k = l.length ∧ orI l = orI (l.drop k) ∧ hl = []) (l.length) (by kernel_rfl) ?_ ?_
  · exact ⟨0, _, _, _, _, _, _, _, _, _, _, rfl, rfl, rfl, rfl⟩
  · rintro n ys hl A hA ⟨k, x2, x5, x9, x10, x11, x12, x13, x14, x15, x16, rfl, hn, hi, rfl⟩
    simp only [putAll, List.set]
    (refine wpD_seqk fun K hK => ?_; refine wpD_region tyOK ?_; ((repeat (rw [wpS_cons]; simp)); (try simp only [wpS_nil, thenD, blockD])); refine hK _ _ _ ?_; clear hK K)
    refine wpD_seqk fun K2 hK2 => ?_
    refine wpD_part rfl (fun hk => ?_) (fun hk => ?_)
    · replace hk : k < l.length := by simpa using hk
      refine wpD_skip (hK2 _ _ _ ?_)
      clear hK2 K2
      refine wpD_seqk fun K3 hK3 => ?_
      refine wpD_block ?_
      (refine wpD_seqk fun K hK => ?_; refine wpD_region tyOK ?_; ((repeat (rw [wpS_cons]; simp [hk])); (try simp only [wpS_nil, thenD, blockD])); refine hK _ _ _ ?_; clear hK K)
      (refine wpD_seqk fun K hK => ?_; refine wpD_region tyOK ?_; ((repeat (rw [wpS_cons]; simp)); (try simp only [wpS_nil, thenD, blockD])); refine hK _ _ _ ?_; clear hK K)
      refine wpD_part rfl (fun hb => ?_) (fun hb => ?_)
      · (refine wpD_seqk fun K hK => ?_; refine wpD_region tyOK ?_; ((repeat (rw [wpS_cons]; simp)); (try simp only [wpS_nil, thenD, blockD])); refine hK _ _ _ ?_; clear hK K)
        (refine wpD_ret ?_; (try simp only [thenD, blockD]); refine EndQ.ret rfl (.inl ?_); simp [tmOf, Out.fgt, D.fgt, D.fgts])
        rw [hi, List.drop_eq_getElem_cons hk, orI, if_neg (by simpa using hb)]
      · refine wpD_skip (hK3 _ _ _ ?_)
        clear hK3 K3
        have hw : IntKind.i64.wrap ((k : Int) + 1) = (k : Int) + 1 := i64w (by omega) (by omega)
        (refine wpD_region tyOK ?_; ((repeat (rw [wpS_cons]; simp [hw])); (try simp only [wpS_nil, thenD, blockD])))
        refine hA (n - 1) _ _ (by omega) (by kernel_rfl) ?_
        exact ⟨k + 1, _, _, _, _, _, _, _, _, _, _, rfl, by omega, by rw [hi, List.drop_eq_getElem_cons hk, orI, if_pos (by simpa using hb)], rfl⟩
    · refine wpD_exit (hK1 _ _ _ ?_)
      (refine wpD_seqk fun K hK => ?_; refine wpD_region tyOK ?_; ((repeat (rw [wpS_cons]; simp)); (try simp only [wpS_nil, thenD, blockD])); refine hK _ _ _ ?_; clear hK K)
      (refine wpD_ret ?_; (try simp only [thenD, blockD]); refine EndQ.ret rfl (.inl ?_); simp [tmOf, Out.fgt, D.fgt, D.fgts])
      rw [hi, List.drop_eq_nil_of_le (by simpa using hk), orI]
def sortedB : LV → Bool
  | [] => true
  | [_] => true
  | a :: b :: r => decide (a.1 < b.1) && sortedB (b :: r)
theorem sortedB_iff : ∀ l : LV, sortedB l = true ↔ ∀ i (h : i + 1 < l.length), (l[i]'(by omega)).1 < l[i + 1].1
  | [] => by simp [sortedB]
  | [_] => by simp [sortedB]
  | a :: b :: r => by
    rw [sortedB, Bool.and_eq_true, decide_eq_true_eq, sortedB_iff (b :: r)]
    constructor
    · rintro ⟨h1, h2⟩ i h
      cases i with
      | zero => exact h1
      | succ i => exact h2 i (by simpa using h)
    · intro h
      exact ⟨h 0 (by simp), fun i hi => h (i + 1) (by simpa using hi)⟩
def partBad (n : Int) (p : Int × Int) : Bool := decide (p.1 < 0) || decide (n < p.1) || decide (p.2 < 0) || decide (1000 < p.2)
def levelRight (l : LV) (n : Int) : Bool := sortedB l && decide (l.length ≤ 9) && !(l.any (partBad n))
def risesI (p q : Int × Int) : Int := orI [cmpI p.1 q.1, -1]
theorem risesI_neg (p q : Int × Int) : risesI p q < 0 ↔ ¬ q.1 < p.1 := by
  unfold risesI cmpI
  by_cases h1 : p.1 < q.1
  · simp [h1, orI]; omega
  · by_cases h2 : q.1 < p.1 <;> simp [h1, h2, orI]
theorem right1_spec (p q : Int × Int) : Spec Tryd.prog glob 91 [encP p, encP q] [] (fun o _ => o.fgt = .ret (.int .i64 (risesI p q))) := by
  refine Spec.movd globPure (wpD_spec tyOK Tryd.func91 rfl (enters _ _ Tryd.func91 rfl (by decide)) rfl rfl ?_)
  (refine wpD_seqk fun K hK => ?_; refine wpD_region tyOK ?_; ((repeat (rw [wpS_cons]; simp)); (try simp only [wpS_nil, thenD, blockD])); refine hK _ _ _ ?_; clear hK K)
  (refine wpD_seqk fun K hK => ?_; refine wpD_region tyOK ?_; ((repeat (rw [wpS_cons]; simp)); (try simp only [wpS_nil, thenD, blockD])))
  refine cXp (compare_spec p.1 q.1) ?_
  ((try simp only [wpAft_ret, wpAft_pan, putS, updS, setS]); (repeat (rw [wpS_cons]; simp)); (try simp only [wpS_nil, thenD, blockD]))
  refine CallX.pure globPure (or_spec [cmpI p.1 q.1, -1] (by simp [LMax])) ?_ (by simp [D.fgts, D.fgt, Ints]) (by simp [D.pures, D.pure, Cp.free, D.pures_map, Ints]) (by simp [Out.pure, D.pure, D.pures, Cp.free, D.pures_map, Ints])
  ((try simp only [wpAft_ret, wpAft_pan, putS, updS, setS]); (repeat (rw [wpS_cons]; simp)); (try simp only [wpS_nil, thenD, blockD]))
  (refine hK _ _ _ ?_; clear hK K)
  (refine wpD_ret ?_; (try simp only [thenD, blockD]); refine EndQ.ret rfl (.inl ?_); simp [tmOf, Out.fgt, D.fgt, D.fgts])
  rfl
theorem right2_spec (n : Int) (p : Int × Int) : Spec Tryd.prog glob 95 [encP p, .ref (.int .i64 n)] [] (fun o _ => o.fgt = .ret (.bool (partBad n p))) := by
  refine Spec.movd globPure (wpD_spec tyOK Tryd.func95 rfl (enters _ _ Tryd.func95 rfl (by decide)) rfl rfl ?_)
  (refine wpD_seqk fun K hK => ?_; refine wpD_region tyOK ?_; ((repeat (rw [wpS_cons]; simp)); (try simp only [wpS_nil, thenD, blockD])); refine hK _ _ _ ?_; clear hK K)
  by_cases h1 : p.1 < 0
  · (refine wpD_seqk fun K hK => ?_; refine wpD_region tyOK ?_; ((repeat (rw [wpS_cons]; simp [h1])); (try simp only [wpS_nil, thenD, blockD])); refine hK _ _ _ ?_; clear hK K)
    (refine wpD_ret ?_; (try simp only [thenD, blockD]); refine EndQ.ret rfl (.inl ?_); simp [tmOf, Out.fgt, D.fgt, D.fgts])
    simp [partBad, h1]
  · by_cases h2 : n < p.1
    · (refine wpD_seqk fun K hK => ?_; refine wpD_region tyOK ?_; ((repeat (rw [wpS_cons]; simp [h1, h2])); (try simp only [wpS_nil, thenD, blockD])); refine hK _ _ _ ?_; clear hK K)
      (refine wpD_ret ?_; (try simp only [thenD, blockD]); refine EndQ.ret rfl (.inl ?_); simp [tmOf, Out.fgt, D.fgt, D.fgts])
      simp [partBad, h2]
    · by_cases h3 : p.2 < 0
      · (refine wpD_seqk fun K hK => ?_; refine wpD_region tyOK ?_; ((repeat (rw [wpS_cons]; simp [h1, h2, h3])); (try simp only [wpS_nil, thenD, blockD])); refine hK _ _ _ ?_; clear hK K)
        (refine wpD_ret ?_; (try simp only [thenD, blockD]); refine EndQ.ret rfl (.inl ?_); simp [tmOf, Out.fgt, D.fgt, D.fgts])
        simp [partBad, h3]
      · (refine wpD_seqk fun K hK => ?_; refine wpD_region tyOK ?_; ((repeat (rw [wpS_cons]; simp [h1, h2, h3])); (try simp only [wpS_nil, thenD, blockD])); refine hK _ _ _ ?_; clear hK K)
        (refine wpD_ret ?_; (try simp only [thenD, blockD]); refine EndQ.ret rfl (.inl ?_); simp [tmOf, Out.fgt, D.fgt, D.fgts])
        simp [partBad, h1, h2, h3]
theorem isSorted_spec (l : LV) (hl : l.length ≤ LMax) : Spec Tryd.prog glob 90 [Ps l, .fn (.func 91) [] []] [] (fun o _ => o.fgt = .ret (.bool (sortedB l))) := by
  unfold LMax at hl
  refine Spec.movd globPure (wpD_spec tyOK Tryd.func90 rfl (enters _ _ Tryd.func90 rfl (by decide)) rfl rfl ?_)
  unfold Ps
  (refine wpD_seqk fun K hK => ?_; refine wpD_region tyOK ?_; ((repeat (rw [wpS_cons]; simp)); (try simp only [wpS_nil, thenD, blockD])); refine hK _ _ _ ?_; clear hK K)
  have hw : IntKind.i64.wrap ((l.length : Int) - 1) = (l.length : Int) - 1 := i64w (by omega) (by omega)
  refine wpD_seqk fun K1 hK1 => ?_
  (refine wpD_seqk fun K hK => ?_; refine wpD_region tyOK ?_; ((repeat (rw [wpS_cons]; simp [hw])); (try simp only [wpS_nil, thenD, blockD])); refine hK _ _ _ ?_; clear hK K)
  refine wpD_block ?_
  refine wpD_loopW [4, 5, 9, 10, 11, 12, 13, 14, 15, 16, 17, 18, 19, 20, 21, 22, 23, 24] (fun n ys hl => ∃ (k : Int) (x4 x9 x10 x11 x12 x13 x14 x15 x16 x17 x18 x19 x20 x21 x22 x23 x24 : D), ys = [x4, .int .i64 k, x9, x10, x11, x12, x13, x14, x15, x16, x17, x18, x19, x20, x21, x22, x23, x24] ∧ (k < n ∧ k < l.length ∧ -1 ≤ k) ∧ (∀ i (h : i + 1 < l.length), k ≤ i → (l[i]'(by omega)).1 < l[i + 1].1) ∧ hl = []) (l.length) (by kernel_rfl) ?_ ?_
  · exact ⟨(l.length : Int) - 1, _, _, _, _, _, _, _, _, _, _, _, _, _, _, _, _, _, rfl, by omega, fun i h hi => by omega, rfl⟩
  · rintro n ys hl A hA ⟨k, x4, x9, x10, x11, x12, x13, x14, x15, x16, x17, x18, x19, x20, x21, x22, x23, x24, rfl, hn, hi, rfl⟩
    simp only [putAll, List.set]
    refine wpD_seqk fun K2 hK2 => ?_
    refine wpD_seqk fun K3 hK3 => ?_
    (refine wpD_region tyOK ?_; ((repeat (rw [wpS_cons]; simp)); (try simp only [wpS_nil, thenD, blockD])))
    refine hK3 _ _ _ ?_
    clear hK3 K3
    refine wpD_part rfl (fun hk => ?_) (fun hk => ?_)
    · replace hk : 0 < k := by simpa using hk
      refine wpD_skip (hK2 _ _ _ ?_)
      clear hK2 K2
      refine wpD_seqk fun K3 hK3 => ?_
      refine wpD_block ?_
      obtain ⟨j, hjk⟩ : ∃ j : Nat, k = j + 1 := ⟨(k - 1).toNat, by omega⟩
      have hj : j + 1 < l.length := by omega
      have hj' : j < l.length := by omega
      have hw1 : IntKind.i64.wrap (k - 1) = j := by rw [i64w (by omega) (by omega)]; omega
      have e1 : k.toNat = j + 1 := by omega
      have e2 : 0 ≤ k := by omega
      (refine wpD_seqk fun K hK => ?_; refine wpD_drawk tyOK (by kernel_rfl) (by kernel_rfl) fun KT hKT => ?_; ((repeat (rw [wpT_cons]; simp [e1, e2, hj, hj', hw1, encP])); (try simp only [wpT_nil])))
      refine CallY.pure globPure (right1_spec (l[j + 1]) (l[j])) ?_ (by simp [D.fgts, D.fgt, encP]) (by simp [D.pures, D.pure, Cp.free, D.pures_map, encP]) (by simp [Out.pure, D.pure, D.pures, Cp.free, D.pures_map, encP])
      ((try simp only [wpAftT_ret, wpAftT_pan, putS, updS, setS]); (repeat (rw [wpT_cons]; simp)); (try simp only [wpT_nil]))
      (refine hKT _ _ _ _ (by kernel_rfl) ?_; clear hKT KT; (try simp only [thenD, blockD]))
      (refine hK _ _ _ ?_; clear hK K)
      have hr := risesI_neg l[j + 1] l[j]
      refine wpD_part rfl (fun hb => ?_) (fun hb => ?_)
      · replace hb : ¬ (l[j].1 < l[j + 1].1) := by rw [← hr]; simpa using hb
        (refine wpD_seqk fun K hK => ?_; refine wpD_region tyOK ?_; ((repeat (rw [wpS_cons]; simp)); (try simp only [wpS_nil, thenD, blockD])); refine hK _ _ _ ?_; clear hK K)
        (refine wpD_ret ?_; (try simp only [thenD, blockD]); refine EndQ.ret rfl (.inl ?_); simp [tmOf, Out.fgt, D.fgt, D.fgts])
        cases hs : sortedB l with
        | false => rfl
        | true => exact absurd (sortedB_iff l |>.1 hs j hj) hb
      · replace hb : l[j].1 < l[j + 1].1 := by
          have : ¬ (risesI l[j + 1] l[j] < 0) := by simpa using hb
          rw [hr] at this
          omega
        refine wpD_skip (hK3 _ _ _ ?_)
        clear hK3 K3
        have hw1 : IntKind.i64.wrap (k - 1) = k - 1 := i64w (by omega) (by omega)
        (refine wpD_region tyOK ?_; ((repeat (rw [wpS_cons]; simp [hw1])); (try simp only [wpS_nil, thenD, blockD])))
        refine hA (n - 1) _ _ (by omega) (by kernel_rfl) ?_
        refine ⟨k - 1, _, _, _, _, _, _, _, _, _, _, _, _, _, _, _, _, _, rfl, by omega, fun i h hi2 => ?_, rfl⟩
        by_cases hij : i = j
        · subst hij; exact hb
        · exact hi i h (by omega)
    · replace hk : ¬ 0 < k := by simpa using hk
      refine wpD_exit ?_
      refine hK1 _ _ _ ?_
      (refine wpD_seqk fun K hK => ?_; refine wpD_region tyOK ?_; ((repeat (rw [wpS_cons]; simp)); (try simp only [wpS_nil, thenD, blockD])); refine hK _ _ _ ?_; clear hK K)
      (refine wpD_ret ?_; (try simp only [thenD, blockD]); refine EndQ.ret rfl (.inl ?_); simp [tmOf, Out.fgt, D.fgt, D.fgts])
      exact (sortedB_iff l).2 fun i h => hi i h (by omega)
theorem levelRight_spec (l : LV) (n : Int) (hl : l.length ≤ LMax) : Spec Tryd.prog glob 79 [encL l, .int .i64 n] [] (fun o _ => o.fgt = .ret (.bool (levelRight l n))) := by
  have hl' := hl
  unfold LMax at hl'
  refine Spec.movd globPure (wpD_spec tyOK Tryd.func79 rfl (enters _ _ Tryd.func79 rfl (by decide)) rfl rfl ?_)
  (refine wpD_seqk fun K hK => ?_; refine wpD_region tyOK ?_; ((repeat (rw [wpS_cons]; simp)); (try simp only [wpS_nil, thenD, blockD])); refine hK _ _ _ ?_; clear hK K)
  (refine wpD_seqk fun K hK => ?_; refine wpD_region tyOK ?_; ((repeat (rw [wpS_cons]; simp)); (try simp only [wpS_nil, thenD, blockD])))
  refine CallX.pure globPure (isSorted_spec l hl) ?_ (by simp [D.fgts, D.fgt, Ps]) (by simp [D.pures, D.pure, Cp.free, D.pures_map, Ps]) (by simp [Out.pure, D.pure, D.pures, Cp.free, D.pures_map, Ps])
  ((try simp only [wpAft_ret, wpAft_pan, putS, updS, setS]); (repeat (rw [wpS_cons]; simp)); (try simp only [wpS_nil, thenD, blockD]))
  (refine hK _ _ _ ?_; clear hK K)
  (refine wpD_stay (T := tyOf) 1 (ty := 3) (ds := [.int .i64 n]) rfl rfl (by first | exact ⟨rfl, .inr ⟨_, rfl, rfl⟩⟩ | exact ⟨rfl, .inl rfl⟩) ?_; simp [D.frzs, D.frz, HO.frz, dfFrz, refOf, TK.isAgg, FK.isB, FK.isM, FK.isO, D.isLen])
  cases hs : sortedB l with
  | false =>
    (refine wpD_seqk fun K hK => ?_; refine wpD_region tyOK ?_; ((repeat (rw [wpS_cons]; simp)); (try simp only [wpS_nil, thenD, blockD])); refine hK _ _ _ ?_; clear hK K)
    (refine wpD_ret ?_; (try simp only [thenD, blockD]); refine EndQ.ret rfl (.inl ?_); simp [tmOf, Out.fgt, D.fgt, D.fgts])
    simp [levelRight, hs]
  | true =>
    by_cases h9 : l.length ≤ 9
    · have h9' : (l.length : Int) ≤ 9 := by omega
      (refine wpD_seqk fun K hK => ?_; refine wpD_region tyOK ?_; ((repeat (rw [wpS_cons]; simp [h9, h9'])); (try simp only [wpS_nil, thenD, blockD])))
      refine cXp (containsFuncP_spec l (partBad n) _ [.ref (.int .i64 n)] rfl rfl hl fun p _ => right2_spec n p) ?_
      ((try simp only [wpAft_ret, wpAft_pan, putS, updS, setS]); (repeat (rw [wpS_cons]; simp)); (try simp only [wpS_nil, thenD, blockD]))
      (refine hK _ _ _ ?_; clear hK K)
      (refine wpD_ret ?_; (try simp only [thenD, blockD]); refine EndQ.ret rfl (.inl ?_); simp [tmOf, Out.fgt, D.fgt, D.fgts])
      simp [levelRight, hs, h9]
    · have h9' : ¬ (l.length : Int) ≤ 9 := by omega
      (refine wpD_seqk fun K hK => ?_; refine wpD_region tyOK ?_; ((repeat (rw [wpS_cons]; simp [h9, h9'])); (try simp only [wpS_nil, thenD, blockD])); refine hK _ _ _ ?_; clear hK K)
      (refine wpD_ret ?_; (try simp only [thenD, blockD]); refine EndQ.ret rfl (.inl ?_); simp [tmOf, Out.fgt, D.fgt, D.fgts])
      simp [levelRight, hs, h9]
end Go.Proofs.YtgloldepdhgfaaaDoor
namespace Go.Proofs.YtgloldepdhgfaaaDoor
set_option linter.unusedSimpArgs false
set_option linter.unusedVariables false
set_option maxHeartbeats 10000000
set_option maxRecDepth 20000
open Go.RowKit
attribute [local simp] wpAft_ret wpAft_pan wantD evOp opD tmOf putS updS setS hOf isFree isTok fillD TK.isAgg TK.known partD thenD blockD putAll D.ofV inB nilTest isNilS binX binD binE isCst bndD capB IntKind.min IntKind.max IntKind.signed IntKind.bits dstOf late
theorem idxB_at {α : Type} {p : α → Bool} {l : List α} {k : Nat} (h : k < l.length) : idxB p (l.drop k) k = if p l[k] = true then (k : Int) else idxB p (l.drop (k + 1)) ((k + 1 : Nat) : Int) := by
  rw [List.drop_eq_getElem_cons h, idxB]; simp
theorem indexFuncI_spec (l : List Int) (p : Int → Bool) (g : FuncId) (hl : l.length ≤ LMax)
    (hg : ∀ x, x ∈ l → Spec Tryd.prog glob g [.int .i64 x] [] (fun o _ => o.fgt = .ret (.bool (p x)))) :
    Spec Tryd.prog glob 105 [.slice (l.map (.int .i64)) .any, .fn (.func g) [] []] [] (fun o _ => o.fgt = .ret (.int .i64 (idxB p l 0))) := by
  obtain ⟨R, hR⟩ : ∃ R, R = idxB p l 0 := ⟨_, rfl⟩
  rw [← hR]
  refine Spec.movd globPure (wpD_spec tyOK Tryd.func105 rfl (enters _ _ Tryd.func105 rfl (by decide)) rfl rfl ?_)
  (refine wpD_seqk fun K hK => ?_; refine wpD_region tyOK ?_; ((repeat (rw [wpS_cons]; simp)); (try simp only [wpS_nil, thenD, blockD])); refine hK _ _ _ ?_; clear hK K)
  refine wpD_seqk fun K1 hK1 => ?_
  (refine wpD_seqk fun K hK => ?_; refine wpD_region tyOK ?_; ((repeat (rw [wpS_cons]; simp)); (try simp only [wpS_nil, thenD, blockD])); refine hK _ _ _ ?_; clear hK K)
  refine wpD_rangeJ tyOK globPure (ti := 3) (tk := 8) (tn := 7) (td := 9) (ts := 18) [4, 5, 8, 9, 10, 11, 12, 13, 14, 15, 16, 17, 18] [] (l.length) (fun k ys hl => ys = [] ∧ R = idxB p (l.drop k) k ∧ hl = []) rfl rfl rfl rfl rfl rfl rfl rfl rfl rfl rfl rfl (by simp) (by decide) rfl (by first | assumption | omega | (unfold LMax; omega)) rfl (by kernel_rfl) (by decide) ?_ ?_ ?_
  · exact ⟨rfl, hR, rfl⟩
  · rintro i ys hl A hi ⟨rfl, hF, rfl⟩ hA hA2
    simp only [putAll, List.set, List.map_cons, List.map_nil, List.cons_append, List.nil_append]
    have hi' : (i : Int) < l.length := by omega
    rw [idxB_at hi] at hF
    have hrec := hg l[i] (List.getElem_mem hi)
    obtain ⟨x, hx⟩ : ∃ x, l[i] = x := ⟨_, rfl⟩
    rw [hx] at hrec hF
    generalize p x = B at hrec hF
    (refine wpD_seqk fun K hK => ?_; refine wpD_region tyOK ?_; ((repeat (rw [wpS_cons]; simp)); (try simp only [wpS_nil, thenD, blockD])); refine hK _ _ _ ?_; clear hK K)
    (refine wpD_seqk fun K hK => ?_; refine wpD_region tyOK ?_; ((repeat (rw [wpS_cons]; simp [hi, hi', hx])); (try simp only [wpS_nil, thenD, blockD])))
    refine cXp (hrec) ?_
    ((try simp only [wpAft_ret, wpAft_pan, putS, updS, setS]); (repeat (rw [wpS_cons]; simp)); (try simp only [wpS_nil, thenD, blockD]))
    (refine hK _ _ _ ?_; clear hK K)
    cases B with
    | true =>
      refine wpD_part rfl (fun _ => ?_) (fun h => by simp at h)
      (refine wpD_seqk fun K hK => ?_; refine wpD_region tyOK ?_; ((repeat (rw [wpS_cons]; simp)); (try simp only [wpS_nil, thenD, blockD])); refine hK _ _ _ ?_; clear hK K)
      (refine wpD_ret ?_; (try simp only [thenD, blockD]); refine EndQ.ret rfl (.inl ?_); simp [tmOf, Out.fgt, D.fgt, D.fgts])
      rw [hF, if_pos rfl]
    | false =>
      refine wpD_part rfl (fun h => by simp at h) (fun _ => ?_)
      refine wpD_skip ?_
      (refine hA2 ([]) _ _ _ (LeT.refl _) (by decide) (by simp) (by simp [movT, movH, movD, D.mov, HO.mov, okM, renM, getW, D.ren, D.rens, D.okN, D.okNs, Cp.ren, Cp.okN, HO.ren, HO.okN, okA, renA, renO, hOf, handed, D.fgt, D.fgts, List.range_succ, List.idxOf_cons, putAll]) ?_ rfl; simp [movT, movH, movD, D.mov, HO.mov, okM, renM, getW, D.ren, D.rens, D.okN, D.okNs, Cp.ren, Cp.okN, HO.ren, HO.okN, okA, renA, renO, hOf, handed, D.fgt, D.fgts, List.range_succ, List.idxOf_cons])
      simpa using hF
  · rintro ys hl tl' ⟨rfl, hF, rfl⟩ htl
    refine hK1 _ _ _ (wpD_weakL htl ?_)
    simp only [putAll, List.set, List.map_cons, List.map_nil, List.cons_append, List.nil_append]
    rw [List.drop_length, idxB] at hF
    subst hF
    (refine wpD_seqk fun K hK => ?_; refine wpD_region tyOK ?_; ((repeat (rw [wpS_cons]; simp)); (try simp only [wpS_nil, thenD, blockD])); refine hK _ _ _ ?_; clear hK K)
    (refine wpD_ret ?_; (try simp only [thenD, blockD]); refine EndQ.ret rfl (.inl ?_); simp [tmOf, Out.fgt, D.fgt, D.fgts])
theorem containsFuncI_spec (l : List Int) (p : Int → Bool) (g : FuncId) (hl : l.length ≤ LMax)
    (hg : ∀ x, x ∈ l → Spec Tryd.prog glob g [.int .i64 x] [] (fun o _ => o.fgt = .ret (.bool (p x)))) :
    Spec Tryd.prog glob 102 [.slice (l.map (.int .i64)) .any, .fn (.func g) [] []] [] (fun o _ => o.fgt = .ret (.bool (l.any p))) := by
  refine Spec.movd globPure (wpD_spec tyOK Tryd.func102 rfl (enters _ _ Tryd.func102 rfl (by decide)) rfl rfl ?_)
  (refine wpD_seqk fun K hK => ?_; refine wpD_region tyOK ?_; ((repeat (rw [wpS_cons]; simp)); (try simp only [wpS_nil, thenD, blockD])); refine hK _ _ _ ?_; clear hK K)
  (refine wpD_seqk fun K hK => ?_; refine wpD_region tyOK ?_; ((repeat (rw [wpS_cons]; simp)); (try simp only [wpS_nil, thenD, blockD])))
  refine cXp (indexFuncI_spec l p g hl hg) ?_
  ((try simp only [wpAft_ret, wpAft_pan, putS, updS, setS]); (repeat (rw [wpS_cons]; simp)); (try simp only [wpS_nil, thenD, blockD]))
  (refine hK _ _ _ ?_; clear hK K)
  (refine wpD_ret ?_; (try simp only [thenD, blockD]); refine EndQ.ret rfl (.inl ?_); simp [tmOf, Out.fgt, D.fgt, D.fgts])
  exact idxB_any p l 0 (by omega)
theorem indexFuncL_spec (l : List LV) (p : LV → Bool) (g : FuncId) (hl : l.length ≤ LMax)
    (hg : ∀ x, x ∈ l → Spec Tryd.prog glob g [encL x] [] (fun o _ => o.fgt = .ret (.bool (p x)))) :
    Spec Tryd.prog glob 104 [.slice (l.map encL) .any, .fn (.func g) [] []] [] (fun o _ => o.fgt = .ret (.int .i64 (idxB p l 0))) := by
  obtain ⟨R, hR⟩ : ∃ R, R = idxB p l 0 := ⟨_, rfl⟩
  rw [← hR]
  refine Spec.movd globPure (wpD_spec tyOK Tryd.func104 rfl (enters _ _ Tryd.func104 rfl (by decide)) rfl rfl ?_)
  (refine wpD_seqk fun K hK => ?_; refine wpD_region tyOK ?_; ((repeat (rw [wpS_cons]; simp)); (try simp only [wpS_nil, thenD, blockD])); refine hK _ _ _ ?_; clear hK K)
  refine wpD_seqk fun K1 hK1 => ?_
  (refine wpD_seqk fun K hK => ?_; refine wpD_region tyOK ?_; ((repeat (rw [wpS_cons]; simp)); (try simp only [wpS_nil, thenD, blockD])); refine hK _ _ _ ?_; clear hK K)
  refine wpD_rangeJ tyOK globPure (ti := 3) (tk := 8) (tn := 7) (td := 9) (ts := 18) [4, 5, 8, 9, 10, 11, 12, 13, 14, 15, 16, 17, 18] [] (l.length) (fun k ys hl => ys = [] ∧ R = idxB p (l.drop k) k ∧ hl = []) rfl rfl rfl rfl rfl rfl rfl rfl rfl rfl rfl rfl (by simp) (by decide) rfl (by first | assumption | omega | (unfold LMax; omega)) rfl (by kernel_rfl) (by decide) ?_ ?_ ?_
  · exact ⟨rfl, hR, rfl⟩
  · rintro i ys hl A hi ⟨rfl, hF, rfl⟩ hA hA2
    simp only [putAll, List.set, List.map_cons, List.map_nil, List.cons_append, List.nil_append]
    have hi' : (i : Int) < l.length := by omega
    rw [idxB_at hi] at hF
    have hrec := hg l[i] (List.getElem_mem hi)
    obtain ⟨x, hx⟩ : ∃ x, l[i] = x := ⟨_, rfl⟩
    rw [hx] at hrec hF
    unfold encL at hrec
    generalize p x = B at hrec hF
    (refine wpD_seqk fun K hK => ?_; refine wpD_region tyOK ?_; ((repeat (rw [wpS_cons]; simp)); (try simp only [wpS_nil, thenD, blockD])); refine hK _ _ _ ?_; clear hK K)
    (refine wpD_seqk fun K hK => ?_; refine wpD_region tyOK ?_; ((repeat (rw [wpS_cons]; simp [hi, hi', hx, encL])); (try simp only [wpS_nil, thenD, blockD])))
    refine cXp (hrec) ?_
    ((try simp only [wpAft_ret, wpAft_pan, putS, updS, setS]); (repeat (rw [wpS_cons]; simp)); (try simp only [wpS_nil, thenD, blockD]))
    (refine hK _ _ _ ?_; clear hK K)
    cases B with
    | true =>
      refine wpD_part rfl (fun _ => ?_) (fun h => by simp at h)
      (refine wpD_seqk fun K hK => ?_; refine wpD_region tyOK ?_; ((repeat (rw [wpS_cons]; simp)); (try simp only [wpS_nil, thenD, blockD])); refine hK _ _ _ ?_; clear hK K)
      (refine wpD_ret ?_; (try simp only [thenD, blockD]); refine EndQ.ret rfl (.inl ?_); simp [tmOf, Out.fgt, D.fgt, D.fgts])
      rw [hF, if_pos rfl]
    | false =>
      refine wpD_part rfl (fun h => by simp at h) (fun _ => ?_)
      refine wpD_skip ?_
      (refine hA2 ([]) _ _ _ (LeT.refl _) (by decide) (by simp) (by simp [movT, movH, movD, D.mov, HO.mov, okM, renM, getW, D.ren, D.rens, D.okN, D.okNs, Cp.ren, Cp.okN, HO.ren, HO.okN, okA, renA, renO, hOf, handed, D.fgt, D.fgts, List.range_succ, List.idxOf_cons, putAll]) ?_ rfl; simp [movT, movH, movD, D.mov, HO.mov, okM, renM, getW, D.ren, D.rens, D.okN, D.okNs, Cp.ren, Cp.okN, HO.ren, HO.okN, okA, renA, renO, hOf, handed, D.fgt, D.fgts, List.range_succ, List.idxOf_cons])
      simpa using hF
  · rintro ys hl tl' ⟨rfl, hF, rfl⟩ htl
    refine hK1 _ _ _ (wpD_weakL htl ?_)
    simp only [putAll, List.set, List.map_cons, List.map_nil, List.cons_append, List.nil_append]
    rw [List.drop_length, idxB] at hF
    subst hF
    (refine wpD_seqk fun K hK => ?_; refine wpD_region tyOK ?_; ((repeat (rw [wpS_cons]; simp)); (try simp only [wpS_nil, thenD, blockD])); refine hK _ _ _ ?_; clear hK K)
    (refine wpD_ret ?_; (try simp only [thenD, blockD]); refine EndQ.ret rfl (.inl ?_); simp [tmOf, Out.fgt, D.fgt, D.fgts])
theorem containsFuncL_spec (l : List LV) (p : LV → Bool) (g : FuncId) (hl : l.length ≤ LMax)
    (hg : ∀ x, x ∈ l → Spec Tryd.prog glob g [encL x] [] (fun o _ => o.fgt = .ret (.bool (p x)))) :
    Spec Tryd.prog glob 97 [.slice (l.map encL) .any, .fn (.func g) [] []] [] (fun o _ => o.fgt = .ret (.bool (l.any p))) := by
  refine Spec.movd globPure (wpD_spec tyOK Tryd.func97 rfl (enters _ _ Tryd.func97 rfl (by decide)) rfl rfl ?_)
  (refine wpD_seqk fun K hK => ?_; refine wpD_region tyOK ?_; ((repeat (rw [wpS_cons]; simp)); (try simp only [wpS_nil, thenD, blockD])); refine hK _ _ _ ?_; clear hK K)
  (refine wpD_seqk fun K hK => ?_; refine wpD_region tyOK ?_; ((repeat (rw [wpS_cons]; simp)); (try simp only [wpS_nil, thenD, blockD])))
  refine cXp (indexFuncL_spec l p g hl hg) ?_
  ((try simp only [wpAft_ret, wpAft_pan, putS, updS, setS]); (repeat (rw [wpS_cons]; simp)); (try simp only [wpS_nil, thenD, blockD]))
  (refine hK _ _ _ ?_; clear hK K)
  (refine wpD_ret ?_; (try simp only [thenD, blockD]); refine EndQ.ret rfl (.inl ?_); simp [tmOf, Out.fgt, D.fgt, D.fgts])
  exact idxB_any p l 0 (by omega)
def outNum (n : Int) : Bool := decide (n < 0) || decide (1048576 < n)
theorem within1_spec (n : Int) : Spec Tryd.prog glob 103 [.int .i64 n] [] (fun o _ => o.fgt = .ret (.bool (outNum n))) := by
  refine Spec.movd globPure (wpD_spec tyOK Tryd.func103 rfl (enters _ _ Tryd.func103 rfl (by decide)) rfl rfl ?_)
  (refine wpD_seqk fun K hK => ?_; refine wpD_region tyOK ?_; ((repeat (rw [wpS_cons]; simp)); (try simp only [wpS_nil, thenD, blockD])); refine hK _ _ _ ?_; clear hK K)
  by_cases h : n < 0
  · (refine wpD_seqk fun K hK => ?_; refine wpD_region tyOK ?_; ((repeat (rw [wpS_cons]; simp [h])); (try simp only [wpS_nil, thenD, blockD])); refine hK _ _ _ ?_; clear hK K)
    (refine wpD_ret ?_; (try simp only [thenD, blockD]); refine EndQ.ret rfl (.inl ?_); simp [tmOf, Out.fgt, D.fgt, D.fgts])
    simp [outNum, h]
  · (refine wpD_seqk fun K hK => ?_; refine wpD_region tyOK ?_; ((repeat (rw [wpS_cons]; simp [h])); (try simp only [wpS_nil, thenD, blockD])); refine hK _ _ _ ?_; clear hK K)
    (refine wpD_ret ?_; (try simp only [thenD, blockD]); refine EndQ.ret rfl (.inl ?_); simp [tmOf, Out.fgt, D.fgt, D.fgts])
    simp [outNum, h]
theorem within_spec (n a : Int) : Spec Tryd.prog glob 96 [.slice [.int .i64 n, .int .i64 a] .any] [] (fun o _ => o.fgt = .ret (.bool (!(outNum n || outNum a)))) := by
  have hc := containsFuncI_spec [n, a] outNum 103 (by unfold LMax; simp) (fun x _ => within1_spec x)
  simp only [List.map_cons, List.map_nil] at hc
  refine Spec.movd globPure (wpD_spec tyOK Tryd.func96 rfl (enters _ _ Tryd.func96 rfl (by decide)) rfl rfl ?_)
  (refine wpD_seqk fun K hK => ?_; refine wpD_region tyOK ?_; ((repeat (rw [wpS_cons]; simp)); (try simp only [wpS_nil, thenD, blockD])); refine hK _ _ _ ?_; clear hK K)
  (refine wpD_seqk fun K hK => ?_; refine wpD_region tyOK ?_; ((repeat (rw [wpS_cons]; simp)); (try simp only [wpS_nil, thenD, blockD])))
  refine cXp (hc) ?_
  ((try simp only [wpAft_ret, wpAft_pan, putS, updS, setS]); (repeat (rw [wpS_cons]; simp)); (try simp only [wpS_nil, thenD, blockD]))
  (refine hK _ _ _ ?_; clear hK K)
  (refine wpD_ret ?_; (try simp only [thenD, blockD]); refine EndQ.ret rfl (.inl ?_); simp [tmOf, Out.fgt, D.fgt, D.fgts])
theorem node1_spec (l : LV) (hl : l.length ≤ LMax) : Spec Tryd.prog glob 98 [encL l] [] (fun o _ => o.fgt = .ret (.bool (!levelRight l 9))) := by
  have h := levelRight_spec l 9 hl
  unfold encL at h ⊢
  refine Spec.movd globPure (wpD_spec tyOK Tryd.func98 rfl (enters _ _ Tryd.func98 rfl (by decide)) rfl rfl ?_)
  (refine wpD_seqk fun K hK => ?_; refine wpD_region tyOK ?_; ((repeat (rw [wpS_cons]; simp)); (try simp only [wpS_nil, thenD, blockD])); refine hK _ _ _ ?_; clear hK K)
  (refine wpD_seqk fun K hK => ?_; refine wpD_region tyOK ?_; ((repeat (rw [wpS_cons]; simp)); (try simp only [wpS_nil, thenD, blockD])))
  refine cXp (h) ?_
  ((try simp only [wpAft_ret, wpAft_pan, putS, updS, setS]); (repeat (rw [wpS_cons]; simp)); (try simp only [wpS_nil, thenD, blockD]))
  (refine hK _ _ _ ?_; clear hK K)
  (refine wpD_ret ?_; (try simp only [thenD, blockD]); refine EndQ.ret rfl (.inl ?_); simp [tmOf, Out.fgt, D.fgt, D.fgts])
/-- how many kids, levels a node of a kind has -/
def nodeKids (k a : Int) : Int := if k = 24 then IntKind.i64.wrap ((kindAt k).2.2.2.1 + a) else (kindAt k).2.2.2.1
def nodeMost (k : Int) : Int := if k = 10 then 10 else 8
def nodeIn (k n a : Int) : Bool := decide (1 ≤ k) && decide (k ≤ 24) && !(outNum n || outNum a)
def nodeHas (k n a : Int) (ls : List LV) (len : Nat) : Bool :=
  decide ((len : Int) = nodeKids k a) && (decide (n = 0) || (kindAt k).1) && (decide (a = 0) || (kindAt k).2.1) && (decide ((kindAt k).2.2.1 < 0) || decide ((ls.length : Int) = (kindAt k).2.2.1)) && decide ((ls.length : Int) ≤ nodeMost k)
def nodeT (t : T) : Bool := nodeIn t.k t.n t.a && nodeHas t.k t.n t.a t.ls t.ks.length && !(t.ls.any fun l => !levelRight l 9)
theorem node_spec (t : T) (ht : okT t) : Spec Tryd.prog glob 87 [encT t] [] (fun o _ => o.fgt = .ret (.bool (nodeT t))) := by
  obtain ⟨k, n, a, ls, ks⟩ := t
  have hll : ls.length ≤ LMax := ht.ll
  have hls := ht.ls
  simp only [T.ls_mk] at hls
  have hw := within_spec n a
  have hcl := containsFuncL_spec ls (fun l => !levelRight l 9) 98 hll (fun x hx => node1_spec x (hls x hx).1)
  have hT : nodeT (.mk k n a ls ks) = (nodeIn k n a && nodeHas k n a ls ks.length && !(ls.any fun l => !levelRight l 9)) := rfl
  rw [hT]
  generalize (ls.any fun l => !levelRight l 9) = L at hcl ⊢
  rw [encT_eq]
  simp only [T.k_mk, T.n_mk, T.a_mk, T.ls_mk, T.ks_mk]
  have hI : nodeIn k n a = (decide (1 ≤ k) && decide (k ≤ 24) && !(outNum n || outNum a)) := rfl
  generalize (outNum n || outNum a) = W at hw hI
  generalize nodeIn k n a = I at hI ⊢
  clear hT hls ht
  refine Spec.movd globPure (wpD_spec tyOK Tryd.func87 rfl (enters _ _ Tryd.func87 rfl (by decide)) rfl rfl ?_)
  (refine wpD_seqk fun K hK => ?_; refine wpD_region tyOK ?_; ((repeat (rw [wpS_cons]; simp)); (try simp only [wpS_nil, thenD, blockD])); refine hK _ _ _ ?_; clear hK K)
  refine wpD_seqk fun K1 hK1 => ?_
  by_cases h1 : k < 1
  · (refine wpD_seqk fun K hK => ?_; refine wpD_region tyOK ?_; ((repeat (rw [wpS_cons]; simp [h1])); (try simp only [wpS_nil, thenD, blockD])); refine hK _ _ _ ?_; clear hK K)
    refine wpD_part rfl (fun _ => ?_) (fun h => by simp at h)
    (refine wpD_seqk fun K hK => ?_; refine wpD_region tyOK ?_; ((repeat (rw [wpS_cons]; simp)); (try simp only [wpS_nil, thenD, blockD])); refine hK _ _ _ ?_; clear hK K)
    (refine wpD_ret ?_; (try simp only [thenD, blockD]); refine EndQ.ret rfl (.inl ?_); simp [tmOf, Out.fgt, D.fgt, D.fgts])
    rw [hI]
    simp [show ¬ 1 ≤ k by omega]
  by_cases h2 : 24 < k
  · (refine wpD_seqk fun K hK => ?_; refine wpD_region tyOK ?_; ((repeat (rw [wpS_cons]; simp [h1, h2])); (try simp only [wpS_nil, thenD, blockD])); refine hK _ _ _ ?_; clear hK K)
    refine wpD_part rfl (fun _ => ?_) (fun h => by simp at h)
    (refine wpD_seqk fun K hK => ?_; refine wpD_region tyOK ?_; ((repeat (rw [wpS_cons]; simp)); (try simp only [wpS_nil, thenD, blockD])); refine hK _ _ _ ?_; clear hK K)
    (refine wpD_ret ?_; (try simp only [thenD, blockD]); refine EndQ.ret rfl (.inl ?_); simp [tmOf, Out.fgt, D.fgt, D.fgts])
    rw [hI]
    simp [show ¬ k ≤ 24 by omega]
  rw [show decide (1 ≤ k) = true from by simpa using (by omega : 1 ≤ k), show decide (k ≤ 24) = true from by simpa using (by omega : k ≤ 24)] at hI
  simp only [Bool.true_and] at hI
  subst hI
  cases W with
  | true =>
    (refine wpD_seqk fun K hK => ?_; refine wpD_region tyOK ?_; ((repeat (rw [wpS_cons]; simp [h1, h2])); (try simp only [wpS_nil, thenD, blockD])))
    refine cXp (hw) ?_
    ((try simp only [wpAft_ret, wpAft_pan, putS, updS, setS]); (repeat (rw [wpS_cons]; simp)); (try simp only [wpS_nil, thenD, blockD]))
    (refine hK _ _ _ ?_; clear hK K)
    refine wpD_part rfl (fun _ => ?_) (fun h => by simp at h)
    (refine wpD_seqk fun K hK => ?_; refine wpD_region tyOK ?_; ((repeat (rw [wpS_cons]; simp)); (try simp only [wpS_nil, thenD, blockD])); refine hK _ _ _ ?_; clear hK K)
    (refine wpD_ret ?_; (try simp only [thenD, blockD]); refine EndQ.ret rfl (.inl ?_); simp [tmOf, Out.fgt, D.fgt, D.fgts])
  | false =>
    (refine wpD_seqk fun K hK => ?_; refine wpD_region tyOK ?_; ((repeat (rw [wpS_cons]; simp [h1, h2])); (try simp only [wpS_nil, thenD, blockD])))
    refine cXp (hw) ?_
    ((try simp only [wpAft_ret, wpAft_pan, putS, updS, setS]); (repeat (rw [wpS_cons]; simp)); (try simp only [wpS_nil, thenD, blockD]))
    (refine hK _ _ _ ?_; clear hK K)
    refine wpD_part rfl (fun h => by simp at h) (fun _ => ?_)
    refine wpD_skip (hK1 _ _ _ ?_)
    clear hK1 K1 hw
    obtain ⟨j, rfl⟩ : ∃ j : Nat, k = j := ⟨k.toNat, by omega⟩
    have hj : j < 25 := by omega
    have hp := kind_part j hj
    simp [partD, TK.isAgg] at hp
    have hH : nodeHas j n a ls ks.length = (decide ((ks.length : Int) = nodeKids j a) && (decide (n = 0) || (kindAt j).1) && (decide (a = 0) || (kindAt j).2.1) && (decide ((kindAt j).2.2.1 < 0) || decide ((ls.length : Int) = (kindAt j).2.2.1)) && decide ((ls.length : Int) ≤ nodeMost j)) := rfl
    generalize nodeHas j n a ls ks.length = H at hH ⊢
    have hK0 : nodeKids j a = if (j : Int) = 24 then IntKind.i64.wrap ((kindAt j).2.2.2.1 + a) else (kindAt j).2.2.2.1 := rfl
    have hM0 : nodeMost j = if (j : Int) = 10 then 10 else 8 := rfl
    generalize nodeKids j a = NK at hH hK0
    generalize nodeMost j = NM at hH hM0
    generalize (kindAt j).1 = bN at hp hH
    generalize (kindAt j).2.1 = bA at hp hH
    generalize (kindAt j).2.2.1 = lv at hp hH
    generalize (kindAt j).2.2.2.1 = kd at hp hK0
    generalize (kindAt j).2.2.2.2 = bd at hp
    (refine wpD_seqk fun K hK => ?_; refine wpD_region tyOK ?_; ((repeat (rw [wpS_cons]; simp [hj, hp])); (try simp only [wpS_nil, thenD, blockD])); refine hK _ _ _ ?_; clear hK K)
    refine wpD_seqf [4, 26, 27, 28, 29, 30, 31, 32, 33, 34, 35, 36, 37, 38, 39] ([.int .i64 NM] ++ [26, 27, 28, 29, 30, 31, 32, 33, 34, 35, 36, 37, 38, 39].map fun _ => .junk) [.cells 27 [.int .i64 j, .int .i64 n, .int .i64 a, .slice (ls.map encL) .any, .slice (ks.map encT) .any], .cells 149 [.bool bN, .bool bA, .int .i64 lv, .int .i64 NK, .int .i64 bd]] ?_ ?_
    rotate_left
    · intro K hK
      (refine wpD_seqk fun K hK => ?_; refine wpD_region tyOK ?_; ((repeat (rw [wpS_cons]; simp)); (try simp only [wpS_nil, thenD, blockD])); refine hK _ _ _ ?_; clear hK K)
      refine wpD_block ?_
      by_cases h3 : (j : Int) = 24
      · have h3' : j = 24 := by omega
        rw [if_pos h3] at hK0
        rw [if_neg (by omega)] at hM0
        subst h3'
        subst hK0 hM0
        (refine wpD_seqk fun K hK => ?_; refine wpD_region tyOK ?_; ((repeat (rw [wpS_cons]; simp)); (try simp only [wpS_nil, thenD, blockD])); refine hK _ _ _ ?_; clear hK K)
        refine wpD_part rfl (fun _ => ?_) (fun h => by simp at h)
        (refine wpD_region tyOK ?_; ((repeat (rw [wpS_cons]; simp)); (try simp only [wpS_nil, thenD, blockD])))
        refine hK _ ?_
        simp [leT, putAll]
      · rw [if_neg h3] at hK0
        subst hK0
        (refine wpD_seqk fun K hK => ?_; refine wpD_region tyOK ?_; ((repeat (rw [wpS_cons]; simp [h3])); (try simp only [wpS_nil, thenD, blockD])); refine hK _ _ _ ?_; clear hK K)
        refine wpD_part rfl (fun h => by simp at h) (fun _ => ?_)
        by_cases h4 : (j : Int) = 10
        · have h4' : j = 10 := by omega
          rw [if_pos h4] at hM0
          subst h4'
          subst hM0
          (refine wpD_seqk fun K hK => ?_; refine wpD_region tyOK ?_; ((repeat (rw [wpS_cons]; simp)); (try simp only [wpS_nil, thenD, blockD])); refine hK _ _ _ ?_; clear hK K)
          refine wpD_part rfl (fun _ => ?_) (fun h => by simp at h)
          (refine wpD_region tyOK ?_; ((repeat (rw [wpS_cons]; simp)); (try simp only [wpS_nil, thenD, blockD])))
          refine hK _ ?_
          simp [leT, putAll]
          try exact (i64w (by omega) (by omega)).symm
        · rw [if_neg h4] at hM0
          subst hM0
          (refine wpD_seqk fun K hK => ?_; refine wpD_region tyOK ?_; ((repeat (rw [wpS_cons]; simp [h4])); (try simp only [wpS_nil, thenD, blockD])); refine hK _ _ _ ?_; clear hK K)
          refine wpD_part rfl (fun h => by simp at h) (fun _ => ?_)
          refine wpD_skip (hK _ ?_)
          simp [leT, putAll]
    · simp only [putAll, List.set, List.map_cons, List.map_nil, List.cons_append, List.nil_append]
      refine wpD_seqk fun K1 hK1 => ?_
      by_cases c1 : (ks.length : Int) = NK
      rotate_left
      · (refine wpD_seqk fun K hK => ?_; refine wpD_region tyOK ?_; ((repeat (rw [wpS_cons]; simp [c1])); (try simp only [wpS_nil, thenD, blockD])); refine hK _ _ _ ?_; clear hK K)
        refine wpD_part rfl (fun _ => ?_) (fun h => by simp at h)
        (refine wpD_seqk fun K hK => ?_; refine wpD_region tyOK ?_; ((repeat (rw [wpS_cons]; simp)); (try simp only [wpS_nil, thenD, blockD])); refine hK _ _ _ ?_; clear hK K)
        (refine wpD_ret ?_; (try simp only [thenD, blockD]); refine EndQ.ret rfl (.inl ?_); simp [tmOf, Out.fgt, D.fgt, D.fgts])
        simp [hH, c1]
      by_cases c2 : n = 0 ∨ (¬ n = 0 ∧ bN = true)
      rotate_left
      · have c2a : ¬ n = 0 := fun h => c2 (.inl h)
        have c2b : bN = false := by cases bN with
          | false => rfl
          | true => exact absurd (.inr ⟨c2a, rfl⟩) c2
        subst c2b
        (refine wpD_seqk fun K hK => ?_; refine wpD_region tyOK ?_; ((repeat (rw [wpS_cons]; simp [c1, c2a])); (try simp only [wpS_nil, thenD, blockD])); refine hK _ _ _ ?_; clear hK K)
        refine wpD_part rfl (fun _ => ?_) (fun h => by simp at h)
        (refine wpD_seqk fun K hK => ?_; refine wpD_region tyOK ?_; ((repeat (rw [wpS_cons]; simp)); (try simp only [wpS_nil, thenD, blockD])); refine hK _ _ _ ?_; clear hK K)
        (refine wpD_ret ?_; (try simp only [thenD, blockD]); refine EndQ.ret rfl (.inl ?_); simp [tmOf, Out.fgt, D.fgt, D.fgts])
        simp [hH, c1, c2a]
      by_cases c3 : a = 0 ∨ (¬ a = 0 ∧ bA = true)
      rotate_left
      · have c3a : ¬ a = 0 := fun h => c3 (.inl h)
        have c3b : bA = false := by cases bA with
          | false => rfl
          | true => exact absurd (.inr ⟨c3a, rfl⟩) c3
        subst c3b
        rcases c2 with c2 | ⟨c2, c2b⟩
        · (refine wpD_seqk fun K hK => ?_; refine wpD_region tyOK ?_; ((repeat (rw [wpS_cons]; simp [c1, c2, c3a])); (try simp only [wpS_nil, thenD, blockD])); refine hK _ _ _ ?_; clear hK K)
          refine wpD_part rfl (fun _ => ?_) (fun h => by simp at h)
          (refine wpD_seqk fun K hK => ?_; refine wpD_region tyOK ?_; ((repeat (rw [wpS_cons]; simp)); (try simp only [wpS_nil, thenD, blockD])); refine hK _ _ _ ?_; clear hK K)
          (refine wpD_ret ?_; (try simp only [thenD, blockD]); refine EndQ.ret rfl (.inl ?_); simp [tmOf, Out.fgt, D.fgt, D.fgts])
          simp [hH, c1, c3a]
        · (refine wpD_seqk fun K hK => ?_; refine wpD_region tyOK ?_; ((repeat (rw [wpS_cons]; simp [c1, c2, c2b, c3a])); (try simp only [wpS_nil, thenD, blockD])); refine hK _ _ _ ?_; clear hK K)
          refine wpD_part rfl (fun _ => ?_) (fun h => by simp at h)
          (refine wpD_seqk fun K hK => ?_; refine wpD_region tyOK ?_; ((repeat (rw [wpS_cons]; simp)); (try simp only [wpS_nil, thenD, blockD])); refine hK _ _ _ ?_; clear hK K)
          (refine wpD_ret ?_; (try simp only [thenD, blockD]); refine EndQ.ret rfl (.inl ?_); simp [tmOf, Out.fgt, D.fgt, D.fgts])
          simp [hH, c1, c3a]
      by_cases c4 : ¬ 0 ≤ lv ∨ (0 ≤ lv ∧ (ls.length : Int) = lv)
      rotate_left
      · have c4a : 0 ≤ lv := by omega
        have c4b : ¬ (ls.length : Int) = lv := fun h => c4 (.inr ⟨c4a, h⟩)
        have hf : H = false := by rw [hH]; simp [show ¬ lv < 0 by omega, c4b]
        rcases c2 with c2 | ⟨c2, c2b⟩ <;> rcases c3 with c3 | ⟨c3, c3b⟩
        · (refine wpD_seqk fun K hK => ?_; refine wpD_region tyOK ?_; ((repeat (rw [wpS_cons]; simp [c1, c2, c3, c4a, c4b])); (try simp only [wpS_nil, thenD, blockD])); refine hK _ _ _ ?_; clear hK K)
          refine wpD_part rfl (fun _ => ?_) (fun h => by simp at h)
          (refine wpD_seqk fun K hK => ?_; refine wpD_region tyOK ?_; ((repeat (rw [wpS_cons]; simp)); (try simp only [wpS_nil, thenD, blockD])); refine hK _ _ _ ?_; clear hK K)
          (refine wpD_ret ?_; (try simp only [thenD, blockD]); refine EndQ.ret rfl (.inl ?_); simp [tmOf, Out.fgt, D.fgt, D.fgts])
          simp [hf]
        · (refine wpD_seqk fun K hK => ?_; refine wpD_region tyOK ?_; ((repeat (rw [wpS_cons]; simp [c1, c2, c3, c3b, c4a, c4b])); (try simp only [wpS_nil, thenD, blockD])); refine hK _ _ _ ?_; clear hK K)
          refine wpD_part rfl (fun _ => ?_) (fun h => by simp at h)
          (refine wpD_seqk fun K hK => ?_; refine wpD_region tyOK ?_; ((repeat (rw [wpS_cons]; simp)); (try simp only [wpS_nil, thenD, blockD])); refine hK _ _ _ ?_; clear hK K)
          (refine wpD_ret ?_; (try simp only [thenD, blockD]); refine EndQ.ret rfl (.inl ?_); simp [tmOf, Out.fgt, D.fgt, D.fgts])
          simp [hf]
        · (refine wpD_seqk fun K hK => ?_; refine wpD_region tyOK ?_; ((repeat (rw [wpS_cons]; simp [c1, c2, c2b, c3, c4a, c4b])); (try simp only [wpS_nil, thenD, blockD])); refine hK _ _ _ ?_; clear hK K)
          refine wpD_part rfl (fun _ => ?_) (fun h => by simp at h)
          (refine wpD_seqk fun K hK => ?_; refine wpD_region tyOK ?_; ((repeat (rw [wpS_cons]; simp)); (try simp only [wpS_nil, thenD, blockD])); refine hK _ _ _ ?_; clear hK K)
          (refine wpD_ret ?_; (try simp only [thenD, blockD]); refine EndQ.ret rfl (.inl ?_); simp [tmOf, Out.fgt, D.fgt, D.fgts])
          simp [hf]
        · (refine wpD_seqk fun K hK => ?_; refine wpD_region tyOK ?_; ((repeat (rw [wpS_cons]; simp [c1, c2, c2b, c3, c3b, c4a, c4b])); (try simp only [wpS_nil, thenD, blockD])); refine hK _ _ _ ?_; clear hK K)
          refine wpD_part rfl (fun _ => ?_) (fun h => by simp at h)
          (refine wpD_seqk fun K hK => ?_; refine wpD_region tyOK ?_; ((repeat (rw [wpS_cons]; simp)); (try simp only [wpS_nil, thenD, blockD])); refine hK _ _ _ ?_; clear hK K)
          (refine wpD_ret ?_; (try simp only [thenD, blockD]); refine EndQ.ret rfl (.inl ?_); simp [tmOf, Out.fgt, D.fgt, D.fgts])
          simp [hf]
      have hHe : H = decide ((ls.length : Int) ≤ NM) := by
        rw [hH]
        rcases c2 with c2 | ⟨c2, c2b⟩ <;> rcases c3 with c3 | ⟨c3, c3b⟩ <;> rcases c4 with c4 | ⟨c4, c4b⟩ <;> simp [*] <;> omega
      clear hH
      by_cases c5 : NM < (ls.length : Int)
      · have hf : H = false := by rw [hHe]; simpa using c5
        rcases c2 with c2 | ⟨c2, c2b⟩ <;> rcases c3 with c3 | ⟨c3, c3b⟩ <;> rcases c4 with c4 | ⟨c4, rfl⟩
        · (refine wpD_seqk fun K hK => ?_; refine wpD_region tyOK ?_; ((repeat (rw [wpS_cons]; simp [c1, c2, c3, c4, c5])); (try simp only [wpS_nil, thenD, blockD])); refine hK _ _ _ ?_; clear hK K)
          refine wpD_part rfl (fun _ => ?_) (fun h => by simp at h)
          (refine wpD_seqk fun K hK => ?_; refine wpD_region tyOK ?_; ((repeat (rw [wpS_cons]; simp)); (try simp only [wpS_nil, thenD, blockD])); refine hK _ _ _ ?_; clear hK K)
          (refine wpD_ret ?_; (try simp only [thenD, blockD]); refine EndQ.ret rfl (.inl ?_); simp [tmOf, Out.fgt, D.fgt, D.fgts])
          simp [hf]
        · (refine wpD_seqk fun K hK => ?_; refine wpD_region tyOK ?_; ((repeat (rw [wpS_cons]; simp [c1, c2, c3, c4, c5])); (try simp only [wpS_nil, thenD, blockD])); refine hK _ _ _ ?_; clear hK K)
          refine wpD_part rfl (fun _ => ?_) (fun h => by simp at h)
          (refine wpD_seqk fun K hK => ?_; refine wpD_region tyOK ?_; ((repeat (rw [wpS_cons]; simp)); (try simp only [wpS_nil, thenD, blockD])); refine hK _ _ _ ?_; clear hK K)
          (refine wpD_ret ?_; (try simp only [thenD, blockD]); refine EndQ.ret rfl (.inl ?_); simp [tmOf, Out.fgt, D.fgt, D.fgts])
          simp [hf]
        · (refine wpD_seqk fun K hK => ?_; refine wpD_region tyOK ?_; ((repeat (rw [wpS_cons]; simp [c1, c2, c3, c3b, c4, c5])); (try simp only [wpS_nil, thenD, blockD])); refine hK _ _ _ ?_; clear hK K)
          refine wpD_part rfl (fun _ => ?_) (fun h => by simp at h)
          (refine wpD_seqk fun K hK => ?_; refine wpD_region tyOK ?_; ((repeat (rw [wpS_cons]; simp)); (try simp only [wpS_nil, thenD, blockD])); refine hK _ _ _ ?_; clear hK K)
          (refine wpD_ret ?_; (try simp only [thenD, blockD]); refine EndQ.ret rfl (.inl ?_); simp [tmOf, Out.fgt, D.fgt, D.fgts])
          simp [hf]
        · (refine wpD_seqk fun K hK => ?_; refine wpD_region tyOK ?_; ((repeat (rw [wpS_cons]; simp [c1, c2, c3, c3b, c4, c5])); (try simp only [wpS_nil, thenD, blockD])); refine hK _ _ _ ?_; clear hK K)
          refine wpD_part rfl (fun _ => ?_) (fun h => by simp at h)
          (refine wpD_seqk fun K hK => ?_; refine wpD_region tyOK ?_; ((repeat (rw [wpS_cons]; simp)); (try simp only [wpS_nil, thenD, blockD])); refine hK _ _ _ ?_; clear hK K)
          (refine wpD_ret ?_; (try simp only [thenD, blockD]); refine EndQ.ret rfl (.inl ?_); simp [tmOf, Out.fgt, D.fgt, D.fgts])
          simp [hf]
        · (refine wpD_seqk fun K hK => ?_; refine wpD_region tyOK ?_; ((repeat (rw [wpS_cons]; simp [c1, c2, c2b, c3, c4, c5])); (try simp only [wpS_nil, thenD, blockD])); refine hK _ _ _ ?_; clear hK K)
          refine wpD_part rfl (fun _ => ?_) (fun h => by simp at h)
          (refine wpD_seqk fun K hK => ?_; refine wpD_region tyOK ?_; ((repeat (rw [wpS_cons]; simp)); (try simp only [wpS_nil, thenD, blockD])); refine hK _ _ _ ?_; clear hK K)
          (refine wpD_ret ?_; (try simp only [thenD, blockD]); refine EndQ.ret rfl (.inl ?_); simp [tmOf, Out.fgt, D.fgt, D.fgts])
          simp [hf]
        · (refine wpD_seqk fun K hK => ?_; refine wpD_region tyOK ?_; ((repeat (rw [wpS_cons]; simp [c1, c2, c2b, c3, c4, c5])); (try simp only [wpS_nil, thenD, blockD])); refine hK _ _ _ ?_; clear hK K)
          refine wpD_part rfl (fun _ => ?_) (fun h => by simp at h)
          (refine wpD_seqk fun K hK => ?_; refine wpD_region tyOK ?_; ((repeat (rw [wpS_cons]; simp)); (try simp only [wpS_nil, thenD, blockD])); refine hK _ _ _ ?_; clear hK K)
          (refine wpD_ret ?_; (try simp only [thenD, blockD]); refine EndQ.ret rfl (.inl ?_); simp [tmOf, Out.fgt, D.fgt, D.fgts])
          simp [hf]
        · (refine wpD_seqk fun K hK => ?_; refine wpD_region tyOK ?_; ((repeat (rw [wpS_cons]; simp [c1, c2, c2b, c3, c3b, c4, c5])); (try simp only [wpS_nil, thenD, blockD])); refine hK _ _ _ ?_; clear hK K)
          refine wpD_part rfl (fun _ => ?_) (fun h => by simp at h)
          (refine wpD_seqk fun K hK => ?_; refine wpD_region tyOK ?_; ((repeat (rw [wpS_cons]; simp)); (try simp only [wpS_nil, thenD, blockD])); refine hK _ _ _ ?_; clear hK K)
          (refine wpD_ret ?_; (try simp only [thenD, blockD]); refine EndQ.ret rfl (.inl ?_); simp [tmOf, Out.fgt, D.fgt, D.fgts])
          simp [hf]
        · (refine wpD_seqk fun K hK => ?_; refine wpD_region tyOK ?_; ((repeat (rw [wpS_cons]; simp [c1, c2, c2b, c3, c3b, c4, c5])); (try simp only [wpS_nil, thenD, blockD])); refine hK _ _ _ ?_; clear hK K)
          refine wpD_part rfl (fun _ => ?_) (fun h => by simp at h)
          (refine wpD_seqk fun K hK => ?_; refine wpD_region tyOK ?_; ((repeat (rw [wpS_cons]; simp)); (try simp only [wpS_nil, thenD, blockD])); refine hK _ _ _ ?_; clear hK K)
          (refine wpD_ret ?_; (try simp only [thenD, blockD]); refine EndQ.ret rfl (.inl ?_); simp [tmOf, Out.fgt, D.fgt, D.fgts])
          simp [hf]
      · have hf : H = true := by rw [hHe]; simpa using (by omega : (ls.length : Int) ≤ NM)
        subst hf
        rcases c2 with c2 | ⟨c2, c2b⟩ <;> rcases c3 with c3 | ⟨c3, c3b⟩ <;> rcases c4 with c4 | ⟨c4, rfl⟩
        · (refine wpD_seqk fun K hK => ?_; refine wpD_region tyOK ?_; ((repeat (rw [wpS_cons]; simp [c1, c2, c3, c4, c5])); (try simp only [wpS_nil, thenD, blockD])); refine hK _ _ _ ?_; clear hK K)
          refine wpD_part rfl (fun h => by simp at h) (fun _ => ?_)
          refine wpD_skip (hK1 _ _ _ ?_)
          (refine wpD_seqk fun K hK => ?_; refine wpD_region tyOK ?_; ((repeat (rw [wpS_cons]; simp)); (try simp only [wpS_nil, thenD, blockD])))
          refine cXp (hcl) ?_
          ((try simp only [wpAft_ret, wpAft_pan, putS, updS, setS]); (repeat (rw [wpS_cons]; simp)); (try simp only [wpS_nil, thenD, blockD]))
          (refine hK _ _ _ ?_; clear hK K)
          (refine wpD_ret ?_; (try simp only [thenD, blockD]); refine EndQ.ret rfl (.inl ?_); simp [tmOf, Out.fgt, D.fgt, D.fgts])
        · (refine wpD_seqk fun K hK => ?_; refine wpD_region tyOK ?_; ((repeat (rw [wpS_cons]; simp [c1, c2, c3, c4, c5])); (try simp only [wpS_nil, thenD, blockD])); refine hK _ _ _ ?_; clear hK K)
          refine wpD_part rfl (fun h => by simp at h) (fun _ => ?_)
          refine wpD_skip (hK1 _ _ _ ?_)
          (refine wpD_seqk fun K hK => ?_; refine wpD_region tyOK ?_; ((repeat (rw [wpS_cons]; simp)); (try simp only [wpS_nil, thenD, blockD])))
          refine cXp (hcl) ?_
          ((try simp only [wpAft_ret, wpAft_pan, putS, updS, setS]); (repeat (rw [wpS_cons]; simp)); (try simp only [wpS_nil, thenD, blockD]))
          (refine hK _ _ _ ?_; clear hK K)
          (refine wpD_ret ?_; (try simp only [thenD, blockD]); refine EndQ.ret rfl (.inl ?_); simp [tmOf, Out.fgt, D.fgt, D.fgts])
        · (refine wpD_seqk fun K hK => ?_; refine wpD_region tyOK ?_; ((repeat (rw [wpS_cons]; simp [c1, c2, c3, c3b, c4, c5])); (try simp only [wpS_nil, thenD, blockD])); refine hK _ _ _ ?_; clear hK K)
          refine wpD_part rfl (fun h => by simp at h) (fun _ => ?_)
          refine wpD_skip (hK1 _ _ _ ?_)
          (refine wpD_seqk fun K hK => ?_; refine wpD_region tyOK ?_; ((repeat (rw [wpS_cons]; simp)); (try simp only [wpS_nil, thenD, blockD])))
          refine cXp (hcl) ?_
          ((try simp only [wpAft_ret, wpAft_pan, putS, updS, setS]); (repeat (rw [wpS_cons]; simp)); (try simp only [wpS_nil, thenD, blockD]))
          (refine hK _ _ _ ?_; clear hK K)
          (refine wpD_ret ?_; (try simp only [thenD, blockD]); refine EndQ.ret rfl (.inl ?_); simp [tmOf, Out.fgt, D.fgt, D.fgts])
        · (refine wpD_seqk fun K hK => ?_; refine wpD_region tyOK ?_; ((repeat (rw [wpS_cons]; simp [c1, c2, c3, c3b, c4, c5])); (try simp only [wpS_nil, thenD, blockD])); refine hK _ _ _ ?_; clear hK K)
          refine wpD_part rfl (fun h => by simp at h) (fun _ => ?_)
          refine wpD_skip (hK1 _ _ _ ?_)
          (refine wpD_seqk fun K hK => ?_; refine wpD_region tyOK ?_; ((repeat (rw [wpS_cons]; simp)); (try simp only [wpS_nil, thenD, blockD])))
          refine cXp (hcl) ?_
          ((try simp only [wpAft_ret, wpAft_pan, putS, updS, setS]); (repeat (rw [wpS_cons]; simp)); (try simp only [wpS_nil, thenD, blockD]))
          (refine hK _ _ _ ?_; clear hK K)
          (refine wpD_ret ?_; (try simp only [thenD, blockD]); refine EndQ.ret rfl (.inl ?_); simp [tmOf, Out.fgt, D.fgt, D.fgts])
        · (refine wpD_seqk fun K hK => ?_; refine wpD_region tyOK ?_; ((repeat (rw [wpS_cons]; simp [c1, c2, c2b, c3, c4, c5])); (try simp only [wpS_nil, thenD, blockD])); refine hK _ _ _ ?_; clear hK K)
          refine wpD_part rfl (fun h => by simp at h) (fun _ => ?_)
          refine wpD_skip (hK1 _ _ _ ?_)
          (refine wpD_seqk fun K hK => ?_; refine wpD_region tyOK ?_; ((repeat (rw [wpS_cons]; simp)); (try simp only [wpS_nil, thenD, blockD])))
          refine cXp (hcl) ?_
          ((try simp only [wpAft_ret, wpAft_pan, putS, updS, setS]); (repeat (rw [wpS_cons]; simp)); (try simp only [wpS_nil, thenD, blockD]))
          (refine hK _ _ _ ?_; clear hK K)
          (refine wpD_ret ?_; (try simp only [thenD, blockD]); refine EndQ.ret rfl (.inl ?_); simp [tmOf, Out.fgt, D.fgt, D.fgts])
        · (refine wpD_seqk fun K hK => ?_; refine wpD_region tyOK ?_; ((repeat (rw [wpS_cons]; simp [c1, c2, c2b, c3, c4, c5])); (try simp only [wpS_nil, thenD, blockD])); refine hK _ _ _ ?_; clear hK K)
          refine wpD_part rfl (fun h => by simp at h) (fun _ => ?_)
          refine wpD_skip (hK1 _ _ _ ?_)
          (refine wpD_seqk fun K hK => ?_; refine wpD_region tyOK ?_; ((repeat (rw [wpS_cons]; simp)); (try simp only [wpS_nil, thenD, blockD])))
          refine cXp (hcl) ?_
          ((try simp only [wpAft_ret, wpAft_pan, putS, updS, setS]); (repeat (rw [wpS_cons]; simp)); (try simp only [wpS_nil, thenD, blockD]))
          (refine hK _ _ _ ?_; clear hK K)
          (refine wpD_ret ?_; (try simp only [thenD, blockD]); refine EndQ.ret rfl (.inl ?_); simp [tmOf, Out.fgt, D.fgt, D.fgts])
        · (refine wpD_seqk fun K hK => ?_; refine wpD_region tyOK ?_; ((repeat (rw [wpS_cons]; simp [c1, c2, c2b, c3, c3b, c4, c5])); (try simp only [wpS_nil, thenD, blockD])); refine hK _ _ _ ?_; clear hK K)
          refine wpD_part rfl (fun h => by simp at h) (fun _ => ?_)
          refine wpD_skip (hK1 _ _ _ ?_)
          (refine wpD_seqk fun K hK => ?_; refine wpD_region tyOK ?_; ((repeat (rw [wpS_cons]; simp)); (try simp only [wpS_nil, thenD, blockD])))
          refine cXp (hcl) ?_
          ((try simp only [wpAft_ret, wpAft_pan, putS, updS, setS]); (repeat (rw [wpS_cons]; simp)); (try simp only [wpS_nil, thenD, blockD]))
          (refine hK _ _ _ ?_; clear hK K)
          (refine wpD_ret ?_; (try simp only [thenD, blockD]); refine EndQ.ret rfl (.inl ?_); simp [tmOf, Out.fgt, D.fgt, D.fgts])
        · (refine wpD_seqk fun K hK => ?_; refine wpD_region tyOK ?_; ((repeat (rw [wpS_cons]; simp [c1, c2, c2b, c3, c3b, c4, c5])); (try simp only [wpS_nil, thenD, blockD])); refine hK _ _ _ ?_; clear hK K)
          refine wpD_part rfl (fun h => by simp at h) (fun _ => ?_)
          refine wpD_skip (hK1 _ _ _ ?_)
          (refine wpD_seqk fun K hK => ?_; refine wpD_region tyOK ?_; ((repeat (rw [wpS_cons]; simp)); (try simp only [wpS_nil, thenD, blockD])))
          refine cXp (hcl) ?_
          ((try simp only [wpAft_ret, wpAft_pan, putS, updS, setS]); (repeat (rw [wpS_cons]; simp)); (try simp only [wpS_nil, thenD, blockD]))
          (refine hK _ _ _ ?_; clear hK K)
          (refine wpD_ret ?_; (try simp only [thenD, blockD]); refine EndQ.ret rfl (.inl ?_); simp [tmOf, Out.fgt, D.fgt, D.fgts])
end Go.Proofs.YtgloldepdhgfaaaDoor
namespace Go.Proofs.YtgloldepdhgfaaaDoor
set_option linter.unusedSimpArgs false
set_option linter.unusedVariables false
set_option maxHeartbeats 10000000
set_option maxRecDepth 20000
open Go.RowKit
attribute [local simp] wpAft_ret wpAft_pan wantD evOp opD tmOf putS updS setS hOf isFree isTok fillD TK.isAgg TK.known partD thenD blockD putAll D.ofV inB nilTest isNilS binX binD binE isCst bndD capB IntKind.min IntKind.max IntKind.signed IntKind.bits dstOf late
mutual
/-- what is counted: is all right, how many -/
def T.cnt : T → Int → Int → Bool × Int
  | .mk k n a ls ks, deep, c =>
    let c1 := IntKind.i64.wrap (c + 1)
    if deep ≤ 400 ∧ c1 ≤ 20000 ∧ nodeT (.mk k n a ls ks) = true then T.cnts ks (IntKind.i64.wrap (deep + 1)) c1 else (false, c1)
def T.cnts : List T → Int → Int → Bool × Int
  | [], _, c => (true, c)
  | t :: r, deep, c => if (T.cnt t deep c).1 = true then T.cnts r deep (T.cnt t deep c).2 else (false, (T.cnt t deep c).2)
end
def T.right (t : T) : Bool := (t.cnt 1 0).1
def numO (c : Int) : HO := .cells 3 [.int .i64 c]
/-- the kids from j on: where one is found, the count then -/
def findK (f : T → Int → Bool × Int) : List T → Nat → Int → Int × Int
  | [], _, c => (-1, c)
  | t :: r, j, c => if (f t c).1 = true then ((j : Int), (f t c).2) else findK f r (j + 1) (f t c).2
theorem findK_at {f : T → Int → Bool × Int} {l : List T} {k : Nat} {c : Int} (h : k < l.length) : findK f (l.drop k) k c = if (f l[k] c).1 = true then ((k : Int), (f l[k] c).2) else findK f (l.drop (k + 1)) (k + 1) (f l[k] c).2 := by
  rw [List.drop_eq_getElem_cons h, findK]
/-- IndexFunc with a closure that counts -/
theorem indexFuncC_spec (l : List T) (f : T → Int → Bool × Int) (g : FuncId) (dp : Int) (hl : l.length ≤ LMax)
    (hg : ∀ x, x ∈ l → ∀ c, Spec Tryd.prog glob g [encT x, .ref (.int .i64 dp), .ref (.box 0 0)] [numO c] (fun o hc => o = .ret (.bool (f x c).1) ∧ hc = [numO (f x c).2])) (c : Int) :
    Spec Tryd.prog glob 99 [.slice (l.map encT) .any, .fn (.func g) [] [.ref (.int .i64 dp), .ref (.box 0 0)]] [numO c] (fun o hc => o = .ret (.int .i64 (findK f l 0 c).1) ∧ hc = [numO (findK f l 0 c).2]) := by
  obtain ⟨R, hR⟩ : ∃ R, R = findK f l 0 c := ⟨_, rfl⟩
  rw [← hR]
  unfold numO
  refine Spec.movd globPure (wpD_spec tyOK Tryd.func99 rfl (enters _ _ Tryd.func99 rfl (by decide)) rfl rfl ?_)
  (refine wpD_seqk fun K hK => ?_; refine wpD_region tyOK ?_; ((repeat (rw [wpS_cons]; simp)); (try simp only [wpS_nil, thenD, blockD])); refine hK _ _ _ ?_; clear hK K)
  refine wpD_seqk fun K1 hK1 => ?_
  (refine wpD_seqk fun K hK => ?_; refine wpD_region tyOK ?_; ((repeat (rw [wpS_cons]; simp)); (try simp only [wpS_nil, thenD, blockD])); refine hK _ _ _ ?_; clear hK K)
  refine wpD_rangeJ tyOK globPure (ti := 3) (tk := 8) (tn := 7) (td := 9) (ts := 18) [4, 5, 8, 9, 10, 11, 12, 13, 14, 15, 16, 17, 18] [] (l.length) (fun k ys hl => ∃ (m : Int), ys = [] ∧ R = findK f (l.drop k) k m ∧ hl = [.cells 3 [.int .i64 m]]) rfl rfl rfl rfl rfl rfl rfl rfl rfl rfl rfl rfl (by simp) (by decide) rfl (by first | assumption | omega | (unfold LMax; omega)) rfl (by kernel_rfl) (by decide) ?_ ?_ ?_
  · exact ⟨c, rfl, hR, rfl⟩
  · rintro i ys hl A hi ⟨m, rfl, hF, rfl⟩ hA hA2
    simp only [putAll, List.set, List.map_cons, List.map_nil, List.cons_append, List.nil_append]
    have hi' : (i : Int) < l.length := by omega
    rw [findK_at hi] at hF
    have hrec := hg l[i] (List.getElem_mem hi) m
    obtain ⟨x, hx⟩ : ∃ x, l[i] = x := ⟨_, rfl⟩
    rw [hx] at hrec hF
    have hEx := encT_eq x
    rw [hEx] at hrec
    unfold numO at hrec
    generalize f x m = B at hrec hF
    obtain ⟨b, m2⟩ := B
    (refine wpD_seqk fun K hK => ?_; refine wpD_region tyOK ?_; ((repeat (rw [wpS_cons]; simp)); (try simp only [wpS_nil, thenD, blockD])); refine hK _ _ _ ?_; clear hK K)
    (refine wpD_seqk fun K hK => ?_; refine wpD_region tyOK ?_; ((repeat (rw [wpS_cons]; simp [hi, hi', hx, hEx])); (try simp only [wpS_nil, thenD, blockD])))
    refine cXo [0] true (hrec) ?_
    (rintro o hc ⟨rfl, rfl⟩; refine ⟨false, ?_⟩; simp [D.ren, D.rens, D.okN, D.okNs, Cp.ren, Cp.okN, HO.ren, HO.okN, okA, renA, renO, hOf, handed, D.fgt, D.fgts, List.range_succ, List.idxOf_cons, Out.ren, told, Out.fgt, upO, updS, setS])
    ((try simp only [wpAft_ret, wpAft_pan, putS, updS, setS]); (repeat (rw [wpS_cons]; simp)); (try simp only [wpS_nil, thenD, blockD]))
    (refine hK _ _ _ ?_; clear hK K)
    cases b with
    | true =>
      refine wpD_part rfl (fun _ => ?_) (fun h => by simp at h)
      (refine wpD_seqk fun K hK => ?_; refine wpD_region tyOK ?_; ((repeat (rw [wpS_cons]; simp)); (try simp only [wpS_nil, thenD, blockD])); refine hK _ _ _ ?_; clear hK K)
      (refine wpD_ret ?_; (try simp only [thenD, blockD]); refine EndQ.ret rfl (.inr ⟨[], by decide, by simp, ?_⟩); simp [Out.mov, movT, movH, movD, D.mov, HO.mov, okM, renM, getW, D.ren, D.rens, D.okN, D.okNs, Cp.ren, Cp.okN, HO.ren, HO.okN, okA, renA, renO, hOf, handed, D.fgt, D.fgts, List.range_succ, List.idxOf_cons, tmOf, Out.fgt, D.fgt, D.fgts])
      rw [hF, if_pos rfl]
      exact ⟨rfl, rfl⟩
    | false =>
      refine wpD_part rfl (fun h => by simp at h) (fun _ => ?_)
      refine wpD_skip ?_
      (refine hA2 ([]) _ _ _ (LeT.refl _) (by decide) (by simp) (by simp [movT, movH, movD, D.mov, HO.mov, okM, renM, getW, D.ren, D.rens, D.okN, D.okNs, Cp.ren, Cp.okN, HO.ren, HO.okN, okA, renA, renO, hOf, handed, D.fgt, D.fgts, List.range_succ, List.idxOf_cons, putAll]) ?_ rfl; simp [movT, movH, movD, D.mov, HO.mov, okM, renM, getW, D.ren, D.rens, D.okN, D.okNs, Cp.ren, Cp.okN, HO.ren, HO.okN, okA, renA, renO, hOf, handed, D.fgt, D.fgts, List.range_succ, List.idxOf_cons])
      exact hF
  · rintro ys hl tl' ⟨m, rfl, hF, rfl⟩ htl
    refine hK1 _ _ _ (wpD_weakL htl ?_)
    simp only [putAll, List.set, List.map_cons, List.map_nil, List.cons_append, List.nil_append]
    rw [List.drop_length, findK] at hF
    subst hF
    (refine wpD_seqk fun K hK => ?_; refine wpD_region tyOK ?_; ((repeat (rw [wpS_cons]; simp)); (try simp only [wpS_nil, thenD, blockD])); refine hK _ _ _ ?_; clear hK K)
    (refine wpD_ret ?_; (try simp only [thenD, blockD]); refine EndQ.ret rfl (.inr ⟨[], by decide, by simp, ?_⟩); simp [Out.mov, movT, movH, movD, D.mov, HO.mov, okM, renM, getW, D.ren, D.rens, D.okN, D.okNs, Cp.ren, Cp.okN, HO.ren, HO.okN, okA, renA, renO, hOf, handed, D.fgt, D.fgts, List.range_succ, List.idxOf_cons, tmOf, Out.fgt, D.fgt, D.fgts])
theorem containsFuncC_spec (l : List T) (f : T → Int → Bool × Int) (g : FuncId) (dp : Int) (hl : l.length ≤ LMax)
    (hg : ∀ x, x ∈ l → ∀ c, Spec Tryd.prog glob g [encT x, .ref (.int .i64 dp), .ref (.box 0 0)] [numO c] (fun o hc => o = .ret (.bool (f x c).1) ∧ hc = [numO (f x c).2])) (c : Int) :
    Spec Tryd.prog glob 88 [.slice (l.map encT) .any, .fn (.func g) [] [.ref (.int .i64 dp), .ref (.box 0 0)]] [numO c] (fun o hc => o = .ret (.bool (decide (0 ≤ (findK f l 0 c).1))) ∧ hc = [numO (findK f l 0 c).2]) := by
  have h := indexFuncC_spec l f g dp hl hg c
  generalize findK f l 0 c = R at h ⊢
  unfold numO at h ⊢
  refine Spec.movd globPure (wpD_spec tyOK Tryd.func88 rfl (enters _ _ Tryd.func88 rfl (by decide)) rfl rfl ?_)
  (refine wpD_seqk fun K hK => ?_; refine wpD_region tyOK ?_; ((repeat (rw [wpS_cons]; simp)); (try simp only [wpS_nil, thenD, blockD])); refine hK _ _ _ ?_; clear hK K)
  (refine wpD_seqk fun K hK => ?_; refine wpD_region tyOK ?_; ((repeat (rw [wpS_cons]; simp)); (try simp only [wpS_nil, thenD, blockD])))
  refine cXo [0] true (h) ?_
  (rintro o hc ⟨rfl, rfl⟩; refine ⟨false, ?_⟩; simp [D.ren, D.rens, D.okN, D.okNs, Cp.ren, Cp.okN, HO.ren, HO.okN, okA, renA, renO, hOf, handed, D.fgt, D.fgts, List.range_succ, List.idxOf_cons, Out.ren, told, Out.fgt, upO, updS, setS])
  ((try simp only [wpAft_ret, wpAft_pan, putS, updS, setS]); (repeat (rw [wpS_cons]; simp)); (try simp only [wpS_nil, thenD, blockD]))
  (refine hK _ _ _ ?_; clear hK K)
  (refine wpD_ret ?_; (try simp only [thenD, blockD]); refine EndQ.ret rfl (.inr ⟨[], by decide, by simp, ?_⟩); simp [Out.mov, movT, movH, movD, D.mov, HO.mov, okM, renM, getW, D.ren, D.rens, D.okN, D.okNs, Cp.ren, Cp.okN, HO.ren, HO.okN, okA, renA, renO, hOf, handed, D.fgt, D.fgts, List.range_succ, List.idxOf_cons, tmOf, Out.fgt, D.fgt, D.fgts])
theorem cnts_find (d : Int) : ∀ (ks : List T) (j : Nat) (c : Int), (T.cnts ks d c).1 = !decide (0 ≤ (findK (fun x c => (!(T.cnt x d c).1, (T.cnt x d c).2)) ks j c).1) ∧ (T.cnts ks d c).2 = (findK (fun x c => (!(T.cnt x d c).1, (T.cnt x d c).2)) ks j c).2
  | [], j, c => by rw [T.cnts, findK]; simp
  | t :: r, j, c => by
    rw [T.cnts, findK]
    have ih := cnts_find d r (j + 1) (T.cnt t d c).2
    cases h : (T.cnt t d c).1 with
    | true => simp only [Bool.not_true, if_true, if_neg Bool.false_ne_true]; exact ih
    | false =>
      simp only [Bool.not_false, if_true, if_neg Bool.false_ne_true]
      refine ⟨?_, by first | rfl | trivial⟩
      have : (0 : Int) ≤ (j : Int) := by omega
      simp [this]
theorem count_spec (t : T) : ∀ (dp c : Int), okT t → Spec Tryd.prog glob 78 [encT t, .int .i64 dp, .box 0 0] [numO c] (fun o hc => o = .ret (.bool (t.cnt dp c).1) ∧ hc = [numO (t.cnt dp c).2]) := by
  induction t using T.ind with
  | h k n a ls ks ih =>
    intro dp c ht
    have hkl : ks.length ≤ LMax := ht.kl
    have hks := ht.ks
    simp only [T.ks_mk] at hks
    have hnode := node_spec _ ht
    have hcl : ∀ x, x ∈ ks → ∀ m, Spec Tryd.prog glob 89 [encT x, .ref (.int .i64 dp), .ref (.box 0 0)] [numO m] (fun o hc => o = .ret (.bool (!(T.cnt x (IntKind.i64.wrap (dp + 1)) m).1)) ∧ hc = [numO (T.cnt x (IntKind.i64.wrap (dp + 1)) m).2]) := by
      intro x hx m
      have h := ih x hx (IntKind.i64.wrap (dp + 1)) m (hks x hx)
      generalize T.cnt x (IntKind.i64.wrap (dp + 1)) m = R at h ⊢
      have hE := encT_eq x
      rw [hE] at h ⊢
      unfold numO at h ⊢
      refine Spec.movd globPure (wpD_spec tyOK Tryd.func89 rfl (enters _ _ Tryd.func89 rfl (by decide)) rfl rfl ?_)
      (refine wpD_seqk fun K hK => ?_; refine wpD_region tyOK ?_; ((repeat (rw [wpS_cons]; simp)); (try simp only [wpS_nil, thenD, blockD])); refine hK _ _ _ ?_; clear hK K)
      (refine wpD_seqk fun K hK => ?_; refine wpD_region tyOK ?_; ((repeat (rw [wpS_cons]; simp)); (try simp only [wpS_nil, thenD, blockD])))
      refine cXo [0] true (h) ?_
      (rintro o hc ⟨rfl, rfl⟩; refine ⟨false, ?_⟩; simp [D.ren, D.rens, D.okN, D.okNs, Cp.ren, Cp.okN, HO.ren, HO.okN, okA, renA, renO, hOf, handed, D.fgt, D.fgts, List.range_succ, List.idxOf_cons, Out.ren, told, Out.fgt, upO, updS, setS])
      ((try simp only [wpAft_ret, wpAft_pan, putS, updS, setS]); (repeat (rw [wpS_cons]; simp)); (try simp only [wpS_nil, thenD, blockD]))
      (refine hK _ _ _ ?_; clear hK K)
      (refine wpD_ret ?_; (try simp only [thenD, blockD]); refine EndQ.ret rfl (.inr ⟨[], by decide, by simp, ?_⟩); simp [Out.mov, movT, movH, movD, D.mov, HO.mov, okM, renM, getW, D.ren, D.rens, D.okN, D.okNs, Cp.ren, Cp.okN, HO.ren, HO.okN, okA, renA, renO, hOf, handed, D.fgt, D.fgts, List.range_succ, List.idxOf_cons, tmOf, Out.fgt, D.fgt, D.fgts])
    have hc1 : T.cnt (.mk k n a ls ks) dp c = if dp ≤ 400 ∧ IntKind.i64.wrap (c + 1) ≤ 20000 ∧ nodeT (.mk k n a ls ks) = true then T.cnts ks (IntKind.i64.wrap (dp + 1)) (IntKind.i64.wrap (c + 1)) else (false, IntKind.i64.wrap (c + 1)) := by rw [T.cnt]
    generalize hC : IntKind.i64.wrap (c + 1) = c1 at hc1
    have hcont := containsFuncC_spec ks (fun x c => (!(T.cnt x (IntKind.i64.wrap (dp + 1)) c).1, (T.cnt x (IntKind.i64.wrap (dp + 1)) c).2)) 89 dp hkl hcl c1
    have hfind := cnts_find (IntKind.i64.wrap (dp + 1)) ks 0 c1
    generalize findK (fun x c => (!(T.cnt x (IntKind.i64.wrap (dp + 1)) c).1, (T.cnt x (IntKind.i64.wrap (dp + 1)) c).2)) ks 0 c1 = F at hcont hfind
    generalize T.cnts ks (IntKind.i64.wrap (dp + 1)) c1 = G at hc1 hfind
    generalize T.cnt (.mk k n a ls ks) dp c = R at hc1 ⊢
    obtain ⟨g1, g2⟩ := G
    obtain ⟨f1, f2⟩ := F
    simp only at hfind
    obtain ⟨rfl, rfl⟩ := hfind
    clear hcl ih hks ht
    generalize nodeT (.mk k n a ls ks) = N at hnode hc1
    rw [encT_eq] at hnode ⊢
    simp only [T.k_mk, T.n_mk, T.a_mk, T.ls_mk, T.ks_mk] at hnode ⊢
    unfold numO at hcont ⊢
    refine Spec.movd globPure (wpD_spec tyOK Tryd.func78 rfl (enters _ _ Tryd.func78 rfl (by decide)) rfl rfl ?_)
    (refine wpD_seqk fun K hK => ?_; refine wpD_region tyOK ?_; ((repeat (rw [wpS_cons]; simp)); (try simp only [wpS_nil, thenD, blockD])); refine hK _ _ _ ?_; clear hK K)
    (refine wpD_seqk fun K hK => ?_; refine wpD_region tyOK ?_; ((repeat (rw [wpS_cons]; simp [hC])); (try simp only [wpS_nil, thenD, blockD])); refine hK _ _ _ ?_; clear hK K)
    by_cases h1 : dp ≤ 400
    · by_cases h2 : c1 ≤ 20000
      · cases N with
        | true =>
          rw [if_pos ⟨h1, h2, rfl⟩] at hc1
          subst hc1
          (refine wpD_stay (T := tyOf) 2 (ty := 3) (ds := [.int .i64 dp]) rfl rfl (by first | exact ⟨rfl, .inr ⟨_, rfl, rfl⟩⟩ | exact ⟨rfl, .inl rfl⟩) ?_; simp [D.frzs, D.frz, HO.frz, dfFrz, refOf, TK.isAgg, FK.isB, FK.isM, FK.isO, D.isLen])
          (refine wpD_stay (T := tyOf) 3 (ty := 133) (ds := [.box 0 0]) rfl rfl (by first | exact ⟨rfl, .inr ⟨_, rfl, rfl⟩⟩ | exact ⟨rfl, .inl rfl⟩) ?_; simp [D.frzs, D.frz, HO.frz, dfFrz, refOf, TK.isAgg, FK.isB, FK.isM, FK.isO, D.isLen])
          (refine wpD_seqk fun K hK => ?_; refine wpD_region tyOK ?_; ((repeat (rw [wpS_cons]; simp [h1, h2])); (try simp only [wpS_nil, thenD, blockD])))
          refine cXp (hnode) ?_
          ((try simp only [wpAft_ret, wpAft_pan, putS, updS, setS]); (repeat (rw [wpS_cons]; simp)); (try simp only [wpS_nil, thenD, blockD]))
          refine cXo [0] true (hcont) ?_
          (rintro o hc ⟨rfl, rfl⟩; refine ⟨false, ?_⟩; simp [D.ren, D.rens, D.okN, D.okNs, Cp.ren, Cp.okN, HO.ren, HO.okN, okA, renA, renO, hOf, handed, D.fgt, D.fgts, List.range_succ, List.idxOf_cons, Out.ren, told, Out.fgt, upO, updS, setS])
          ((try simp only [wpAft_ret, wpAft_pan, putS, updS, setS]); (repeat (rw [wpS_cons]; simp)); (try simp only [wpS_nil, thenD, blockD]))
          (refine hK _ _ _ ?_; clear hK K)
          (refine wpD_ret ?_; (try simp only [thenD, blockD]); refine EndQ.ret rfl (.inr ⟨[], by decide, by simp, ?_⟩); simp [Out.mov, movT, movH, movD, D.mov, HO.mov, okM, renM, getW, D.ren, D.rens, D.okN, D.okNs, Cp.ren, Cp.okN, HO.ren, HO.okN, okA, renA, renO, hOf, handed, D.fgt, D.fgts, List.range_succ, List.idxOf_cons, tmOf, Out.fgt, D.fgt, D.fgts])
        | false =>
          rw [if_neg (by simp)] at hc1
          subst hc1
          (refine wpD_seqk fun K hK => ?_; refine wpD_region tyOK ?_; ((repeat (rw [wpS_cons]; simp [h1, h2])); (try simp only [wpS_nil, thenD, blockD])))
          refine cXp (hnode) ?_
          ((try simp only [wpAft_ret, wpAft_pan, putS, updS, setS]); (repeat (rw [wpS_cons]; simp)); (try simp only [wpS_nil, thenD, blockD]))
          (refine hK _ _ _ ?_; clear hK K)
          (refine wpD_ret ?_; (try simp only [thenD, blockD]); refine EndQ.ret rfl (.inr ⟨[], by decide, by simp, ?_⟩); simp [Out.mov, movT, movH, movD, D.mov, HO.mov, okM, renM, getW, D.ren, D.rens, D.okN, D.okNs, Cp.ren, Cp.okN, HO.ren, HO.okN, okA, renA, renO, hOf, handed, D.fgt, D.fgts, List.range_succ, List.idxOf_cons, tmOf, Out.fgt, D.fgt, D.fgts])
      · rw [if_neg (fun h => h2 h.2.1)] at hc1
        subst hc1
        (refine wpD_seqk fun K hK => ?_; refine wpD_region tyOK ?_; ((repeat (rw [wpS_cons]; simp [h1, h2])); (try simp only [wpS_nil, thenD, blockD])); refine hK _ _ _ ?_; clear hK K)
        (refine wpD_ret ?_; (try simp only [thenD, blockD]); refine EndQ.ret rfl (.inr ⟨[], by decide, by simp, ?_⟩); simp [Out.mov, movT, movH, movD, D.mov, HO.mov, okM, renM, getW, D.ren, D.rens, D.okN, D.okNs, Cp.ren, Cp.okN, HO.ren, HO.okN, okA, renA, renO, hOf, handed, D.fgt, D.fgts, List.range_succ, List.idxOf_cons, tmOf, Out.fgt, D.fgt, D.fgts])
    · rw [if_neg (fun h => h1 h.1)] at hc1
      subst hc1
      (refine wpD_seqk fun K hK => ?_; refine wpD_region tyOK ?_; ((repeat (rw [wpS_cons]; simp [h1])); (try simp only [wpS_nil, thenD, blockD])); refine hK _ _ _ ?_; clear hK K)
      (refine wpD_ret ?_; (try simp only [thenD, blockD]); refine EndQ.ret rfl (.inr ⟨[], by decide, by simp, ?_⟩); simp [Out.mov, movT, movH, movD, D.mov, HO.mov, okM, renM, getW, D.ren, D.rens, D.okN, D.okNs, Cp.ren, Cp.okN, HO.ren, HO.okN, okA, renA, renO, hOf, handed, D.fgt, D.fgts, List.range_succ, List.idxOf_cons, tmOf, Out.fgt, D.fgt, D.fgts])
theorem right_spec (t : T) (ht : okT t) : Spec Tryd.prog glob 58 [encT t] [] (fun o _ => o.fgt = .ret (.bool t.right)) := by
  have h := count_spec t 1 0 ht
  have hR : t.right = (t.cnt 1 0).1 := rfl
  rw [hR]
  generalize t.cnt 1 0 = R at h ⊢
  rw [encT_eq] at h ⊢
  unfold numO at h
  refine Spec.movd globPure (wpD_spec tyOK Tryd.func58 rfl (enters _ _ Tryd.func58 rfl (by decide)) rfl rfl ?_)
  (refine wpD_seqk fun K hK => ?_; refine wpD_region tyOK ?_; ((repeat (rw [wpS_cons]; simp)); (try simp only [wpS_nil, thenD, blockD])); refine hK _ _ _ ?_; clear hK K)
  (refine wpD_seqk fun K hK => ?_; refine wpD_region tyOK ?_; ((repeat (rw [wpS_cons]; simp)); (try simp only [wpS_nil, thenD, blockD])); refine hK _ _ _ ?_; clear hK K)
  (refine wpD_seqk fun K hK => ?_; refine wpD_region tyOK ?_; ((repeat (rw [wpS_cons]; simp)); (try simp only [wpS_nil, thenD, blockD])))
  refine cXo [1] true (h) ?_
  (rintro o hc ⟨rfl, rfl⟩; refine ⟨false, ?_⟩; simp [D.ren, D.rens, D.okN, D.okNs, Cp.ren, Cp.okN, HO.ren, HO.okN, okA, renA, renO, hOf, handed, D.fgt, D.fgts, List.range_succ, List.idxOf_cons, Out.ren, told, Out.fgt, upO, updS, setS])
  ((try simp only [wpAft_ret, wpAft_pan, putS, updS, setS]); (repeat (rw [wpS_cons]; simp)); (try simp only [wpS_nil, thenD, blockD]))
  (refine hK _ _ _ ?_; clear hK K)
  (refine wpD_ret ?_; (try simp only [thenD, blockD]); refine EndQ.ret rfl (.inl ?_); simp [tmOf, Out.fgt, D.fgt, D.fgts])
end Go.Proofs.YtgloldepdhgfaaaDoor
namespace Go.Proofs.YtgloldepdhgfaaaDoor
set_option linter.unusedSimpArgs false
set_option linter.unusedVariables false
open Go.RowKit
mutual
/-- all variables from 0 to 1000 -/
def T.tameB : T → Bool
  | .mk k n _ _ ks => !(decide (k = 1) && (decide (n < 0) || decide (1000 < n))) && T.tamesB ks
def T.tamesB : List T → Bool
  | [] => true
  | t :: r => T.tameB t && T.tamesB r
end
theorem walk_inr {f : Turn} {k n a : Int} {ls : List LV} {ks : List T} {d : Int} {x : Int × List LV} (h : f d (.mk k n a ls ks) = .inr x) : T.walk f (.mk k n a ls ks) d = .mk k x.1 a x.2 (T.walks f k ks 0 d) := by rw [T.walk, h]
theorem walk_lift (m fr k n a : Int) (ls : List LV) (ks : List T) (d : Int) : T.walk (liftTurn m fr) (.mk k n a ls ks) d = .mk k (liftNum m fr d k n) a ls (T.walks (liftTurn m fr) k ks 0 d) := by rw [T.walk]; rfl
mutual
theorem T.lift_zero_aux (fr : Int) : ∀ (t : T) (d : Int), okT t → T.walk (liftTurn 0 fr) t d = t
  | .mk k n a ls ks, d, h => by
    rw [walk_lift, T.lifts_zero_aux fr k ks 0 d h.ks]
    have hn := h.n
    simp only [T.n_mk] at hn
    unfold I64 at hn
    have : liftNum 0 fr d k n = n := by
      unfold liftNum
      split
      · rw [Int.add_zero, i64w hn.1 hn.2]
      · rfl
    rw [this]
theorem T.lifts_zero_aux (fr k : Int) : ∀ (ks : List T) (i : Nat) (d : Int), (∀ t, t ∈ ks → okT t) → T.walks (liftTurn 0 fr) k ks i d = ks
  | [], _, _, _ => by rw [T.walks]
  | t :: r, i, d, h => by
    rw [T.walks, T.lift_zero_aux fr t _ (h t List.mem_cons_self), T.lifts_zero_aux fr k r (i + 1) d (fun t ht => h t (List.mem_cons_of_mem _ ht))]
end
/-! sizes -/
mutual
theorem sz_lift (n fr : Int) : ∀ (t : T) (d : Int), (T.walk (liftTurn n fr) t d).sz = t.sz
  | .mk k m a ls ks, d => by rw [walk_lift, T.sz, T.sz, szs_lift n fr k ks 0 d 1]
theorem szs_lift (n fr k : Int) : ∀ (ks : List T) (i : Nat) (d s : Int), T.szs (T.walks (liftTurn n fr) k ks i d) s = T.szs ks s
  | [], _, _, _ => by rw [T.walks]
  | t :: r, i, d, s => by rw [T.walks, T.szs, T.szs, sz_lift n fr t, szs_lift n fr k r]
end
mutual
theorem free_none (lo : Int) : ∀ (t : T) (d : Int), t.freeB lo lo d = false
  | .mk k n a ls ks, d => by
    rw [T.freeB, frees_none lo k ks 0 d]
    simp [hitB]
theorem frees_none (lo k : Int) : ∀ (ks : List T) (i : Nat) (d : Int), T.freesB lo lo k ks i d = false
  | [], _, _ => by rw [T.freesB]
  | t :: r, i, d => by rw [T.freesB, free_none lo t, frees_none lo k r]; rfl
end
/-! what is the same -/
theorem sameLs_refl : ∀ l : List LV, sameLs l l = true
  | [] => rfl
  | a :: r => by rw [sameLs, sameLs_refl r]; simp
mutual
theorem T.same_refl : ∀ t : T, T.sameB t t = true
  | .mk k n a ls ks => by rw [T.sameB, sameLs_refl, T.sames_refl ks]; simp
theorem T.sames_refl : ∀ ks : List T, T.samesB ks ks = true
  | [] => by rw [T.samesB]
  | t :: r => by rw [T.samesB, T.same_refl t, T.sames_refl r]; rfl
end
theorem T.same_mk {k n a k' n' a' : Int} {ls ls' : List LV} {ks ks' : List T} : T.sameB (.mk k n a ls ks) (.mk k' n' a' ls' ks') = true ↔ k = k' ∧ n = n' ∧ a = a' ∧ sameLs ls ls' = true ∧ T.samesB ks ks' = true := by
  rw [T.sameB]; simp [and_assoc]
mutual
theorem sz_same : ∀ (t u : T), T.sameB t u = true → t.sz = u.sz
  | .mk k n a ls ks, .mk k' n' a' ls' ks', h => by
    obtain ⟨_, _, _, _, h5⟩ := T.same_mk.1 h
    rw [T.sz, T.sz, szs_same ks ks' 1 h5]
theorem szs_same : ∀ (ks ks' : List T) (n : Int), T.samesB ks ks' = true → T.szs ks n = T.szs ks' n
  | [], [], n, _ => rfl
  | [], _ :: _, _, h => by simp [T.samesB] at h
  | _ :: _, [], _, h => by simp [T.samesB] at h
  | t :: r, u :: s, n, h => by
    rw [T.samesB, Bool.and_eq_true] at h
    rw [T.szs, T.szs, sz_same t u h.1, szs_same r s _ h.2]
end
end Go.Proofs.YtgloldepdhgfaaaDoor
namespace Go.Proofs.YtgloldepdhgfaaaDoor
set_option linter.unusedSimpArgs false
set_option linter.unusedVariables false
open Go.RowKit
end Go.Proofs.YtgloldepdhgfaaaDoor
