/-
  What this seat's types are.
-/
import Derived.Test.YtbjgdeednmhpfaaDop
import Derived.Test.YtbjgdeednmhpfaaChecked
import Derived.Laws.StructEq
import Derived.Shelf.Abstract
set_option linter.unusedSimpArgs false
set_option linter.unusedVariables false
namespace Go.Proofs.Ytbjgdeednmhpfaa
open Go.RowKit

theorem TyOK.mk {P : Program} {t : TypeId} {y : Ty} {d : TypeDesc} (h : (P.info? t).map (fun i => (i.size, i.bytes, i.zero)) = some (y.size, y.bytes, some y.zero.cv)) (hc : (y.zero.closed && decide (y.zero.size = y.size) && (y.k.isAgg || decide (y.size = 1))) = true) (hu : P.underlying t = some d) (hk : KOK d y.k) (hq : y.eq2 = true → EqP P t) : TyOK P t y := fun _ => by
  cases hi : P.info? t with
  | none => rw [hi] at h; cases h
  | some i =>
    rw [hi] at h
    simp only [Option.map_some, Option.some.injEq, Prod.mk.injEq] at h
    simp only [Bool.and_eq_true, Bool.or_eq_true, decide_eq_true_eq] at hc
    exact ⟨i, d, rfl, h.1, h.2.1, h.2.2, hc.1.1, hc.1.2, hc.2, hu, hk, hq⟩

theorem eqp_39 : EqP Try.prog 39 := by
  have hu : Try.prog.underlying 39 = some (.struct (Try.prog.fieldsOf 39)) := by kernel_rfl
  have hp : Try.prog.stoodInHeld 39 = false := by kernel_rfl
  have hm : Try.prog.eqGuardType Try.prog.depth 39 = false := by kernel_rfl
  have h0 : Try.prog.underlying 3 = some (.int .i64) := by kernel_rfl
  have hf : ∃ f g : Field, (Try.prog.fieldsOf 39).toList = [f, g] ∧ f.name = "Var" ∧ g.name = "Plus" ∧ f.type = 3 ∧ g.type = 3 ∧ f.offset = 0 ∧ g.offset = 1 := by
    have h : (Try.prog.fieldsOf 39).toList.map (fun f => (f.name, f.type, f.offset)) = [("Var", 3, 0), ("Plus", 3, 1)] := by kernel_rfl
    generalize (Try.prog.fieldsOf 39).toList = l at h ⊢
    rcases l with _ | ⟨f, _ | ⟨g, _ | ⟨x, r⟩⟩⟩
    · simp at h
    · simp at h
    · simp only [List.map_cons, List.map_nil, List.cons.injEq, Prod.mk.injEq, and_true] at h
      exact ⟨f, g, rfl, h.1.1, h.2.1, h.1.2.1, h.2.2.1, h.1.2.2, h.2.2.2⟩
    · simp at h
  refine ⟨fun w x0 x1 y0 y1 => ?_, fun w x y xs ys => run_eqGuard_agg w _ _ _ _ _ _ hm⟩
  obtain ⟨f, g, h1, h2, h3, h4, h5, h6, h7⟩ := hf
  rw [run_neq_struct, run_equalIn_agg _ _ _ _ _ hu hp, h1]
  simp only [Op.eqFields, h2, h3, h4, h5, h6, h7]
  have ha : ∀ w : World, (isAgg 3).run Try.prog w = .ok false w := fun w => run_isAgg_plain h0 rfl w
  simp [go_sem, h0, ha]
  by_cases h8 : x0 = y0 <;> by_cases h9 : x1 = y1 <;> simp [h8, h9]
def tyOf : TypeId → Ty
  | 1 => ⟨.func, 1, 8, .nilf, false⟩
  | 2 => ⟨.int .i64, 1, 8, .int .i64 0, false⟩
  | 3 => ⟨.int .i64, 1, 8, .int .i64 0, false⟩
  | 4 => ⟨.bool, 1, 1, .bool false, false⟩
  | 5 => ⟨.int .u8, 1, 1, .int .u8 0, false⟩
  | 6 => ⟨.int .u8, 1, 1, .int .u8 0, false⟩
  | 7 => ⟨.struct [(0, 2), (1, 3), (2, 4), (3, 6)], 4, 24, .agg [.int .i64 0, .int .i64 0, .bool false, .int .u8 0], false⟩
  | 8 => ⟨.struct [(0, 2), (1, 3), (2, 4), (3, 6)], 4, 24, .agg [.int .i64 0, .int .i64 0, .bool false, .int .u8 0], false⟩
  | 12 => ⟨.int .u64, 1, 8, .int .u64 0, false⟩
  | 13 => ⟨.struct [(0, 9), (1, 12)], 2, 24, .agg [.str ⟨#[]⟩, .int .u64 0], false⟩
  | 14 => ⟨.struct [(0, 9), (1, 12)], 2, 24, .agg [.str ⟨#[]⟩, .int .u64 0], false⟩
  | 15 => ⟨.ptr, 1, 8, .nilp, false⟩
  | 16 => ⟨.ptr, 1, 8, .nilp, false⟩
  | 17 => ⟨.ptr, 1, 8, .nilp, false⟩
  | 18 => ⟨.struct [(0, 17)], 1, 8, .agg [.nilp], false⟩
  | 19 => ⟨.struct [(0, 17)], 1, 8, .agg [.nilp], false⟩
  | 20 => ⟨.iface, 1, 16, .nili, false⟩
  | 21 => ⟨.int .i32, 1, 4, .int .i32 0, false⟩
  | 22 => ⟨.slice 39, 1, 24, .slice [] .full, false⟩
  | 23 => ⟨.struct [(0, 22)], 1, 24, .agg [.slice [] .full], false⟩
  | 24 => ⟨.struct [(0, 22)], 1, 24, .agg [.slice [] .full], false⟩
  | 25 => ⟨.slice 24, 1, 24, .slice [] .full, false⟩
  | 26 => ⟨.func, 1, 8, .nilf, false⟩
  | 27 => ⟨.func, 1, 8, .nilf, false⟩
  | 28 => ⟨.func, 1, 8, .nilf, false⟩
  | 29 => ⟨.func, 1, 8, .nilf, false⟩
  | 30 => ⟨.func, 1, 8, .nilf, false⟩
  | 31 => ⟨.func, 1, 8, .nilf, false⟩
  | 32 => ⟨.func, 1, 8, .nilf, false⟩
  | 33 => ⟨.func, 1, 8, .nilf, false⟩
  | 34 => ⟨.slice 3, 1, 24, .slice [] .full, false⟩
  | 35 => ⟨.func, 1, 8, .nilf, false⟩
  | 36 => ⟨.func, 1, 8, .nilf, false⟩
  | 37 => ⟨.func, 1, 8, .nilf, false⟩
  | 38 => ⟨.struct [(0, 3), (1, 3)], 2, 16, .agg [.int .i64 0, .int .i64 0], false⟩
  | 39 => ⟨.struct [(0, 3), (1, 3)], 2, 16, .agg [.int .i64 0, .int .i64 0], true⟩
  | 40 => ⟨.func, 1, 8, .nilf, false⟩
  | 41 => ⟨.func, 1, 8, .nilf, false⟩
  | 42 => ⟨.func, 1, 8, .nilf, false⟩
  | 43 => ⟨.func, 1, 8, .nilf, false⟩
  | 44 => ⟨.func, 1, 8, .nilf, false⟩
  | 45 => ⟨.func, 1, 8, .nilf, false⟩
  | 46 => ⟨.map 3 3, 1, 8, .nilm, false⟩
  | 47 => ⟨.struct [(0, 46)], 1, 8, .agg [.nilm], false⟩
  | 48 => ⟨.struct [(0, 46)], 1, 8, .agg [.nilm], false⟩
  | 49 => ⟨.struct [(0, 48)], 1, 8, .agg [.nilm], false⟩
  | 50 => ⟨.struct [(0, 48)], 1, 8, .agg [.nilm], false⟩
  | 51 => ⟨.func, 1, 8, .nilf, false⟩
  | 52 => ⟨.func, 1, 8, .nilf, false⟩
  | 53 => ⟨.func, 1, 8, .nilf, false⟩
  | 54 => ⟨.func, 1, 8, .nilf, false⟩
  | 55 => ⟨.func, 1, 8, .nilf, false⟩
  | 56 => ⟨.func, 1, 8, .nilf, false⟩
  | 57 => ⟨.struct [], 0, 0, .agg [], false⟩
  | 58 => ⟨.struct [], 0, 0, .agg [], false⟩
  | 60 => ⟨.func, 1, 8, .nilf, false⟩
  | 61 => ⟨.func, 1, 8, .nilf, false⟩
  | 62 => ⟨.func, 1, 8, .nilf, false⟩
  | 63 => ⟨.func, 1, 8, .nilf, false⟩
  | 64 => ⟨.func, 1, 8, .nilf, false⟩
  | 65 => ⟨.func, 1, 8, .nilf, false⟩
  | 66 => ⟨.func, 1, 8, .nilf, false⟩
  | 67 => ⟨.func, 1, 8, .nilf, false⟩
  | 68 => ⟨.func, 1, 8, .nilf, false⟩
  | 69 => ⟨.func, 1, 8, .nilf, false⟩
  | 70 => ⟨.func, 1, 8, .nilf, false⟩
  | 71 => ⟨.func, 1, 8, .nilf, false⟩
  | 72 => ⟨.func, 1, 8, .nilf, false⟩
  | 73 => ⟨.func, 1, 8, .nilf, false⟩
  | 74 => ⟨.func, 1, 8, .nilf, false⟩
  | 75 => ⟨.int .u64, 1, 8, .int .u64 0, false⟩
  | 76 => ⟨.func, 1, 8, .nilf, false⟩
  | 77 => ⟨.int .i64, 1, 8, .int .i64 0, false⟩
  | 79 => ⟨.func, 1, 8, .nilf, false⟩
  | 80 => ⟨.func, 1, 8, .nilf, false⟩
  | 81 => ⟨.func, 1, 8, .nilf, false⟩
  | 82 => ⟨.func, 1, 8, .nilf, false⟩
  | 84 => ⟨.func, 1, 8, .nilf, false⟩
  | 85 => ⟨.func, 1, 8, .nilf, false⟩
  | 86 => ⟨.int .u32, 1, 4, .int .u32 0, false⟩
  | 87 => ⟨.func, 1, 8, .nilf, false⟩
  | 88 => ⟨.int .u64, 1, 8, .int .u64 0, false⟩
  | 89 => ⟨.int .u64, 1, 8, .int .u64 0, false⟩
  | 90 => ⟨.func, 1, 8, .nilf, false⟩
  | 91 => ⟨.func, 1, 8, .nilf, false⟩
  | 92 => ⟨.func, 1, 8, .nilf, false⟩
  | 93 => ⟨.ptr, 1, 8, .nilp, false⟩
  | 94 => ⟨.func, 1, 8, .nilf, false⟩
  | 95 => ⟨.ptr, 1, 8, .nilp, false⟩
  | 97 => ⟨.func, 1, 8, .nilf, false⟩
  | 98 => ⟨.func, 1, 8, .nilf, false⟩
  | 99 => ⟨.struct [(0, 17), (1, 17), (2, 17), (3, 9)], 4, 40, .agg [.nilp, .nilp, .nilp, .str ⟨#[]⟩], false⟩
  | 100 => ⟨.struct [(0, 17), (1, 17), (2, 17), (3, 9)], 4, 40, .agg [.nilp, .nilp, .nilp, .str ⟨#[]⟩], false⟩
  | 101 => ⟨.arr 0 16, 0, 0, .agg [], false⟩
  | 102 => ⟨.struct [(0, 101)], 0, 0, .agg [], false⟩
  | 103 => ⟨.struct [(0, 101)], 0, 0, .agg [], false⟩
  | 104 => ⟨.func, 1, 8, .nilf, false⟩
  | 105 => ⟨.int .u8, 1, 1, .int .u8 0, false⟩
  | 106 => ⟨.int .u8, 1, 1, .int .u8 0, false⟩
  | 107 => ⟨.func, 1, 8, .nilf, false⟩
  | 108 => ⟨.ptr, 1, 8, .nilp, false⟩
  | 109 => ⟨.int .i32, 1, 4, .int .i32 0, false⟩
  | 110 => ⟨.int .i32, 1, 4, .int .i32 0, false⟩
  | 111 => ⟨.struct [(0, 12), (1, 12), (2, 86), (3, 105), (4, 5), (5, 5), (6, 106), (7, 107), (8, 108), (9, 109), (10, 110)], 11, 48, .agg [.int .u64 0, .int .u64 0, .int .u32 0, .int .u8 0, .int .u8 0, .int .u8 0, .int .u8 0, .nilf, .nilp, .int .i32 0, .int .i32 0], false⟩
  | 112 => ⟨.struct [(0, 12), (1, 12), (2, 86), (3, 105), (4, 5), (5, 5), (6, 106), (7, 107), (8, 108), (9, 109), (10, 110)], 11, 48, .agg [.int .u64 0, .int .u64 0, .int .u32 0, .int .u8 0, .int .u8 0, .int .u8 0, .int .u8 0, .nilf, .nilp, .int .i32 0, .int .i32 0], false⟩
  | _ => ⟨.none, 0, 0, .junk, false⟩

@[simp] theorem ty_1 : tyOf 1 = ⟨.func, 1, 8, .nilf, false⟩ := by kernel_rfl
@[simp] theorem ty_2 : tyOf 2 = ⟨.int .i64, 1, 8, .int .i64 0, false⟩ := by kernel_rfl
@[simp] theorem ty_3 : tyOf 3 = ⟨.int .i64, 1, 8, .int .i64 0, false⟩ := by kernel_rfl
@[simp] theorem ty_4 : tyOf 4 = ⟨.bool, 1, 1, .bool false, false⟩ := by kernel_rfl
@[simp] theorem ty_5 : tyOf 5 = ⟨.int .u8, 1, 1, .int .u8 0, false⟩ := by kernel_rfl
@[simp] theorem ty_6 : tyOf 6 = ⟨.int .u8, 1, 1, .int .u8 0, false⟩ := by kernel_rfl
@[simp] theorem ty_7 : tyOf 7 = ⟨.struct [(0, 2), (1, 3), (2, 4), (3, 6)], 4, 24, .agg [.int .i64 0, .int .i64 0, .bool false, .int .u8 0], false⟩ := by kernel_rfl
@[simp] theorem ty_8 : tyOf 8 = ⟨.struct [(0, 2), (1, 3), (2, 4), (3, 6)], 4, 24, .agg [.int .i64 0, .int .i64 0, .bool false, .int .u8 0], false⟩ := by kernel_rfl
@[simp] theorem ty_12 : tyOf 12 = ⟨.int .u64, 1, 8, .int .u64 0, false⟩ := by kernel_rfl
@[simp] theorem ty_13 : tyOf 13 = ⟨.struct [(0, 9), (1, 12)], 2, 24, .agg [.str ⟨#[]⟩, .int .u64 0], false⟩ := by kernel_rfl
@[simp] theorem ty_14 : tyOf 14 = ⟨.struct [(0, 9), (1, 12)], 2, 24, .agg [.str ⟨#[]⟩, .int .u64 0], false⟩ := by kernel_rfl
@[simp] theorem ty_15 : tyOf 15 = ⟨.ptr, 1, 8, .nilp, false⟩ := by kernel_rfl
@[simp] theorem ty_16 : tyOf 16 = ⟨.ptr, 1, 8, .nilp, false⟩ := by kernel_rfl
@[simp] theorem ty_17 : tyOf 17 = ⟨.ptr, 1, 8, .nilp, false⟩ := by kernel_rfl
@[simp] theorem ty_18 : tyOf 18 = ⟨.struct [(0, 17)], 1, 8, .agg [.nilp], false⟩ := by kernel_rfl
@[simp] theorem ty_19 : tyOf 19 = ⟨.struct [(0, 17)], 1, 8, .agg [.nilp], false⟩ := by kernel_rfl
@[simp] theorem ty_20 : tyOf 20 = ⟨.iface, 1, 16, .nili, false⟩ := by kernel_rfl
@[simp] theorem ty_21 : tyOf 21 = ⟨.int .i32, 1, 4, .int .i32 0, false⟩ := by kernel_rfl
@[simp] theorem ty_22 : tyOf 22 = ⟨.slice 39, 1, 24, .slice [] .full, false⟩ := by kernel_rfl
@[simp] theorem ty_23 : tyOf 23 = ⟨.struct [(0, 22)], 1, 24, .agg [.slice [] .full], false⟩ := by kernel_rfl
@[simp] theorem ty_24 : tyOf 24 = ⟨.struct [(0, 22)], 1, 24, .agg [.slice [] .full], false⟩ := by kernel_rfl
@[simp] theorem ty_25 : tyOf 25 = ⟨.slice 24, 1, 24, .slice [] .full, false⟩ := by kernel_rfl
@[simp] theorem ty_26 : tyOf 26 = ⟨.func, 1, 8, .nilf, false⟩ := by kernel_rfl
@[simp] theorem ty_27 : tyOf 27 = ⟨.func, 1, 8, .nilf, false⟩ := by kernel_rfl
@[simp] theorem ty_28 : tyOf 28 = ⟨.func, 1, 8, .nilf, false⟩ := by kernel_rfl
@[simp] theorem ty_29 : tyOf 29 = ⟨.func, 1, 8, .nilf, false⟩ := by kernel_rfl
@[simp] theorem ty_30 : tyOf 30 = ⟨.func, 1, 8, .nilf, false⟩ := by kernel_rfl
@[simp] theorem ty_31 : tyOf 31 = ⟨.func, 1, 8, .nilf, false⟩ := by kernel_rfl
@[simp] theorem ty_32 : tyOf 32 = ⟨.func, 1, 8, .nilf, false⟩ := by kernel_rfl
@[simp] theorem ty_33 : tyOf 33 = ⟨.func, 1, 8, .nilf, false⟩ := by kernel_rfl
@[simp] theorem ty_34 : tyOf 34 = ⟨.slice 3, 1, 24, .slice [] .full, false⟩ := by kernel_rfl
@[simp] theorem ty_35 : tyOf 35 = ⟨.func, 1, 8, .nilf, false⟩ := by kernel_rfl
@[simp] theorem ty_36 : tyOf 36 = ⟨.func, 1, 8, .nilf, false⟩ := by kernel_rfl
@[simp] theorem ty_37 : tyOf 37 = ⟨.func, 1, 8, .nilf, false⟩ := by kernel_rfl
@[simp] theorem ty_38 : tyOf 38 = ⟨.struct [(0, 3), (1, 3)], 2, 16, .agg [.int .i64 0, .int .i64 0], false⟩ := by kernel_rfl
@[simp] theorem ty_39 : tyOf 39 = ⟨.struct [(0, 3), (1, 3)], 2, 16, .agg [.int .i64 0, .int .i64 0], true⟩ := by kernel_rfl
@[simp] theorem ty_40 : tyOf 40 = ⟨.func, 1, 8, .nilf, false⟩ := by kernel_rfl
@[simp] theorem ty_41 : tyOf 41 = ⟨.func, 1, 8, .nilf, false⟩ := by kernel_rfl
@[simp] theorem ty_42 : tyOf 42 = ⟨.func, 1, 8, .nilf, false⟩ := by kernel_rfl
@[simp] theorem ty_43 : tyOf 43 = ⟨.func, 1, 8, .nilf, false⟩ := by kernel_rfl
@[simp] theorem ty_44 : tyOf 44 = ⟨.func, 1, 8, .nilf, false⟩ := by kernel_rfl
@[simp] theorem ty_45 : tyOf 45 = ⟨.func, 1, 8, .nilf, false⟩ := by kernel_rfl
@[simp] theorem ty_46 : tyOf 46 = ⟨.map 3 3, 1, 8, .nilm, false⟩ := by kernel_rfl
@[simp] theorem ty_47 : tyOf 47 = ⟨.struct [(0, 46)], 1, 8, .agg [.nilm], false⟩ := by kernel_rfl
@[simp] theorem ty_48 : tyOf 48 = ⟨.struct [(0, 46)], 1, 8, .agg [.nilm], false⟩ := by kernel_rfl
@[simp] theorem ty_49 : tyOf 49 = ⟨.struct [(0, 48)], 1, 8, .agg [.nilm], false⟩ := by kernel_rfl
@[simp] theorem ty_50 : tyOf 50 = ⟨.struct [(0, 48)], 1, 8, .agg [.nilm], false⟩ := by kernel_rfl
@[simp] theorem ty_51 : tyOf 51 = ⟨.func, 1, 8, .nilf, false⟩ := by kernel_rfl
@[simp] theorem ty_52 : tyOf 52 = ⟨.func, 1, 8, .nilf, false⟩ := by kernel_rfl
@[simp] theorem ty_53 : tyOf 53 = ⟨.func, 1, 8, .nilf, false⟩ := by kernel_rfl
@[simp] theorem ty_54 : tyOf 54 = ⟨.func, 1, 8, .nilf, false⟩ := by kernel_rfl
@[simp] theorem ty_55 : tyOf 55 = ⟨.func, 1, 8, .nilf, false⟩ := by kernel_rfl
@[simp] theorem ty_56 : tyOf 56 = ⟨.func, 1, 8, .nilf, false⟩ := by kernel_rfl
@[simp] theorem ty_57 : tyOf 57 = ⟨.struct [], 0, 0, .agg [], false⟩ := by kernel_rfl
@[simp] theorem ty_58 : tyOf 58 = ⟨.struct [], 0, 0, .agg [], false⟩ := by kernel_rfl
@[simp] theorem ty_60 : tyOf 60 = ⟨.func, 1, 8, .nilf, false⟩ := by kernel_rfl
@[simp] theorem ty_61 : tyOf 61 = ⟨.func, 1, 8, .nilf, false⟩ := by kernel_rfl
@[simp] theorem ty_62 : tyOf 62 = ⟨.func, 1, 8, .nilf, false⟩ := by kernel_rfl
@[simp] theorem ty_63 : tyOf 63 = ⟨.func, 1, 8, .nilf, false⟩ := by kernel_rfl
@[simp] theorem ty_64 : tyOf 64 = ⟨.func, 1, 8, .nilf, false⟩ := by kernel_rfl
@[simp] theorem ty_65 : tyOf 65 = ⟨.func, 1, 8, .nilf, false⟩ := by kernel_rfl
@[simp] theorem ty_66 : tyOf 66 = ⟨.func, 1, 8, .nilf, false⟩ := by kernel_rfl
@[simp] theorem ty_67 : tyOf 67 = ⟨.func, 1, 8, .nilf, false⟩ := by kernel_rfl
@[simp] theorem ty_68 : tyOf 68 = ⟨.func, 1, 8, .nilf, false⟩ := by kernel_rfl
@[simp] theorem ty_69 : tyOf 69 = ⟨.func, 1, 8, .nilf, false⟩ := by kernel_rfl
@[simp] theorem ty_70 : tyOf 70 = ⟨.func, 1, 8, .nilf, false⟩ := by kernel_rfl
@[simp] theorem ty_71 : tyOf 71 = ⟨.func, 1, 8, .nilf, false⟩ := by kernel_rfl
@[simp] theorem ty_72 : tyOf 72 = ⟨.func, 1, 8, .nilf, false⟩ := by kernel_rfl
@[simp] theorem ty_73 : tyOf 73 = ⟨.func, 1, 8, .nilf, false⟩ := by kernel_rfl
@[simp] theorem ty_74 : tyOf 74 = ⟨.func, 1, 8, .nilf, false⟩ := by kernel_rfl
@[simp] theorem ty_75 : tyOf 75 = ⟨.int .u64, 1, 8, .int .u64 0, false⟩ := by kernel_rfl
@[simp] theorem ty_76 : tyOf 76 = ⟨.func, 1, 8, .nilf, false⟩ := by kernel_rfl
@[simp] theorem ty_77 : tyOf 77 = ⟨.int .i64, 1, 8, .int .i64 0, false⟩ := by kernel_rfl
@[simp] theorem ty_79 : tyOf 79 = ⟨.func, 1, 8, .nilf, false⟩ := by kernel_rfl
@[simp] theorem ty_80 : tyOf 80 = ⟨.func, 1, 8, .nilf, false⟩ := by kernel_rfl
@[simp] theorem ty_81 : tyOf 81 = ⟨.func, 1, 8, .nilf, false⟩ := by kernel_rfl
@[simp] theorem ty_82 : tyOf 82 = ⟨.func, 1, 8, .nilf, false⟩ := by kernel_rfl
@[simp] theorem ty_84 : tyOf 84 = ⟨.func, 1, 8, .nilf, false⟩ := by kernel_rfl
@[simp] theorem ty_85 : tyOf 85 = ⟨.func, 1, 8, .nilf, false⟩ := by kernel_rfl
@[simp] theorem ty_86 : tyOf 86 = ⟨.int .u32, 1, 4, .int .u32 0, false⟩ := by kernel_rfl
@[simp] theorem ty_87 : tyOf 87 = ⟨.func, 1, 8, .nilf, false⟩ := by kernel_rfl
@[simp] theorem ty_88 : tyOf 88 = ⟨.int .u64, 1, 8, .int .u64 0, false⟩ := by kernel_rfl
@[simp] theorem ty_89 : tyOf 89 = ⟨.int .u64, 1, 8, .int .u64 0, false⟩ := by kernel_rfl
@[simp] theorem ty_90 : tyOf 90 = ⟨.func, 1, 8, .nilf, false⟩ := by kernel_rfl
@[simp] theorem ty_91 : tyOf 91 = ⟨.func, 1, 8, .nilf, false⟩ := by kernel_rfl
@[simp] theorem ty_92 : tyOf 92 = ⟨.func, 1, 8, .nilf, false⟩ := by kernel_rfl
@[simp] theorem ty_93 : tyOf 93 = ⟨.ptr, 1, 8, .nilp, false⟩ := by kernel_rfl
@[simp] theorem ty_94 : tyOf 94 = ⟨.func, 1, 8, .nilf, false⟩ := by kernel_rfl
@[simp] theorem ty_95 : tyOf 95 = ⟨.ptr, 1, 8, .nilp, false⟩ := by kernel_rfl
@[simp] theorem ty_97 : tyOf 97 = ⟨.func, 1, 8, .nilf, false⟩ := by kernel_rfl
@[simp] theorem ty_98 : tyOf 98 = ⟨.func, 1, 8, .nilf, false⟩ := by kernel_rfl
@[simp] theorem ty_99 : tyOf 99 = ⟨.struct [(0, 17), (1, 17), (2, 17), (3, 9)], 4, 40, .agg [.nilp, .nilp, .nilp, .str ⟨#[]⟩], false⟩ := by kernel_rfl
@[simp] theorem ty_100 : tyOf 100 = ⟨.struct [(0, 17), (1, 17), (2, 17), (3, 9)], 4, 40, .agg [.nilp, .nilp, .nilp, .str ⟨#[]⟩], false⟩ := by kernel_rfl
@[simp] theorem ty_101 : tyOf 101 = ⟨.arr 0 16, 0, 0, .agg [], false⟩ := by kernel_rfl
@[simp] theorem ty_102 : tyOf 102 = ⟨.struct [(0, 101)], 0, 0, .agg [], false⟩ := by kernel_rfl
@[simp] theorem ty_103 : tyOf 103 = ⟨.struct [(0, 101)], 0, 0, .agg [], false⟩ := by kernel_rfl
@[simp] theorem ty_104 : tyOf 104 = ⟨.func, 1, 8, .nilf, false⟩ := by kernel_rfl
@[simp] theorem ty_105 : tyOf 105 = ⟨.int .u8, 1, 1, .int .u8 0, false⟩ := by kernel_rfl
@[simp] theorem ty_106 : tyOf 106 = ⟨.int .u8, 1, 1, .int .u8 0, false⟩ := by kernel_rfl
@[simp] theorem ty_107 : tyOf 107 = ⟨.func, 1, 8, .nilf, false⟩ := by kernel_rfl
@[simp] theorem ty_108 : tyOf 108 = ⟨.ptr, 1, 8, .nilp, false⟩ := by kernel_rfl
@[simp] theorem ty_109 : tyOf 109 = ⟨.int .i32, 1, 4, .int .i32 0, false⟩ := by kernel_rfl
@[simp] theorem ty_110 : tyOf 110 = ⟨.int .i32, 1, 4, .int .i32 0, false⟩ := by kernel_rfl
@[simp] theorem ty_111 : tyOf 111 = ⟨.struct [(0, 12), (1, 12), (2, 86), (3, 105), (4, 5), (5, 5), (6, 106), (7, 107), (8, 108), (9, 109), (10, 110)], 11, 48, .agg [.int .u64 0, .int .u64 0, .int .u32 0, .int .u8 0, .int .u8 0, .int .u8 0, .int .u8 0, .nilf, .nilp, .int .i32 0, .int .i32 0], false⟩ := by kernel_rfl
@[simp] theorem ty_112 : tyOf 112 = ⟨.struct [(0, 12), (1, 12), (2, 86), (3, 105), (4, 5), (5, 5), (6, 106), (7, 107), (8, 108), (9, 109), (10, 110)], 11, 48, .agg [.int .u64 0, .int .u64 0, .int .u32 0, .int .u8 0, .int .u8 0, .int .u8 0, .int .u8 0, .nilf, .nilp, .int .i32 0, .int .i32 0], false⟩ := by kernel_rfl
theorem tyOK_1 : TyOK Try.prog 1 (tyOf 1) := TyOK.mk (by kernel_rfl) (by kernel_rfl) Try.underlying1 ⟨_, _, _, rfl⟩ (fun h => by cases h)
theorem tyOK_2 : TyOK Try.prog 2 (tyOf 2) := TyOK.mk (by kernel_rfl) (by kernel_rfl) Try.underlying2 rfl (fun h => by cases h)
theorem tyOK_3 : TyOK Try.prog 3 (tyOf 3) := TyOK.mk (by kernel_rfl) (by kernel_rfl) Try.underlying3 rfl (fun h => by cases h)
theorem tyOK_4 : TyOK Try.prog 4 (tyOf 4) := TyOK.mk (by kernel_rfl) (by kernel_rfl) Try.underlying4 rfl (fun h => by cases h)
theorem tyOK_5 : TyOK Try.prog 5 (tyOf 5) := TyOK.mk (by kernel_rfl) (by kernel_rfl) Try.underlying5 rfl (fun h => by cases h)
theorem tyOK_6 : TyOK Try.prog 6 (tyOf 6) := TyOK.mk (by kernel_rfl) (by kernel_rfl) Try.underlying6 rfl (fun h => by cases h)
theorem tyOK_7 : TyOK Try.prog 7 (tyOf 7) := TyOK.mk (by kernel_rfl) (by kernel_rfl) Try.underlying7 ⟨_, rfl, rfl⟩ (fun h => by cases h)
theorem tyOK_8 : TyOK Try.prog 8 (tyOf 8) := TyOK.mk (by kernel_rfl) (by kernel_rfl) Try.underlying8 ⟨_, rfl, rfl⟩ (fun h => by cases h)
theorem tyOK_12 : TyOK Try.prog 12 (tyOf 12) := TyOK.mk (by kernel_rfl) (by kernel_rfl) Try.underlying12 rfl (fun h => by cases h)
theorem tyOK_13 : TyOK Try.prog 13 (tyOf 13) := TyOK.mk (by kernel_rfl) (by kernel_rfl) Try.underlying13 ⟨_, rfl, rfl⟩ (fun h => by cases h)
theorem tyOK_14 : TyOK Try.prog 14 (tyOf 14) := TyOK.mk (by kernel_rfl) (by kernel_rfl) Try.underlying14 ⟨_, rfl, rfl⟩ (fun h => by cases h)
theorem tyOK_15 : TyOK Try.prog 15 (tyOf 15) := TyOK.mk (by kernel_rfl) (by kernel_rfl) Try.underlying15 ⟨_, rfl⟩ (fun h => by cases h)
theorem tyOK_16 : TyOK Try.prog 16 (tyOf 16) := TyOK.mk (by kernel_rfl) (by kernel_rfl) Try.underlying16 ⟨_, rfl⟩ (fun h => by cases h)
theorem tyOK_17 : TyOK Try.prog 17 (tyOf 17) := TyOK.mk (by kernel_rfl) (by kernel_rfl) Try.underlying17 ⟨_, rfl⟩ (fun h => by cases h)
theorem tyOK_18 : TyOK Try.prog 18 (tyOf 18) := TyOK.mk (by kernel_rfl) (by kernel_rfl) Try.underlying18 ⟨_, rfl, rfl⟩ (fun h => by cases h)
theorem tyOK_19 : TyOK Try.prog 19 (tyOf 19) := TyOK.mk (by kernel_rfl) (by kernel_rfl) Try.underlying19 ⟨_, rfl, rfl⟩ (fun h => by cases h)
theorem tyOK_20 : TyOK Try.prog 20 (tyOf 20) := TyOK.mk (by kernel_rfl) (by kernel_rfl) Try.underlying20 ⟨_, rfl⟩ (fun h => by cases h)
theorem tyOK_21 : TyOK Try.prog 21 (tyOf 21) := TyOK.mk (by kernel_rfl) (by kernel_rfl) Try.underlying21 rfl (fun h => by cases h)
theorem tyOK_22 : TyOK Try.prog 22 (tyOf 22) := TyOK.mk (by kernel_rfl) (by kernel_rfl) Try.underlying22 rfl (fun h => by cases h)
theorem tyOK_23 : TyOK Try.prog 23 (tyOf 23) := TyOK.mk (by kernel_rfl) (by kernel_rfl) Try.underlying23 ⟨_, rfl, rfl⟩ (fun h => by cases h)
theorem tyOK_24 : TyOK Try.prog 24 (tyOf 24) := TyOK.mk (by kernel_rfl) (by kernel_rfl) Try.underlying24 ⟨_, rfl, rfl⟩ (fun h => by cases h)
theorem tyOK_25 : TyOK Try.prog 25 (tyOf 25) := TyOK.mk (by kernel_rfl) (by kernel_rfl) Try.underlying25 rfl (fun h => by cases h)
theorem tyOK_26 : TyOK Try.prog 26 (tyOf 26) := TyOK.mk (by kernel_rfl) (by kernel_rfl) Try.underlying26 ⟨_, _, _, rfl⟩ (fun h => by cases h)
theorem tyOK_27 : TyOK Try.prog 27 (tyOf 27) := TyOK.mk (by kernel_rfl) (by kernel_rfl) Try.underlying27 ⟨_, _, _, rfl⟩ (fun h => by cases h)
theorem tyOK_28 : TyOK Try.prog 28 (tyOf 28) := TyOK.mk (by kernel_rfl) (by kernel_rfl) Try.underlying28 ⟨_, _, _, rfl⟩ (fun h => by cases h)
theorem tyOK_29 : TyOK Try.prog 29 (tyOf 29) := TyOK.mk (by kernel_rfl) (by kernel_rfl) Try.underlying29 ⟨_, _, _, rfl⟩ (fun h => by cases h)
theorem tyOK_30 : TyOK Try.prog 30 (tyOf 30) := TyOK.mk (by kernel_rfl) (by kernel_rfl) Try.underlying30 ⟨_, _, _, rfl⟩ (fun h => by cases h)
theorem tyOK_31 : TyOK Try.prog 31 (tyOf 31) := TyOK.mk (by kernel_rfl) (by kernel_rfl) Try.underlying31 ⟨_, _, _, rfl⟩ (fun h => by cases h)
theorem tyOK_32 : TyOK Try.prog 32 (tyOf 32) := TyOK.mk (by kernel_rfl) (by kernel_rfl) Try.underlying32 ⟨_, _, _, rfl⟩ (fun h => by cases h)
theorem tyOK_33 : TyOK Try.prog 33 (tyOf 33) := TyOK.mk (by kernel_rfl) (by kernel_rfl) Try.underlying33 ⟨_, _, _, rfl⟩ (fun h => by cases h)
theorem tyOK_34 : TyOK Try.prog 34 (tyOf 34) := TyOK.mk (by kernel_rfl) (by kernel_rfl) Try.underlying34 rfl (fun h => by cases h)
theorem tyOK_35 : TyOK Try.prog 35 (tyOf 35) := TyOK.mk (by kernel_rfl) (by kernel_rfl) Try.underlying35 ⟨_, _, _, rfl⟩ (fun h => by cases h)
theorem tyOK_36 : TyOK Try.prog 36 (tyOf 36) := TyOK.mk (by kernel_rfl) (by kernel_rfl) Try.underlying36 ⟨_, _, _, rfl⟩ (fun h => by cases h)
theorem tyOK_37 : TyOK Try.prog 37 (tyOf 37) := TyOK.mk (by kernel_rfl) (by kernel_rfl) Try.underlying37 ⟨_, _, _, rfl⟩ (fun h => by cases h)
theorem tyOK_38 : TyOK Try.prog 38 (tyOf 38) := TyOK.mk (by kernel_rfl) (by kernel_rfl) Try.underlying38 ⟨_, rfl, rfl⟩ (fun h => by cases h)
theorem tyOK_39 : TyOK Try.prog 39 (tyOf 39) := TyOK.mk (by kernel_rfl) (by kernel_rfl) Try.underlying39 ⟨_, rfl, rfl⟩ fun _ => eqp_39
theorem tyOK_40 : TyOK Try.prog 40 (tyOf 40) := TyOK.mk (by kernel_rfl) (by kernel_rfl) Try.underlying40 ⟨_, _, _, rfl⟩ (fun h => by cases h)
theorem tyOK_41 : TyOK Try.prog 41 (tyOf 41) := TyOK.mk (by kernel_rfl) (by kernel_rfl) Try.underlying41 ⟨_, _, _, rfl⟩ (fun h => by cases h)
theorem tyOK_42 : TyOK Try.prog 42 (tyOf 42) := TyOK.mk (by kernel_rfl) (by kernel_rfl) Try.underlying42 ⟨_, _, _, rfl⟩ (fun h => by cases h)
theorem tyOK_43 : TyOK Try.prog 43 (tyOf 43) := TyOK.mk (by kernel_rfl) (by kernel_rfl) Try.underlying43 ⟨_, _, _, rfl⟩ (fun h => by cases h)
theorem tyOK_44 : TyOK Try.prog 44 (tyOf 44) := TyOK.mk (by kernel_rfl) (by kernel_rfl) Try.underlying44 ⟨_, _, _, rfl⟩ (fun h => by cases h)
theorem tyOK_45 : TyOK Try.prog 45 (tyOf 45) := TyOK.mk (by kernel_rfl) (by kernel_rfl) Try.underlying45 ⟨_, _, _, rfl⟩ (fun h => by cases h)
theorem tyOK_46 : TyOK Try.prog 46 (tyOf 46) := TyOK.mk (by kernel_rfl) (by kernel_rfl) Try.underlying46 rfl (fun h => by cases h)
theorem tyOK_47 : TyOK Try.prog 47 (tyOf 47) := TyOK.mk (by kernel_rfl) (by kernel_rfl) Try.underlying47 ⟨_, rfl, rfl⟩ (fun h => by cases h)
theorem tyOK_48 : TyOK Try.prog 48 (tyOf 48) := TyOK.mk (by kernel_rfl) (by kernel_rfl) Try.underlying48 ⟨_, rfl, rfl⟩ (fun h => by cases h)
theorem tyOK_49 : TyOK Try.prog 49 (tyOf 49) := TyOK.mk (by kernel_rfl) (by kernel_rfl) Try.underlying49 ⟨_, rfl, rfl⟩ (fun h => by cases h)
theorem tyOK_50 : TyOK Try.prog 50 (tyOf 50) := TyOK.mk (by kernel_rfl) (by kernel_rfl) Try.underlying50 ⟨_, rfl, rfl⟩ (fun h => by cases h)
theorem tyOK_51 : TyOK Try.prog 51 (tyOf 51) := TyOK.mk (by kernel_rfl) (by kernel_rfl) Try.underlying51 ⟨_, _, _, rfl⟩ (fun h => by cases h)
theorem tyOK_52 : TyOK Try.prog 52 (tyOf 52) := TyOK.mk (by kernel_rfl) (by kernel_rfl) Try.underlying52 ⟨_, _, _, rfl⟩ (fun h => by cases h)
theorem tyOK_53 : TyOK Try.prog 53 (tyOf 53) := TyOK.mk (by kernel_rfl) (by kernel_rfl) Try.underlying53 ⟨_, _, _, rfl⟩ (fun h => by cases h)
theorem tyOK_54 : TyOK Try.prog 54 (tyOf 54) := TyOK.mk (by kernel_rfl) (by kernel_rfl) Try.underlying54 ⟨_, _, _, rfl⟩ (fun h => by cases h)
theorem tyOK_55 : TyOK Try.prog 55 (tyOf 55) := TyOK.mk (by kernel_rfl) (by kernel_rfl) Try.underlying55 ⟨_, _, _, rfl⟩ (fun h => by cases h)
theorem tyOK_56 : TyOK Try.prog 56 (tyOf 56) := TyOK.mk (by kernel_rfl) (by kernel_rfl) Try.underlying56 ⟨_, _, _, rfl⟩ (fun h => by cases h)
theorem tyOK_57 : TyOK Try.prog 57 (tyOf 57) := TyOK.mk (by kernel_rfl) (by kernel_rfl) Try.underlying57 ⟨_, rfl, rfl⟩ (fun h => by cases h)
theorem tyOK_58 : TyOK Try.prog 58 (tyOf 58) := TyOK.mk (by kernel_rfl) (by kernel_rfl) Try.underlying58 ⟨_, rfl, rfl⟩ (fun h => by cases h)
theorem tyOK_60 : TyOK Try.prog 60 (tyOf 60) := TyOK.mk (by kernel_rfl) (by kernel_rfl) Try.underlying60 ⟨_, _, _, rfl⟩ (fun h => by cases h)
theorem tyOK_61 : TyOK Try.prog 61 (tyOf 61) := TyOK.mk (by kernel_rfl) (by kernel_rfl) Try.underlying61 ⟨_, _, _, rfl⟩ (fun h => by cases h)
theorem tyOK_62 : TyOK Try.prog 62 (tyOf 62) := TyOK.mk (by kernel_rfl) (by kernel_rfl) Try.underlying62 ⟨_, _, _, rfl⟩ (fun h => by cases h)
theorem tyOK_63 : TyOK Try.prog 63 (tyOf 63) := TyOK.mk (by kernel_rfl) (by kernel_rfl) Try.underlying63 ⟨_, _, _, rfl⟩ (fun h => by cases h)
theorem tyOK_64 : TyOK Try.prog 64 (tyOf 64) := TyOK.mk (by kernel_rfl) (by kernel_rfl) Try.underlying64 ⟨_, _, _, rfl⟩ (fun h => by cases h)
theorem tyOK_65 : TyOK Try.prog 65 (tyOf 65) := TyOK.mk (by kernel_rfl) (by kernel_rfl) Try.underlying65 ⟨_, _, _, rfl⟩ (fun h => by cases h)
theorem tyOK_66 : TyOK Try.prog 66 (tyOf 66) := TyOK.mk (by kernel_rfl) (by kernel_rfl) Try.underlying66 ⟨_, _, _, rfl⟩ (fun h => by cases h)
theorem tyOK_67 : TyOK Try.prog 67 (tyOf 67) := TyOK.mk (by kernel_rfl) (by kernel_rfl) Try.underlying67 ⟨_, _, _, rfl⟩ (fun h => by cases h)
theorem tyOK_68 : TyOK Try.prog 68 (tyOf 68) := TyOK.mk (by kernel_rfl) (by kernel_rfl) Try.underlying68 ⟨_, _, _, rfl⟩ (fun h => by cases h)
theorem tyOK_69 : TyOK Try.prog 69 (tyOf 69) := TyOK.mk (by kernel_rfl) (by kernel_rfl) Try.underlying69 ⟨_, _, _, rfl⟩ (fun h => by cases h)
theorem tyOK_70 : TyOK Try.prog 70 (tyOf 70) := TyOK.mk (by kernel_rfl) (by kernel_rfl) Try.underlying70 ⟨_, _, _, rfl⟩ (fun h => by cases h)
theorem tyOK_71 : TyOK Try.prog 71 (tyOf 71) := TyOK.mk (by kernel_rfl) (by kernel_rfl) Try.underlying71 ⟨_, _, _, rfl⟩ (fun h => by cases h)
theorem tyOK_72 : TyOK Try.prog 72 (tyOf 72) := TyOK.mk (by kernel_rfl) (by kernel_rfl) Try.underlying72 ⟨_, _, _, rfl⟩ (fun h => by cases h)
theorem tyOK_73 : TyOK Try.prog 73 (tyOf 73) := TyOK.mk (by kernel_rfl) (by kernel_rfl) Try.underlying73 ⟨_, _, _, rfl⟩ (fun h => by cases h)
theorem tyOK_74 : TyOK Try.prog 74 (tyOf 74) := TyOK.mk (by kernel_rfl) (by kernel_rfl) Try.underlying74 ⟨_, _, _, rfl⟩ (fun h => by cases h)
theorem tyOK_75 : TyOK Try.prog 75 (tyOf 75) := TyOK.mk (by kernel_rfl) (by kernel_rfl) Try.underlying75 rfl (fun h => by cases h)
theorem tyOK_76 : TyOK Try.prog 76 (tyOf 76) := TyOK.mk (by kernel_rfl) (by kernel_rfl) Try.underlying76 ⟨_, _, _, rfl⟩ (fun h => by cases h)
theorem tyOK_77 : TyOK Try.prog 77 (tyOf 77) := TyOK.mk (by kernel_rfl) (by kernel_rfl) Try.underlying77 rfl (fun h => by cases h)
theorem tyOK_79 : TyOK Try.prog 79 (tyOf 79) := TyOK.mk (by kernel_rfl) (by kernel_rfl) Try.underlying79 ⟨_, _, _, rfl⟩ (fun h => by cases h)
theorem tyOK_80 : TyOK Try.prog 80 (tyOf 80) := TyOK.mk (by kernel_rfl) (by kernel_rfl) Try.underlying80 ⟨_, _, _, rfl⟩ (fun h => by cases h)
theorem tyOK_81 : TyOK Try.prog 81 (tyOf 81) := TyOK.mk (by kernel_rfl) (by kernel_rfl) Try.underlying81 ⟨_, _, _, rfl⟩ (fun h => by cases h)
theorem tyOK_82 : TyOK Try.prog 82 (tyOf 82) := TyOK.mk (by kernel_rfl) (by kernel_rfl) Try.underlying82 ⟨_, _, _, rfl⟩ (fun h => by cases h)
theorem tyOK_84 : TyOK Try.prog 84 (tyOf 84) := TyOK.mk (by kernel_rfl) (by kernel_rfl) Try.underlying84 ⟨_, _, _, rfl⟩ (fun h => by cases h)
theorem tyOK_85 : TyOK Try.prog 85 (tyOf 85) := TyOK.mk (by kernel_rfl) (by kernel_rfl) Try.underlying85 ⟨_, _, _, rfl⟩ (fun h => by cases h)
theorem tyOK_86 : TyOK Try.prog 86 (tyOf 86) := TyOK.mk (by kernel_rfl) (by kernel_rfl) Try.underlying86 rfl (fun h => by cases h)
theorem tyOK_87 : TyOK Try.prog 87 (tyOf 87) := TyOK.mk (by kernel_rfl) (by kernel_rfl) Try.underlying87 ⟨_, _, _, rfl⟩ (fun h => by cases h)
theorem tyOK_88 : TyOK Try.prog 88 (tyOf 88) := TyOK.mk (by kernel_rfl) (by kernel_rfl) Try.underlying88 rfl (fun h => by cases h)
theorem tyOK_89 : TyOK Try.prog 89 (tyOf 89) := TyOK.mk (by kernel_rfl) (by kernel_rfl) Try.underlying89 rfl (fun h => by cases h)
theorem tyOK_90 : TyOK Try.prog 90 (tyOf 90) := TyOK.mk (by kernel_rfl) (by kernel_rfl) Try.underlying90 ⟨_, _, _, rfl⟩ (fun h => by cases h)
theorem tyOK_91 : TyOK Try.prog 91 (tyOf 91) := TyOK.mk (by kernel_rfl) (by kernel_rfl) Try.underlying91 ⟨_, _, _, rfl⟩ (fun h => by cases h)
theorem tyOK_92 : TyOK Try.prog 92 (tyOf 92) := TyOK.mk (by kernel_rfl) (by kernel_rfl) Try.underlying92 ⟨_, _, _, rfl⟩ (fun h => by cases h)
theorem tyOK_93 : TyOK Try.prog 93 (tyOf 93) := TyOK.mk (by kernel_rfl) (by kernel_rfl) Try.underlying93 ⟨_, rfl⟩ (fun h => by cases h)
theorem tyOK_94 : TyOK Try.prog 94 (tyOf 94) := TyOK.mk (by kernel_rfl) (by kernel_rfl) Try.underlying94 ⟨_, _, _, rfl⟩ (fun h => by cases h)
theorem tyOK_95 : TyOK Try.prog 95 (tyOf 95) := TyOK.mk (by kernel_rfl) (by kernel_rfl) Try.underlying95 ⟨_, rfl⟩ (fun h => by cases h)
theorem tyOK_97 : TyOK Try.prog 97 (tyOf 97) := TyOK.mk (by kernel_rfl) (by kernel_rfl) Try.underlying97 ⟨_, _, _, rfl⟩ (fun h => by cases h)
theorem tyOK_98 : TyOK Try.prog 98 (tyOf 98) := TyOK.mk (by kernel_rfl) (by kernel_rfl) Try.underlying98 ⟨_, _, _, rfl⟩ (fun h => by cases h)
theorem tyOK_99 : TyOK Try.prog 99 (tyOf 99) := TyOK.mk (by kernel_rfl) (by kernel_rfl) Try.underlying99 ⟨_, rfl, rfl⟩ (fun h => by cases h)
theorem tyOK_100 : TyOK Try.prog 100 (tyOf 100) := TyOK.mk (by kernel_rfl) (by kernel_rfl) Try.underlying100 ⟨_, rfl, rfl⟩ (fun h => by cases h)
theorem tyOK_101 : TyOK Try.prog 101 (tyOf 101) := TyOK.mk (by kernel_rfl) (by kernel_rfl) Try.underlying101 rfl (fun h => by cases h)
theorem tyOK_102 : TyOK Try.prog 102 (tyOf 102) := TyOK.mk (by kernel_rfl) (by kernel_rfl) Try.underlying102 ⟨_, rfl, rfl⟩ (fun h => by cases h)
theorem tyOK_103 : TyOK Try.prog 103 (tyOf 103) := TyOK.mk (by kernel_rfl) (by kernel_rfl) Try.underlying103 ⟨_, rfl, rfl⟩ (fun h => by cases h)
theorem tyOK_104 : TyOK Try.prog 104 (tyOf 104) := TyOK.mk (by kernel_rfl) (by kernel_rfl) Try.underlying104 ⟨_, _, _, rfl⟩ (fun h => by cases h)
theorem tyOK_105 : TyOK Try.prog 105 (tyOf 105) := TyOK.mk (by kernel_rfl) (by kernel_rfl) Try.underlying105 rfl (fun h => by cases h)
theorem tyOK_106 : TyOK Try.prog 106 (tyOf 106) := TyOK.mk (by kernel_rfl) (by kernel_rfl) Try.underlying106 rfl (fun h => by cases h)
theorem tyOK_107 : TyOK Try.prog 107 (tyOf 107) := TyOK.mk (by kernel_rfl) (by kernel_rfl) Try.underlying107 ⟨_, _, _, rfl⟩ (fun h => by cases h)
theorem tyOK_108 : TyOK Try.prog 108 (tyOf 108) := TyOK.mk (by kernel_rfl) (by kernel_rfl) Try.underlying108 ⟨_, rfl⟩ (fun h => by cases h)
theorem tyOK_109 : TyOK Try.prog 109 (tyOf 109) := TyOK.mk (by kernel_rfl) (by kernel_rfl) Try.underlying109 rfl (fun h => by cases h)
theorem tyOK_110 : TyOK Try.prog 110 (tyOf 110) := TyOK.mk (by kernel_rfl) (by kernel_rfl) Try.underlying110 rfl (fun h => by cases h)
theorem tyOK_111 : TyOK Try.prog 111 (tyOf 111) := TyOK.mk (by kernel_rfl) (by kernel_rfl) Try.underlying111 ⟨_, rfl, rfl⟩ (fun h => by cases h)
theorem tyOK_112 : TyOK Try.prog 112 (tyOf 112) := TyOK.mk (by kernel_rfl) (by kernel_rfl) Try.underlying112 ⟨_, rfl, rfl⟩ (fun h => by cases h)

theorem tyOK (t : TypeId) : TyOK Try.prog t (tyOf t) := by
  unfold tyOf
  split
  · exact tyOK_1
  · exact tyOK_2
  · exact tyOK_3
  · exact tyOK_4
  · exact tyOK_5
  · exact tyOK_6
  · exact tyOK_7
  · exact tyOK_8
  · exact tyOK_12
  · exact tyOK_13
  · exact tyOK_14
  · exact tyOK_15
  · exact tyOK_16
  · exact tyOK_17
  · exact tyOK_18
  · exact tyOK_19
  · exact tyOK_20
  · exact tyOK_21
  · exact tyOK_22
  · exact tyOK_23
  · exact tyOK_24
  · exact tyOK_25
  · exact tyOK_26
  · exact tyOK_27
  · exact tyOK_28
  · exact tyOK_29
  · exact tyOK_30
  · exact tyOK_31
  · exact tyOK_32
  · exact tyOK_33
  · exact tyOK_34
  · exact tyOK_35
  · exact tyOK_36
  · exact tyOK_37
  · exact tyOK_38
  · exact tyOK_39
  · exact tyOK_40
  · exact tyOK_41
  · exact tyOK_42
  · exact tyOK_43
  · exact tyOK_44
  · exact tyOK_45
  · exact tyOK_46
  · exact tyOK_47
  · exact tyOK_48
  · exact tyOK_49
  · exact tyOK_50
  · exact tyOK_51
  · exact tyOK_52
  · exact tyOK_53
  · exact tyOK_54
  · exact tyOK_55
  · exact tyOK_56
  · exact tyOK_57
  · exact tyOK_58
  · exact tyOK_60
  · exact tyOK_61
  · exact tyOK_62
  · exact tyOK_63
  · exact tyOK_64
  · exact tyOK_65
  · exact tyOK_66
  · exact tyOK_67
  · exact tyOK_68
  · exact tyOK_69
  · exact tyOK_70
  · exact tyOK_71
  · exact tyOK_72
  · exact tyOK_73
  · exact tyOK_74
  · exact tyOK_75
  · exact tyOK_76
  · exact tyOK_77
  · exact tyOK_79
  · exact tyOK_80
  · exact tyOK_81
  · exact tyOK_82
  · exact tyOK_84
  · exact tyOK_85
  · exact tyOK_86
  · exact tyOK_87
  · exact tyOK_88
  · exact tyOK_89
  · exact tyOK_90
  · exact tyOK_91
  · exact tyOK_92
  · exact tyOK_93
  · exact tyOK_94
  · exact tyOK_95
  · exact tyOK_97
  · exact tyOK_98
  · exact tyOK_99
  · exact tyOK_100
  · exact tyOK_101
  · exact tyOK_102
  · exact tyOK_103
  · exact tyOK_104
  · exact tyOK_105
  · exact tyOK_106
  · exact tyOK_107
  · exact tyOK_108
  · exact tyOK_109
  · exact tyOK_110
  · exact tyOK_111
  · exact tyOK_112
  · intro h; cases h
end Go.Proofs.Ytbjgdeednmhpfaa
