/-
  What each operation does to data: evOp.
-/
import Derived.Test.YtbjgdeednmhpfaaDrel
set_option linter.unusedSimpArgs false
set_option linter.unusedVariables false
namespace Go.Proofs.Ytbjgdeednmhpfaa
open Go.RowKit

/-- what a type is -/
inductive TK where
  | none | bool | str | ptr | func | iface
  | int (k : IntKind)
  | slice (e : TypeId)
  | struct (fs : List (Nat × TypeId))
  | arr (n : Nat) (e : TypeId)
  | map (k e : TypeId)

structure Ty where
  k : TK
  size : Nat
  bytes : Nat
  zero : D
  eq2 : Bool

def TK.isAgg : TK → Bool
  | .struct _ => true
  | .arr _ _ => true
  | _ => false

def TK.known : TK → Bool
  | .none => false
  | _ => true

/-- may it stand in one cell? -/
def D.one : D → Bool
  | .junk => false
  | .agg _ => false
  | .tuple _ => false
  | _ => true

/-- an int's bounds, in a Bool -/
def inB (k : IntKind) (n : Int) : Bool := decide (k.min ≤ n) && decide (n ≤ k.max)

mutual
/-- a datum without memory, as a value -/
def D.cv : D → Value
  | .int k n => .int k n
  | .bool b => .bool b
  | .str s => .string s
  | .nilp => .pointer none
  | .nilf => .nilFunc
  | .nili => .nilIface
  | .nilm => .map none
  | .slice _ _ => .slice none 0 0
  | .agg ds => .agg (D.cvs ds).toArray
  | _ => .tuple #[]
def D.cvs : List D → List Value
  | [] => []
  | d :: r => D.cv d :: D.cvs r
def D.closed : D → Bool
  | .int k n => inB k n
  | .bool _ | .str _ | .nilp | .nilf | .nili | .nilm => true
  | .slice [] .full => true
  | .agg ds => D.closeds ds
  | _ => false
def D.closeds : List D → Bool
  | [] => true
  | d :: r => D.closed d && D.closeds r
end

mutual
theorem Rp_cv (ρ : Rho) (w : World) : ∀ d : D, d.closed = true → Rp ρ w d d.cv
  | .int k n, h => by
    rw [D.closed, inB, Bool.and_eq_true] at h
    rw [Rp, D.cv]; exact ⟨rfl, of_decide_eq_true h.1, of_decide_eq_true h.2⟩
  | .bool b, _ => by rw [Rp, D.cv]
  | .str s, _ => by rw [Rp, D.cv]
  | .nilp, _ => by rw [Rp, D.cv]
  | .nilf, _ => by rw [Rp, D.cv]
  | .nili, _ => by rw [Rp, D.cv]
  | .nilm, _ => by rw [Rp, D.cv]
  | .slice [] .full, _ => by
    rw [Rp, D.cv]
    exact ⟨none, 0, 0, rfl, Nat.le_refl _, Nat.zero_le _, Nat.zero_le _, (fun _ h => by cases h), rfl, fun h => absurd rfl h⟩
  | .slice [] .any, h => by simp [D.closed] at h
  | .slice [] (.tok _), h => by simp [D.closed] at h
  | .slice (_ :: _) _, h => by simp [D.closed] at h
  | .agg ds, h => by
    rw [D.closed] at h
    rw [Rp, D.cv]; exact ⟨_, rfl, RpL_cv ρ w ds h⟩
  | .junk, h => by simp [D.closed] at h
  | .fn _ _ _, h => by simp [D.closed] at h
  | .iface _ _, h => by simp [D.closed] at h
  | .tuple _, h => by simp [D.closed] at h
  | .box _ _, h => by simp [D.closed] at h
  | .ref _, h => by simp [D.closed] at h
  | .map _, h => by simp [D.closed] at h
  | .own _ _, h => by simp [D.closed] at h
  | .ebox _ _ _ _, h => by simp [D.closed] at h
theorem RpL_cv (ρ : Rho) (w : World) : ∀ ds : List D, D.closeds ds = true → RpL ρ w ds (D.cvs ds)
  | [], _ => by rw [RpL_nil, D.cvs]
  | d :: r, h => by
    rw [D.closeds, Bool.and_eq_true] at h
    rw [D.cvs]
    exact RpL_cons'.2 ⟨Rp_cv ρ w d h.1, RpL_cv ρ w r h.2⟩
end

def KOK (d : TypeDesc) : TK → Prop
  | .none => True
  | .bool => d = .bool
  | .str => d = .string
  | .ptr => ∃ e, d = .pointer e
  | .func => ∃ a b c, d = .func a b c
  | .iface => ∃ ms, d = .interface ms
  | .int k => d = .int k
  | .slice e => d = .slice e
  | .struct fs => ∃ fields, d = .struct fields ∧ fields.toList.map (fun f => (f.offset, f.type)) = fs
  | .arr n e => d = .array n e
  | .map k e => d = .map k e

/-- a struct of two ints, as '==' sees it -/
def EqP (P : Program) (t : TypeId) : Prop :=
  (∀ (w : World) (a b c d : Int), (binOp .neq t (.agg #[.int .i64 a, .int .i64 b]) (.agg #[.int .i64 c, .int .i64 d])).run P w = .ok (.bool (!(decide (a = c) && decide (b = d)))) w) ∧
  (∀ (w : World) (x y : Operand) (xs ys : Array Value), (eqGuard .neq t x y (.agg xs) (.agg ys)).run P w = .ok () w)

/-- a type of the program is what is said of it -/
def TyOK (P : Program) (t : TypeId) (y : Ty) : Prop :=
  y.k.known = true → ∃ i d, P.info? t = some i ∧ i.size = y.size ∧ i.bytes = y.bytes ∧ i.zero = some y.zero.cv ∧ y.zero.closed = true ∧ y.zero.size = y.size ∧ (y.k.isAgg = true ∨ y.size = 1) ∧ P.underlying t = some d ∧ KOK d y.k ∧ (y.eq2 = true → EqP P t)

/-- a constant -/
def D.ofV : Value → D
  | .int k n => if inB k n then .int k n else .junk
  | .bool b => .bool b
  | .string s => .str s
  | .pointer none => .nilp
  | .nilFunc => .nilf
  | .nilIface => .nili
  | .map none => .nilm
  | .slice none 0 0 => .slice [] .full
  | _ => .junk

theorem Rp_ofV (ρ : Rho) (w : World) (v : Value) : Rp ρ w (D.ofV v) v := by
  have hj : Rp ρ w .junk v := by rw [Rp]; trivial
  cases v with
  | int k n =>
    rw [D.ofV]
    split
    · rename_i h
      rw [inB, Bool.and_eq_true] at h
      rw [Rp]; exact ⟨rfl, of_decide_eq_true h.1, of_decide_eq_true h.2⟩
    · exact hj
  | bool b => rw [D.ofV, Rp]
  | string s => rw [D.ofV, Rp]
  | nilFunc => rw [D.ofV, Rp]
  | nilIface => rw [D.ofV, Rp]
  | pointer a => cases a with
    | none => rw [D.ofV, Rp]
    | some a => exact hj
  | map a => cases a with
    | none => rw [D.ofV, Rp]
    | some a => exact hj
  | slice a n c =>
    rcases a with _ | a
    · rcases n with _ | n
      · rcases c with _ | c
        · show Rp ρ w (.slice [] .full) _
          rw [Rp]
          exact ⟨none, 0, 0, rfl, Nat.le_refl _, Nat.zero_le _, Nat.zero_le _, (fun _ h => by cases h), rfl, fun h => absurd rfl h⟩
        · exact hj
      · exact hj
    · exact hj
  | _ => exact hj

/-- operands -/
def opD (G : Nat → Option D) (tm : Nat → D) : Operand → D
  | .tmp t => tm t
  | .const v => D.ofV v
  | .global g => match G g with
    | some d => .ref d
    | none => .junk
  | .func f => .fn (.func f) [] []

/-- what an operation leaves: a value, what it looked at, what it changed; a call; what is thrown; a call for later -/
inductive R1 where
  | val (d : D) (rd : List Nat) (up : List (Nat × HO))
  | call (f : FuncId) (args : List D)
  | pan (d : D)
  | dfr (f : FuncId) (cap : List D)

/-- a part of cells: of a type of its own size -/
def partD (y : Ty) (cs : List D) (o : Nat) : Option D :=
  if y.k.isAgg then (if o + y.size ≤ cs.length then some (.agg ((cs.drop o).take y.size)) else none) else (match cs[o]? with | some d => if d.one then some d else none | none => none)

/-- parts put into cells -/
def fillD (places : List (Nat × Nat)) (cells : List D) : List (Nat × D) → Option (List D)
  | [] => some cells
  | (i, d) :: r => match places[i]? with
    | none => none
    | some (o, s) => if d.cells.length = s ∧ o + s ≤ cells.length ∧ d.cells.all D.one then fillD places (cells.take o ++ d.cells ++ cells.drop (o + s)) r else none

def binD (op : BinOp) (x y : D) : Option D :=
  match op, x, y with
  | .add, .int k a, .int k' b => if k = k' then some (.int k (k.wrap (a + b))) else none
  | .sub, .int k a, .int k' b => if k = k' then some (.int k (k.wrap (a - b))) else none
  | .mul, .int k a, .int k' b => if k = k' then some (.int k (k.wrap (a * b))) else none
  | .eql, .int k a, .int k' b => if k = k' then some (.bool (decide (a = b))) else none
  | .neq, .int k a, .int k' b => if k = k' then some (.bool (!decide (a = b))) else none
  | .lss, .int k a, .int k' b => if k = k' then some (.bool (decide (a < b))) else none
  | .leq, .int k a, .int k' b => if k = k' then some (.bool (decide (a ≤ b))) else none
  | .gtr, .int k a, .int k' b => if k = k' then some (.bool (decide (b < a))) else none
  | .geq, .int k a, .int k' b => if k = k' then some (.bool (decide (b ≤ a))) else none
  | _, _, _ => none

/-- quotients, shifts, bits -/
def binE (op : BinOp) (x y : D) : Option D :=
  match op, x, y with
  | .quo, .int k a, .int k' b => if k = k' ∧ ¬ b = 0 then some (.int k (k.wrap (a.tdiv b))) else none
  | .rem, .int k a, .int k' b => if k = k' ∧ ¬ b = 0 then some (.int k (a.tmod b)) else none
  | .shl, .int k a, .int _ b => if 0 ≤ b then some (.int k (k.wrap (a * 2 ^ (min b.toNat k.bits)))) else none
  | .shr, .int k a, .int _ b => if 0 ≤ b then some (.int k (a.fdiv (2 ^ (min b.toNat k.bits)))) else none
  | .and, .int k a, .int k' b => if k = k' then some (.int k (k.wrap ((BitVec.ofInt k.bits a &&& BitVec.ofInt k.bits b).toNat))) else none
  | .or, .int k a, .int k' b => if k = k' then some (.int k (k.wrap ((BitVec.ofInt k.bits a ||| BitVec.ofInt k.bits b).toNat))) else none
  | _, _, _ => none

def isCst : Operand → Bool
  | .const _ => true
  | _ => false
def binX (cst : Bool) (k : TK) (op : BinOp) (x y : D) : Option D :=
  match op, k, x, y with
  | .neq, .iface, .iface _ _, .nili => some (.bool true)
  | .neq, .iface, .nili, .nili => if cst then some (.bool false) else none
  | .eql, .bool, .bool a, .bool b => some (.bool (decide (a = b)))
  | .neq, .bool, .bool a, .bool b => some (.bool (!decide (a = b)))
  | op, _, x, y => match binD op x y with
    | some d => some d
    | none => binE op x y
/-- '!=' on structs of two ints -/
def pairX (q : Bool) (op : BinOp) (x y : D) : Option D :=
  match q, op, x, y with
  | true, .neq, .agg [.int .i64 a, .int .i64 b], .agg [.int .i64 c, .int .i64 d] => some (.bool (!(decide (a = c) && decide (b = d))))
  | _, _, _, _ => none
@[simp] theorem pairX_int (q : Bool) (op : BinOp) (k k' : IntKind) (a b : Int) : pairX q op (.int k a) (.int k' b) = none := by unfold pairX; split <;> first | rfl | (rename_i h _; cases h)
def capB (m h : Option Nat) : Bool :=
  match m with
  | none => true
  | some n => decide (h = some n)

def keyEq : D → D → Bool
  | .int j a, .int k b => decide (j = k) && decide (a = b)
  | _, _ => false

def D.isInt : D → Bool
  | .int _ _ => true
  | _ => false

def findD (k : D) : List (D × D) → Option D
  | [] => none
  | e :: r => if keyEq k e.1 then some e.2 else findD k r

def isIntK (k : IntKind) : D → Bool
  | .int j _ => decide (j = k)
  | _ => false

def D.isAggX : D → Bool
  | .agg _ => true
  | _ => false

/-- an element, some of its cells others -/
def reD (d : D) (cs : List D) : D := match d with
  | .agg _ => .agg cs
  | _ => cs.headD .junk

/-- a key that is there: another value -/
def updE (k : D) (x : D) : List (D × D) → List (D × D)
  | [] => []
  | p :: r => if keyEq k p.1 then (p.1, x) :: r else p :: updE k x r

/-- bounds that are told -/
def bndD (e : Operand → D) : Option Operand → Option (Option Nat)
  | none => some none
  | some x => match e x with
    | .int _ n => if 0 ≤ n then some (some n.toNat) else none
    | _ => none

def isFree : HO → Bool
  | .free => true
  | _ => false

def isTok : HO → Bool
  | .tok => true
  | _ => false

def evOp (T : TypeId → Ty) (e : Operand → D) (h : Nat → HO) (nx : Nat) (o : Oper) : Option R1 :=
  match o.op with
  | .move x | .assign x => some (.val (e x) [] [])
  | .pick c a b => match e c with
    | .bool c => some (.val (if c then e a else e b) [] [])
    | _ => none
  | .alloc t => if isFree (h nx) && (T t).k.known && (T t).zero.cells.all D.one then some (.val (.box nx 0) [nx] [(nx, .cells t (T t).zero.cells)]) else none
  | .box t x => if isFree (h nx) && (e x).cells.all D.one then some (.val (.box nx 0) [nx] [(nx, .cells t (e x).cells)]) else none
  | .build t ps => match (T t).k with
    | .struct fs => (fillD (fs.map fun f => (f.1, (T f.2).size)) (T t).zero.cells (ps.toList.map fun p => (p.1, e p.2))).bind fun cs =>
        if (fs.all fun f => (T f.2).k.known) && (T t).zero.cells.all D.one then some (.val (.agg cs) [] []) else none
    | _ => none
  | .buildSlice t n ps => match (T t).k with
    | .slice el => if (T el).k.known && decide (ps.toList.map (·.1) = List.range n) && (ps.toList.all fun p => (e p.2).cells.all D.one && decide ((e p.2).cells.length = (T el).size) && decide ((e p.2).size = (T el).size)) && decide (n * (T el).size ≤ 2 ^ 24) && decide ((T el).size ≠ 0)
        then some (.val (.slice (ps.toList.map fun p => e p.2) .full) [] []) else none
    | _ => none
  | .load t x => match e x with
    | .ref d => match d with
      | .agg cs => if (T t).k.isAgg && decide (cs.length = (T t).size) then some (.val d [] []) else none
      | d => if (T t).k.known && !(T t).k.isAgg && d.one then some (.val d [] []) else none
    | .box i off => match h i with
      | .cells _ ds => if (T t).k.known then (partD (T t) ds off).bind fun d => some (.val d [i] []) else none
      | _ => none
    | .ebox i sz k off => match h i with
      | .row sz' els => match els[k]? with
        | some d => if (T t).k.known && decide (sz = sz') then (partD (T t) d.cells off).bind fun d => some (.val d [i] []) else none
        | none => none
      | _ => none
    | _ => none
  | .store t x y => match e x with
    | .box i off => match h i with
      | .cells ty ds => if (T t).k.known && decide ((e y).cells.length = (T t).size) && decide (off + (T t).size ≤ ds.length) && (e y).cells.all D.one
          then some (.val .junk [i] [(i, .cells ty (ds.take off ++ (e y).cells ++ ds.drop (off + (T t).size)))]) else none
      | _ => none
    | .ebox i sz k off => match h i with
      | .row sz' els => match els[k]? with
        | some d => if (T t).k.known && decide (sz = sz') && decide ((e y).cells.length = (T t).size) && decide (off + (T t).size ≤ d.cells.length) && (e y).cells.all D.one
          then some (.val .junk [i] [(i, .row sz (els.set k (reD d (d.cells.take off ++ (e y).cells ++ d.cells.drop (off + (T t).size)))))]) else none
        | none => none
      | _ => none
    | _ => none
  | .nilCheck x => match e x with
    | .ref d => some (.val (.ref d) [] [])
    | .box i o => some (.val (.box i o) [] [])
    | .ebox i sz k o => some (.val (.ebox i sz k o) [] [])
    | .fn (.func f) a b => some (.val (.fn (.func f) a b) [] [])
    | _ => none
  | .binOp op t x y _ => match pairX ((T t).eq2 && (T t).k.known) op (e x) (e y) with
    | some d => some (.val d [] [])
    | none => (binX (isCst y) (T t).k op (e x) (e y)).bind fun d => some (.val d [] [])
  | .unOp op _ x => match op, e x with
    | .not, .bool b => some (.val (.bool (!b)) [] [])
    | _, _ => none
  | .convert s t x => match (T s).k.known, (T t).k, e x with
    | true, .int k, .int _ n => some (.val (.int k (k.wrap n)) [] [])
    | _, _, _ => none
  | .makeInterface t x => match (T t).k with
    | .none => none
    | .iface => none
    | _ => some (.val (.iface t (e x)) [] [])
  | .makeFunc fn a b => some (.val (.fn fn (a.toList.map e) (b.toList.map e)) [] [])
  | .fieldAddr s x f => match (T s).k with
    | .struct fs => match fs[f]? with
      | some (o, ft) => if (T ft).k.known && decide ((T ft).size ≠ 0) then match e x with
          | .box i off => some (.val (.box i (off + o)) [] [])
          | .ebox i sz k off => some (.val (.ebox i sz k (off + o)) [] [])
          | .ref (.agg cs) => (partD (T ft) cs o).bind fun d => some (.val (.ref d) [] [])
          | _ => none
        else none
      | none => none
    | _ => none
  | .field s x f => match (T s).k with
    | .struct fs => match fs[f]? with
      | some (o, ft) => if (T ft).k.known then match e x with
          | .agg cs => (partD (T ft) cs o).bind fun d => some (.val d [] [])
          | _ => none
        else none
      | none => none
    | _ => none
  | .indexAddr t x ix => match (T t).k with
    | .slice el => match e x, e ix with
      | .slice els _, .int _ i => if decide (0 ≤ i) && (T el).k.known then match els[i.toNat]? with
          | some d => if d.size = (T el).size then some (.val (.ref d) [] []) else none
          | none => none
        else none
      | .own j n, .int _ i => if decide (0 ≤ i) && decide (i.toNat < n) && (T el).k.known then some (.val (.ebox j (T el).size i.toNat 0) [] []) else none
      | _, _ => none
    | .arr n el => match e x, e ix with
      | .ref (.agg cs), .int _ i => if decide (0 ≤ i) && decide (i.toNat < n) && (T el).k.known then (partD (T el) cs (i.toNat * (T el).size)).bind fun d => some (.val (.ref d) [] []) else none
      | _, _ => none
    | _ => none
  | .lookup t m ix ok => match (T t).k, e m, e ix with
    | .map kt el, .map i, .int k a => match (T kt).k, h i with
      | .int _, .mp es => if (es.all fun p => isIntK k p.1) && (T el).k.known then
          some (.val (match findD (.int k a) es with | some d => if ok then .tuple [d, .bool true] else d | none => if ok then .tuple [(T el).zero, .bool false] else (T el).zero) [i] [])
        else none
      | _, _ => none
    | .map kt el, .mapc ks vs, .int k a => match (T kt).k with
      | .int _ => if decide (ks.length = vs.length) && ((ks.zip vs).all fun p => isIntK k p.1) && (T el).k.known then
          some (.val (match findD (.int k a) (ks.zip vs) with | some d => if ok then .tuple [d, .bool true] else d | none => if ok then .tuple [(T el).zero, .bool false] else (T el).zero) [] [])
        else none
      | _ => none
    | _, _, _ => none
  | .makeMap _ none => if isFree (h nx) then some (.val (.map nx) [nx] [(nx, .mp [])]) else none
  | .mapUpdate t m ix x => match (T t).k, e m, e ix with
    | .map kt _, .map i, .int k a => match (T kt).k, h i with
      | .int _, .mp es => if es.all fun p => isIntK k p.1 then (match findD (.int k a) es with | some _ => some (.val .junk [i] [(i, .mp (updE (.int k a) (e x) es))]) | none => if es.length < LMax then some (.val .junk [i] [(i, .mp (es ++ [(.int k a, e x)]))]) else none) else none
      | _, _ => none
    | _, _, _ => none
  | .makeSlice t x y => match (T t).k, e x, e y with
    | .slice el, .int _ a, .int _ b => if isFree (h nx) && decide (a = b) && decide (0 ≤ a) && decide (a ≤ 1048576) && (T el).k.known && decide ((T el).bytes ≤ 256) && decide (0 < (T el).size) && (T el).zero.cells.all D.one then some (.val (.own nx a.toNat) [nx] [(nx, .row (T el).size (List.replicate a.toNat (T el).zero))]) else none
    | _, _, _ => none
  | .insert t m ix x => match (T t).k, e m, e ix with
    | .map kt _, .map i, .int k a => match (T kt).k, h i with
      | .int _, .mp es => if (es.all fun p => isIntK k p.1) && (findD (.int k a) es).isNone && decide (es.length < LMax) then some (.val .junk [i] [(i, .mp (es ++ [(.int k a, e x)]))]) else none
      | _, _ => none
    | _, _, _ => none
  | .slice t x lo hi mx => match (T t).k, e x, bndD e lo, bndD e hi, bndD e mx with
    | .slice el, .slice els _, some l, some h, some m =>
      if (T el).k.known && decide (l.getD 0 ≤ h.getD els.length) && decide (h.getD els.length ≤ els.length) && capB m h && (els.all fun d => decide (d.size = (T el).size)) then
        some (.val (.slice ((els.take (h.getD els.length)).drop (l.getD 0)) (if m.isSome then .full else .any)) [] [])
      else none
    | _, _, _, _, _ => none
  | .extract x i => match e x with
    | .tuple ds => (ds[i]?).bind fun d => some (.val d [] [])
    | _ => none
  | .typeAssert x _ at_ ok => match e x, (T at_).k with
    | _, .none => none
    | _, .iface => none
    | .iface t d, _ => if ok then some (.val (if t = at_ then .tuple [d, .bool true] else .tuple [(T at_).zero, .bool false]) [] []) else none
    | _, _ => none
  | .panic x => match e x with
    | .iface t d => some (.pan (.iface t d))
    | _ => none
  | .call c => match c.callee with
    | .builtin .len => match c.args.toList, c.argTypes.toList with
      | [x], [t] => match (T t).k, e x with
        | .slice _, .slice els _ => some (.val (.int .i64 els.length) [] [])
        | .slice _, .own _ n => some (.val (.int .i64 n) [] [])
        | _, _ => none
      | _, _ => none
    | .builtin .append => match c.args.toList, c.argTypes.toList with
      | [x, y], [t, t2] => match (T t).k, (T t2).k, e x, e y with
        | .slice el, .slice _, .slice els cx, .slice els2 _ =>
          if isFree (h nx) && (T el).k.known && decide ((T el).bytes ≤ 256) && (els.all fun d => decide (d.size = (T el).size)) && (els2.all fun d => decide (d.size = (T el).size)) && decide (els.length + els2.length ≤ LMax) then
            match cx with
            | .full => some (.val (.slice (els ++ els2) (.tok nx)) [nx] [(nx, .tok)])
            | .tok i => if isTok (h i) then some (.val (.slice (els ++ els2) (.tok nx)) [i, nx] [(i, .dead), (nx, .tok)]) else none
            | .any => none
          else none
        | .slice el, .slice _, .own i n, .slice els2 _ => match h i with
          | .row sz els => if isFree (h nx) && (T el).k.known && decide ((T el).bytes ≤ 256) && decide (sz = (T el).size) && decide (0 < sz) && decide (n = els.length) && (els.all fun d => decide (d.size = sz)) && (els2.all fun d => decide (d.size = sz)) && decide (els.length + els2.length ≤ LMax) then
              some (.val (.own nx (els.length + els2.length)) [i, nx] [(i, .dead), (nx, .row sz (els ++ els2))])
            else none
          | _ => none
        | _, _, _, _ => none
      | _, _ => none
    | .builtin .max => match c.args.toList with
      | [x, y] => match e x, e y with
        | .int k a, .int k' b => if k = k' then some (.val (.int k (max a b)) [] []) else none
        | _, _ => none
      | _ => none
    | .builtin .min => match c.args.toList with
      | [x, y] => match e x, e y with
        | .int k a, .int k' b => if k = k' then some (.val (.int k (min a b)) [] []) else none
        | _, _ => none
      | _ => none
    | .value f => match e f with
      | .fn (.func g) a b => some (.call g (a ++ c.args.toList.map e ++ b))
      | _ => none
    | _ => none
  | .defer c => match c.callee with
    | .value f => match e f with
      | .fn (.func g) [] b => if c.args.toList.isEmpty then some (.dfr g b) else none
      | _ => none
    | _ => none
  | _ => none
end Go.Proofs.Ytbjgdeednmhpfaa
