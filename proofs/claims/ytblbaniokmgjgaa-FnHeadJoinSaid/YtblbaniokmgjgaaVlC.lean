/- The operations on abstract values: what each yields, said for the walk; nothing is proved here. -/
import Derived.Test.YtblbaniokmgjgaaVlB
namespace Go.Proofs.Ytblbaniokmgjgaa
open Go
set_option linter.unusedVariables false
set_option linter.unusedSimpArgs false

/-- A row of the table of types. -/
inductive TK where
  | none | int (k : IntKind) | bool | str | ptr | slc (e : TypeId) | strct (fs : List (Nat × Nat × TypeId)) | fn
  deriving Inhabited

structure TD where
  k : TK
  size : Nat
  bytes : Nat
  zero : List V
  wr : Bool      -- an array of such elements is one that may be written
  deriving Inhabited

def TD.agg (d : TD) : Bool := match d.k with | .strct _ => true | _ => false

def eraseC : V → V
  | .rows _ xs => .rows none xs
  | .nils => .rows none []
  | v => v

def erase1 : V → V
  | .agg cs => .agg (cs.map eraseC)
  | v => eraseC v

def constC : Value → V
  | .int k n => .int k n
  | .bool b => .bool b
  | .string s => .str s.data.toList
  | .slice none 0 0 => .nils
  | .pointer none => .nilp
  | _ => .junk

def constV : Value → V
  | .agg cs => if cs.toList.all Value.oneCell' then .agg (cs.toList.map constC) else .junk
  | v => constC v

def evalT (t : Nat → V) : Operand → V
  | .tmp i => t i
  | .const v => constV v
  | .global _ => .junk
  | .func f => .fn f []

def putT (t : Nat → V) (dst : Option Nat) (v : V) : Nat → V :=
  match dst with
  | some d => fun i => if i = d then v else t i
  | none => t

def splice : List V → Nat → List V → List V
  | cs, 0, [] => cs
  | c :: cs, 0, x :: xs => x :: splice cs 0 xs
  | c :: cs, n + 1, xs => c :: splice cs n xs
  | [], _, _ => []

def byteOfV : V → UInt8
  | .int _ n => UInt8.ofNat n.toNat
  | _ => 0

def intBits (op : BinOp) (k : IntKind) (x y : Int) : Int :=
  match op with
  | .and => k.wrap (BitVec.ofInt k.bits x &&& BitVec.ofInt k.bits y).toNat
  | .or => k.wrap (BitVec.ofInt k.bits x ||| BitVec.ofInt k.bits y).toNat
  | .xor => k.wrap (BitVec.ofInt k.bits x ^^^ BitVec.ofInt k.bits y).toNat
  | _ => k.wrap (BitVec.ofInt k.bits x &&& ~~~ BitVec.ofInt k.bits y).toNat

/-! Continuations without a bound variable, so that nothing is reckoned before its turn. -/
def atS (k : V → List Blk → Prop) (S : List Blk) (v : V) : Prop := k v S
def boolK (k : V → Prop) (b : Bool) : Prop := k (.bool b)
def nboolK (k : V → Prop) (b : Bool) : Prop := k (.bool (!b))
def aggK (k : V → Prop) (cs : List V) : Prop := k (.agg cs)
def guardK (b want : Bool) (p q : Prop) : Prop := (b = want → p) ∧ (b = (!want) → q)

section
variable (P : Program) (D : Nat → TD)

def eqT (k : TK) (x y : V) : Option Bool :=
  match k, x, y with
  | .int _, .int a m, .int b n => if a = b then some (decide (m = n)) else none
  | .bool, .bool a, .bool b => some (a == b)
  | .str, .str a, .str b => some (decide (a = b))
  | _, _, _ => none

/-- '==' of two structs whose fields are of one cell each. -/
def eqFs (D : Nat → TD) : Nat → List (Nat × Nat × TypeId) → List V → List V → Option Bool
  | _, [], [], [] => some true
  | i, (o, s, t) :: fs, x :: xs, y :: ys => if o = i ∧ s = 1 then match eqT (D t).k x y, eqFs D (i + 1) fs xs ys with
      | some a, some b => some (a && b)
      | _, _ => none
    else none
  | _, _, _, _ => none

def evEqS (t : TypeId) (xs ys : List V) (k : Bool → Prop) : Prop :=
  match (D t).k with
  | .strct fs => match eqFs D 0 fs xs ys with
    | some b => k b
    | none => False
  | _ => False

def evBin (op : BinOp) (t : TypeId) (x y : V) (k : V → Prop) : Prop :=
  match op, x, y with
  | .add, .int a m, .int b n => a = b ∧ k (.int a (a.wrap (m + n)))
  | .sub, .int a m, .int b n => a = b ∧ k (.int a (a.wrap (m - n)))
  | .mul, .int a m, .int b n => a = b ∧ k (.int a (a.wrap (m * n)))
  | .quo, .int a m, .int b n => a = b ∧ n ≠ 0 ∧ k (.int a (a.wrap (m.tdiv n)))
  | .rem, .int a m, .int b n => a = b ∧ n ≠ 0 ∧ k (.int a (m.tmod n))
  | .and, .int a m, .int b n => a = b ∧ k (.int a (intBits .and a m n))
  | .or, .int a m, .int b n => a = b ∧ k (.int a (intBits .or a m n))
  | .xor, .int a m, .int b n => a = b ∧ k (.int a (intBits .xor a m n))
  | .andNot, .int a m, .int b n => a = b ∧ k (.int a (intBits .andNot a m n))
  | .shl, .int a m, .int b n => 0 ≤ n ∧ k (.int a (a.wrap (m * 2 ^ min n.toNat a.bits)))
  | .shr, .int a m, .int b n => 0 ≤ n ∧ k (.int a (m.fdiv (2 ^ min n.toNat a.bits)))
  | .eql, .int a m, .int b n => a = b ∧ k (.bool (decide (m = n)))
  | .neq, .int a m, .int b n => a = b ∧ k (.bool (!decide (m = n)))
  | .lss, .int a m, .int b n => a = b ∧ k (.bool (decide (m < n)))
  | .leq, .int a m, .int b n => a = b ∧ k (.bool (decide (m ≤ n)))
  | .gtr, .int a m, .int b n => a = b ∧ k (.bool (decide (m > n)))
  | .geq, .int a m, .int b n => a = b ∧ k (.bool (decide (m ≥ n)))
  | .add, .str s, .str u => s.length + u.length ≤ 4611686018427387904 ∧ k (.str (s ++ u))
  | .eql, .str s, .str u => k (.bool (decide (s = u)))
  | .neq, .str s, .str u => k (.bool (!decide (s = u)))
  | .eql, .bool a, .bool b => (D t).k = .bool ∧ k (.bool (a == b))
  | .neq, .bool a, .bool b => (D t).k = .bool ∧ k (.bool (!(a == b)))
  | .eql, .ptr _ _, .nilp => (D t).k = .ptr ∧ k (.bool false)
  | .neq, .ptr _ _, .nilp => (D t).k = .ptr ∧ k (.bool true)
  | .eql, .nilp, .nilp => (D t).k = .ptr ∧ k (.bool true)
  | .neq, .nilp, .nilp => (D t).k = .ptr ∧ k (.bool false)
  | .eql, .agg xs, .agg ys => evEqS D t xs ys (boolK k)
  | .neq, .agg xs, .agg ys => evEqS D t xs ys (nboolK k)
  | _, _, _ => False

def evUn (op : UnOp) (x : V) (k : V → Prop) : Prop :=
  match op, x with
  | .not, .bool b => k (.bool (!b))
  | .neg, .int a n => k (.int a (a.wrap (0 - n)))
  | _, _ => False

def evConv (src dst : TypeId) (x : V) (k : V → Prop) : Prop :=
  ((D src).k matches .none) = false ∧ match (D dst).k, x with
  | .int a, .int _ n => k (.int a (a.wrap n))
  | .str, .str s => k (.str s)
  | .str, .rows _ xs => (∃ e, (D src).k = .slc e ∧ (D e).k = .int .u8) ∧ (xs.all fun v => match v with | .int .u8 _ => true | _ => false) = true ∧ k (.str (xs.map byteOfV))
  | .str, .nils => (∃ e, (D src).k = .slc e ∧ (D e).k = .int .u8) ∧ k (.str [])
  | _, _ => False

/-- What lies in 'cs' at 'off', as a value of type t. -/
def evPart (t : TypeId) (cs : List V) (off : Nat) (k : V → Prop) : Prop :=
  match (D t).k with
  | .none => False
  | .strct _ => off + (D t).size ≤ cs.length ∧ k (.agg ((cs.drop off).take (D t).size))
  | _ => match cs[off]? with
    | some v => k v
    | none => False

def evLoad (t : TypeId) (a : V) (S : List Blk) (k : V → Prop) : Prop :=
  match a with
  | .ptr b off => match S[b]? with
    | some (.cells _ cs) => evPart D t cs off k
    | _ => False
  | .eptr x off => (x.cells.all V.one) = true ∧ evPart D t x.cells off k
  | _ => False

def evStore (t : TypeId) (a x : V) (S : List Blk) (k : List Blk → Prop) : Prop :=
  match a with
  | .ptr b off => match S[b]? with
    | some (.cells sz cs) => ((D t).k matches .none) = false ∧ x.cells.length = (D t).size ∧ x.cells.all V.one = true ∧ off + x.cells.length ≤ cs.length ∧
        k (S.set b (.cells sz (splice cs off (if sz = 0 then x.cells else x.cells.map eraseC))))
    | _ => False
  | _ => False

/-- A struct out of its parts. -/
def evFill (fs : List (Nat × Nat × TypeId)) : List (Nat × V) → List V → (List V → Prop) → Prop
  | [], cs, k => k cs
  | (i, x) :: ps, cs, k => match fs[i]? with
    | some (off, sz, _) => x.cells.length = sz ∧ off + sz ≤ cs.length ∧ x.cells.all V.one = true ∧ evFill fs ps (splice cs off x.cells) k
    | none => False

def evBuild (t : TypeId) (parts : List (Nat × V)) (k : V → Prop) : Prop :=
  match (D t).k with
  | .strct fs => (D t).zero.all V.one = true ∧ evFill fs parts (D t).zero (aggK k)
  | _ => False

def evBuildSlice (t : TypeId) (len : Nat) (parts : List (Nat × V)) (S : List Blk) (k : V → List Blk → Prop) : Prop :=
  match (D t).k with
  | .slc e => ((D e).k matches .none) = false ∧ 0 < (D e).size ∧ len * (D e).size ≤ 16777216 ∧ parts.map (·.1) = List.range len ∧ (parts.all fun x => x.2.cells.length == (D e).size && x.2.cells.all V.one) = true ∧
      if (D e).wr then k (.heap S.length len) (S ++ [.cells (D e).size ((parts.map fun x => (x.2.cells.map eraseC)).flatten)])
      else k (.rows (some S.length) (parts.map fun x => erase1 x.2)) (S ++ [.right (D e).size])
  | _ => False

def evIndexAddr (t : TypeId) (x i : V) (k : V → Prop) : Prop :=
  match x, i with
  | .rows _ xs, .int _ n => 0 ≤ n ∧ n < xs.length ∧ (∃ e, (D t).k = .slc e ∧ ((D e).k matches .none) = false ∧ (xs.all fun v => v.cells.length == (D e).size) = true) ∧ k (.eptr (xs.getD n.toNat .junk) 0)
  | .heap b l, .int _ n => 0 ≤ n ∧ n < l ∧ match (D t).k with
    | .slc e => ((D e).k matches .none) = false ∧ k (.ptr b (n.toNat * (D e).size))
    | _ => False
  | _, _ => False

def evIndex (t : TypeId) (x i : V) (k : V → Prop) : Prop :=
  match x, i with
  | .str s, .int _ n => (D t).k = .str ∧ 0 ≤ n ∧ n < s.length ∧ k (.int .u8 ((s.getD n.toNat 0).toNat : Int))
  | _, _ => False

/-- The two ends of a slice expression. -/
def evEnd (x : Option V) (d : Nat) (k : Int → Prop) : Prop :=
  match x with
  | none => k d
  | some (.int _ n) => k n
  | _ => False

def slcStrL (s : List UInt8) (k : V → Prop) (h l : Int) : Prop := 0 ≤ l ∧ l ≤ h ∧ h ≤ s.length ∧ k (.str ((s.take h.toNat).drop l.toNat))
def slcStrH (s : List UInt8) (lo : Option V) (k : V → Prop) (h : Int) : Prop := evEnd lo 0 (slcStrL s k h)
def slcRowL (xs : List V) (k : V → Prop) (h l : Int) : Prop := 0 ≤ l ∧ l ≤ h ∧ h ≤ xs.length ∧ k (.rows none ((xs.take h.toNat).drop l.toNat))
def slcRowH (xs : List V) (lo : Option V) (k : V → Prop) (h : Int) : Prop := evEnd lo 0 (slcRowL xs k h)
def slcHeapL (b n : Nat) (k : V → Prop) (h l : Int) : Prop := l = 0 ∧ 0 ≤ h ∧ h ≤ n ∧ k (.heap b h.toNat)
def slcHeapH (b n : Nat) (lo : Option V) (k : V → Prop) (h : Int) : Prop := evEnd lo 0 (slcHeapL b n k h)

def evSlice (t : TypeId) (x : V) (lo hi : Option V) (k : V → Prop) : Prop :=
  match x with
  | .str s => (D t).k = .str ∧ evEnd hi s.length (slcStrH s lo k)
  | .rows _ xs => (∃ e, (D t).k = .slc e ∧ ((D e).k matches .none) = false ∧ (xs.all fun v => v.cells.length == (D e).size) = true) ∧ evEnd hi xs.length (slcRowH xs lo k)
  | .heap b n => (∃ e, (D t).k = .slc e ∧ ((D e).k matches .none) = false) ∧ evEnd hi n (slcHeapH b n lo k)
  | _ => False

def evFieldAddr (t : TypeId) (x : V) (f : Nat) (k : V → Prop) : Prop :=
  match (D t).k with
  | .strct fs => match fs[f]? with
    | some (off, sz, u) => sz ≠ 0 ∧ ((D u).k matches .none) = false ∧ match x with
      | .ptr b o => k (.ptr b (o + off))
      | .eptr e o => k (.eptr e (o + off))
      | _ => False
    | none => False
  | _ => False

def evField (t : TypeId) (x : V) (f : Nat) (k : V → Prop) : Prop :=
  match (D t).k, x with
  | .strct fs, .agg cs => match fs[f]? with
    | some (off, _, u) => evPart D u cs off k
    | none => False
  | _, _ => False

def evExtract (x : V) (i : Nat) (k : V → Prop) : Prop :=
  match x with
  | .tup vs => match vs[i]? with
    | some v => k v
    | none => False
  | _ => False

def evLen (t : TypeId) (x : V) (k : V → Prop) : Prop :=
  match x with
  | .str s => (D t).k = .str ∧ k (.int .i64 s.length)
  | .rows _ xs => (∃ e, (D t).k = .slc e) ∧ k (.int .i64 xs.length)
  | .nils => (∃ e, (D t).k = .slc e) ∧ k (.int .i64 0)
  | .heap _ n => (∃ e, (D t).k = .slc e) ∧ k (.int .i64 n)
  | _ => False

/-- The cells of what is appended to an array that is written. -/
def srcCells (x : V) (sz : Nat) (S : List Blk) (k : Nat → List V → Prop) : Prop :=
  match x with
  | .nils => k 0 []
  | .heap b n => match S[b]? with
    | some (.cells sz' cs) => sz' = sz ∧ n * sz ≤ cs.length ∧ k n (cs.take (n * sz))
    | _ => False
  | .rows _ xs => (xs.all fun v => v.cells.length == sz) = true ∧ k xs.length (xs.flatMap V.cells)
  | _ => False

def srcRows (e : TypeId) (x : V) (k : List V → Prop) : Prop :=
  match x with
  | .nils => k []
  | .rows _ ys => k ys
  | .str s => (D e).k = .int .u8 ∧ k (s.map fun b => .int .u8 (b.toNat : Int))
  | _ => False

def appCells (e : TypeId) (s x : V) (S : List Blk) (k : V → List Blk → Prop) (m : Nat) (ys : List V) : Prop :=
  m ≤ 1073741824 ∧ match s with
    | .nils => k (.heap S.length m) (S ++ [.cells (D e).size (ys.map eraseC)])
    | .heap b n => match S[b]? with
      | some (.cells sz cs) => sz = (D e).size ∧ cs.length = n * sz ∧ n ≤ 1073741824 ∧ (match x with | .heap b' _ => b' ≠ b | _ => True) ∧ k (.heap S.length (n + m)) (S.set b .dead ++ [.cells sz (cs ++ ys.map eraseC)])
      | _ => False
    | _ => False

def appRows (e : TypeId) (s : V) (S : List Blk) (k : V → List Blk → Prop) (ys : List V) : Prop :=
  ys.length ≤ 1073741824 ∧ (ys.all fun v => v.cells.length == (D e).size) = true ∧ match s with
    | .nils => k (.rows (some S.length) ys) (S ++ [.right (D e).size])
    | .rows (some τ) xs => match S[τ]? with
      | some (.right sz) => sz = (D e).size ∧ xs.length ≤ 1073741824 ∧ (xs.all fun v => v.cells.length == (D e).size) = true ∧ k (.rows (some S.length) (xs ++ ys)) (S.set τ .dead ++ [.right sz])
      | _ => False
    | _ => False

def evAppend (t u : TypeId) (s x : V) (S : List Blk) (k : V → List Blk → Prop) : Prop :=
  match (D t).k with
  | .slc e => ((D e).k matches .none) = false ∧ 0 < (D e).size ∧ (D e).bytes ≤ 4096 ∧ (match (D u).k with | .slc _ | .str => true | _ => false) = true ∧
    if (D e).wr then srcCells x (D e).size S (appCells D e s x S k)
    else srcRows D e x (appRows D e s S k)
  | _ => False

def evMin (x y : V) (k : V → Prop) : Prop :=
  match x, y with
  | .int a m, .int _ n => k (.int a (if n < m then n else m))
  | _, _ => False

def minK (z : V) (k : V → Prop) (u : V) : Prop := evMin u z k

def evMax (x y : V) (k : V → Prop) : Prop :=
  match x, y with
  | .int a m, .int _ n => k (.int a (if n > m then n else m))
  | _, _ => False

/-- A function that a call enters. -/
def Enters (P : Program) (f : FuncId) : Prop := ∃ fn, P.funcs[f]? = some fn ∧ fn.body.isNone = false ∧ (fn.name == "runtime.NumGoroutine") = false

/-- What one call does, abstractly: it comes to r and S'. -/
def DCall (P : Program) (f : FuncId) (args : List V) (S : List Blk) (r : V) (S' : List Blk) : Prop :=
  ∀ (G : Gh) (w : World) (cargs : Array Value), AllR G w args cargs.toList → Rel G w S →
    Calls P f cargs w fun e w' => ∃ c G', e = .returned c ∧ VR G' w' r c ∧ Rel G' w' S' ∧ Evol G w S G' w' S'

/-- A call of a function without a body, which leaves the world as it is. -/
def XCall (P : Program) (f : FuncId) (args : List V) (r : V) : Prop :=
  ∀ (G : Gh) (w : World) (cargs : Array Value), AllR G w args cargs.toList → ∃ c, (callFunc f cargs).run P w = .ok (.value c) w ∧ VR G w r c

def VCallE (P : Program) (f : FuncId) (args : List V) (S : List Blk) (k : V → List Blk → Prop) : Prop :=
  Enters P f ∧ ∃ r S', k r S' ∧ DCall P f args S r S'

def VCall (P : Program) (f : FuncId) (args : List V) (S : List Blk) (k : V → List Blk → Prop) : Prop :=
  VCallE P f args S k ∨ ∃ r, k r S ∧ XCall P f args r

/-- What a call hands over: no rights. A nil slice ahead of a number stays what it is (slices.Grow). -/
def eraseArgs : List V → List V
  | [.nils, .int k n] => [.nils, .int k n]
  | l => l.map erase1

def evFn (P : Program) (f : V) (args : List V) (S : List Blk) (k : V → List Blk → Prop) : Prop :=
  match f with
  | .fn g cap => VCall P g (eraseArgs (args ++ cap)) S k
  | _ => False

def evBuiltin (b : Builtin) (ats : List TypeId) (args : List V) (S : List Blk) (k : V → List Blk → Prop) : Prop :=
  match b, ats, args with
  | .len, t :: _, [x] => evLen D t x (atS k S)
  | .append, [t, u], [s, x] => evAppend D t u s x S k
  | .min, _, [x, y] => evMin x y (atS k S)
  | .min, _, [x, y, z] => evMin x y (minK z (atS k S))
  | .max, _, [x, y] => evMax x y (atS k S)
  | _, _, _ => False

def evMakeFunc (fn : Fn) (first captured : List V) (k : V → Prop) : Prop :=
  match fn, first with
  | .func f, [] => k (.fn f captured)
  | _, _ => False

def evNil (x : V) (k : V → Prop) : Prop :=
  match x with
  | .ptr b o => k (.ptr b o)
  | .eptr x o => k (.eptr x o)
  | .fn f c => k (.fn f c)
  | _ => False

def evMakeSlice (t : TypeId) (l c : V) (S : List Blk) (k : V → List Blk → Prop) : Prop :=
  match (D t).k, l, c with
  | .slc e, .int _ m, .int _ n => m = n ∧ 0 ≤ m ∧ m ≤ 1073741824 ∧ ((D e).k matches .none) = false ∧ 0 < (D e).size ∧ (D e).bytes ≤ 4096 ∧ (D e).wr = true ∧
      k (.heap S.length m.toNat) (S ++ [.cells (D e).size (List.replicate m.toNat (D e).zero).flatten])
  | _, _, _ => False

def evOp (o : Op) (ρ : Operand → V) (S : List Blk) (k : V → List Blk → Prop) : Prop :=
  match o with
  | .move x => k (ρ x) S
  | .assign x => k (ρ x) S
  | .pick c a b => match ρ c with
    | .bool t => guardK t true (k (ρ a) S) (k (ρ b) S)
    | _ => False
  | .alloc t => ((D t).k matches .none) = false ∧ (D t).zero.all V.one = true ∧ k (.ptr S.length 0) (S ++ [.cells 0 (D t).zero])
  | .box t x => (ρ x).cells.all V.one = true ∧ k (.ptr S.length 0) (S ++ [.cells 0 (ρ x).cells])
  | .build t parts => evBuild D t (parts.toList.map fun p => (p.1, ρ p.2)) (atS k S)
  | .buildSlice t len parts => evBuildSlice D t len (parts.toList.map fun p => (p.1, ρ p.2)) S k
  | .load t a => evLoad D t (ρ a) S (atS k S)
  | .store t a x => evStore D t (ρ a) (ρ x) S (k .junk)
  | .nilCheck x => evNil (ρ x) (atS k S)
  | .binOp op t x y _ => evBin D op t (ρ x) (ρ y) (atS k S)
  | .unOp op _ x => evUn op (ρ x) (atS k S)
  | .convert src dst x => evConv D src dst (ρ x) (atS k S)
  | .makeFunc fn first captured => evMakeFunc fn (first.toList.map ρ) (captured.toList.map ρ) (atS k S)
  | .makeSlice t l c => evMakeSlice D t (ρ l) (ρ c) S k
  | .slice t x lo hi none => evSlice D t (ρ x) (lo.map ρ) (hi.map ρ) (atS k S)
  | .fieldAddr t x f => evFieldAddr D t (ρ x) f (atS k S)
  | .field t x f => evField D t (ρ x) f (atS k S)
  | .indexAddr t x i => evIndexAddr D t (ρ x) (ρ i) (atS k S)
  | .index t x i => evIndex D t (ρ x) (ρ i) (atS k S)
  | .extract x i => evExtract (ρ x) i (atS k S)
  | .call c => match c.callee with
    | .value f => evFn P (ρ f) (c.args.toList.map ρ) S k
    | .builtin b => evBuiltin D b c.argTypes.toList (c.args.toList.map ρ) S k
    | _ => False
  | _ => False

/-- The slot that operation number j writes. -/
def dstAt (ops : List Oper) (j : Nat) : Option Nat := (ops[j]?).bind (·.dst)

/-- The operations of a region, in their order. -/
def evOps (full : List Oper) : List Oper → (Nat → V) → List Blk → ((Nat → V) → List Blk → Prop) → Prop
  | [], t, S, k => k t S
  | o :: os, t, S, k => match o.guard with
    | none => evOp P D o.op (evalT t) S fun v S' => evOps full os (putT t o.dst v) S' k
    | some (j, want) => match dstAt full j with
      | some d => match t d with
        | .bool b => guardK b want (evOp P D o.op (evalT (putT t (some d) (.bool want))) S fun v S' => evOps full os (putT (putT t (some d) (.bool want)) o.dst v) S' k)
            (evOps full os (putT (putT t (some d) (.bool (!want))) o.dst .junk) S k)
        | _ => False
      | none => False

def stepK (full os : List Oper) (t : Nat → V) (d : Option Nat) (k : (Nat → V) → List Blk → Prop) (v : V) (S : List Blk) : Prop := evOps P D full os (putT t d v) S k

def guardOps (full os : List Oper) (o : Op) (dst : Option Nat) (d : Nat) (want : Bool) (t : Nat → V) (S : List Blk) (k : (Nat → V) → List Blk → Prop) (x : V) : Prop :=
  match x with
  | .bool b => guardK b want (evOp P D o (evalT (putT t (some d) (.bool want))) S (stepK P D full os (putT t (some d) (.bool want)) dst k))
      (evOps P D full os (putT (putT t (some d) (.bool (!want))) dst .junk) S k)
  | _ => False

def guardAt (full os : List Oper) (o : Op) (dst : Option Nat) (want : Bool) (t : Nat → V) (S : List Blk) (k : (Nat → V) → List Blk → Prop) (d : Option Nat) : Prop :=
  match d with
  | some d => guardOps P D full os o dst d want t S k (t d)
  | none => False

end

section
variable {P : Program} {D : Nat → TD} (full os : List Oper) (o : Op) (d : Option Nat) (ty : TypeId) (ps : String) (af : Array Edge) (t : Nat → V) (S : List Blk) (k : (Nat → V) → List Blk → Prop)

theorem evOps_nil : evOps P D full [] t S k = k t S := by simp only [evOps]
theorem evOps_none : evOps P D full ({ dst := d, op := o, type := ty, pos := ps, after := af, guard := none } :: os) t S k = evOp P D o (evalT t) S (stepK P D full os t d k) := by simp only [evOps]; rfl
theorem evOps_some (j : Nat) (want : Bool) : evOps P D full ({ dst := d, op := o, type := ty, pos := ps, after := af, guard := some (j, want) } :: os) t S k =
    guardAt P D full os o d want t S k (dstAt full j) := by
  simp only [evOps]
  cases dstAt full j with
  | none => rfl
  | some x => simp only [guardAt]; cases t x <;> rfl
theorem stepK_eq (v : V) : stepK P D full os t d k v S = evOps P D full os (putT t d v) S k := rfl
theorem guardK_tt (p q : Prop) : guardK true true p q = p := by simp [guardK]
theorem guardK_ff (p q : Prop) : guardK false false p q = p := by simp [guardK]
theorem guardK_tf (p q : Prop) : guardK true false p q = q := by simp [guardK]
theorem guardK_ft (p q : Prop) : guardK false true p q = q := by simp [guardK]
theorem guardK_t (b : Bool) (p q : Prop) : guardK b true p q = ((b = true → p) ∧ (b = false → q)) := by simp [guardK]
theorem guardK_f (b : Bool) (p q : Prop) : guardK b false p q = ((b = false → p) ∧ (b = true → q)) := by simp [guardK]
end
end Go.Proofs.Ytblbaniokmgjgaa
